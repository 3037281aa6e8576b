/- The contract of the program's mirror. No condition: definitions and lemmas. -/
import Derived.Test.YticandbdabgkeaaAmP14
namespace Go.Proofs.Yticandbdabgkeaa.Am
open Go
set_option maxRecDepth 100000

section
variable {P : Program} {G : Nat → List SV} {F : Nat → Option Obj} {D0 : Env} {N : Nat}
/-- A text's first parts on the abstract machine, what lies behind them by hand. -/
theorem pre4 (hm : P.follows .mixedOrders = true) {A B C D X Y : Code} {n : Nat} {Qf : QK} {Qc : Exit → Act → World → Prop} {sl : Slots} {ob : Tab} {ct : Cnt} {R : Rom} {β : Nat → Nat → Option (Nat × Nat)} {a : Act} {w : World}
    (hs : Sim G D0 F N ⟨R, β, ob, ct⟩ sl a w) (h : wpC P G N (A.seq (B.seq (C.seq D))) Qf sl ob ct)
    (hx : ∀ e sl ob ct R β a w, e ≠ .normal → Qf e sl ob ct → Sim G D0 F N ⟨R, β, ob, ct⟩ sl a w → Qc e a w)
    (hn : ∀ sl ob ct R β a w, Qf .normal sl ob ct → Sim G D0 F N ⟨R, β, ob, ct⟩ sl a w → X.wpIn Fence.wide n P (Exit.then (Y.wpIn Fence.wide n P Qc) Qc) a w) :
    (A.seq (B.seq (C.seq ((D.seq X).seq Y)))).wpIn Fence.wide n P Qc a w := by
  have go : ∀ (c : Code) (K : Kont) (Qd : Exit → Act → World → Prop), (∀ e a w, e ≠ .normal → Qc e a w → Qd e a w) → ∀ (sl : Slots) (ob : Tab) (ct : Cnt) (R : Rom) (β : Nat → Nat → Option (Nat × Nat)) (a : Act) (w : World), wpC P G N c (thenK K Qf) sl ob ct → Sim G D0 F N ⟨R, β, ob, ct⟩ sl a w →
      (∀ sl ob ct R β a w, K sl ob ct → Sim G D0 F N ⟨R, β, ob, ct⟩ sl a w → Qd .normal a w) → c.wpIn Fence.wide n P Qd a w := fun c K Qd hQ sl ob ct R β a w h hs hk => by
    refine wpIn_wide.2 (wpC_sound hm c _ sl ob ct h D0 F R β a w _ hs fun e sl' ob' ct' R' β' a' w' hh hs' => ?_)
    cases e with
    | normal => exact hk _ _ _ _ _ _ _ hh hs'
    | exit id => exact hQ _ _ _ (by simp) (hx _ _ _ _ _ _ _ _ (by simp) hh hs')
    | goto l => exact hQ _ _ _ (by simp) (hx _ _ _ _ _ _ _ _ (by simp) hh hs')
    | ret => exact hQ _ _ _ (by simp) (hx _ _ _ _ _ _ _ _ (by simp) hh hs')
    | panic ch => exact hQ _ _ _ (by simp) (hx _ _ _ _ _ _ _ _ (by simp) hh hs')
    | outgrown => exact hQ _ _ _ (by simp) (hx _ _ _ _ _ _ _ _ (by simp) hh hs')
  have thenQ : ∀ (K : Act → World → Prop) {Qc : Exit → Act → World → Prop} e a w, e ≠ .normal → Qc e a w → Exit.then K Qc e a w := fun K Qc e a w he hq => by
    cases e <;> first | exact absurd rfl he | exact hq
  refine wpIn_seq (go A _ _ (thenQ _) sl ob ct R β a w h hs fun sl ob ct R β a w h hs => ?_)
  refine wpIn_seq (go B _ _ (thenQ _) sl ob ct R β a w h hs fun sl ob ct R β a w h hs => ?_)
  refine wpIn_seq (go C _ _ (thenQ _) sl ob ct R β a w h hs fun sl ob ct R β a w h hs => ?_)
  refine wpIn_seq (wpIn_seq (go D (Qf .normal) _ (fun e a w he hq => ?_) sl ob ct R β a w ?_ hs fun sl ob ct R β a w h hs => hn sl ob ct R β a w h hs))
  · exact thenQ _ e a w he (thenQ _ e a w he hq)
  · exact wpC_mono D h fun e sl ob ct hh => by cases e <;> exact hh
end

/-- **A loop over slices.Backward**, from what its rounds keep. -/
theorem range_back (l : List XY) (hl : l.length ≤ 1000000) {g : Operand} {i1 i2 : Nat} {assign body : Code} {Q : Exit → Act → World → Prop} {a : Act} {w : World} {F : Nat → Option Obj} {R1 : Rom} {pv : Value}
    (hg : a.eval g = .func (.func 59) #[] #[pv]) (hpv : PRel R1 (.ptr [.sl 2 (l.map eP)]) pv)
    (I : Nat → (Nat → Option Obj) → World → Prop) (I1 : Nat → XY → (Nat → Option Obj) → Act → World → Prop)
    (hrom : ∀ k F' W, I k F' W → ∀ b o, R1.heap b = some o → W.heap[b]? = some o)
    (hext : ∀ k F' W W', I k F' W → Ext W W' → I k F' W')
    (hturn : ∀ k F' W b o o', I k F' W → F' b = some o → I k (upd F' b (some o')) (W.putObj b o'))
    (hturn1 : ∀ k p F' a W b o o', I1 k p F' a W → F' b = some o → I1 k p (upd F' b (some o')) a (W.putObj b o'))
    (hun : ∀ k F' F'' W, I k F' W → (∀ b o, F'' b = some o → F' b = some o) → I k F'' W)
    (hfrm : ∀ k F' W, I k F' W → ∀ b o, F' b = some o → W.heap[b]? = some o)
    (hfrm1 : ∀ k p F' a W, I1 k p F' a W → ∀ b o, F' b = some o → W.heap[b]? = some o)
    (hnew : ∀ k F' W o, I k F' W → I k (upd F' W.heap.size (some o)) (W.alloc o))
    (h0 : I l.length F w)
    (hassign : ∀ lp k p F' W, l[k]? = some p → I (k + 1) F' W → assign.wpIn (Fence.wide.inRound lp) 0 Try.prog (Exit.then (fun a1 W1 => I1 k p F' a1 W1) (fun _ _ _ => False)) { tmps := (a.tmps.setIfInBounds i1 (.int .i64 (k : Int))).setIfInBounds i2 (ptV p), defers := [] } W)
    (hbody : ∀ lp k p F' a1 W1, l[k]? = some p → I1 k p F' a1 W1 → body.wpIn (Fence.wide.inRound lp) 0 Try.prog (fun e _ W' => e = .normal ∧ I k F' W') a1 W1)
    (hdone : ∀ mk W, (∀ o, F mk ≠ some o) → I 0 (upd F mk (some (.deferred (some [])))) W → Q .normal { a with defers := { target := .collected mk, args := #[] } :: a.defers } W) :
    (Code.rangeFunc g #[i1, i2] assign body).wpIn Fence.wide 0 Try.prog Q a w := by
  refine wpIn_rangeFunc fun fn hfn => ?_
  obtain ⟨m, hm⟩ : ∃ m, m = w.heap.size := ⟨_, rfl⟩
  obtain ⟨rec, hrec⟩ : ∃ rec : LoopState → Option Code → Loop, rec = fun st pe => { state := st, pending := pe, fn, tmps := a.tmps, params := #[i1, i2], assign, body, defers := m } := ⟨_, rfl⟩
  obtain ⟨W1, hW1⟩ : ∃ W1, (w.alloc (.deferred (some []))).alloc (.loop (rec .ready none)) = W1 := ⟨_, rfl⟩
  obtain ⟨Fr, hFr⟩ : ∃ Fr : Nat → Option Obj, Fr = upd (upd F m (some (.deferred (some [])))) (m + 1) (some (.loop (rec .ready none))) := ⟨_, rfl⟩
  have hFm : ∀ b, m ≤ b → ∀ o, F b ≠ some o := fun b hb o ho => by
    have := (Array.getElem?_eq_some_iff.1 (hfrm _ _ _ h0 b o ho)).1
    omega
  have hFl : Fr (m + 1) = some (.loop (rec .ready none)) := by rw [hFr]; exact upd_same _ _ _
  have hFk : Fr m = some (.deferred (some [])) := by rw [hFr, upd_other _ _ (by omega)]; exact upd_same _ _ _
  have h1 : I l.length Fr W1 := by
    have := hnew _ _ _ (.loop (rec .ready none)) (hnew _ _ _ (.deferred (some [])) h0)
    rw [hW1, World.size_alloc, ← hm] at this
    rw [hFr]; exact this
  -- the record turned and turned back
  have back : ∀ (o1 : Obj) b o, Fr b = some o → upd (upd Fr (m + 1) (some o1)) (m + 1) (some (.loop (rec .ready none))) b = some o := fun o1 b o h => by
    by_cases e : b = m + 1
    · subst e; rw [upd_same, ← hFl]; exact h
    · rw [upd_other _ _ e, upd_other _ _ e]; exact h
  refine ⟨m + 1, [{ target := .collected m, args := #[] }], W1, { target := .fn (.func 59) #[pv], args := #[.func (.yield (m + 1)) #[] #[]] }, W1, 59,
    #[.func (.yield (m + 1)) #[] #[]] ++ #[pv], W1, ?_, ?_, fun _ _ => trivial, ?_, fun h => (by cases h), callsIn_wide.2 ?_⟩
  · rw [← hW1, hrec, hm]; exact run_enterLoop_outer _ _ _ _ _
  · simp only [resolve, hg]
    simp [go_sem]
  · have h1 : Try.f59.body.isNone = false := rfl
    have h2 : (Try.f59.name == "runtime.NumGoroutine") = false := rfl
    simp [invoke, callFunc, Try.func59, show Try.f59.body ≠ none from fun e => (by rw [e] at h1; cases h1), show ¬ (Try.f59.name = "runtime.NumGoroutine") from fun h => by rw [h] at h2; simp at h2]
  · have := backIter l hl R1 pv (m + 1) (fun k W => I k Fr W) (fun k W h => hrom k _ W h) hpv (fun k W W' h he => hext k _ W W' h he) ?_ W1 h1
    · refine this.mono ?_
      rintro e W2 ⟨⟨v, rfl⟩, h2⟩
      have hl2 : W2.heap[m + 1]? = some (.loop (rec .ready none)) := hfrm _ _ _ h2 _ _ hFl
      have hend : (Instr.endLoop (m + 1)).run Try.prog W2 = .ok none (W2.putObj (m + 1) (.loop { rec .ready none with state := .exhausted })) := by
        have := run_endLoop (P := Try.prog) hl2 (by rw [hrec]; simp)
        rw [hrec] at this ⊢
        exact this
      refine ⟨none, _, hend, ?_⟩
      show Q .normal { a with defers := { target := .collected m, args := #[] } :: a.defers } _
      refine hdone m _ (hFm m (Nat.le_refl m)) (hun _ _ _ _ (hturn 0 _ _ _ _ _ h2 hFl) ?_)
      intro b o hb
      by_cases e : b = m
      · subst e
        rw [upd_same] at hb
        rw [upd_other _ _ (by omega), hFk]; exact hb
      · rw [upd_other _ _ e] at hb
        have : b < m := by
          rcases Nat.lt_or_ge b m with h | h
          · exact h
          · exact absurd hb (hFm b h o)
        rw [upd_other _ _ (by omega), hFr, upd_other _ _ (by omega), upd_other _ _ e]; exact hb
    · intro k p W hp hi
      have hl1 : W.heap[m + 1]? = some (.loop (rec .ready none)) := hfrm _ _ _ hi _ _ hFl
      have hy := run_yield (P := Try.prog) (args := #[.int .i64 (k : Int), ptV p]) hl1 (by rw [hrec]; rfl)
      have hfold : ((#[i1, i2].zip #[Value.int .i64 (k : Int), ptV p]).foldl (fun (t : Array Value) (q : Tmp × Value) => t.setIfInBounds q.1 q.2) a.tmps) = (a.tmps.setIfInBounds i1 (.int .i64 (k : Int))).setIfInBounds i2 (ptV p) := by simp
      replace hy : (Instr.yield (m + 1) #[.int .i64 (k : Int), ptV p]).run Try.prog W = .ok (.round (m + 1) fn ((a.tmps.setIfInBounds i1 (.int .i64 (k : Int))).setIfInBounds i2 (ptV p)) assign body) W := by
        rw [← hfold, hy, hrec]
      refine ⟨fn, _, assign, body, hy, roundIn_of_wpIn hfn (wpIn_mono (hassign _ k p _ W hp hi) ?_)⟩
      intro e a1 W1 h
      cases e <;> first | exact h.elim | skip
      replace h : I1 k p Fr a1 W1 := h
      have hl2 : W1.heap[m + 1]? = some (.loop (rec .ready none)) := hfrm1 _ _ _ _ _ h _ _ hFl
      refine ⟨_, run_beginRound hl2 (by rw [hrec]), wpIn_mono (hbody _ k p _ a1 _ hp (hturn1 k p _ a1 _ _ _ (.loop { rec .ready none with state := .busy }) h hFl)) ?_⟩
      rintro e a2 W2 ⟨rfl, h2⟩
      have hl3 : W2.heap[m + 1]? = some (.loop { rec .ready none with state := .busy }) := hfrm _ _ _ h2 _ _ (upd_same _ _ _)
      have hend : (Instr.endRound (m + 1) none).run Try.prog W2 = .ok (.bool true) (W2.putObj (m + 1) (.loop (rec .ready none))) := by
        have := run_endRound (P := Try.prog) none hl3
        rw [hrec] at this ⊢
        exact this
      refine ⟨_, _, hend, rfl, ?_⟩
      have := hturn k _ _ _ _ (.loop (rec .ready none)) h2 (upd_same _ _ _)
      refine hun _ _ _ _ (show I k (upd (upd Fr (m + 1) (some (.loop { rec .ready none with state := .busy }))) (m + 1) (some (.loop (rec .ready none)))) (W2.putObj (m + 1) (.loop (rec .ready none))) from this) ?_
      intro b o hb
      exact back _ b o hb

theorem mirror_pure (l : List XY) (hl : l.length ≤ 1000000) (hf : ∀ x ∈ l, x.Fit) : Pure Try.prog G0 22 [.sl 2 (l.map eP)] (.sl 2 ((mirrorN l).map eP)) := by
  refine ⟨⟨Try.f22, Try.func22, rfl, rfl⟩, fun D F w vs hmem hlen hargs => ?_⟩
  refine callsIn_wide.1 (callsIn_of_wp_marks (n := 0) Try.func22 rfl trivial ?_)
  have hs : Sim G0 (Env.bare D) F 23 ⟨D, fun _ _ => none, fun _ => none, fun _ => 0⟩ (argS [.sl 2 (l.map eP)]) { tmps := vs.toArray ++ Array.replicate (23 - vs.toArray.size) undef, defers := [] } w := by
    refine ⟨Env.le.refl _, hmem, enter_size vs _ (by rw [hlen]; exact Nat.le_of_ble_eq_true rfl), rfl, fun t => ?_⟩
    rw [argS_get]
    show Rel _ _ ((vs.toArray ++ Array.replicate (23 - vs.toArray.size) undef).getD t undef)
    rw [enter_get]
    cases ha : [SV.sl 2 (l.map eP)][t]? with
    | none =>
      rw [List.getElem?_eq_none (by rw [hlen]; exact List.getElem?_eq_none_iff.1 ha)]
      exact undef_rel _
    | some s =>
      have ht : t < vs.length := by rw [hlen]; exact (List.getElem?_eq_some_iff.1 ha).1
      rw [List.getElem?_eq_getElem ht]
      exact Rel.ofA (PRelA.rel (hargs t s _ ha (List.getElem?_eq_getElem ht)))
  refine pre4 mixed (Qf := fun e sl ob ct => match e with
    | .normal => ¬ l.any leastN = true ∧ WeakTo G0 23 (fun s => [(3, .lptr 3 (s 3) 0 0), (10, .fn 59 [.ptr [.sl 2 (l.map eP)]])]) (fun s => [(3, ⟨s 3, 0, 1, [[.lrow 21 (s 21)]]⟩), (21, ⟨s 21, 1, 2, []⟩)]) sl ob ct
    | .ret => retK Try.prog Try.f22.results.toList (fun s => goodV s (.sl 2 ((mirrorN l).map eP))) .ret sl ob ct
    | _ => False) hs ?_ ?_ ?_
  · conv => whnf
    repeat (refine And.intro ?_ ?_; (first | (with_reducible show okR _ _ _ _ = true; kernel_rfl) | (with_reducible show addC _ _ _ = _; kernel_rfl) | rfl | trivial | kernel_rfl | omega | exact Nat.le_of_ble_eq_true rfl | exact lt_len0 rfl | exact lt_len1 rfl); conv => whnf)
    refine callP_of (negatable_pure l (by omega)) ?_
    conv => whnf
    repeat (refine And.intro ?_ ?_; (first | (with_reducible show okR _ _ _ _ = true; kernel_rfl) | (with_reducible show addC _ _ _ = _; kernel_rfl) | rfl | trivial | kernel_rfl | omega | exact Nat.le_of_ble_eq_true rfl | exact lt_len0 rfl | exact lt_len1 rfl); conv => whnf)
    refine ifB_intro (fun h => ?_) (fun h => ?_) <;> try dsimp only at h
    · have h : l.any leastN = true := by simpa using h
      conv => whnf
      repeat (refine And.intro ?_ ?_; (first | (with_reducible show okR _ _ _ _ = true; kernel_rfl) | (with_reducible show addC _ _ _ = _; kernel_rfl) | rfl | trivial | kernel_rfl | omega | exact Nat.le_of_ble_eq_true rfl | exact lt_len0 rfl | exact lt_len1 rfl); conv => whnf)
      rw [mirrorN, if_pos h]
      rfl
    · have h : ¬ l.any leastN = true := by simpa using h
      conv => whnf
      repeat (refine And.intro ?_ ?_; (first | (with_reducible show okR _ _ _ _ = true; kernel_rfl) | (with_reducible show addC _ _ _ = _; kernel_rfl) | rfl | trivial | kernel_rfl | omega | exact Nat.le_of_ble_eq_true rfl | exact lt_len0 rfl | exact lt_len1 rfl); conv => whnf)
      refine callP_of (backward_pure l) ?_
      conv => whnf
      repeat (refine And.intro ?_ ?_; (first | (with_reducible show okR _ _ _ _ = true; kernel_rfl) | (with_reducible show addC _ _ _ = _; kernel_rfl) | rfl | trivial | kernel_rfl | omega | exact Nat.le_of_ble_eq_true rfl | exact lt_len0 rfl | exact lt_len1 rfl); conv => whnf)
      refine weakTo_weak (weak_nil_box 3 21 2 0 rfl rfl (by decide)) (weakTo_cov ?_ ?_)
      · conv => whnf
        repeat (refine And.intro ?_ ?_; (first | exact rfl | exact Or.inl rfl | exact congrArg (SV.int .i64) (by first | rfl | omega | (simp; done) | (simp; omega))); conv => whnf)
        exact trivial
      · conv => whnf
        repeat (refine And.intro ?_ ?_; (first | exact rfl | exact Or.inl rfl | exact congrArg (SV.int .i64) (by first | rfl | omega | (simp; done) | (simp; omega))); conv => whnf)
        exact trivial
  · intro e sl ob ct R β a w hne hq hs
    cases e <;> first | exact absurd rfl hne | exact hq.elim | skip
    obtain ⟨v, D', s, g1, g2, g3, g4, g5⟩ := retK_sound (fn := Try.f22) (k := fun s => goodV s (.sl 2 ((mirrorN l).map eP))) hs hq
    show LeavesInM _ _ _ _ a.tmps _ a.defers .returning w
    rw [hs.defers]
    exact ⟨v, g1, D', v, hs.le.D.trans g2, g3, rfl, leV_prelT (goodV_le g5) g4⟩
  · intro sl ob ct R β a w ⟨hneg, s, ct', hw⟩ hs
    obtain ⟨R1, β1, hs1⟩ := hw _ _ _ _ _ _ hs
    clear hs hw hmem hlen hargs
    have hnn : ∀ x ∈ l, x.Neg := fun x hx => by
      have h1 := hf x hx
      have h2 : ¬ leastN x = true := fun e => hneg (List.any_eq_true.2 ⟨x, hx, e⟩)
      simp [leastN] at h2
      unfold XY.Fit at h1
      unfold XY.Neg
      omega
    have hsz : a.tmps.size = 23 := hs1.size
    have hd : a.defers = [] := hs1.defers
    obtain ⟨pv, h10, hpv⟩ : ∃ pv, a.tmps.getD 10 undef = .func (.func 59) #[] #[pv] ∧ PRel R1 (.ptr [.sl 2 (l.map eP)]) pv := by
      have h := hs1.rel 10
      replace h : PRel R1 (.fn 59 [.ptr [.sl 2 (l.map eP)]]) (a.tmps.getD 10 undef) := h
      generalize a.tmps.getD 10 undef = v at h
      cases h with
      | fn _ _ vs hl hr =>
        match vs, hl, hr with
        | [pv], _, hr => exact ⟨pv, rfl, hr 0 _ _ rfl rfl⟩
    let OO : Nat → (Nat → Nat) → List (Nat × Ob) := fun k s => [(3, ⟨s 3, 0, 1, [[.lrow 21 (s 21)]]⟩), (21, ⟨s 21, 1, 2, ((l.drop k).reverse.map mirN).map eP⟩)]
    let I : Nat → (Nat → Option Obj) → World → Prop := fun k F' W => ∃ (R : Rom) (β : Nat → Nat → Option (Nat × Nat)) (s : Nat → Nat) (ct : Cnt), Rom.le R1 R ∧ Mem G0 ⟨R, β, mkO (OO k s), ct⟩ F' W ∧ Rel ⟨R, β, mkO (OO k s), ct⟩ (.lptr 3 (s 3) 0 0) (a.tmps.getD 3 undef)
    let S1 : (Nat → Nat) → List (Nat × SV) := fun s => [(3, .lptr 3 (s 3) 0 0), (5, .lptr 5 (s 5) 0 0)]
    let O1 : Nat → XY → (Nat → Nat) → List (Nat × Ob) := fun k p s => [(3, ⟨s 3, 0, 1, [[.lrow 21 (s 21)]]⟩), (5, ⟨s 5, 0, 2, [eP p]⟩), (21, ⟨s 21, 1, 2, ((l.drop (k + 1)).reverse.map mirN).map eP⟩)]
    let I1 : Nat → XY → (Nat → Option Obj) → Act → World → Prop := fun k p F' a1 W => ∃ (R : Rom) (β : Nat → Nat → Option (Nat × Nat)) (s : Nat → Nat) (ct : Cnt), Sim G0 (Env.bare R1) F' 23 ⟨R, β, mkO (O1 k p s), ct⟩ (mkS (S1 s)) ⟨a1.tmps, []⟩ W ∧ a1.tmps.getD 3 undef = a.tmps.getD 3 undef
    have bareLe : ∀ {R : Rom} {E : Env}, Rom.le R E.D → Env.le (Env.bare R) E := fun h => ⟨h, fun _ => Nat.zero_le _, fun o b' _ hlt => absurd hlt (Nat.not_lt_zero _)⟩
    refine wpIn_block (range_back l hl (R1 := R1) (pv := pv) (F := F) h10 hpv I I1 ?_ ?_ ?_ ?_ ?_ ?_ ?_ ?_ ?_ ?_ ?_ ?_)
    · rintro k F' W ⟨R, β, s, ct, h1, h2, h3⟩ b o hb
      exact h2.rom b o (h1.heap b o hb)
    · rintro k F' W W' ⟨R, β, s, ct, h1, h2, h3⟩ he
      exact ⟨R, β, s, ct, h1, h2.ext he, h3⟩
    · rintro k F' W b o o' ⟨R, β, s, ct, h1, h2, h3⟩ hb
      exact ⟨R, β, s, ct, h1, h2.turn o' hb, h3⟩
    · rintro k p F' a1 W b o o' ⟨R, β, s, ct, h1, h2⟩ hb
      exact ⟨R, β, s, ct, ⟨h1.le, h1.mem.turn o' hb, h1.size, h1.defers, h1.rel⟩, h2⟩
    · rintro k F' F'' W ⟨R, β, s, ct, h1, h2, h3⟩ hb
      exact ⟨R, β, s, ct, h1, h2.unframe hb, h3⟩
    · rintro k F' W ⟨R, β, s, ct, h1, h2, h3⟩ b o hb
      exact h2.frm b o hb
    · rintro k p F' a1 W ⟨R, β, s, ct, h1, h2⟩ b o hb
      exact h1.mem.frm b o hb
    · rintro k F' W o ⟨R, β, s, ct, h1, h2, h3⟩
      exact ⟨R, β, s, ct, h1, h2.frame o, h3⟩
    · refine ⟨R1, β1, s, ct', Rom.le.refl _, ?_, ?_⟩
      · have e : OO l.length s = [(3, ⟨s 3, 0, 1, [[.lrow 21 (s 21)]]⟩), (21, ⟨s 21, 1, 2, []⟩)] := by simp [OO]
        rw [e]; exact hs1.mem
      · have e : OO l.length s = [(3, ⟨s 3, 0, 1, [[.lrow 21 (s 21)]]⟩), (21, ⟨s 21, 1, 2, []⟩)] := by simp [OO]
        rw [e]; exact hs1.rel 3
    · -- the round's variable
      rintro lp k p F' W hp ⟨R, β, s, ct, h1, h2, h3⟩
      have hF : ∀ f, (Fence.wide.inRound lp).fn f := fun _ => trivial
      let a' : Act := ({ tmps := a.tmps, defers := [] } : Act)
      have g : ∀ t, ((a.tmps.setIfInBounds 11 (.int .i64 (k : Int))).setIfInBounds 12 (ptV p)).getD t undef = if t = 12 then ptV p else if t = 11 then .int .i64 (k : Int) else a.tmps.getD t undef := fun t => by
        have e1 := put_get { tmps := a.tmps, defers := [] } 11 (.int .i64 (k : Int)) (by rw [hsz]; omega) t
        have e2 := put_get { tmps := a.tmps.setIfInBounds 11 (.int .i64 (k : Int)), defers := [] } 12 (ptV p) (by simp; omega) t
        simp only [Act.put] at e1 e2
        rw [e2, e1]
      have hs2 : Sim G0 (Env.bare R1) F' 23 ⟨R, β, mkO (OO (k + 1) s), ct⟩ (mkS [(12, .agg (eP p)), (3, .lptr 3 (s 3) 0 0)]) ⟨(a.tmps.setIfInBounds 11 (.int .i64 (k : Int))).setIfInBounds 12 (ptV p), []⟩ W := by
        refine ⟨bareLe h1, h2, by simpa using hsz, rfl, rel_mkS ?_⟩
        intro q hq
        simp only [List.mem_cons, List.not_mem_nil, or_false] at hq
        rcases hq with rfl | rfl
        · rw [show ((a.tmps.setIfInBounds 11 (.int .i64 (k : Int))).setIfInBounds 12 (ptV p)).getD (12, SV.agg (eP p)).1 undef = ptV p from g 12]
          refine ⟨[.int .i64 p.x, .int .i64 p.y], rfl, rfl, fun i s v a b => ?_⟩
          match i, a, b with
          | 0, a, b => cases a; cases b; exact Rel0.of_pure (.int _ _)
          | 1, a, b => cases a; cases b; exact Rel0.of_pure (.int _ _)
        · rw [show ((a.tmps.setIfInBounds 11 (.int .i64 (k : Int))).setIfInBounds 12 (ptV p)).getD (3, SV.lptr 3 (s 3) 0 0).1 undef = a.tmps.getD 3 undef from g 3]
          exact h3
      refine region_in hF [3] (fun sl ob ct => WeakTo G0 23 S1 (O1 k p) sl ob ct) hs2 rfl ?_ ?_
      · conv => whnf
        repeat (refine And.intro ?_ ?_; (first | (with_reducible show okR _ _ _ _ = true; kernel_rfl) | (with_reducible show addC _ _ _ = _; kernel_rfl) | rfl | trivial | kernel_rfl | omega | exact Nat.le_of_ble_eq_true rfl | exact lt_len0 rfl | exact lt_len1 rfl); conv => whnf)
        refine weakTo_cov ?_ ?_
        · conv => whnf
          repeat (refine And.intro ?_ ?_; (first | exact rfl | exact Or.inl rfl | exact congrArg (SV.int .i64) (by first | rfl | omega | (simp; done) | (simp; omega))); conv => whnf)
          exact trivial
        · conv => whnf
          repeat (refine And.intro ?_ ?_; (first | exact rfl | exact Or.inl rfl | exact congrArg (SV.int .i64) (by first | rfl | omega | (simp; done) | (simp; omega))); conv => whnf)
          exact trivial
      intro sl2 ob2 ct2 D2 β2 a2 W2 hK hs3 hd3 ht3
      obtain ⟨s', ct'', hw⟩ := hK
      obtain ⟨D3, β3, hs4⟩ := hw _ _ _ _ _ _ hs3
      exact ⟨D3, β3, s', ct'', hs4, (ht3 3 (by simp)).trans (g 3)⟩
    · rintro lp k p F' a1 W hp ⟨R, β, s, ct, hs2, ht⟩
      have hF : ∀ f, (Fence.wide.inRound lp).fn f := fun _ => trivial
      refine wpIn_block (region_in hF [3] (fun sl ob ct => WeakTo G0 23 (fun s => [(3, .lptr 3 (s 3) 0 0)]) (OO k) sl ob ct) hs2 rfl ?_ ?_)
      · have hr := hnn p (List.mem_of_getElem? hp)
        unfold XY.Neg at hr
        conv => whnf
        repeat (refine And.intro ?_ ?_; (first | (with_reducible show okR _ _ _ _ = true; kernel_rfl) | (with_reducible show addC _ _ _ = _; kernel_rfl) | rfl | trivial | kernel_rfl | omega | exact Nat.le_of_ble_eq_true rfl | exact lt_len0 rfl | exact lt_len1 rfl); conv => whnf)
        refine inI (by omega) (by omega) ?_
        conv => whnf
        repeat (refine And.intro ?_ ?_; (first | (with_reducible show okR _ _ _ _ = true; kernel_rfl) | (with_reducible show addC _ _ _ = _; kernel_rfl) | rfl | trivial | kernel_rfl | omega | exact Nat.le_of_ble_eq_true rfl | exact lt_len0 rfl | exact lt_len1 rfl); conv => whnf)
        refine And.intro (bytes_le (b := 16) rfl ?_) ?_
        · first | omega | (simp; done) | (simp; omega)
        conv => whnf
        repeat (refine And.intro ?_ ?_; (first | (with_reducible show okR _ _ _ _ = true; kernel_rfl) | (with_reducible show addC _ _ _ = _; kernel_rfl) | rfl | trivial | kernel_rfl | omega | exact Nat.le_of_ble_eq_true rfl | exact lt_len0 rfl | exact lt_len1 rfl); conv => whnf)
        have hrows : ((l.drop (k + 1)).reverse.map mirN).map eP ++ [eP (mirN p)] = ((l.drop k).reverse.map mirN).map eP := by
          rw [drop_cons hp]; simp
        refine weakTo_cov ?_ ?_
        · conv => whnf
          repeat (refine And.intro ?_ ?_; (first | exact rfl | exact Or.inl rfl | exact congrArg (SV.int .i64) (by first | rfl | omega | (simp; done) | (simp; omega))); conv => whnf)
          exact trivial
        · conv => whnf
          repeat (refine And.intro ?_ ?_; (first | exact rfl | exact Or.inl rfl | exact congrArg (SV.int .i64) (by first | rfl | omega | (simp; done) | (simp; omega)) | exact congrArg (SV.int .i64) (hrows) | exact congrArg (fun l => some (Ob.mk _ 1 _ l)) (hrows) | exact (hrows)); conv => whnf)
          exact trivial
      intro sl2 ob2 ct2 D2 β2 a2 W2 hK hs3 hd3 ht3
      obtain ⟨s', ct'', hw⟩ := hK
      obtain ⟨D3, β3, hs4⟩ := hw _ _ _ _ _ _ hs3
      have hr := hs4.rel 3
      rw [show (⟨a2.tmps, []⟩ : Act).tmps.getD 3 undef = a.tmps.getD 3 undef from (ht3 3 (by simp)).trans ht] at hr
      exact ⟨rfl, D3, β3, s', ct'', hs4.le.D, hs4.mem, hr⟩
    · rintro mk W hmk ⟨R, β, s, ct, h1, h2, h3⟩
      have hs2 : Sim G0 (Env.bare R1) (upd F mk (some (.deferred (some [])))) 23 ⟨R, β, mkO (OO 0 s), ct⟩ (mkS [(3, .lptr 3 (s 3) 0 0)]) ⟨a.tmps, []⟩ W := by
        refine ⟨bareLe h1, h2, hsz, rfl, rel_mkS ?_⟩
        intro q hq
        simp only [List.mem_singleton] at hq
        subst hq
        exact h3
      show Code.wpIn _ _ _ _ _ _ _
      refine wpIn_seq (region_in (fun _ => trivial) [] (fun sl ob ct => retK Try.prog Try.f22.results.toList (fun s => goodV s (.sl 2 ((mirrorN l).map eP))) .ret sl ob ct) hs2 rfl ?_ ?_)
      · conv => whnf
        repeat (refine And.intro ?_ ?_; (first | (with_reducible show okR _ _ _ _ = true; kernel_rfl) | (with_reducible show addC _ _ _ = _; kernel_rfl) | rfl | trivial | kernel_rfl | omega | exact Nat.le_of_ble_eq_true rfl | exact lt_len0 rfl | exact lt_len1 rfl); conv => whnf)
        rw [mirrorN, if_neg hneg]
        rfl
      intro sl2 ob2 ct2 D2 β2 a2 W2 hK hs3 hd3 ht3
      refine wpIn_ret ?_
      obtain ⟨v, D', s2, g1, g2, g3, g4, g5⟩ := retK_sound (fn := Try.f22) (k := fun s => goodV s (.sl 2 ((mirrorN l).map eP))) hs3 hK
      have hv := results_tmp (fn := Try.f22) (t := 2) rfl a2.tmps Try.prog W2
      have hv2 : v = a2.tmps.getD 2 undef := by
        have := g1.symm.trans hv
        injection this
      have hk := g3.frm mk _ (upd_same _ _ _)
      show LeavesInM _ _ _ _ a2.tmps _ a2.defers .returning W2
      rw [hd3, hd]
      refine ⟨by simp, .inl ⟨mk, _, rfl, run_takeDeferred hk, ?_⟩⟩
      have hle : Rom.le D R1 := hs1.le.D
      refine ⟨a2.tmps.getD 2 undef, results_tmp (fn := Try.f22) (t := 2) rfl _ _ _, D', _, hle.trans (hs3.le.D.trans g2), (g3.turn (.deferred none) (upd_same _ _ _)).unframe ?_, rfl, ?_⟩
      · intro b o hb
        have hne : b ≠ mk := fun e => hmk o (e ▸ hb)
        rw [upd_other _ _ hne, upd_other _ _ hne]; exact hb
      · rw [← hv2]; exact leV_prelT (goodV_le g5) g4
end Go.Proofs.Yticandbdabgkeaa.Am
