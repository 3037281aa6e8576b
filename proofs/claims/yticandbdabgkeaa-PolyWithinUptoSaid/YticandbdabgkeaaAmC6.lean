/- A statement whose order is open runs in the order of its text. No condition: definitions and lemmas. -/
import Derived.Test.YticandbdabgkeaaAmC5
namespace Go.Proofs.Yticandbdabgkeaa.Am
open Go

section
variable {U W : Nat → Prop} {P : Program} {G : Nat → List SV}

theorem lcp_callP (fid : FuncId) (caps args : List SV) (hU : ∀ n ∈ refsAL args, U n) (hW : ∀ n ∈ refsAL args, W n) :
    LcP U (fun p : SV × List Upd => NmIn W p.2) (fun ob _ k => callP P G fid caps args ob fun a b => k (a, b)) := by
  unfold callP
  refine LcP.bindP (X := fun ob _ k => purALK ob args fun l us => k (l, us)) (Y := fun p _ _ (k : SV × List Upd → Prop) => ∃ ys r, leAL (p.1 ++ caps) ys ∧ Pure P G fid ys r ∧ k (r, p.2)) (lcp_purALK args hU hW) fun p hp => ?_
  exact LcP.ex fun ys => LcP.ex fun r => LcP.and (LcP.and (LcP.ret (r, p.2) hp))

theorem lcp_callF (fid : FuncId) (caps args : List SV) (d : Option Nat) (hU : ∀ n ∈ d.toList ++ refsAL args, U n) (hW : ∀ n ∈ d.toList ++ refsAL args, W n) :
    LcP U (fun p : SV × List Upd => NmIn W p.2) (fun ob ct k => callF P G fid caps args d ob ct fun a b => k (a, b)) := by
  cases d with
  | none => exact LcP.no
  | some d =>
    simp only [callF]
    refine LcP.bindP (X := fun ob _ k => purALK ob args fun l us => k (l, us)) (Y := fun p _ ct (k : SV × List Upd → Prop) => ∃ ys z es r, leAL (p.1 ++ caps) ys ∧ FreshC P G fid ys z es r ∧ k (renV d (ct d) r, p.2 ++ [⟨d, ⟨ct d, 1, z, es⟩, true⟩])) (lcp_purALK args (fun n hn => hU n (by simp [hn])) (fun n hn => hW n (by simp [hn]))) fun p hp => ?_
    refine LcP.count (X := fun m _ _ (k : SV × List Upd → Prop) => ∃ ys z es r, leAL (p.1 ++ caps) ys ∧ FreshC P G fid ys z es r ∧ k (renV d m r, p.2 ++ [⟨d, ⟨m, 1, z, es⟩, true⟩])) d (hU d (by simp)) fun m => ?_
    refine LcP.ex fun ys => LcP.ex fun z => LcP.ex fun es => LcP.ex fun r => LcP.and (LcP.and (LcP.ret _ ?_))
    exact hp.app fun u hu => by simp at hu; subst hu; exact hW d (by simp)

theorem lcp_callR (fid : FuncId) (caps args : List SV) (hU : ∀ n ∈ refsAL args, U n) (hW : ∀ n ∈ refsAL args, W n) :
    LcP U (fun p : SV × List Upd => NmIn W p.2) (fun ob _ k => callR P G fid caps args ob fun a b => k (a, b)) := by
  cases args with
  | nil => exact LcP.no
  | cons x rest =>
    cases x <;> try exact LcP.no
    rename_i o st
    have ho : o ∈ refsAL (.lrow o st :: rest) := by simp [refsAL, refsA, refs1]
    have hr : ∀ n ∈ refsAL rest, n ∈ refsAL (.lrow o st :: rest) := fun n hn => by simp [refsAL, hn]
    simp only [callR]
    refine LcP.look (X := fun b ob _ (k : SV × List Upd → Prop) => match b with
      | some ⟨st', 1, z, xs⟩ => st = st' ∧ (refsAL rest).contains o = false ∧ purALK ob rest fun ps us => ∃ qs r ys, leAL (ps ++ caps) qs ∧ RowC P G fid qs z xs r ys ∧ xs.length = ys.length ∧ k (renV o st r, us ++ [⟨o, ⟨st, 1, z, ys⟩, false⟩])
      | _ => False) o (hU o ho) fun b => ?_
    match b with
    | none => exact LcP.no
    | some ⟨st', 0, z, xs⟩ => exact LcP.no
    | some ⟨st', _ + 2, z, xs⟩ => exact LcP.no
    | some ⟨st', 1, z, xs⟩ =>
      refine LcP.and (LcP.and ?_)
      refine LcP.bindP (X := fun ob _ k => purALK ob rest fun l us => k (l, us)) (Y := fun p _ _ (k : SV × List Upd → Prop) => ∃ qs r ys, leAL (p.1 ++ caps) qs ∧ RowC P G fid qs z xs r ys ∧ xs.length = ys.length ∧ k (renV o st r, p.2 ++ [⟨o, ⟨st, 1, z, ys⟩, false⟩])) (lcp_purALK rest (fun n hn => hU n (hr n hn)) (fun n hn => hW n (hr n hn))) fun p hp => ?_
      refine LcP.ex fun ys => LcP.ex fun r => LcP.ex fun zs => LcP.and (LcP.and (LcP.and (LcP.ret _ ?_)))
      exact hp.app fun u hu => by simp at hu; subst hu; exact hW o ho

theorem lcp_callB (fid : FuncId) (caps args : List SV) (hU : ∀ n ∈ refsAL args, U n) :
    LcP U (fun p : SV × List Upd => NmIn W p.2) (fun ob _ k => callB P G fid caps args ob fun a b => k (a, b)) := by
  unfold callB
  refine LcP.bind (X := fun ob _ k => borALK ob args k) (Y := fun xs _ _ (k : SV × List Upd → Prop) => ∃ ys r, leAL (xs ++ caps) ys ∧ scalV r = true ∧ Pure P G fid ys r ∧ k (r, [])) (lc_borALK args hU) fun p => ?_
  exact LcP.ex fun ys => LcP.ex fun r => LcP.and (LcP.and (LcP.and (LcP.ret _ fun u hu => by cases hu)))

theorem lcp_callBF (fid : FuncId) (caps args : List SV) (d : Option Nat) (hU : ∀ n ∈ d.toList ++ refsAL args, U n) (hW : ∀ n ∈ d.toList ++ refsAL args, W n) :
    LcP U (fun p : SV × List Upd => NmIn W p.2) (fun ob ct k => callBF P G fid caps args d ob ct fun a b => k (a, b)) := by
  cases d with
  | none => exact LcP.no
  | some d =>
    simp only [callBF]
    refine LcP.bind (X := fun ob _ k => borALK ob args k) (Y := fun xs _ ct (k : SV × List Upd → Prop) => ∃ ys z es r, leAL (xs ++ caps) ys ∧ scalFV r = true ∧ allB (allB scalB) es = true ∧ FreshC P G fid ys z es r ∧ k (renV d (ct d) r, [⟨d, ⟨ct d, 1, z, es⟩, true⟩])) (lc_borALK args (fun n hn => hU n (by simp [hn]))) fun p => ?_
    refine LcP.count (X := fun m _ _ (k : SV × List Upd → Prop) => ∃ ys z es r, leAL (p ++ caps) ys ∧ scalFV r = true ∧ allB (allB scalB) es = true ∧ FreshC P G fid ys z es r ∧ k (renV d m r, [⟨d, ⟨m, 1, z, es⟩, true⟩])) d (hU d (by simp)) fun m => ?_
    refine LcP.ex fun ys => LcP.ex fun z => LcP.ex fun es => LcP.ex fun r => LcP.and (LcP.and (LcP.and (LcP.and (LcP.ret _ ?_))))
    exact fun u hu => by simp at hu; subst hu; exact hW d (by simp)

theorem lcp_callD (o : Oper) (g : Operand → SV) (hc : goCall o.op = true) (hU : ∀ n, n ∈ (foot o g).1 ∨ n ∈ (foot o g).2 → U n) (hW : ∀ n, n ∈ (foot o g).2 → W n) :
    LcP U (fun p : SV × List Upd => NmIn W p.2) (fun ob ct k => callD P G o g ob ct fun a b => k (a, b)) := by
  obtain ⟨dst, op, type, pos, after, guard⟩ := o
  cases op <;> first | cases hc | skip
  rename_i c
  obtain ⟨callee, args, argTypes⟩ := c
  cases callee <;> first | cases hc | skip
  rename_i f
  have hw : ∀ n ∈ dst.toList ++ refsAL (args.toList.map g), W n := fun n hn => hW n hn
  have hu : ∀ n ∈ dst.toList ++ refsAL (args.toList.map g), U n := fun n hn => hU n (.inr hn)
  simp only [callD]
  cases g f <;> try exact LcP.no
  refine LcP.or (lcp_callP _ _ _ (fun n hn => hu n (by simp [hn])) (fun n hn => hw n (by simp [hn]))) (LcP.or (lcp_callF _ _ _ _ hu hw) (LcP.or (lcp_callR _ _ _ (fun n hn => hu n (by simp [hn])) (fun n hn => hw n (by simp [hn]))) (LcP.or (lcp_callB _ _ _ fun n hn => hu n (by simp [hn])) (lcp_callBF _ _ _ _ hu hw))))

theorem lcp_actD (o : Oper) (g : Operand → SV) (hU : ∀ n, n ∈ (foot o g).1 ∨ n ∈ (foot o g).2 → U n) (hW : ∀ n, n ∈ (foot o g).2 → W n) :
    LcP U (fun p : SV × List Upd => NmIn W p.2) (fun ob ct k => actD P G o g ob ct fun a b => k (a, b)) := by
  unfold actD
  cases hc : goCall o.op with
  | true => exact lcp_callD o g hc hU hW
  | false => exact lcp_act P o g hU hW
end

/-! ### The order of the text -/
def waitsB (ops : List Oper) : Nat → Oper → Nat → Bool
  | 0, _, _ => false
  | n + 1, o, i => o.after.toList.any fun e => Region.binds .any e && (Nat.beq e.on i || match ops[e.on]? with | some p => waitsB ops n p i | none => false)
/-- Apart from all earlier ones ('fs': the last one first) but for those that it waits for. -/
def okR (ops : List Oper) (o : Oper) (f : FP) : List FP → Bool
  | [] => true
  | fi :: r => (disjF fi f || waitsB ops 3 o r.length) && okR ops o f r

def runD (P : Program) (G : Nat → List SV) (N : Nat) (ops : List Oper) (K : Kont) (l : List Oper) : List FP → Kont :=
  @List.rec Oper (fun _ => List FP → Kont) (fun _ => K) (fun o _ ih fs sl ob ct => gateK ops o sl
    (fun sl => okR ops o (foot o (ev G sl)) fs = true ∧ actD P G o (ev G sl) ob ct fun v us => setd N sl o.dst v fun sl' => ih (foot o (ev G sl) :: fs) sl' (addO ob us) (addC ct us))
    (fun sl => okR ops o ([], []) fs = true ∧ setd N sl o.dst .undef fun sl' => ih (([], []) :: fs) sl' ob ct)) l

theorem runD_cons (P : Program) (G : Nat → List SV) (N : Nat) (ops : List Oper) (K : Kont) (o : Oper) (r : List Oper) (fs : List FP) (sl : Slots) (ob : Tab) (ct : Cnt) : runD P G N ops K (o :: r) fs sl ob ct = gateK ops o sl
    (fun sl => okR ops o (foot o (ev G sl)) fs = true ∧ actD P G o (ev G sl) ob ct fun v us => setd N sl o.dst v fun sl' => runD P G N ops K r (foot o (ev G sl) :: fs) sl' (addO ob us) (addC ct us))
    (fun sl => okR ops o ([], []) fs = true ∧ setd N sl o.dst .undef fun sl' => runD P G N ops K r (([], []) :: fs) sl' ob ct) := rfl

theorem setd_put {N : Nat} {sl : Slots} {dst : Option Nat} {v : SV} {k : Slots → Prop} (h : setd N sl dst v k) : (∀ d, dst = some d → d < N) ∧ k (putS sl dst v) := by
  cases dst with
  | none => exact ⟨fun d hd => (by cases hd), h⟩
  | some d =>
    obtain ⟨hd, h⟩ := ifB_true h
    rw [forceK_eq] at h
    exact ⟨fun e he => (by cases he; simp [Nat.blt] at hd; omega), h⟩

theorem waitsB_spec {ops : Array Oper} : ∀ (n : Nat) {j : Nat} {o : Oper} {i : Nat}, ops[j]? = some o → waitsB ops.toList n o i = true → Waits ops j i
  | 0, _, _, _, _, h => by cases h
  | n + 1, j, o, i, hj, h => by
    unfold waitsB at h
    rw [List.any_eq_true] at h
    obtain ⟨e, he, hb⟩ := h
    simp only [Bool.and_eq_true, Bool.or_eq_true] at hb
    have he' : e ∈ o.after := by simpa using he
    rcases hb.2 with h1 | h1
    · rw [← Nat.eq_of_beq_eq_true h1]; exact .base hj he' hb.1
    · cases hm : ops.toList[e.on]? with
      | none => rw [hm] at h1; cases h1
      | some p =>
        rw [hm] at h1
        exact .step hj he' hb.1 (waitsB_spec n (by simpa using hm) h1)

theorem okR_spec {ops : Array Oper} {o : Oper} {f : FP} {j : Nat} (hj : ops[j]? = some o) : ∀ {fs : List FP}, okR ops.toList o f fs = true → ∀ (i : Nat) (fi : FP), fs.reverse[i]? = some fi → ¬ Waits ops j i → disjF fi f = true
  | [], _, i, fi, hi, _ => by simp at hi
  | a :: r, h, i, fi, hi, hno => by
    simp only [okR, Bool.and_eq_true, Bool.or_eq_true] at h
    rw [List.reverse_cons] at hi
    rcases Nat.lt_or_ge i r.length with hlt | hge
    · rw [List.getElem?_append_left (by simpa using hlt)] at hi
      exact okR_spec hj h.2 i fi hi hno
    · rw [List.getElem?_append_right (by simpa using hge)] at hi
      simp only [List.length_reverse] at hi
      have hi0 : i - r.length = 0 := by
        rcases Nat.eq_zero_or_pos (i - r.length) with h0 | h0
        · exact h0
        · rw [List.getElem?_eq_none (by simp; omega)] at hi; cases hi
      have hir : i = r.length := by omega
      rw [hi0] at hi
      simp at hi
      subst hi
      rcases h.1 with h1 | h1
      · exact h1
      · exact absurd (waitsB_spec 3 hj h1) (by rw [← hir]; exact hno)

section
variable {P : Program} {G : Nat → List SV} {N : Nat} {ops : Array Oper} {K : Kont}

theorem runD_chain : ∀ (r : List Oper) (fs : List FP) (sl : Slots) (ob : Tab) (ct : Cnt), (∀ j, r[j]? = ops[fs.length + j]?) → runD P G N ops.toList K r fs sl ob ct →
    ∃ φ : Nat → FP, (∀ (i : Nat) (f : FP), fs.reverse[i]? = some f → φ i = f) ∧ chainD P G N ops.toList φ K r fs.length sl ob ct ∧
      ∀ (j : Nat) (oj : Oper), r[j]? = some oj → ∀ i, i < fs.length + j → ¬ Waits ops (fs.length + j) i → disjF (φ i) (φ (fs.length + j)) = true
  | [], fs, sl, ob, ct, _, h => ⟨fun i => (fs.reverse[i]?).getD ([], []), fun i f hi => by simp only [hi]; rfl, h, fun j oj hj => by simp at hj⟩
  | o :: r, fs, sl, ob, ct, hr, h => by
    have h0 : ops[fs.length]? = some o := by simpa using (hr 0).symm
    have step : ∀ (f : FP) (sl' : Slots) (ob' : Tab) (ct' : Cnt), okR ops.toList o f fs = true → St1 P G N ops.toList o f sl ob ct sl' ob' ct' → runD P G N ops.toList K r (f :: fs) sl' ob' ct' →
        ∃ φ : Nat → FP, (∀ (i : Nat) (f : FP), fs.reverse[i]? = some f → φ i = f) ∧ chainD P G N ops.toList φ K (o :: r) fs.length sl ob ct ∧
          ∀ (j : Nat) (oj : Oper), (o :: r)[j]? = some oj → ∀ i, i < fs.length + j → ¬ Waits ops (fs.length + j) i → disjF (φ i) (φ (fs.length + j)) = true := fun f sl' ob' ct' hok hst hrun => by
      obtain ⟨φ, h1, h2, h3⟩ := runD_chain r (f :: fs) sl' ob' ct' (fun j => by have := hr (j + 1); simp only [List.length_cons]; rw [show fs.length + 1 + j = fs.length + (j + 1) by omega]; simpa using this) hrun
      have hf : φ fs.length = f := h1 fs.length f (by rw [List.reverse_cons, List.getElem?_append_right (by simp)]; simp)
      have hold : ∀ (i : Nat) (f : FP), fs.reverse[i]? = some f → φ i = f := fun i f' hi => h1 i f' (by
        rw [List.reverse_cons, List.getElem?_append_left]
        · exact hi
        · rcases Nat.lt_or_ge i fs.reverse.length with hl | hl
          · exact hl
          · rw [List.getElem?_eq_none hl] at hi; cases hi)
      refine ⟨φ, hold, ⟨sl', ob', ct', by rw [hf]; exact hst, h2⟩, fun j oj hj i hi hno => ?_⟩
      cases j with
      | zero =>
        simp at hj
        subst hj
        rw [Nat.add_zero, hf]
        have hlt : i < fs.reverse.length := by simpa using hi
        rw [hold i _ (List.getElem?_eq_getElem hlt)]
        exact okR_spec h0 hok i _ (List.getElem?_eq_getElem hlt) (by simpa using hno)
      | succ j =>
        have := h3 j oj (by simpa using hj) i (by simp only [List.length_cons]; omega) (by rw [show (f :: fs).length + j = fs.length + (j + 1) by simp only [List.length_cons]; omega]; exact hno)
        rw [show fs.length + (j + 1) = (f :: fs).length + j by simp only [List.length_cons]; omega]
        exact this
    rw [runD_cons] at h
    rcases gateK_want h with ⟨hw, hok, h⟩ | ⟨hw, hok, h⟩
    · obtain ⟨⟨v, us⟩, hnm, hk, hback⟩ := lcp_actD (U := fun n => n ∈ (foot o (ev G sl)).1 ∨ n ∈ (foot o (ev G sl)).2) (W := fun n => n ∈ (foot o (ev G sl)).2) (P := P) (G := G) o (ev G sl) (fun _ h => h) (fun _ h => h) ob ct (fun p => setd N sl o.dst p.1 fun sl' => runD P G N ops.toList K r (foot o (ev G sl) :: fs) sl' (addO ob p.2) (addC ct p.2)) h
      obtain ⟨hN, hk⟩ := setd_put hk
      exact step _ _ _ _ hok ⟨v, us, hN, rfl, rfl, rfl, hnm, .inl ⟨hw, rfl, fun ob1 ct1 hag => hback ob1 ct1 (fun p => p.1 = v ∧ p.2 = us) hag ⟨rfl, rfl⟩⟩⟩ hk
    · obtain ⟨hN, hk⟩ := setd_put h
      exact step _ _ _ _ hok ⟨.undef, [], hN, rfl, rfl, rfl, fun u hu => (by cases hu), .inr ⟨hw, rfl, rfl⟩⟩ hk
end

section
variable {P : Program} {G : Nat → List SV} {F : Nat → Option Obj} {D0 : Env} {N : Nat} {ops : Array Oper}

theorem want_sound {o : Oper} {E : Env} {sl : Slots} {a : Act} {w : World} {b : Bool} (hs : Sim G D0 F N E sl a w) (h : wantA ops.toList o sl = some b) : Region.wanted o (yielded ops a.tmps) = b := by
  have key : gateK ops.toList o sl (fun _ => b = true) (fun _ => b = false) := by
    unfold wantA at h
    unfold gateK
    cases hg : o.guard with
    | none => rw [hg] at h; simp at h; simp only []; exact h
    | some jw =>
      obtain ⟨j, want⟩ := jw
      rw [hg] at h
      simp only at h ⊢
      cases hd : (ops.toList[j]?).bind (·.dst) with
      | none => rw [hd] at h; simp at h; simp only []; exact h
      | some t =>
        rw [hd] at h
        simp only at h ⊢
        cases ht : sl t <;> rw [ht] at h <;> cases h
        case undef.refl => rfl
        case bool.refl c => cases c <;> cases want <;> rfl
  rcases gate_sound hs key with ⟨h1, h2⟩ | ⟨h1, h2⟩
  · rw [h1, h2]
  · rw [h1, h2]

theorem anyD_sound {φ : Nat → FP} {K : Kont} {Q : Exit → Act → World → Prop} (hQ : ∀ sl ob ct D β a w, K sl ob ct → Sim G D0 F N ⟨D, β, ob, ct⟩ sl a w → Q .normal a w) :
    ∀ (fuel : Nat) (listed : Array Bool) (sl : Slots) (ob : Tab) (ct : Cnt) (D : Rom) (β : Nat → Nat → Option (Nat × Nat)) (a : Act) (w : World), anyD P G N ops φ K fuel listed sl ob ct → Sim G D0 F N ⟨D, β, ob, ct⟩ sl a w → wpAny P .any ops Q fuel listed a w
  | 0, _, sl, ob, ct, D, β, a, w, h, hs => ⟨h.1, hQ sl ob ct D β a w h.2 hs⟩
  | fuel + 1, listed, sl, ob, ct, D, β, a, w, h, hs => by
    refine ⟨fun h0 => hQ sl ob ct D β a w (h.1 h0) hs, fun i hi => ?_⟩
    obtain ⟨o, sl', ob', ct', ho, ⟨v, us, hN, rfl, rfl, rfl, _, hst⟩, hrest⟩ := h.2 i hi
    have put : ∀ (E' : Env) (x : Value) (w' : World), Env.le ⟨D, β, ob, ct⟩ E' → Mem G E' F w' → Rel E' v x → Sim G D0 F N E' (putS sl o.dst v) (a.put o.dst x) w' := fun E' x w' hle hm hr => by
      have h : setd N sl o.dst v fun s => s = putS sl o.dst v := by
        cases hd : o.dst with
        | none => rfl
        | some d =>
          show ifB (Nat.blt d N) _ False
          have : Nat.blt d N = true := by simp [Nat.blt]; exact hN d hd
          rw [this, forceK_eq]
          rfl
      obtain ⟨s, rfl, hs'⟩ := setd_sound h hs hle hm hr
      exact hs'
    unfold wpOp
    rw [ho]
    rcases hst with ⟨hw, _, hact⟩ | ⟨hw, rfl, rfl⟩
    · simp only [want_sound hs hw, if_true]
      refine .inl ?_
      refine actD_wp hs.mem (ev_rel hs) (hact ob ct fun _ _ => ⟨rfl, rfl⟩) fun v' us' x w' D' β' hR hrel hm hle => ?_
      obtain ⟨rfl, rfl⟩ := hR
      exact anyD_sound hQ fuel _ _ _ _ D' β' _ w' hrest (put _ x w' hle hm hrel)
    · simp only [want_sound hs hw, Bool.false_eq_true, if_false]
      exact anyD_sound hQ fuel _ _ _ _ D β _ w hrest (put ⟨D, β, ob, ct⟩ undef w (Env.le.refl _) hs.mem (undef_rel _))

/-- **A statement whose order is open.** -/
theorem runD_sound {id : Nat} {K : Kont} {Q : Exit → Act → World → Prop} (hm : P.follows .mixedOrders = true) (hB : Region.lexB .any ops = true)
    (hQ : ∀ sl ob ct D β a w, K sl ob ct → Sim G D0 F N ⟨D, β, ob, ct⟩ sl a w → Q .normal a w)
    {sl : Slots} {ob : Tab} {ct : Cnt} {D : Rom} {β : Nat → Nat → Option (Nat × Nat)} {a : Act} {w : World} (h : runD P G N ops.toList K ops.toList [] sl ob ct) (hs : Sim G D0 F N ⟨D, β, ob, ct⟩ sl a w) : (Code.region id ops true).wp P Q a w := by
  refine wp_region_any hm ?_
  obtain ⟨φ, _, hch, hdis⟩ := runD_chain _ _ _ _ _ (by simp) h
  simp only [Region.lexB, Bool.and_eq_true] at hB
  have hs' : Sim G D0 F N ⟨D, β, ob, ct⟩ sl a { w with drawn := w.drawn + 1 } := ⟨hs.le, hs.mem.drawn1, hs.size, hs.defers, hs.rel⟩
  have := anyD_lex (ops := ops) (P := P) (G := G) (N := N) (K := K) (φ := φ) (fun i j oj hij hj hno => by
    have := hdis j oj (by simpa using hj) i (by simpa using hij) (by simpa using hno)
    simpa using this) ops.toList 0 (Array.replicate ops.size false) sl ob ct (by simp) (fun j hj => by omega) (by simp) (fun j oj _ hl => by simp [Array.getD_eq_getD_getElem?, Array.getElem?_replicate] at hl; split at hl <;> simp at hl) (by simpa using hB.2) hch
  have hd := anyD_sound hQ _ _ _ _ _ D β a _ this hs'
  simpa using hd
end
end Go.Proofs.Yticandbdabgkeaa.Am
