/- A stop between two parts of a text: there, the state can be weakened. No condition: definitions and lemmas. -/
import Derived.Test.YticandbdabgkeaaAmD4
namespace Go.Proofs.Yticandbdabgkeaa.Am
open Go

section
variable {P : Program} {G : Nat → List SV} {N : Nat} {F : Nat → Option Obj} {ob : Tab} {ct : Cnt}

/-- The same as 'W', as a stop for a computation. -/
@[irreducible] def StopW (P : Program) (G : Nat → List SV) (N : Nat) (c : Code) (Q : QK) : Kont := W P G N c Q

theorem stop_go (hm : P.follows .mixedOrders = true) {c : Code} {Q : QK} {sl : Slots} (h : wpC P G N c Q sl ob ct) : StopW P G N c Q sl ob ct := by
  unfold StopW
  exact wpC_sound hm c Q sl ob ct h
theorem stop_weak {c : Code} {Q : QK} {sl sl' : Slots} {ob' : Tab} {ct' : Cnt} (hw : Weak G N sl ob ct sl' ob' ct') (h : StopW P G N c Q sl' ob' ct') : StopW P G N c Q sl ob ct := by
  unfold StopW at *
  exact W.weak hw h
theorem stop_seq (hm : P.follows .mixedOrders = true) {x y : Code} {Q : QK} {sl : Slots} (h : wpC P G N x (thenK (StopW P G N y Q) Q) sl ob ct) : StopW P G N (.seq x y) Q sl ob ct := by
  unfold StopW at *
  intro D0 F D β a w Qc hs hQ
  refine wp_seq (wpC_sound hm x _ sl ob ct h D0 F D β a w _ hs fun e sl' ob' ct' D' β' a' w' hh hs' => ?_)
  cases e with
  | normal => exact hh D0 F D' β' a' w' Qc hs' hQ
  | exit id => exact hQ _ _ _ _ D' β' a' w' hh hs'
  | goto l => exact hQ _ _ _ _ D' β' a' w' hh hs'
  | ret => exact hQ _ _ _ _ D' β' a' w' hh hs'
  | panic ch => exact hQ _ _ _ _ D' β' a' w' hh hs'
  | outgrown => exact hQ _ _ _ _ D' β' a' w' hh hs'
/-- Only what is written out goes on. -/
theorem stop_to {c : Code} {Q : QK} {sl : Slots} (S : (Nat → Nat) → List (Nat × SV)) (O : (Nat → Nat) → List (Nat × Ob)) (hw : WeakTo G N S O sl ob ct)
    (h : ∀ s ct, StopW P G N c Q (mkS (S s)) (mkO (O s)) ct) : StopW P G N c Q sl ob ct := by
  obtain ⟨s, ct', hw⟩ := hw
  exact stop_weak hw (h s ct')

theorem stop_pure {f : FuncId} {fn : Func} {c : Code} {args : List SV} {r : SV} (hf : P.funcs[f]? = some fn) (hb : fn.body = some c) (hn : (fn.name == "runtime.NumGoroutine") = false) (hl : args.length ≤ fn.ntmps)
    (h : StopW P G fn.ntmps c (retK P fn.results.toList fun s => goodV s r) (argS args) (fun _ => none) (fun _ => 0)) : Pure P G f args r := by
  unfold StopW at h
  refine ⟨⟨fn, hf, by rw [hb]; rfl, hn⟩, fun D F w vs hmem hlen hargs => ?_⟩
  refine calls_of_wp hf hb ?_
  have hs : Sim G (Env.bare D) F fn.ntmps ⟨D, fun _ _ => none, fun _ => none, fun _ => 0⟩ (argS args) { tmps := vs.toArray ++ Array.replicate (fn.ntmps - vs.toArray.size) undef, defers := [] } w := by
    refine ⟨Env.le.refl _, hmem, enter_size vs _ (by omega), rfl, fun t => ?_⟩
    rw [argS_get]
    show Rel _ _ ((vs.toArray ++ Array.replicate (fn.ntmps - vs.toArray.size) undef).getD t undef)
    rw [enter_get]
    cases ha : args[t]? with
    | none =>
      rw [List.getElem?_eq_none (by rw [hlen]; exact List.getElem?_eq_none_iff.1 ha)]
      exact undef_rel _
    | some s =>
      have ht : t < vs.length := by rw [hlen]; exact (List.getElem?_eq_some_iff.1 ha).1
      rw [List.getElem?_eq_getElem ht]
      exact Rel.ofA (PRelA.rel (hargs t s _ ha (List.getElem?_eq_getElem ht)))
  refine h _ F _ _ _ w _ hs fun e sl' ob' ct' D' β' a' w' hh hs' => ?_
  have fin : (resK P sl' ob' fn.results.toList fun vs => match vs with
      | [v] => purAK ob' v fun s _ => goodV s r
      | vs => purALK ob' vs fun l _ => goodV (.tup l) r) → a'.defers = [] ∧ ∃ v, (results fn a'.tmps).run P w' = .ok v w' ∧ ∃ D' v_1, Rom.le D D' ∧ Mem G (Env.bare D') F w' ∧ Ending.returned v = Ending.returned v_1 ∧ PRelT D' r v_1 := fun hh => by
    obtain ⟨v, D2, s, g1, g2, g3, g4, g5⟩ := retK_sound (fn := fn) (k := fun s => goodV s r) hs' hh
    exact ⟨hs'.defers, v, g1, D2, v, hs'.le.D.trans g2, g3, rfl, leV_prelT (goodV_le g5) g4⟩
  cases e <;> first | exact hh.elim | exact fin hh

/-- A variable that holds a row which no longer changes: the row, as it is. -/
theorem weak_frz_box {sl : Slots} (b o j : Nat) {st z0 st' z : Nat} {xs : List (List SV)} {e : List SV} (hb : ob b = some ⟨st, 0, z0, [e]⟩) (hj : e[j]? = some (.lrow o st')) (ho : ob o = some ⟨st', 2, z, xs⟩) :
    Weak G N sl ob ct sl (upd ob b (some ⟨st, 0, z0, [e.set j (.sl z xs)]⟩)) ct := fun D0 F D β a w hsim => by
  have hjl : j < e.length := (List.getElem?_eq_some_iff.1 hj).1
  have hown := hsim.mem.own b _ hb
  have hnn : β b st ≠ none := fun h => absurd rfl (hown.nil h).2
  obtain ⟨q0, hq0⟩ := Option.ne_none_iff_exists'.1 hnn
  obtain ⟨_, _, c0, ty0, k3, k4, k5⟩ := hown.live (by simp) q0 hq0
  obtain ⟨v, f1, f2, _⟩ := k5 0 j e _ rfl hj
  obtain ⟨p, us, D', ⟨rfl, rfl⟩, hm1, hF1, hp⟩ := pur1K_sound (k := fun s us => s = .sl z xs ∧ us = []) (Frz.refl _) hsim.mem (show pur1K ob (.lrow o st') _ by simp only [pur1K]; rw [ho]; simp) f2
  have hm1 : Mem G ⟨D', β, ob, ct⟩ F w := hm1
  have hle0 : Env.le ⟨D, β, ob, ct⟩ ⟨D', β, ob, ct⟩ := hF1.le
  let E1 : Env := ⟨D', β, ob, ct⟩
  have ho1 := hm1.own b _ hb
  have hst : st < E1.ct b := ho1.st
  have hle : Env.le E1 (E1.put b ⟨st, 0, z0, [e.set j (.sl z xs)]⟩ (E1.β b st) (E1.ct b)) := Env.put_le (Nat.le_refl _) (fun _ => ⟨⟨_, hb, rfl, rfl, rfl⟩, rfl⟩)
  have hput : Mem G (E1.put b ⟨st, 0, z0, [e.set j (.sl z xs)]⟩ (E1.β b st) (E1.ct b)) F w := by
    refine Mem.put hm1 (Nat.le_refl _) (fun _ => ⟨⟨_, hb, rfl, rfl, rfl⟩, rfl⟩) rfl rfl rfl (fun k _ => .inl rfl) (fun q hq => ?_) ?_
    · obtain ⟨g1, g2, _⟩ := ho1.live (by simp) q hq
      refine ⟨g1, g2, fun o' b' x hno hb' hk' hx he => hno (hm1.inj o' b b' _ x q hb' hb hk' (by simp) hx hq he)⟩
    · have hβ : (E1.put b ⟨st, 0, z0, [e.set j (.sl z xs)]⟩ (E1.β b st) (E1.ct b)).β b st = E1.β b st := setβ_same _ _ _ _
      have hct : (E1.put b ⟨st, 0, z0, [e.set j (.sl z xs)]⟩ (E1.β b st) (E1.ct b)).ct b = E1.ct b := upd_same _ _ _
      refine ⟨by rw [hct]; exact hst, fun i e' he' => ?_, fun hn => ?_, fun q hq => ?_, fun hk q hq => ?_, fun hk => absurd hk (by simp)⟩
      · cases i with
        | zero => simp at he'; subst he'; simpa using ho1.len 0 e rfl
        | succ i => simp at he'
      · exact absurd rfl (ho1.nil (hβ ▸ hn)).2
      · exact ho1.fits q (hβ ▸ hq)
      · have hq' : β b st = some q := hβ.symm.trans hq
        obtain ⟨g1, g2, c, ty, g3, g4, g5⟩ := ho1.live (by simp) q hq'
        refine ⟨g1, g2, c, ty, g3, g4, fun i k e' s hi hk => ?_⟩
        cases i with
        | succ i => simp at hi
        | zero =>
          simp at hi
          subst hi
          by_cases hkj : j = k
          · subst hkj
            rw [List.getElem?_set_self hjl] at hk
            cases hk
            have : some q = some q0 := hq'.symm.trans hq0
            cases this
            rw [k3] at g3
            cases g3
            exact ⟨v, f1, Rel0.of_pure (hp.mono hle.D), fun h => by cases h⟩
          · rw [List.getElem?_set_ne hkj] at hk
            obtain ⟨v, f1, f2, _⟩ := g5 0 k e s rfl hk
            exact ⟨v, f1, f2.mono hle, fun h => by cases h⟩
  have ect : (E1.put b ⟨st, 0, z0, [e.set j (.sl z xs)]⟩ (E1.β b st) (E1.ct b)).ct = E1.ct := upd_self _ _
  refine ⟨D', (E1.put b ⟨st, 0, z0, [e.set j (.sl z xs)]⟩ (E1.β b st) (E1.ct b)).β, ?_⟩
  have eE : (⟨D', (E1.put b ⟨st, 0, z0, [e.set j (.sl z xs)]⟩ (E1.β b st) (E1.ct b)).β, upd ob b (some ⟨st, 0, z0, [e.set j (.sl z xs)]⟩), ct⟩ : Env) = E1.put b ⟨st, 0, z0, [e.set j (.sl z xs)]⟩ (E1.β b st) (E1.ct b) := by
    show _ = (⟨D', _, _, (E1.put b ⟨st, 0, z0, [e.set j (.sl z xs)]⟩ (E1.β b st) (E1.ct b)).ct⟩ : Env)
    rw [ect]
    rfl
  rw [eE]
  exact ⟨hsim.le.trans (hle0.trans hle), hput, hsim.size, hsim.defers, fun t => (hsim.rel t).mono (hle0.trans hle)⟩
end

section
variable {G : Nat → List SV} {N : Nat} {ob : Tab} {ct : Cnt}

/-- A row that no longer changes: as it is. -/
theorem weak_frz_slot {sl : Slots} (t o : Nat) {st z : Nat} {xs : List (List SV)} (ht : sl t = .lrow o st) (hb : ob o = some ⟨st, 1, z, xs⟩) :
    Weak G N sl ob ct (upd sl t (.sl z xs)) (upd ob o (some ⟨st, 2, z, xs⟩)) ct := fun D0 F D β a w hsim => by
  obtain ⟨D', h1, h2, h3⟩ := freezeRow (E := ⟨D, β, ob, ct⟩) hsim.mem (show (⟨D, β, ob, ct⟩ : Env).ob o = some ⟨st, 1, z, xs⟩ from hb) (by simp)
  refine ⟨D', β, hsim.le.trans h2.le, h1, hsim.size, hsim.defers, fun t' => ?_⟩
  have hr := hsim.rel t'
  by_cases e : t' = t
  · subst e
    rw [ht] at hr
    have hrow := hr.2.2 _ hb rfl
    rw [upd_same]
    exact Rel.of0 (Rel0.of_pure (DeadAt.row h3 hrow))
  · rw [upd_other _ _ e]
    exact hr.mono h2.le

/-- A row cut off behind a part that begins it: the part as the row. -/
theorem weak_trunc {sl : Slots} (t o : Nat) {st z n : Nat} {xs : List (List SV)} (ht : sl t = .lsl o st 0 n) (hb : ob o = some ⟨st, 1, z, xs⟩) (hn : n ≤ xs.length) :
    Weak G N sl ob ct (upd sl t (.lrow o (ct o))) (upd ob o (some ⟨ct o, 1, z, xs.take n⟩)) (upd ct o (ct o + 1)) := fun D0 F D β a w hsim => by
  let E : Env := ⟨D, β, ob, ct⟩
  have hm : Mem G E F w := hsim.mem
  have hb' : E.ob o = some ⟨st, 1, z, xs⟩ := hb
  have ho := hm.own o _ hb'
  have hno : ¬ ct o < ct o := Nat.lt_irrefl _
  have hlen : (xs.take n).length = n := by simp; omega
  have hget : ∀ (i : Nat) (e : List SV), (xs.take n)[i]? = some e → xs[i]? = some e := fun i e hi => by
    rw [List.getElem?_take] at hi
    split at hi
    · exact hi
    · cases hi
  have hle : Env.le E (E.put o ⟨ct o, 1, z, xs.take n⟩ (β o st) (ct o + 1)) := Env.put_le (E := E) (Nat.le_succ _) (fun h => absurd h hno)
  have hput : Mem G (E.put o ⟨ct o, 1, z, xs.take n⟩ (β o st) (ct o + 1)) F w := by
    refine Mem.put hm (Nat.le_succ _) (fun h => absurd h hno) rfl rfl rfl (fun k _ => .inl rfl) (fun q hq => ?_) ?_
    · obtain ⟨g1, g2, _⟩ := ho.live (by simp) q hq
      exact ⟨g1, g2, fun o' b' x hne hb2 hk hx he => hne (hm.inj o' o b' _ x q hb2 hb' hk (by simp) hx hq he)⟩
    · have hβ : (E.put o ⟨ct o, 1, z, xs.take n⟩ (β o st) (ct o + 1)).β o (ct o) = β o st := setβ_same _ _ _ _
      refine ⟨?_, fun i e hi => ho.len i e (hget i e hi), fun h => ?_, fun q hq => ?_, fun _ q hq => ?_, fun hk => absurd hk (by simp)⟩
      · show ct o < upd ct o (ct o + 1) o
        rw [upd_same]; exact Nat.lt_succ_self _
      · rw [hβ] at h
        have hx : xs = [] := (ho.nil h).1
        exact ⟨by show xs.take n = []; rw [hx]; simp, by simp⟩
      · rw [hβ] at hq
        have := ho.fits q hq
        show (xs.take n).length * z ≤ q.2
        exact Nat.le_trans (Nat.mul_le_mul_right _ (by rw [hlen]; exact hn)) this
      · rw [hβ] at hq
        obtain ⟨g1, g2, c, ty, g3, g4, g5⟩ := ho.live (by simp) q hq
        refine ⟨g1, g2, c, ty, g3, g4, fun i j e s hi hj => ?_⟩
        obtain ⟨v, f1, f2, f3⟩ := g5 i j e s (hget i e hi) hj
        exact ⟨v, f1, f2.mono hle, f3⟩
  refine ⟨D, (E.put o ⟨ct o, 1, z, xs.take n⟩ (β o st) (ct o + 1)).β, hsim.le.trans hle, hput, hsim.size, hsim.defers, fun t' => ?_⟩
  have hr := hsim.rel t'
  by_cases e : t' = t
  · subst e
    rw [ht] at hr
    have hsl : SlAt (β o st) ⟨st, 1, z, xs⟩ 0 n _ := hr.2.2 _ hb rfl
    rw [upd_same]
    refine Rel.of0 ⟨?_, hr.2.1, fun b hb2 _ => ?_⟩
    · show ct o < upd ct o (ct o + 1) o
      rw [upd_same]; exact Nat.lt_succ_self _
    · replace hb2 : upd ob o (some ⟨ct o, 1, z, xs.take n⟩) o = some b := hb2
      rw [upd_same] at hb2
      cases hb2
      show RowAt (setβ β o (ct o) (β o st) o (ct o)) _ _
      rw [setβ_same]
      unfold SlAt at hsl
      unfold RowAt
      cases hq : β o st with
      | none =>
        rw [hq] at hsl
        obtain ⟨_, h0, hv⟩ := hsl
        exact ⟨by show xs.take n = []; rw [h0]; simp, hv⟩
      | some q =>
        rw [hq] at hsl
        obtain ⟨A, cap, hv, h1, h2, hA⟩ := hsl
        refine ⟨cap, ?_, by simpa using h2, by show (xs.take n).length ≤ cap; rw [hlen]; exact h1⟩
        rw [hv]
        show Value.slice A n cap = .slice _ (xs.take n).length cap
        rw [hlen]
        rcases hA with ⟨_, h0⟩ | hA
        · exact absurd rfl h0
        · rw [hA]; simp
  · rw [upd_other _ _ e]
    exact hr.mono hle
end

theorem bytes_le {n b c : Nat} (h : c = b) (k : n * b ≤ 140737488355328) : n * c ≤ 140737488355328 := by rw [h]; exact k
theorem only_row (o st : Nat) : onlyV o st (.lrow o st) = true := by simp [onlyV, onlyA, only1]
theorem only_lsl (o st lo n : Nat) : onlyV o st (.lsl o st lo n) = true := by simp [onlyV, onlyA, only1]
theorem only_row_ret (o st : Nat) {A : Prop} (h : A) : ifB (onlyV o st (.lrow o st)) A False := by rw [only_row]; exact h
theorem only_lsl_ret (o st lo n : Nat) {A : Prop} (h : A) : ifB (onlyV o st (.lsl o st lo n)) A False := by rw [only_lsl]; exact h

/-- The operations of a region, by its number. -/
def drawnOps : Code → Nat → Option (Array Oper)
  | .region id ops _, n => match Nat.beq id n with | true => some ops | false => none
  | .seq a b, n => match drawnOps a n with | some x => some x | none => drawnOps b n
  | .cond _ a b, n => match drawnOps a n with | some x => some x | none => drawnOps b n
  | .block _ b, n => drawnOps b n
  | .loop b, n => drawnOps b n
  | _, _ => none
def lexOf (c : Option Code) (n : Nat) : Bool := match c with
  | some c => match drawnOps c n with | some ops => Region.lexB .any ops | none => false
  | none => false
theorem lexOf_ops {c : Option Code} {n : Nat} {ops : Array Oper} (h : lexOf c n = true) (he : (match c with | some c => drawnOps c n | none => none) = some ops) : Region.lexB .any ops = true := by
  cases c with
  | none => cases he
  | some c =>
    have he : drawnOps c n = some ops := he
    simpa [lexOf, he] using h
end Go.Proofs.Yticandbdabgkeaa.Am
