/- Functions on the abstract machine that hand back a row, or change one. No condition: lemmas. -/
import Derived.Test.YticandbdabgkeaaAmD1
namespace Go.Proofs.Yticandbdabgkeaa.Am
open Go

section
variable {P : Program} {G : Nat → List SV} {N : Nat} {D0 : Env} {F : Nat → Option Obj} {E : Env} {sl : Slots} {a : Act} {w : World}

theorem Mem.only (hm : Mem G E F w) {o st z : Nat} {xs : List (List SV)} (hb : E.ob o = some ⟨st, 1, z, xs⟩) : Mem G (Env.one E.D (E.β o st) z xs) F w := by
  have ho := hm.own o _ hb
  have hβ : (Env.one E.D (E.β o st) z xs).β 0 0 = E.β o st := Env.one_β _ _ _ _
  refine ⟨hm.os, hm.tape, hm.output, hm.dr, hm.rom, hm.frm, hm.apart, hm.glob, fun o' b' hb' => ?_, fun o1 o2 b1 b2 x y h1 h2 _ _ _ _ _ => ?_⟩
  · replace hb' : upd (fun _ => none) 0 (some ⟨0, 1, z, xs⟩) o' = some b' := hb'
    by_cases h : o' = 0
    · subst h
      rw [upd_same] at hb'
      cases hb'
      refine ⟨by show 0 < upd (fun _ => 0) 0 1 0; rw [upd_same]; exact Nat.zero_lt_one, ho.len, fun hn => ho.nil (by rw [← hβ]; exact hn), fun q hq => ho.fits q (by rw [← hβ]; exact hq), fun _ q hq => ?_, fun hk => absurd hk (by simp)⟩
      rw [hβ] at hq
      obtain ⟨h1, h2, c, ty, h3, h4, h5⟩ := ho.live (by simp) q hq
      refine ⟨h1, h2, c, ty, h3, h4, fun i j e s hi hj => ?_⟩
      obtain ⟨v, g1, g2, g3⟩ := h5 i j e s hi hj
      exact ⟨v, g1, Rel0.of_pure (g3 rfl), g3⟩
    · rw [upd_other _ _ h] at hb'
      cases hb'
  · replace h1 : upd (fun _ => none) 0 (some ⟨0, 1, z, xs⟩) o1 = some b1 := h1
    replace h2 : upd (fun _ => none) 0 (some ⟨0, 1, z, xs⟩) o2 = some b2 := h2
    by_cases e1 : o1 = 0
    · by_cases e2 : o2 = 0
      · rw [e1, e2]
      · rw [upd_other _ _ e2] at h2; cases h2
    · rw [upd_other _ _ e1] at h1; cases h1

theorem beq2 {a b c d : Nat} (h : (Nat.beq a b && Nat.beq c d) = true) : a = b ∧ c = d := by
  simp only [Bool.and_eq_true] at h
  exact ⟨Nat.eq_of_beq_eq_true h.1, Nat.eq_of_beq_eq_true h.2⟩

theorem one_ct (D : Rom) (p : Option (Nat × Nat)) (z : Nat) (xs : List (List SV)) : 0 < (Env.one D p z xs).ct 0 := by
  show 0 < upd (fun _ => 0) 0 1 0
  rw [upd_same]; exact Nat.zero_lt_one

theorem only1_rel {o st z : Nat} {xs : List (List SV)} (hb : E.ob o = some ⟨st, 1, z, xs⟩) {s : SV} {v : Value} (h : Rel0 E s v) (ho : only1 o st s = true) : Rel0 (Env.one E.D (E.β o st) z xs) (ren1 0 0 s) v := by
  cases s <;> try exact h
  case lptr => simp [only1, pureB] at ho
  case lrow o' st' =>
    obtain ⟨rfl, rfl⟩ := beq2 ho
    obtain ⟨_, h2, h3⟩ := h
    refine ⟨one_ct _ _ _ _, h2, fun b hb' _ => ?_⟩
    rw [Env.one_ob] at hb'
    cases hb'
    rw [Env.one_β]
    exact RowAt.congr (b := ⟨st', 1, z, xs⟩) (b' := ⟨0, 1, z, xs⟩) rfl rfl (h3 _ hb rfl)
  case lsl o' st' lo n =>
    obtain ⟨rfl, rfl⟩ := beq2 ho
    obtain ⟨_, h2, h3⟩ := h
    refine ⟨one_ct _ _ _ _, h2, fun b hb' _ => ?_⟩
    rw [Env.one_ob] at hb'
    cases hb'
    rw [Env.one_β]
    exact SlAt.congr (b := ⟨st', 1, z, xs⟩) (b' := ⟨0, 1, z, xs⟩) rfl (h3 _ hb rfl)

theorem onlyA_rel {o st z : Nat} {xs : List (List SV)} (hb : E.ob o = some ⟨st, 1, z, xs⟩) {s : SV} {v : Value} (h : RelA E s v) (ho : onlyA o st s = true) : RelA (Env.one E.D (E.β o st) z xs) (renA 0 0 s) v := by
  rcases h.split with h | ⟨cs, rfl, vs, h1, h2, h3⟩
  · have ho' : only1 o st s = true := by cases s <;> first | exact ho | exact h.elim
    have := only1_rel hb h ho'
    cases s <;> first | exact RelA.of0 this | exact h.elim
  · obtain ⟨g1, g2⟩ := renL_get 0 0 cs
    refine ⟨vs, h1, h2.trans g1.symm, fun i s v hs hv => ?_⟩
    obtain ⟨t, ht, rfl⟩ := g2 i s hs
    exact only1_rel hb (h3 i t v ht hv) (allB_spec ho t (List.mem_of_getElem? ht))

theorem onlyV_rel {o st z : Nat} {xs : List (List SV)} (hb : E.ob o = some ⟨st, 1, z, xs⟩) {s : SV} {v : Value} (h : Rel E s v) (ho : onlyV o st s = true) : Rel (Env.one E.D (E.β o st) z xs) (renV 0 0 s) v := by
  rcases h.split with h | rfl | ⟨rfl, h⟩ | ⟨ss, rfl, vs, h1, h2, h3⟩
  · have ho' : onlyA o st s = true := by cases s <;> first | exact ho | exact h.elim
    have := onlyA_rel hb h ho'
    cases s <;> first | exact Rel.ofA this | exact h.elim
  · trivial
  · exact h
  · obtain ⟨g1, g2⟩ := renAL_get 0 0 ss
    refine ⟨vs, h1, h2.trans g1.symm, fun i s v hs hv => ?_⟩
    obtain ⟨t, ht, rfl⟩ := g2 i s hs
    exact onlyA_rel hb (h3 i t v ht hv) (allB_spec ho t (List.mem_of_getElem? ht))

theorem tup_rel {ss : List SV} {vs : List Value} (h3 : vs.length = ss.length) (h4 : ∀ (i : Nat) (s : SV) (v : Value), ss[i]? = some s → vs[i]? = some v → RelA E s v) : Rel E (.tup ss) (.tuple vs.toArray) := ⟨vs, rfl, h3, h4⟩

theorem onlyAL_rel {o st : Nat} {ss : List SV} (ho : allB (onlyA o st) ss = true) {vs : List Value} (h : ∀ (i : Nat) (s : SV) (v : Value), ss[i]? = some s → vs[i]? = some v → Rel E s v) : ∀ (i : Nat) (s : SV) (v : Value), ss[i]? = some s → vs[i]? = some v → RelA E s v := fun i s v hs hv => by
  have ho' := allB_spec ho s (List.mem_of_getElem? hs)
  have hr := h i s v hs hv
  cases s <;> first | exact hr | (simp [onlyA, only1, pureB] at ho')

/-- What a list of results is as one value. -/
theorem res_one {o st : Nat} {ss : List SV} {vs : List Value} (h3 : vs.length = ss.length) (h4 : ∀ (i : Nat) (s : SV) (v : Value), ss[i]? = some s → vs[i]? = some v → Rel E s v) {A B : Prop}
    (h : match ss with | [_] => A | _ => B) : (∃ s v, ss = [s] ∧ resV vs = v ∧ Rel E s v ∧ A) ∨ (B ∧ (onlyV o st (.tup ss) = true → Rel E (.tup ss) (resV vs))) := by
  match ss, vs, h3, h4, h with
  | [s], [v], _, h4, h => exact .inl ⟨s, v, rfl, rfl, h4 0 s v rfl rfl, h⟩
  | [], [], h3, h4, h => exact .inr ⟨h, fun ho => tup_rel h3 (onlyAL_rel ho h4)⟩
  | _ :: _ :: _, _ :: _ :: _, h3, h4, h => exact .inr ⟨h, fun ho => tup_rel h3 (onlyAL_rel ho h4)⟩
  | [], _ :: _, h3, _, _ => simp at h3
  | [_], [], h3, _, _ => simp at h3
  | [_], _ :: _ :: _, h3, _, _ => simp at h3
  | _ :: _ :: _, [], h3, _, _ => simp at h3
  | _ :: _ :: _, [_], h3, _, _ => simp at h3

theorem retF_sound {fn : Func} {k : SV → Nat → List (List SV) → Prop} (hs : Sim G D0 F N E sl a w) (h : retF P fn.results.toList k .ret sl E.ob (fun _ => 0)) :
    ∃ v p s z xs, (results fn a.tmps).run P w = .ok v w ∧ Mem G (Env.one E.D p z xs) F w ∧ Rel (Env.one E.D p z xs) s v ∧ k s z xs := by
  obtain ⟨ss, vs, h1, h2, h3, h4⟩ := resK_sound hs _ _ h
  have hrun := results_run (P := P) (fn := fn) h2
  have fin : ∀ (s : SV) (o : Nat), (∀ o st, onlyV o st s = true → Rel E s (resV vs)) → oneK E.ob s o k → ∃ v p s z xs, (results fn a.tmps).run P w = .ok v w ∧ Mem G (Env.one E.D p z xs) F w ∧ Rel (Env.one E.D p z xs) s v ∧ k s z xs := fun s o hr h => by
    unfold oneK at h
    split at h
    · rename_i st z xs hb
      obtain ⟨ho, h⟩ := ifB_true h
      exact ⟨_, _, _, z, xs, hrun, Mem.only hs.mem hb, onlyV_rel hb (hr o st ho) ho, h⟩
    · exact h.elim
  match ss, vs, h1, h3, h4, fin with
  | [s], [v], h1, _, h4, fin =>
    simp only at h1
    cases hr : refsV s with
    | nil => rw [hr] at h1; exact h1.elim
    | cons o _ => rw [hr] at h1; exact fin s o (fun _ _ _ => h4 0 s v rfl rfl) h1
  | [], _, h1, _, _, _ => exact h1.elim
  | s :: t :: ss, _ :: _ :: _, h1, h3, h4, fin =>
    simp only at h1
    cases hr : refsAL (s :: t :: ss) with
    | nil => rw [hr] at h1; exact h1.elim
    | cons o _ => rw [hr] at h1; exact fin (.tup (s :: t :: ss)) o (fun _ _ ho => tup_rel h3 (onlyAL_rel ho h4)) h1
  | [_], [], _, h3, _, _ => simp at h3
  | [_], _ :: _ :: _, _, h3, _, _ => simp at h3
  | _ :: _ :: _, [], _, h3, _, _ => simp at h3
  | _ :: _ :: _, [_], _, h3, _, _ => simp at h3

theorem retR_sound {fn : Func} {k : SV → Nat → List (List SV) → Prop} (hs : Sim G D0 F N E sl a w) (h : retR P fn.results.toList k .ret sl E.ob (fun _ => 0)) :
    ∃ v s z xs, E.ob 0 = some ⟨0, 1, z, xs⟩ ∧ (results fn a.tmps).run P w = .ok v w ∧ Mem G (Env.one E.D (E.β 0 0) z xs) F w ∧ Rel (Env.one E.D (E.β 0 0) z xs) (renV 0 0 s) v ∧ k s z xs := by
  obtain ⟨ss, vs, h1, h2, h3, h4⟩ := resK_sound hs _ _ h
  have hrun := results_run (P := P) (fn := fn) h2
  split at h1
  · rename_i z xs hb
    have fin : ∀ (s : SV), (onlyV 0 0 s = true → Rel E s (resV vs)) → ifB (onlyV 0 0 s) (k s z xs) False → ∃ v s z xs, E.ob 0 = some ⟨0, 1, z, xs⟩ ∧ (results fn a.tmps).run P w = .ok v w ∧ Mem G (Env.one E.D (E.β 0 0) z xs) F w ∧ Rel (Env.one E.D (E.β 0 0) z xs) (renV 0 0 s) v ∧ k s z xs := fun s hr h => by
      obtain ⟨ho, h⟩ := ifB_true h
      exact ⟨_, s, z, xs, hb, hrun, Mem.only hs.mem hb, onlyV_rel hb (hr ho) ho, h⟩
    match ss, vs, h1, h3, h4, fin with
    | [s], [v], h1, _, h4, fin => exact fin s (fun _ => h4 0 s v rfl rfl) h1
    | [], [], h1, h3, h4, fin => exact fin (.tup []) (fun ho => tup_rel h3 (onlyAL_rel ho h4)) h1
    | s :: t :: ss, _ :: _ :: _, h1, h3, h4, fin => exact fin (.tup (s :: t :: ss)) (fun ho => tup_rel h3 (onlyAL_rel ho h4)) h1
    | [], _ :: _, _, h3, _, _ => simp at h3
    | [_], [], _, h3, _, _ => simp at h3
    | [_], _ :: _ :: _, _, h3, _, _ => simp at h3
    | _ :: _ :: _, [], _, h3, _, _ => simp at h3
    | _ :: _ :: _, [_], _, h3, _, _ => simp at h3
  · exact h1.elim

/-- **A function that returns a new row.** -/
theorem fresh_intro (hm : P.follows .mixedOrders = true) {f : FuncId} {fn : Func} {c : Code} {args : List SV} {z : Nat} {xs : List (List SV)} {r : SV} (hf : P.funcs[f]? = some fn) (hb : fn.body = some c) (hn : (fn.name == "runtime.NumGoroutine") = false) (hl : args.length ≤ fn.ntmps)
    (h : wpC P G fn.ntmps c (retF P fn.results.toList fun s z' xs' => s = r ∧ z' = z ∧ xs' = xs) (argS args) (fun _ => none) (fun _ => 0)) : FreshC P G f args z xs r := by
  refine ⟨⟨fn, hf, by rw [hb]; rfl, hn⟩, fun D F w vs hmem hlen hargs => ?_⟩
  refine calls_of_wp hf hb ?_
  have hs : Sim G (Env.bare D) F fn.ntmps ⟨D, fun _ _ => none, fun _ => none, fun _ => 0⟩ (argS args) { tmps := vs.toArray ++ Array.replicate (fn.ntmps - vs.toArray.size) undef, defers := [] } w := by
    refine ⟨Env.le.refl _, hmem, enter_size vs _ (by omega), rfl, fun t => ?_⟩
    rw [argS_get]
    show Rel _ _ ((vs.toArray ++ Array.replicate (fn.ntmps - vs.toArray.size) undef).getD t undef)
    rw [enter_get]
    cases ha : args[t]? with
    | none =>
      rw [List.getElem?_eq_none (by rw [hlen]; exact List.getElem?_eq_none_iff.1 ha)]
      exact undef_rel _
    | some s =>
      have ht : t < vs.length := by rw [hlen]; exact (List.getElem?_eq_some_iff.1 ha).1
      rw [List.getElem?_eq_getElem ht]
      exact Rel.ofA (PRelA.rel (hargs t s _ ha (List.getElem?_eq_getElem ht)))
  refine wpC_sound hm c _ _ _ _ h _ F _ _ _ w _ hs fun e sl' ob' ct' D' β' a' w' hh hs' => ?_
  have fin : retF P fn.results.toList (fun s z' xs' => s = r ∧ z' = z ∧ xs' = xs) .ret sl' ob' (fun _ => 0) → a'.defers = [] ∧ ∃ v, (results fn a'.tmps).run P w' = .ok v w' ∧ ∃ D' p v_1, Rom.le D D' ∧ Mem G (Env.one D' p z xs) F w' ∧ Ending.returned v = Ending.returned v_1 ∧ Rel (Env.one D' p z xs) r v_1 := fun hh => by
    obtain ⟨v, p, s, z', xs', g1, g2, g3, rfl, rfl, rfl⟩ := retF_sound (fn := fn) hs' hh
    exact ⟨hs'.defers, v, g1, D', p, v, hs'.le.D, g2, rfl, g3⟩
  cases e <;> first | exact hh.elim | exact fin hh

/-- **A function that changes a row.** -/
theorem row_intro (hm : P.follows .mixedOrders = true) {f : FuncId} {fn : Func} {c : Code} {args : List SV} {z : Nat} {xs ys : List (List SV)} {r : SV} (hf : P.funcs[f]? = some fn) (hb : fn.body = some c) (hn : (fn.name == "runtime.NumGoroutine") = false) (hl : args.length + 1 ≤ fn.ntmps)
    (h : wpC P G fn.ntmps c (retR P fn.results.toList fun s z' ys' => renV 0 0 s = r ∧ z' = z ∧ ys' = ys) (argS (.lrow 0 0 :: args)) (upd (fun _ => none) 0 (some ⟨0, 1, z, xs⟩)) (upd (fun _ => 0) 0 1)) : RowC P G f args z xs r ys := by
  refine ⟨⟨fn, hf, by rw [hb]; rfl, hn⟩, fun D F w p vs hmem hlen h0 hargs => ?_⟩
  refine calls_of_wp hf hb ?_
  have hs : Sim G (Env.one D p z xs) F fn.ntmps ⟨D, setβ (fun _ _ => none) 0 0 p, upd (fun _ => none) 0 (some ⟨0, 1, z, xs⟩), upd (fun _ => 0) 0 1⟩ (argS (.lrow 0 0 :: args)) { tmps := vs.toArray ++ Array.replicate (fn.ntmps - vs.toArray.size) undef, defers := [] } w := by
    refine ⟨Env.le.refl _, hmem, enter_size vs _ (by omega), rfl, fun t => ?_⟩
    rw [argS_get]
    show Rel _ _ ((vs.toArray ++ Array.replicate (fn.ntmps - vs.toArray.size) undef).getD t undef)
    rw [enter_get]
    cases t with
    | zero =>
      have ht : 0 < vs.length := by omega
      rw [List.getElem?_eq_getElem ht]
      exact Rel.of0 (h0 _ (List.getElem?_eq_getElem ht))
    | succ t =>
      rw [List.getElem?_cons_succ]
      cases ha : args[t]? with
      | none =>
        have := List.getElem?_eq_none_iff.1 ha
        rw [List.getElem?_eq_none (by omega)]
        exact undef_rel _
      | some s =>
        have := (List.getElem?_eq_some_iff.1 ha).1
        have ht : t + 1 < vs.length := by omega
        rw [List.getElem?_eq_getElem ht]
        exact Rel.ofA (PRelA.rel (hargs t s _ ha (List.getElem?_eq_getElem ht)))
  refine wpC_sound hm c _ _ _ _ h _ F _ _ _ w _ hs fun e sl' ob' ct' D' β' a' w' hh hs' => ?_
  have fin : retR P fn.results.toList (fun s z' ys' => renV 0 0 s = r ∧ z' = z ∧ ys' = ys) .ret sl' ob' (fun _ => 0) → a'.defers = [] ∧ ∃ v, (results fn a'.tmps).run P w' = .ok v w' ∧ ∃ D' v_1, Rom.le D D' ∧ Mem G (Env.one D' p z ys) F w' ∧ Ending.returned v = Ending.returned v_1 ∧ Rel (Env.one D' p z ys) r v_1 := fun hh => by
    obtain ⟨v, s, z', ys', g0, g1, g2, g3, rfl, rfl, rfl⟩ := retR_sound (fn := fn) hs' hh
    have hβ : β' 0 0 = p := by
      have := (hs'.le.keep 0 _ g0 (one_ct D p _ xs)).2
      exact this.trans (Env.one_β _ _ _ _)
    rw [← hβ]
    exact ⟨hs'.defers, v, g1, D', v, hs'.le.D, g2, rfl, g3⟩
  cases e <;> first | exact hh.elim | exact fin hh
end
end Go.Proofs.Yticandbdabgkeaa.Am
