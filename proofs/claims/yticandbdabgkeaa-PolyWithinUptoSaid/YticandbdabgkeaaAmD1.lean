/- Functions on the abstract machine. No condition: lemmas. -/
import Derived.Test.YticandbdabgkeaaAmC9
namespace Go.Proofs.Yticandbdabgkeaa.Am
open Go

section
variable {P : Program} {G : Nat → List SV} {N : Nat} {D0 : Env} {F : Nat → Option Obj} {E : Env} {sl : Slots} {a : Act} {w : World}

theorem leAL_prelL {D : Rom} {a b : List SV} {vs : List Value} (h : leAL a b) (hl : vs.length = a.length) (hr : ∀ (i : Nat) (s : SV) (v : Value), a[i]? = some s → vs[i]? = some v → PRelA D s v) :
    vs.length = b.length ∧ ∀ (i : Nat) (s : SV) (v : Value), b[i]? = some s → vs[i]? = some v → PRelA D s v := by
  obtain ⟨h1, h2⟩ := leAL_prel h hr
  exact ⟨hl.trans h1, h2⟩

theorem leV_prelT {D : Rom} {s r : SV} {v : Value} (h : leV s r) (hr : PRelT D s v) : PRelT D r v := by
  unfold leV at h
  split at h
  · obtain ⟨vs, h1, h2, h3⟩ := hr
    obtain ⟨g1, g2⟩ := leAL_prelL h h2 h3
    exact ⟨vs, h1, g1, g2⟩
  · rename_i hno
    have hs : PRelA D s v := by
      cases s <;> first | exact hr | skip
      rename_i cs
      exfalso
      cases r <;> first | exact hno _ _ rfl rfl | (simp [leA, leC] at h)
    have := leA_prel h hs
    cases r <;> first | exact this | (rcases this.split with hh | ⟨cs, hh, _⟩ <;> cases hh)

theorem Mem.bare (hm : Mem G E F w) : Mem G (Env.bare E.D) F w :=
  ⟨hm.os, hm.tape, hm.output, hm.dr, hm.rom, hm.frm, hm.apart, hm.glob, fun o b hb => (by cases hb), fun o o' b b' x y hb => (by cases hb)⟩

theorem retK_sound {fn : Func} {k : SV → Prop} (hs : Sim G D0 F N E sl a w) (h : resK P sl E.ob fn.results.toList fun vs => match vs with
    | [v] => purAK E.ob v fun r _ => k r
    | vs => purALK E.ob vs fun l _ => k (.tup l)) :
    ∃ v D' s, (results fn a.tmps).run P w = .ok v w ∧ Rom.le E.D D' ∧ Mem G (Env.bare D') F w ∧ PRelT D' s v ∧ k s := by
  obtain ⟨ss, vs, h1, h2, h3, h4⟩ := resK_sound hs _ _ h
  have hrun := results_run (P := P) (fn := fn) h2
  have tupCase : purALK E.ob ss (fun l _ => k (.tup l)) → ∃ D' s, Rom.le E.D D' ∧ Mem G (Env.bare D') F w ∧ PRelT D' s (.tuple vs.toArray) ∧ k s := fun h => by
    obtain ⟨ps, us, D', g1, g2, g3, g4, g5⟩ := purALK_sound (Frz.refl E) hs.mem h h3 (purALK_rel h h4)
    exact ⟨D', .tup ps, g3.le.D, g2.bare, ⟨vs, rfl, h3.trans g4.symm, g5⟩, g1⟩
  match ss, vs, h1, h3, h4, hrun, tupCase with
  | [s], [v], h1, _, h4, hrun, _ =>
    have hr : RelA E s v := purAK_rel h1 (h4 0 s v rfl rfl)
    obtain ⟨p, us, D', g1, g2, g3, g4⟩ := purAK_sound (Frz.refl E) hs.mem h1 hr
    have hp : PRelT D' p v := by cases p <;> first | exact g4 | (rcases g4.split with hh | ⟨cs, hh, _⟩ <;> cases hh)
    exact ⟨v, D', p, hrun, g3.le.D, g2.bare, hp, g1⟩
  | [], [], h1, _, _, hrun, tupCase => obtain ⟨D', s, g⟩ := tupCase h1; exact ⟨_, D', s, hrun, g⟩
  | _ :: _ :: _, _ :: _ :: _, h1, _, _, hrun, tupCase => obtain ⟨D', s, g⟩ := tupCase h1; exact ⟨_, D', s, hrun, g⟩
  | [], _ :: _, _, h3, _, _, _ => simp at h3
  | [_], [], _, h3, _, _, _ => simp at h3
  | [_], _ :: _ :: _, _, h3, _, _, _ => simp at h3
  | _ :: _ :: _, [], _, h3, _, _, _ => simp at h3
  | _ :: _ :: _, [_], _, h3, _, _, _ => simp at h3

theorem argS_get : ∀ (l : List SV) (t : Nat), argS l t = (l[t]?).getD .undef
  | [], t => by simp [argS]
  | v :: l, 0 => rfl
  | v :: l, t + 1 => by
    show argS l t = _
    rw [argS_get l t]
    simp

theorem enter_size (vs : List Value) (n : Nat) (h : vs.length ≤ n) : (vs.toArray ++ Array.replicate (n - vs.toArray.size) undef).size = n := by simp; omega

theorem enter_get (vs : List Value) (n t : Nat) : (vs.toArray ++ Array.replicate (n - vs.toArray.size) undef).getD t undef = (vs[t]?).getD undef := by
  rw [Array.getD_eq_getD_getElem?, Array.getElem?_append]
  by_cases h : t < vs.toArray.size
  · rw [if_pos h]; simp
  · rw [if_neg h]
    have : vs.length ≤ t := by simpa using h
    rw [List.getElem?_eq_none this, Array.getElem?_replicate]
    split <;> rfl

/-- **A function's contract, out of a run.** -/
theorem pure_intro (hm : P.follows .mixedOrders = true) {f : FuncId} {fn : Func} {c : Code} {args : List SV} {r : SV} (hf : P.funcs[f]? = some fn) (hb : fn.body = some c) (hn : (fn.name == "runtime.NumGoroutine") = false) (hl : args.length ≤ fn.ntmps)
    (h : wpC P G fn.ntmps c (retK P fn.results.toList fun s => leV s r) (argS args) (fun _ => none) (fun _ => 0)) : Pure P G f args r := by
  refine ⟨⟨fn, hf, by rw [hb]; rfl, hn⟩, fun D F w vs hmem hlen hargs => ?_⟩
  refine calls_of_wp hf hb ?_
  have hs : Sim G (Env.bare D) F fn.ntmps ⟨D, fun _ _ => none, fun _ => none, fun _ => 0⟩ (argS args) { tmps := vs.toArray ++ Array.replicate (fn.ntmps - vs.toArray.size) undef, defers := [] } w := by
    refine ⟨Env.le.refl _, hmem, enter_size vs _ (by omega), rfl, fun t => ?_⟩
    rw [argS_get]
    show Rel _ _ ((vs.toArray ++ Array.replicate (fn.ntmps - vs.toArray.size) undef).getD t undef)
    rw [enter_get]
    cases ha : args[t]? with
    | none =>
      rw [List.getElem?_eq_none (by rw [hlen]; exact List.getElem?_eq_none_iff.1 ha)]
      exact undef_rel _
    | some s =>
      have ht : t < vs.length := by rw [hlen]; exact (List.getElem?_eq_some_iff.1 ha).1
      rw [List.getElem?_eq_getElem ht]
      exact Rel.ofA (PRelA.rel (hargs t s _ ha (List.getElem?_eq_getElem ht)))
  refine wpC_sound hm c _ _ _ _ h _ F _ _ _ w _ hs fun e sl' ob' ct' D' β' a' w' hh hs' => ?_
  have fin : (resK P sl' ob' fn.results.toList fun vs => match vs with
      | [v] => purAK ob' v fun s _ => leV s r
      | vs => purALK ob' vs fun l _ => leV (.tup l) r) → a'.defers = [] ∧ ∃ v, (results fn a'.tmps).run P w' = .ok v w' ∧ ∃ D' v_1, Rom.le D D' ∧ Mem G (Env.bare D') F w' ∧ Ending.returned v = Ending.returned v_1 ∧ PRelT D' r v_1 := fun hh => by
    obtain ⟨v, D2, s, g1, g2, g3, g4, g5⟩ := retK_sound (fn := fn) (k := fun s => leV s r) hs' hh
    exact ⟨hs'.defers, v, g1, D2, v, hs'.le.D.trans g2, g3, rfl, leV_prelT g5 g4⟩
  cases e <;> first | exact hh.elim | exact fin hh
end
end Go.Proofs.Yticandbdabgkeaa.Am
