/- The statement on the hull of a hull, as a run. No condition: lemmas. -/
import Derived.Test.YticandbdabgkeaaAmP29
import Derived.Test.YticandbdabgkeaaAmP16
namespace Go.Proofs.Yticandbdabgkeaa.Am
open Go
set_option maxRecDepth 100000

theorem hullH (l : List XY) (hl : l.length ≤ 1000000) : Pure Try.prog G0 24 [.sl 2 (l.map eP)] (.sl 2 ((hullN l).map eP)) := by
  have h := hull_pure l hl
  rwa [hullP_eq] at h
theorem hull_rev (l : List XY) : hullN l.reverse = hullN l := by
  have e : compN l.reverse = compN l := by rw [compN, compN, List.length_reverse, List.all_reverse]
  rw [hullN, hullN, e, sortedN_same (a := l.reverse) (b := l) fun z => by simp]
theorem hull_hull {l : List XY} (hc : Comp l) : hullN (hullN l) = hullN l :=
  (hull_image (lin_rotN 0) hc (a := l) (b := hullN l) (fun z => ⟨fun h => ⟨z, h, rfl⟩, fun ⟨p, hp, e⟩ => by rw [e]; exact hp⟩) rfl (fun z => ⟨fun h => ⟨z, h, rfl⟩, fun ⟨p, hp, e⟩ => by rw [e]; exact hp⟩) rfl).symm

theorem next2_map {l : List XY} {k : Nat} (hk : k < l.length) {n : Int} (hn : n = ((l.map eP).length : Int)) : (l.map eP)[(Int.tmod ((k : Int) + 2) n).toNat]? = some (eP (nxt l ((k + 1) % l.length))) := by
  subst hn
  rw [List.length_map, Int.tmod_eq_emod_of_nonneg (by omega)]
  have e : (((k : Int) + 2) % (l.length : Int)).toNat = ((k + 1) % l.length + 1) % l.length := by
    rw [Nat.mod_add_mod, show (k : Int) + 2 = ((k + 1 + 1 : Nat) : Int) by omega, ← Int.natCast_emod]; rfl
  rw [e]
  exact get_map (nth_getE (Nat.mod_lt _ (by omega)))

set_option maxHeartbeats 8000000 in
theorem polyconvex_pure (l : List XY) : Pure Try.prog G0 8 [.sl 2 (l.map eP)] (.bool true) := by
  refine stop_pure Try.func8 rfl rfl (Nat.le_of_ble_eq_true rfl) ?_
  refine stop_seq mixed ?_
  conv => whnf
  repeat (refine And.intro ?_ ?_; (first | (with_reducible show okR _ _ _ _ = true; kernel_rfl) | (with_reducible show addC _ _ _ = _; kernel_rfl) | rfl | trivial | kernel_rfl | omega | exact Nat.le_of_ble_eq_true rfl | exact lt_len0 rfl | exact lt_len1 rfl); conv => whnf)
  refine stop_seq mixed ?_
  conv => whnf
  repeat (refine And.intro ?_ ?_; (first | (with_reducible show okR _ _ _ _ = true; kernel_rfl) | (with_reducible show addC _ _ _ = _; kernel_rfl) | rfl | trivial | kernel_rfl | omega | exact Nat.le_of_ble_eq_true rfl | exact lt_len0 rfl | exact lt_len1 rfl); conv => whnf)
  refine ifD (fun h1 => ?_) (fun h1 => ?_) <;> try dsimp only at h1
  · conv => whnf
    repeat (refine And.intro ?_ ?_; (first | (with_reducible show okR _ _ _ _ = true; kernel_rfl) | (with_reducible show addC _ _ _ = _; kernel_rfl) | rfl | trivial | kernel_rfl | omega | exact Nat.le_of_ble_eq_true rfl | exact lt_len0 rfl | exact lt_len1 rfl); conv => whnf)
    refine callP_of (awake_pure) ?_
    conv => whnf
    repeat (refine And.intro ?_ ?_; (first | (with_reducible show okR _ _ _ _ = true; kernel_rfl) | (with_reducible show addC _ _ _ = _; kernel_rfl) | rfl | trivial | kernel_rfl | omega | exact Nat.le_of_ble_eq_true rfl | exact lt_len0 rfl | exact lt_len1 rfl); conv => whnf)
  rw [List.length_map] at h1
  conv => whnf
  repeat (refine And.intro ?_ ?_; (first | (with_reducible show okR _ _ _ _ = true; kernel_rfl) | (with_reducible show addC _ _ _ = _; kernel_rfl) | rfl | trivial | kernel_rfl | omega | exact Nat.le_of_ble_eq_true rfl | exact lt_len0 rfl | exact lt_len1 rfl); conv => whnf)
  refine callP_of (refranged_pure l (by omega)) ?_
  conv => whnf
  repeat (refine And.intro ?_ ?_; (first | (with_reducible show okR _ _ _ _ = true; kernel_rfl) | (with_reducible show addC _ _ _ = _; kernel_rfl) | rfl | trivial | kernel_rfl | omega | exact Nat.le_of_ble_eq_true rfl | exact lt_len0 rfl | exact lt_len1 rfl); conv => whnf)
  refine ifB_intro (fun h2 => ?_) (fun h2 => ?_) <;> try dsimp only at h2
  · conv => whnf
    repeat (refine And.intro ?_ ?_; (first | (with_reducible show okR _ _ _ _ = true; kernel_rfl) | (with_reducible show addC _ _ _ = _; kernel_rfl) | rfl | trivial | kernel_rfl | omega | exact Nat.le_of_ble_eq_true rfl | exact lt_len0 rfl | exact lt_len1 rfl); conv => whnf)
    refine callP_of (awake_pure) ?_
    conv => whnf
    repeat (refine And.intro ?_ ?_; (first | (with_reducible show okR _ _ _ _ = true; kernel_rfl) | (with_reducible show addC _ _ _ = _; kernel_rfl) | rfl | trivial | kernel_rfl | omega | exact Nat.le_of_ble_eq_true rfl | exact lt_len0 rfl | exact lt_len1 rfl); conv => whnf)
  have hc : Comp l := ⟨by omega, fun p hp => (inN_iff p).1 (by have : l.all inN = true := by simpa using h2
                                                               exact List.all_eq_true.1 this p hp)⟩
  have hl : l.length ≤ 1000000 := by omega
  refine stop_to (fun _ => [(0, .sl 2 (l.map eP))]) (fun _ => []) (weakTo_cov ?_ ?_) fun s ct => ?_
  · conv => whnf
    repeat (refine And.intro ?_ ?_; (first | exact rfl | exact Or.inl rfl | exact congrArg (SV.int .i64) (by first | rfl | omega | (simp; done) | (simp; omega))); conv => whnf)
    exact trivial
  · conv => whnf
    repeat (refine And.intro ?_ ?_; (first | exact rfl | exact Or.inl rfl | exact congrArg (SV.int .i64) (by first | rfl | omega | (simp; done) | (simp; omega))); conv => whnf)
    exact trivial
  refine stop_seq mixed ?_
  conv => whnf
  repeat (refine And.intro ?_ ?_; (first | (with_reducible show okR _ _ _ _ = true; kernel_rfl) | (with_reducible show addC _ _ _ = _; kernel_rfl) | rfl | trivial | kernel_rfl | omega | exact Nat.le_of_ble_eq_true rfl | exact lt_len0 rfl | exact lt_len1 rfl); conv => whnf)
  refine callP_of (hullH l hl) ?_
  conv => whnf
  repeat (refine And.intro ?_ ?_; (first | (with_reducible show okR _ _ _ _ = true; kernel_rfl) | (with_reducible show addC _ _ _ = _; kernel_rfl) | rfl | trivial | kernel_rfl | omega | exact Nat.le_of_ble_eq_true rfl | exact lt_len0 rfl | exact lt_len1 rfl); conv => whnf)
  refine stop_seq mixed ?_
  conv => whnf
  repeat (refine And.intro ?_ ?_; (first | (with_reducible show okR _ _ _ _ = true; kernel_rfl) | (with_reducible show addC _ _ _ = _; kernel_rfl) | rfl | trivial | kernel_rfl | omega | exact Nat.le_of_ble_eq_true rfl | exact lt_len0 rfl | exact lt_len1 rfl); conv => whnf)
  refine stop_weak (weak_nil_slot 4 36 2 rfl) ?_
  refine stop_to (fun s => [(0, .sl 2 (l.map eP)), (3, .sl 2 ((hullN l).map eP)), (4, .lrow 36 (s 36))]) (fun s => [(36, ⟨s 36, 1, 2, []⟩)]) (weakTo_cov ?_ ?_) fun s ct => ?_
  · conv => whnf
    repeat (refine And.intro ?_ ?_; (first | exact rfl | exact Or.inl rfl | exact congrArg (SV.int .i64) (by first | rfl | omega | (simp; done) | (simp; omega))); conv => whnf)
    exact trivial
  · conv => whnf
    repeat (refine And.intro ?_ ?_; (first | exact rfl | exact Or.inl rfl | exact congrArg (SV.int .i64) (by first | rfl | omega | (simp; done) | (simp; omega))); conv => whnf)
    exact trivial
  refine stop_seq mixed ?_
  conv => whnf
  repeat (refine And.intro ?_ ?_; (first | (with_reducible show okR _ _ _ _ = true; kernel_rfl) | (with_reducible show addC _ _ _ = _; kernel_rfl) | rfl | trivial | kernel_rfl | omega | exact Nat.le_of_ble_eq_true rfl | exact lt_len0 rfl | exact lt_len1 rfl); conv => whnf)
  refine inI (by rw [List.length_map]; omega) (by rw [List.length_map]; omega) ?_
  conv => whnf
  repeat (refine And.intro ?_ ?_; (first | (with_reducible show okR _ _ _ _ = true; kernel_rfl) | (with_reducible show addC _ _ _ = _; kernel_rfl) | rfl | trivial | kernel_rfl | omega | exact Nat.le_of_ble_eq_true rfl | exact lt_len0 rfl | exact lt_len1 rfl); conv => whnf)
  refine loop_rule mixed (ι := Nat) (fun k s => [(0, .sl 2 (l.map eP)), (3, .sl 2 ((hullN l).map eP)), (4, .lrow 36 (s 36)), (5, .i ((l.length : Int) - 1 - k))]) (fun k s => [(36, ⟨s 36, 1, 2, (l.reverse.take k).map eP⟩)]) (fun k => k ≤ l.length) (fun k => l.length - k) 0 (by omega) (weakTo_cov ?_ ?_) fun k hk s ct => ?_
  · conv => whnf
    repeat (refine And.intro ?_ ?_; (first | exact rfl | exact Or.inl rfl | exact congrArg (SV.int .i64) (by first | rfl | omega | (simp; done) | (simp; omega)) | exact congrArg (SV.int .i64) (and3) | exact congrArg (fun l => some (Ob.mk _ 1 _ l)) (and3) | exact (and3)); conv => whnf)
    exact trivial
  · conv => whnf
    repeat (refine And.intro ?_ ?_; (first | exact rfl | exact Or.inl rfl | exact congrArg (SV.int .i64) (by first | rfl | omega | (simp; done) | (simp; omega))); conv => whnf)
    exact trivial
  conv => whnf
  repeat (refine And.intro ?_ ?_; (first | (with_reducible show okR _ _ _ _ = true; kernel_rfl) | (with_reducible show addC _ _ _ = _; kernel_rfl) | rfl | trivial | kernel_rfl | omega | exact Nat.le_of_ble_eq_true rfl | exact lt_len0 rfl | exact lt_len1 rfl); conv => whnf)
  refine ifD (fun h3 => ?_) (fun h3 => ?_) <;> try dsimp only at h3
  · have h3 : k < l.length := by omega
    obtain ⟨x, hx⟩ := get_lt (l := l) (k := l.length - 1 - k) (by omega)
    conv => whnf
    repeat (refine And.intro ?_ ?_; (first | (with_reducible show okR _ _ _ _ = true; kernel_rfl) | (with_reducible show addC _ _ _ = _; kernel_rfl) | rfl | trivial | kernel_rfl | omega | exact Nat.le_of_ble_eq_true rfl | exact lt_len0 rfl | exact lt_len1 rfl); conv => whnf)
    refine ⟨_, get_mapI (n := l.length - 1 - k) (by omega) hx, ?_⟩
    conv => whnf
    repeat (refine And.intro ?_ ?_; (first | (with_reducible show okR _ _ _ _ = true; kernel_rfl) | (with_reducible show addC _ _ _ = _; kernel_rfl) | rfl | trivial | kernel_rfl | omega | exact Nat.le_of_ble_eq_true rfl | exact lt_len0 rfl | exact lt_len1 rfl); conv => whnf)
    refine And.intro (bytes_le (b := 16) rfl ?_) ?_
    · first | omega | (simp; done) | (simp; omega)
    conv => whnf
    repeat (refine And.intro ?_ ?_; (first | (with_reducible show okR _ _ _ _ = true; kernel_rfl) | (with_reducible show addC _ _ _ = _; kernel_rfl) | rfl | trivial | kernel_rfl | omega | exact Nat.le_of_ble_eq_true rfl | exact lt_len0 rfl | exact lt_len1 rfl); conv => whnf)
    refine inI (by omega) (by omega) ?_
    conv => whnf
    repeat (refine And.intro ?_ ?_; (first | (with_reducible show okR _ _ _ _ = true; kernel_rfl) | (with_reducible show addC _ _ _ = _; kernel_rfl) | rfl | trivial | kernel_rfl | omega | exact Nat.le_of_ble_eq_true rfl | exact lt_len0 rfl | exact lt_len1 rfl); conv => whnf)
    have hrows : (l.reverse.take k).map eP ++ [eP x] = (l.reverse.take (k + 1)).map eP := by
      rw [take_snoc (rev_get (by omega) hx), List.map_append]; rfl
    refine ⟨k + 1, by omega, by omega, weakTo_cov ?_ ?_⟩
    · conv => whnf
      repeat (refine And.intro ?_ ?_; (first | exact rfl | exact Or.inl rfl | exact congrArg (SV.int .i64) (by first | rfl | omega | (simp; done) | (simp; omega)) | exact congrArg (SV.int .i64) (by omega) | exact congrArg (fun l => some (Ob.mk _ 1 _ l)) (by omega) | exact (by omega)); conv => whnf)
      exact trivial
    · conv => whnf
      repeat (refine And.intro ?_ ?_; (first | exact rfl | exact Or.inl rfl | exact congrArg (SV.int .i64) (by first | rfl | omega | (simp; done) | (simp; omega)) | exact congrArg (SV.int .i64) (hrows) | exact congrArg (fun l => some (Ob.mk _ 1 _ l)) (hrows) | exact (hrows)); conv => whnf)
      exact trivial
  have hk : k = l.length := by omega
  subst hk
  have ht : l.reverse.take l.length = l.reverse := by rw [← List.length_reverse, List.take_length]
  conv => whnf
  repeat (refine And.intro ?_ ?_; (first | (with_reducible show okR _ _ _ _ = true; kernel_rfl) | (with_reducible show addC _ _ _ = _; kernel_rfl) | rfl | trivial | kernel_rfl | omega | exact Nat.le_of_ble_eq_true rfl | exact lt_len0 rfl | exact lt_len1 rfl); conv => whnf)
  refine stop_weak (weak_frz_slot 4 36 rfl rfl) ?_
  refine stop_to (fun _ => [(0, .sl 2 (l.map eP)), (3, .sl 2 ((hullN l).map eP)), (4, .sl 2 (l.reverse.map eP))]) (fun _ => []) (weakTo_cov ?_ ?_) fun s ct => ?_
  · conv => whnf
    repeat (refine And.intro ?_ ?_; (first | exact rfl | exact Or.inl rfl | exact congrArg (SV.int .i64) (by first | rfl | omega | (simp; done) | (simp; omega)) | exact congrArg (SV.int .i64) (.inl (congrArg (SV.sl 2) (congrArg (List.map eP) ht))) | exact congrArg (fun l => some (Ob.mk _ 1 _ l)) (.inl (congrArg (SV.sl 2) (congrArg (List.map eP) ht))) | exact (.inl (congrArg (SV.sl 2) (congrArg (List.map eP) ht)))); conv => whnf)
    exact trivial
  · conv => whnf
    repeat (refine And.intro ?_ ?_; (first | exact rfl | exact Or.inl rfl | exact congrArg (SV.int .i64) (by first | rfl | omega | (simp; done) | (simp; omega))); conv => whnf)
    exact trivial
  have hback := hullH l.reverse (by rw [List.length_reverse]; exact hl)
  rw [hull_rev] at hback
  refine stop_seq mixed ?_
  conv => whnf
  repeat (refine And.intro ?_ ?_; (first | (with_reducible show okR _ _ _ _ = true; kernel_rfl) | (with_reducible show addC _ _ _ = _; kernel_rfl) | rfl | trivial | kernel_rfl | omega | exact Nat.le_of_ble_eq_true rfl | exact lt_len0 rfl | exact lt_len1 rfl); conv => whnf)
  refine callP_of (hback) ?_
  conv => whnf
  repeat (refine And.intro ?_ ?_; (first | (with_reducible show okR _ _ _ _ = true; kernel_rfl) | (with_reducible show addC _ _ _ = _; kernel_rfl) | rfl | trivial | kernel_rfl | omega | exact Nat.le_of_ble_eq_true rfl | exact lt_len0 rfl | exact lt_len1 rfl); conv => whnf)
  refine callP_of (same_self (hullN l) (hullN_len2 l)) ?_
  conv => whnf
  repeat (refine And.intro ?_ ?_; (first | (with_reducible show okR _ _ _ _ = true; kernel_rfl) | (with_reducible show addC _ _ _ = _; kernel_rfl) | rfl | trivial | kernel_rfl | omega | exact Nat.le_of_ble_eq_true rfl | exact lt_len0 rfl | exact lt_len1 rfl); conv => whnf)
  refine ifD (fun h4 => ?_) (fun h4 => ?_) <;> try dsimp only at h4
  · -- a hull
    have hne : hullN l ≠ [] := fun e => by rw [e] at h4; simp at h4
    obtain ⟨-, m, hH⟩ := (hullN_spec l).resolve_left hne
    have hcH := hull_comp hne
    have h3' := hH.three
    have hhull := hullH (hullN l) (hullN_len2 l)
    rw [hull_hull hc] at hhull
    conv => whnf
    repeat (refine And.intro ?_ ?_; (first | (with_reducible show okR _ _ _ _ = true; kernel_rfl) | (with_reducible show addC _ _ _ = _; kernel_rfl) | rfl | trivial | kernel_rfl | omega | exact Nat.le_of_ble_eq_true rfl | exact lt_len0 rfl | exact lt_len1 rfl); conv => whnf)
    refine callP_of (hhull) ?_
    conv => whnf
    repeat (refine And.intro ?_ ?_; (first | (with_reducible show okR _ _ _ _ = true; kernel_rfl) | (with_reducible show addC _ _ _ = _; kernel_rfl) | rfl | trivial | kernel_rfl | omega | exact Nat.le_of_ble_eq_true rfl | exact lt_len0 rfl | exact lt_len1 rfl); conv => whnf)
    refine callP_of (same_self (hullN l) (hullN_len2 l)) ?_
    conv => whnf
    repeat (refine And.intro ?_ ?_; (first | (with_reducible show okR _ _ _ _ = true; kernel_rfl) | (with_reducible show addC _ _ _ = _; kernel_rfl) | rfl | trivial | kernel_rfl | omega | exact Nat.le_of_ble_eq_true rfl | exact lt_len0 rfl | exact lt_len1 rfl); conv => whnf)
    have hlenH : (hullN l).length ≤ 1000000 := hullN_len2 l
    have hinH := hcH.all
    have hhas : ∀ p ∈ l, hasP (hullN l) p = true := fun p hp => (hH.has_iff hcH p).2 (hH.point ((sortedN_mem l p).2 hp))
    have hfirst : ∀ p ∈ l, before p (nth (hullN l) 0) = false := fun p hp => by
      rcases hH.first p ((sortedN_mem l p).2 hp) with h | h
      · rw [h]; exact before_irr _
      · exact before_asymm h
    have hturn := hH.turn
    have hsome : ∀ i, i < (hullN l).length → nth (hullN l) i ∈ l := fun i hi => (sortedN_mem l _).1 (hH.sub _ (nth_mem hi))
    clear hH hback hhull
    generalize hullN l = H at *
    refine stop_to (fun _ => [(0, .sl 2 (l.map eP)), (3, .sl 2 (H.map eP))]) (fun _ => []) (weakTo_cov ?_ ?_) fun s ct => ?_
    · conv => whnf
      repeat (refine And.intro ?_ ?_; (first | exact rfl | exact Or.inl rfl | exact congrArg (SV.int .i64) (by first | rfl | omega | (simp; done) | (simp; omega))); conv => whnf)
      exact trivial
    · conv => whnf
      repeat (refine And.intro ?_ ?_; (first | exact rfl | exact Or.inl rfl | exact congrArg (SV.int .i64) (by first | rfl | omega | (simp; done) | (simp; omega))); conv => whnf)
      exact trivial
    refine stop_seq mixed ?_
    conv => whnf
    repeat (refine And.intro ?_ ?_; (first | (with_reducible show okR _ _ _ _ = true; kernel_rfl) | (with_reducible show addC _ _ _ = _; kernel_rfl) | rfl | trivial | kernel_rfl | omega | exact Nat.le_of_ble_eq_true rfl | exact lt_len0 rfl | exact lt_len1 rfl); conv => whnf)
    refine ifD (fun h5 => ?_) (fun h5 => ?_) <;> try dsimp only at h5
    · simp only [List.length_map] at h5; omega
    conv => whnf
    repeat (refine And.intro ?_ ?_; (first | (with_reducible show okR _ _ _ _ = true; kernel_rfl) | (with_reducible show addC _ _ _ = _; kernel_rfl) | rfl | trivial | kernel_rfl | omega | exact Nat.le_of_ble_eq_true rfl | exact lt_len0 rfl | exact lt_len1 rfl); conv => whnf)
    refine stop_seq mixed ?_
    conv => whnf
    repeat (refine And.intro ?_ ?_; (first | (with_reducible show okR _ _ _ _ = true; kernel_rfl) | (with_reducible show addC _ _ _ = _; kernel_rfl) | rfl | trivial | kernel_rfl | omega | exact Nat.le_of_ble_eq_true rfl | exact lt_len0 rfl | exact lt_len1 rfl); conv => whnf)
    refine loop_rule mixed (ι := Nat) (fun k s => [(0, .sl 2 (l.map eP)), (3, .sl 2 (H.map eP)), (8, .i k)]) (fun _ _ => []) (fun k => k ≤ l.length) (fun k => l.length - k) 0 (by omega) (weakTo_cov ?_ ?_) fun k hk s ct => ?_
    · conv => whnf
      repeat (refine And.intro ?_ ?_; (first | exact rfl | exact Or.inl rfl | exact congrArg (SV.int .i64) (by first | rfl | omega | (simp; done) | (simp; omega))); conv => whnf)
      exact trivial
    · conv => whnf
      repeat (refine And.intro ?_ ?_; (first | exact rfl | exact Or.inl rfl | exact congrArg (SV.int .i64) (by first | rfl | omega | (simp; done) | (simp; omega))); conv => whnf)
      exact trivial
    conv => whnf
    repeat (refine And.intro ?_ ?_; (first | (with_reducible show okR _ _ _ _ = true; kernel_rfl) | (with_reducible show addC _ _ _ = _; kernel_rfl) | rfl | trivial | kernel_rfl | omega | exact Nat.le_of_ble_eq_true rfl | exact lt_len0 rfl | exact lt_len1 rfl); conv => whnf)
    refine ifD (fun h6 => ?_) (fun h6 => ?_) <;> try dsimp only at h6
    · rw [List.length_map] at h6
      obtain ⟨x, hx⟩ := get_lt (l := l) (k := k) (by omega)
      have hxm := List.mem_of_getElem? hx
      have hxh := has_pure H hlenH x
      rw [hhas x hxm] at hxh
      have hxb := before_pure x (nth H 0)
      rw [hfirst x hxm] at hxb
      conv => whnf
      repeat (refine And.intro ?_ ?_; (first | (with_reducible show okR _ _ _ _ = true; kernel_rfl) | (with_reducible show addC _ _ _ = _; kernel_rfl) | rfl | trivial | kernel_rfl | omega | exact Nat.le_of_ble_eq_true rfl | exact lt_len0 rfl | exact lt_len1 rfl); conv => whnf)
      refine ⟨_, get_map hx, ?_⟩
      conv => whnf
      repeat (refine And.intro ?_ ?_; (first | (with_reducible show okR _ _ _ _ = true; kernel_rfl) | (with_reducible show addC _ _ _ = _; kernel_rfl) | rfl | trivial | kernel_rfl | omega | exact Nat.le_of_ble_eq_true rfl | exact lt_len0 rfl | exact lt_len1 rfl); conv => whnf)
      refine callP_of (hxh) ?_
      conv => whnf
      repeat (refine And.intro ?_ ?_; (first | (with_reducible show okR _ _ _ _ = true; kernel_rfl) | (with_reducible show addC _ _ _ = _; kernel_rfl) | rfl | trivial | kernel_rfl | omega | exact Nat.le_of_ble_eq_true rfl | exact lt_len0 rfl | exact lt_len1 rfl); conv => whnf)
      refine ⟨_, get_map hx, ?_⟩
      conv => whnf
      repeat (refine And.intro ?_ ?_; (first | (with_reducible show okR _ _ _ _ = true; kernel_rfl) | (with_reducible show addC _ _ _ = _; kernel_rfl) | rfl | trivial | kernel_rfl | omega | exact Nat.le_of_ble_eq_true rfl | exact lt_len0 rfl | exact lt_len1 rfl); conv => whnf)
      refine ⟨_, get_map (nth_getE (l := H) (i := 0) (by omega)), ?_⟩
      conv => whnf
      repeat (refine And.intro ?_ ?_; (first | (with_reducible show okR _ _ _ _ = true; kernel_rfl) | (with_reducible show addC _ _ _ = _; kernel_rfl) | rfl | trivial | kernel_rfl | omega | exact Nat.le_of_ble_eq_true rfl | exact lt_len0 rfl | exact lt_len1 rfl); conv => whnf)
      refine callP_of (hxb) ?_
      conv => whnf
      repeat (refine And.intro ?_ ?_; (first | (with_reducible show okR _ _ _ _ = true; kernel_rfl) | (with_reducible show addC _ _ _ = _; kernel_rfl) | rfl | trivial | kernel_rfl | omega | exact Nat.le_of_ble_eq_true rfl | exact lt_len0 rfl | exact lt_len1 rfl); conv => whnf)
      refine inI (by omega) (by omega) ?_
      conv => whnf
      repeat (refine And.intro ?_ ?_; (first | (with_reducible show okR _ _ _ _ = true; kernel_rfl) | (with_reducible show addC _ _ _ = _; kernel_rfl) | rfl | trivial | kernel_rfl | omega | exact Nat.le_of_ble_eq_true rfl | exact lt_len0 rfl | exact lt_len1 rfl); conv => whnf)
      refine ⟨k + 1, by omega, by omega, weakTo_cov ?_ ?_⟩
      · conv => whnf
        repeat (refine And.intro ?_ ?_; (first | exact rfl | exact Or.inl rfl | exact congrArg (SV.int .i64) (by first | rfl | omega | (simp; done) | (simp; omega))); conv => whnf)
        exact trivial
      · conv => whnf
        repeat (refine And.intro ?_ ?_; (first | exact rfl | exact Or.inl rfl | exact congrArg (SV.int .i64) (by first | rfl | omega | (simp; done) | (simp; omega))); conv => whnf)
        exact trivial
    have hk : k = l.length := by simp only [List.length_map] at h6; omega
    subst hk
    conv => whnf
    repeat (refine And.intro ?_ ?_; (first | (with_reducible show okR _ _ _ _ = true; kernel_rfl) | (with_reducible show addC _ _ _ = _; kernel_rfl) | rfl | trivial | kernel_rfl | omega | exact Nat.le_of_ble_eq_true rfl | exact lt_len0 rfl | exact lt_len1 rfl); conv => whnf)
    refine stop_to (fun _ => [(0, .sl 2 (l.map eP)), (3, .sl 2 (H.map eP))]) (fun _ => []) (weakTo_cov ?_ ?_) fun s ct => ?_
    · conv => whnf
      repeat (refine And.intro ?_ ?_; (first | exact rfl | exact Or.inl rfl | exact congrArg (SV.int .i64) (by first | rfl | omega | (simp; done) | (simp; omega))); conv => whnf)
      exact trivial
    · conv => whnf
      repeat (refine And.intro ?_ ?_; (first | exact rfl | exact Or.inl rfl | exact congrArg (SV.int .i64) (by first | rfl | omega | (simp; done) | (simp; omega))); conv => whnf)
      exact trivial
    refine stop_seq mixed ?_
    conv => whnf
    repeat (refine And.intro ?_ ?_; (first | (with_reducible show okR _ _ _ _ = true; kernel_rfl) | (with_reducible show addC _ _ _ = _; kernel_rfl) | rfl | trivial | kernel_rfl | omega | exact Nat.le_of_ble_eq_true rfl | exact lt_len0 rfl | exact lt_len1 rfl); conv => whnf)
    refine loop_rule mixed (ι := Nat) (fun k s => [(0, .sl 2 (l.map eP)), (3, .sl 2 (H.map eP)), (9, .i k)]) (fun _ _ => []) (fun k => k ≤ H.length) (fun k => H.length - k) 0 (by omega) (weakTo_cov ?_ ?_) fun k hk s ct => ?_
    · conv => whnf
      repeat (refine And.intro ?_ ?_; (first | exact rfl | exact Or.inl rfl | exact congrArg (SV.int .i64) (by first | rfl | omega | (simp; done) | (simp; omega))); conv => whnf)
      exact trivial
    · conv => whnf
      repeat (refine And.intro ?_ ?_; (first | exact rfl | exact Or.inl rfl | exact congrArg (SV.int .i64) (by first | rfl | omega | (simp; done) | (simp; omega))); conv => whnf)
      exact trivial
    conv => whnf
    repeat (refine And.intro ?_ ?_; (first | (with_reducible show okR _ _ _ _ = true; kernel_rfl) | (with_reducible show addC _ _ _ = _; kernel_rfl) | rfl | trivial | kernel_rfl | omega | exact Nat.le_of_ble_eq_true rfl | exact lt_len0 rfl | exact lt_len1 rfl); conv => whnf)
    refine ifD (fun h7 => ?_) (fun h7 => ?_) <;> try dsimp only at h7
    · have hkl : k < H.length := by rw [List.length_map] at h7; omega
      have hA := hinH _ (nth_mem hkl)
      have hB := hinH _ (nxt_mem hkl)
      have hC := hinH _ (nxt_mem (H := H) (i := (k + 1) % H.length) (Nat.mod_lt _ (by omega)))
      have hcr := refcross_pure _ _ _ hA hB hC
      have hpos := hturn k hkl
      have hmem := hsome k hkl
      conv => whnf
      repeat (refine And.intro ?_ ?_; (first | (with_reducible show okR _ _ _ _ = true; kernel_rfl) | (with_reducible show addC _ _ _ = _; kernel_rfl) | rfl | trivial | kernel_rfl | omega | exact Nat.le_of_ble_eq_true rfl | exact lt_len0 rfl | exact lt_len1 rfl); conv => whnf)
      refine ⟨_, get_map (nth_getE (l := H) (i := k) hkl), ?_⟩
      conv => whnf
      repeat (refine And.intro ?_ ?_; (first | (with_reducible show okR _ _ _ _ = true; kernel_rfl) | (with_reducible show addC _ _ _ = _; kernel_rfl) | rfl | trivial | kernel_rfl | omega | exact Nat.le_of_ble_eq_true rfl | exact lt_len0 rfl | exact lt_len1 rfl); conv => whnf)
      refine inI (by omega) (by omega) ?_
      conv => whnf
      repeat (refine And.intro ?_ ?_; (first | (with_reducible show okR _ _ _ _ = true; kernel_rfl) | (with_reducible show addC _ _ _ = _; kernel_rfl) | rfl | trivial | kernel_rfl | omega | exact Nat.le_of_ble_eq_true rfl | exact lt_len0 rfl | exact lt_len1 rfl); conv => whnf)
      refine And.intro (Int.tmod_nonneg _ (by omega)) ?_
      conv => whnf
      repeat (refine And.intro ?_ ?_; (first | (with_reducible show okR _ _ _ _ = true; kernel_rfl) | (with_reducible show addC _ _ _ = _; kernel_rfl) | rfl | trivial | kernel_rfl | omega | exact Nat.le_of_ble_eq_true rfl | exact lt_len0 rfl | exact lt_len1 rfl); conv => whnf)
      refine ⟨_, next_map hkl rfl, ?_⟩
      conv => whnf
      repeat (refine And.intro ?_ ?_; (first | (with_reducible show okR _ _ _ _ = true; kernel_rfl) | (with_reducible show addC _ _ _ = _; kernel_rfl) | rfl | trivial | kernel_rfl | omega | exact Nat.le_of_ble_eq_true rfl | exact lt_len0 rfl | exact lt_len1 rfl); conv => whnf)
      refine inI (by omega) (by omega) ?_
      conv => whnf
      repeat (refine And.intro ?_ ?_; (first | (with_reducible show okR _ _ _ _ = true; kernel_rfl) | (with_reducible show addC _ _ _ = _; kernel_rfl) | rfl | trivial | kernel_rfl | omega | exact Nat.le_of_ble_eq_true rfl | exact lt_len0 rfl | exact lt_len1 rfl); conv => whnf)
      refine And.intro (Int.tmod_nonneg _ (by omega)) ?_
      conv => whnf
      repeat (refine And.intro ?_ ?_; (first | (with_reducible show okR _ _ _ _ = true; kernel_rfl) | (with_reducible show addC _ _ _ = _; kernel_rfl) | rfl | trivial | kernel_rfl | omega | exact Nat.le_of_ble_eq_true rfl | exact lt_len0 rfl | exact lt_len1 rfl); conv => whnf)
      refine ⟨_, next2_map hkl rfl, ?_⟩
      conv => whnf
      repeat (refine And.intro ?_ ?_; (first | (with_reducible show okR _ _ _ _ = true; kernel_rfl) | (with_reducible show addC _ _ _ = _; kernel_rfl) | rfl | trivial | kernel_rfl | omega | exact Nat.le_of_ble_eq_true rfl | exact lt_len0 rfl | exact lt_len1 rfl); conv => whnf)
      refine callP_of (hcr) ?_
      conv => whnf
      repeat (refine And.intro ?_ ?_; (first | (with_reducible show okR _ _ _ _ = true; kernel_rfl) | (with_reducible show addC _ _ _ = _; kernel_rfl) | rfl | trivial | kernel_rfl | omega | exact Nat.le_of_ble_eq_true rfl | exact lt_len0 rfl | exact lt_len1 rfl); conv => whnf)
      refine ifD (fun h8 => ?_) (fun h8 => ?_) <;> try dsimp only at h8
      · omega
      conv => whnf
      repeat (refine And.intro ?_ ?_; (first | (with_reducible show okR _ _ _ _ = true; kernel_rfl) | (with_reducible show addC _ _ _ = _; kernel_rfl) | rfl | trivial | kernel_rfl | omega | exact Nat.le_of_ble_eq_true rfl | exact lt_len0 rfl | exact lt_len1 rfl); conv => whnf)
      refine loop_rule mixed (ι := Nat × Bool) (fun i s => [(0, .sl 2 (l.map eP)), (3, .sl 2 (H.map eP)), (9, .i k), (10, .bool i.2), (11, .i i.1)]) (fun _ _ => []) (fun i => i.1 ≤ l.length ∧ (i.2 = true ∨ ∃ j, i.1 ≤ j ∧ j < l.length ∧ nth l j = nth H k)) (fun i => l.length - i.1) (0, false) ⟨by show 0 ≤ _; omega, .inr ?_⟩ (weakTo_cov ?_ ?_) fun i hi s ct => ?_
      · obtain ⟨j, hj, e⟩ := List.getElem_of_mem hmem
        exact ⟨j, by show 0 ≤ j; omega, hj, by rw [nth_get (List.getElem?_eq_getElem hj), e]⟩
      · conv => whnf
        repeat (refine And.intro ?_ ?_; (first | exact rfl | exact Or.inl rfl | exact congrArg (SV.int .i64) (by first | rfl | omega | (simp; done) | (simp; omega))); conv => whnf)
        exact trivial
      · conv => whnf
        repeat (refine And.intro ?_ ?_; (first | exact rfl | exact Or.inl rfl | exact congrArg (SV.int .i64) (by first | rfl | omega | (simp; done) | (simp; omega))); conv => whnf)
        exact trivial
      obtain ⟨t, b⟩ := i
      obtain ⟨ht1, ht2⟩ := hi
      simp only at ht1 ht2
      conv => whnf
      repeat (refine And.intro ?_ ?_; (first | (with_reducible show okR _ _ _ _ = true; kernel_rfl) | (with_reducible show addC _ _ _ = _; kernel_rfl) | rfl | trivial | kernel_rfl | omega | exact Nat.le_of_ble_eq_true rfl | exact lt_len0 rfl | exact lt_len1 rfl); conv => whnf)
      refine ifD (fun h9 => ?_) (fun h9 => ?_) <;> try dsimp only at h9
      · have h9' : t < l.length := by rw [List.length_map] at h9; omega
        cases b with
        | true =>
          conv => whnf
          repeat (refine And.intro ?_ ?_; (first | (with_reducible show okR _ _ _ _ = true; kernel_rfl) | (with_reducible show addC _ _ _ = _; kernel_rfl) | rfl | trivial | kernel_rfl | omega | exact Nat.le_of_ble_eq_true rfl | exact lt_len0 rfl | exact lt_len1 rfl); conv => whnf)
          refine inI (by omega) (by omega) ?_
          conv => whnf
          repeat (refine And.intro ?_ ?_; (first | (with_reducible show okR _ _ _ _ = true; kernel_rfl) | (with_reducible show addC _ _ _ = _; kernel_rfl) | rfl | trivial | kernel_rfl | omega | exact Nat.le_of_ble_eq_true rfl | exact lt_len0 rfl | exact lt_len1 rfl); conv => whnf)
          refine ⟨(t + 1, true), ⟨by show t + 1 ≤ _; omega, .inl rfl⟩, by show l.length - (t + 1) < l.length - t; omega, weakTo_cov ?_ ?_⟩
          · conv => whnf
            repeat (refine And.intro ?_ ?_; (first | exact rfl | exact Or.inl rfl | exact congrArg (SV.int .i64) (by first | rfl | omega | (simp; done) | (simp; omega))); conv => whnf)
            exact trivial
          · conv => whnf
            repeat (refine And.intro ?_ ?_; (first | exact rfl | exact Or.inl rfl | exact congrArg (SV.int .i64) (by first | rfl | omega | (simp; done) | (simp; omega))); conv => whnf)
            exact trivial
        | false =>
          obtain ⟨j, hj1, hj2, hj3⟩ := ht2.resolve_left (by simp)
          conv => whnf
          repeat (refine And.intro ?_ ?_; (first | (with_reducible show okR _ _ _ _ = true; kernel_rfl) | (with_reducible show addC _ _ _ = _; kernel_rfl) | rfl | trivial | kernel_rfl | omega | exact Nat.le_of_ble_eq_true rfl | exact lt_len0 rfl | exact lt_len1 rfl); conv => whnf)
          refine ⟨_, get_map (nth_getE h9'), ?_⟩
          conv => whnf
          repeat (refine And.intro ?_ ?_; (first | (with_reducible show okR _ _ _ _ = true; kernel_rfl) | (with_reducible show addC _ _ _ = _; kernel_rfl) | rfl | trivial | kernel_rfl | omega | exact Nat.le_of_ble_eq_true rfl | exact lt_len0 rfl | exact lt_len1 rfl); conv => whnf)
          refine ⟨_, get_map (nth_getE (l := H) (i := k) hkl), ?_⟩
          conv => whnf
          repeat (refine And.intro ?_ ?_; (first | (with_reducible show okR _ _ _ _ = true; kernel_rfl) | (with_reducible show addC _ _ _ = _; kernel_rfl) | rfl | trivial | kernel_rfl | omega | exact Nat.le_of_ble_eq_true rfl | exact lt_len0 rfl | exact lt_len1 rfl); conv => whnf)
          refine inI (by omega) (by omega) ?_
          conv => whnf
          repeat (refine And.intro ?_ ?_; (first | (with_reducible show okR _ _ _ _ = true; kernel_rfl) | (with_reducible show addC _ _ _ = _; kernel_rfl) | rfl | trivial | kernel_rfl | omega | exact Nat.le_of_ble_eq_true rfl | exact lt_len0 rfl | exact lt_len1 rfl); conv => whnf)
          refine ⟨(t + 1, decide ((nth l t).x = (nth H k).x) && decide ((nth l t).y = (nth H k).y)), ⟨by show t + 1 ≤ _; omega, ?_⟩, by show l.length - (t + 1) < l.length - t; omega, weakTo_cov ?_ ?_⟩
          · show (decide ((nth l t).x = (nth H k).x) && decide ((nth l t).y = (nth H k).y)) = true ∨ ∃ j, t + 1 ≤ j ∧ j < l.length ∧ nth l j = nth H k
            rcases Nat.lt_or_eq_of_le hj1 with h | h
            · exact .inr ⟨j, h, hj2, hj3⟩
            · left
              subst h
              rw [hj3]; simp
          · conv => whnf
            repeat (refine And.intro ?_ ?_; (first | exact rfl | exact Or.inl rfl | exact congrArg (SV.int .i64) (by first | rfl | omega | (simp; done) | (simp; omega))); conv => whnf)
            exact trivial
          · conv => whnf
            repeat (refine And.intro ?_ ?_; (first | exact rfl | exact Or.inl rfl | exact congrArg (SV.int .i64) (by first | rfl | omega | (simp; done) | (simp; omega))); conv => whnf)
            exact trivial
      · have ht3 : t = l.length := by simp only [List.length_map] at h9; omega
        have hb : b = true := ht2.resolve_right fun ⟨j, h1, h2, _⟩ => by omega
        subst hb
        conv => whnf
        repeat (refine And.intro ?_ ?_; (first | (with_reducible show okR _ _ _ _ = true; kernel_rfl) | (with_reducible show addC _ _ _ = _; kernel_rfl) | rfl | trivial | kernel_rfl | omega | exact Nat.le_of_ble_eq_true rfl | exact lt_len0 rfl | exact lt_len1 rfl); conv => whnf)
        refine inI (by omega) (by omega) ?_
        conv => whnf
        repeat (refine And.intro ?_ ?_; (first | (with_reducible show okR _ _ _ _ = true; kernel_rfl) | (with_reducible show addC _ _ _ = _; kernel_rfl) | rfl | trivial | kernel_rfl | omega | exact Nat.le_of_ble_eq_true rfl | exact lt_len0 rfl | exact lt_len1 rfl); conv => whnf)
        refine ⟨k + 1, by omega, by omega, weakTo_cov ?_ ?_⟩
        · conv => whnf
          repeat (refine And.intro ?_ ?_; (first | exact rfl | exact Or.inl rfl | exact congrArg (SV.int .i64) (by first | rfl | omega | (simp; done) | (simp; omega))); conv => whnf)
          exact trivial
        · conv => whnf
          repeat (refine And.intro ?_ ?_; (first | exact rfl | exact Or.inl rfl | exact congrArg (SV.int .i64) (by first | rfl | omega | (simp; done) | (simp; omega))); conv => whnf)
          exact trivial
    · conv => whnf
      repeat (refine And.intro ?_ ?_; (first | (with_reducible show okR _ _ _ _ = true; kernel_rfl) | (with_reducible show addC _ _ _ = _; kernel_rfl) | rfl | trivial | kernel_rfl | omega | exact Nat.le_of_ble_eq_true rfl | exact lt_len0 rfl | exact lt_len1 rfl); conv => whnf)
      refine stop_go mixed ?_
      conv => whnf
      repeat (refine And.intro ?_ ?_; (first | (with_reducible show okR _ _ _ _ = true; kernel_rfl) | (with_reducible show addC _ _ _ = _; kernel_rfl) | rfl | trivial | kernel_rfl | omega | exact Nat.le_of_ble_eq_true rfl | exact lt_len0 rfl | exact lt_len1 rfl); conv => whnf)
      refine callP_of (awake_pure) ?_
      conv => whnf
      repeat (refine And.intro ?_ ?_; (first | (with_reducible show okR _ _ _ _ = true; kernel_rfl) | (with_reducible show addC _ _ _ = _; kernel_rfl) | rfl | trivial | kernel_rfl | omega | exact Nat.le_of_ble_eq_true rfl | exact lt_len0 rfl | exact lt_len1 rfl); conv => whnf)
  · have h0 : hullN l = [] := List.eq_nil_of_length_eq_zero (by simp only [List.length_map] at h4; omega)
    have hz : ∀ a b c, a ∈ l → b ∈ l → c ∈ l → crossN a b c = 0 := by
      rcases hull_spec (sortedN_ord l) with ⟨_, h⟩ | ⟨m, h⟩
      · exact fun a b c ha hb hc => h a b c ((sortedN_mem l a).2 ha) ((sortedN_mem l b).2 hb) ((sortedN_mem l c).2 hc)
      · have := h.three
        rw [← hullN_comp hc, h0] at this
        simp at this
    have hin := hc.all
    conv => whnf
    repeat (refine And.intro ?_ ?_; (first | (with_reducible show okR _ _ _ _ = true; kernel_rfl) | (with_reducible show addC _ _ _ = _; kernel_rfl) | rfl | trivial | kernel_rfl | omega | exact Nat.le_of_ble_eq_true rfl | exact lt_len0 rfl | exact lt_len1 rfl); conv => whnf)
    refine stop_to (fun _ => [(0, .sl 2 (l.map eP)), (3, .sl 2 [])]) (fun _ => []) (weakTo_cov ?_ ?_) fun s ct => ?_
    · conv => whnf
      repeat (refine And.intro ?_ ?_; (first | exact rfl | exact Or.inl rfl | exact congrArg (SV.int .i64) (by first | rfl | omega | (simp; done) | (simp; omega)) | exact congrArg (SV.int .i64) (.inl (congrArg (fun h => SV.sl 2 (List.map eP h)) h0)) | exact congrArg (fun l => some (Ob.mk _ 1 _ l)) (.inl (congrArg (fun h => SV.sl 2 (List.map eP h)) h0)) | exact (.inl (congrArg (fun h => SV.sl 2 (List.map eP h)) h0))); conv => whnf)
      exact trivial
    · conv => whnf
      repeat (refine And.intro ?_ ?_; (first | exact rfl | exact Or.inl rfl | exact congrArg (SV.int .i64) (by first | rfl | omega | (simp; done) | (simp; omega))); conv => whnf)
      exact trivial
    refine stop_seq mixed ?_
    conv => whnf
    repeat (refine And.intro ?_ ?_; (first | (with_reducible show okR _ _ _ _ = true; kernel_rfl) | (with_reducible show addC _ _ _ = _; kernel_rfl) | rfl | trivial | kernel_rfl | omega | exact Nat.le_of_ble_eq_true rfl | exact lt_len0 rfl | exact lt_len1 rfl); conv => whnf)
    refine loop_rule mixed (ι := Nat) (fun k s => [(0, .sl 2 (l.map eP)), (6, .i k)]) (fun _ _ => []) (fun k => k ≤ l.length) (fun k => l.length - k) 0 (by omega) (weakTo_cov ?_ ?_) fun k hk s ct => ?_
    · conv => whnf
      repeat (refine And.intro ?_ ?_; (first | exact rfl | exact Or.inl rfl | exact congrArg (SV.int .i64) (by first | rfl | omega | (simp; done) | (simp; omega))); conv => whnf)
      exact trivial
    · conv => whnf
      repeat (refine And.intro ?_ ?_; (first | exact rfl | exact Or.inl rfl | exact congrArg (SV.int .i64) (by first | rfl | omega | (simp; done) | (simp; omega))); conv => whnf)
      exact trivial
    conv => whnf
    repeat (refine And.intro ?_ ?_; (first | (with_reducible show okR _ _ _ _ = true; kernel_rfl) | (with_reducible show addC _ _ _ = _; kernel_rfl) | rfl | trivial | kernel_rfl | omega | exact Nat.le_of_ble_eq_true rfl | exact lt_len0 rfl | exact lt_len1 rfl); conv => whnf)
    refine ifD (fun h5 => ?_) (fun h5 => ?_) <;> try dsimp only at h5
    · have hkl : k < l.length := by rw [List.length_map] at h5; omega
      conv => whnf
      repeat (refine And.intro ?_ ?_; (first | (with_reducible show okR _ _ _ _ = true; kernel_rfl) | (with_reducible show addC _ _ _ = _; kernel_rfl) | rfl | trivial | kernel_rfl | omega | exact Nat.le_of_ble_eq_true rfl | exact lt_len0 rfl | exact lt_len1 rfl); conv => whnf)
      refine loop_rule mixed (ι := Nat) (fun j s => [(0, .sl 2 (l.map eP)), (6, .i k), (7, .i j)]) (fun _ _ => []) (fun j => j ≤ k) (fun j => k - j) 0 (by omega) (weakTo_cov ?_ ?_) fun j hj s ct => ?_
      · conv => whnf
        repeat (refine And.intro ?_ ?_; (first | exact rfl | exact Or.inl rfl | exact congrArg (SV.int .i64) (by first | rfl | omega | (simp; done) | (simp; omega))); conv => whnf)
        exact trivial
      · conv => whnf
        repeat (refine And.intro ?_ ?_; (first | exact rfl | exact Or.inl rfl | exact congrArg (SV.int .i64) (by first | rfl | omega | (simp; done) | (simp; omega))); conv => whnf)
        exact trivial
      conv => whnf
      repeat (refine And.intro ?_ ?_; (first | (with_reducible show okR _ _ _ _ = true; kernel_rfl) | (with_reducible show addC _ _ _ = _; kernel_rfl) | rfl | trivial | kernel_rfl | omega | exact Nat.le_of_ble_eq_true rfl | exact lt_len0 rfl | exact lt_len1 rfl); conv => whnf)
      refine ifD (fun h6 => ?_) (fun h6 => ?_) <;> try dsimp only at h6
      · have hjk : j < k := by omega
        have hcr := refcross_pure (nth l 0) (nth l j) (nth l k) (hin _ (nth_mem (by omega))) (hin _ (nth_mem (by omega))) (hin _ (nth_mem hkl))
        rw [hz _ _ _ (nth_mem (by omega)) (nth_mem (by omega)) (nth_mem hkl)] at hcr
        conv => whnf
        repeat (refine And.intro ?_ ?_; (first | (with_reducible show okR _ _ _ _ = true; kernel_rfl) | (with_reducible show addC _ _ _ = _; kernel_rfl) | rfl | trivial | kernel_rfl | omega | exact Nat.le_of_ble_eq_true rfl | exact lt_len0 rfl | exact lt_len1 rfl); conv => whnf)
        refine ⟨_, get_map (nth_getE (l := l) (i := 0) (by omega)), ?_⟩
        conv => whnf
        repeat (refine And.intro ?_ ?_; (first | (with_reducible show okR _ _ _ _ = true; kernel_rfl) | (with_reducible show addC _ _ _ = _; kernel_rfl) | rfl | trivial | kernel_rfl | omega | exact Nat.le_of_ble_eq_true rfl | exact lt_len0 rfl | exact lt_len1 rfl); conv => whnf)
        refine ⟨_, get_map (nth_getE (l := l) (i := j) (by omega)), ?_⟩
        conv => whnf
        repeat (refine And.intro ?_ ?_; (first | (with_reducible show okR _ _ _ _ = true; kernel_rfl) | (with_reducible show addC _ _ _ = _; kernel_rfl) | rfl | trivial | kernel_rfl | omega | exact Nat.le_of_ble_eq_true rfl | exact lt_len0 rfl | exact lt_len1 rfl); conv => whnf)
        refine ⟨_, get_map (nth_getE (l := l) (i := k) hkl), ?_⟩
        conv => whnf
        repeat (refine And.intro ?_ ?_; (first | (with_reducible show okR _ _ _ _ = true; kernel_rfl) | (with_reducible show addC _ _ _ = _; kernel_rfl) | rfl | trivial | kernel_rfl | omega | exact Nat.le_of_ble_eq_true rfl | exact lt_len0 rfl | exact lt_len1 rfl); conv => whnf)
        refine callP_of (hcr) ?_
        conv => whnf
        repeat (refine And.intro ?_ ?_; (first | (with_reducible show okR _ _ _ _ = true; kernel_rfl) | (with_reducible show addC _ _ _ = _; kernel_rfl) | rfl | trivial | kernel_rfl | omega | exact Nat.le_of_ble_eq_true rfl | exact lt_len0 rfl | exact lt_len1 rfl); conv => whnf)
        refine inI (by omega) (by omega) ?_
        conv => whnf
        repeat (refine And.intro ?_ ?_; (first | (with_reducible show okR _ _ _ _ = true; kernel_rfl) | (with_reducible show addC _ _ _ = _; kernel_rfl) | rfl | trivial | kernel_rfl | omega | exact Nat.le_of_ble_eq_true rfl | exact lt_len0 rfl | exact lt_len1 rfl); conv => whnf)
        refine ⟨j + 1, by omega, by omega, weakTo_cov ?_ ?_⟩
        · conv => whnf
          repeat (refine And.intro ?_ ?_; (first | exact rfl | exact Or.inl rfl | exact congrArg (SV.int .i64) (by first | rfl | omega | (simp; done) | (simp; omega))); conv => whnf)
          exact trivial
        · conv => whnf
          repeat (refine And.intro ?_ ?_; (first | exact rfl | exact Or.inl rfl | exact congrArg (SV.int .i64) (by first | rfl | omega | (simp; done) | (simp; omega))); conv => whnf)
          exact trivial
      · conv => whnf
        repeat (refine And.intro ?_ ?_; (first | (with_reducible show okR _ _ _ _ = true; kernel_rfl) | (with_reducible show addC _ _ _ = _; kernel_rfl) | rfl | trivial | kernel_rfl | omega | exact Nat.le_of_ble_eq_true rfl | exact lt_len0 rfl | exact lt_len1 rfl); conv => whnf)
        refine inI (by omega) (by omega) ?_
        conv => whnf
        repeat (refine And.intro ?_ ?_; (first | (with_reducible show okR _ _ _ _ = true; kernel_rfl) | (with_reducible show addC _ _ _ = _; kernel_rfl) | rfl | trivial | kernel_rfl | omega | exact Nat.le_of_ble_eq_true rfl | exact lt_len0 rfl | exact lt_len1 rfl); conv => whnf)
        refine ⟨k + 1, by omega, by omega, weakTo_cov ?_ ?_⟩
        · conv => whnf
          repeat (refine And.intro ?_ ?_; (first | exact rfl | exact Or.inl rfl | exact congrArg (SV.int .i64) (by first | rfl | omega | (simp; done) | (simp; omega))); conv => whnf)
          exact trivial
        · conv => whnf
          repeat (refine And.intro ?_ ?_; (first | exact rfl | exact Or.inl rfl | exact congrArg (SV.int .i64) (by first | rfl | omega | (simp; done) | (simp; omega))); conv => whnf)
          exact trivial
    · conv => whnf
      repeat (refine And.intro ?_ ?_; (first | (with_reducible show okR _ _ _ _ = true; kernel_rfl) | (with_reducible show addC _ _ _ = _; kernel_rfl) | rfl | trivial | kernel_rfl | omega | exact Nat.le_of_ble_eq_true rfl | exact lt_len0 rfl | exact lt_len1 rfl); conv => whnf)
      refine callP_of (awake_pure) ?_
      conv => whnf
      repeat (refine And.intro ?_ ?_; (first | (with_reducible show okR _ _ _ _ = true; kernel_rfl) | (with_reducible show addC _ _ _ = _; kernel_rfl) | rfl | trivial | kernel_rfl | omega | exact Nat.le_of_ble_eq_true rfl | exact lt_len0 rfl | exact lt_len1 rfl); conv => whnf)
end Go.Proofs.Yticandbdabgkeaa.Am
