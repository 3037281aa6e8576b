/- The contracts of the chord of points, the reference's. No condition: definitions and lemmas. -/
import Derived.Test.YticandbdabgkeaaAmP11
namespace Go.Proofs.Yticandbdabgkeaa.Am
open Go
set_option maxRecDepth 100000

theorem emod_le_selfP {a b : Int} (hb : 0 < b) (ha : 0 ≤ a) : a % b ≤ a := by
  have e1 := Int.emod_add_mul_ediv a b
  have e2 := Int.mul_nonneg (show 0 ≤ b by omega) (Int.ediv_nonneg ha (show 0 ≤ b by omega))
  omega

theorem reffloor_pure (a b : Int) (hb : 0 < b) (h1 : -1000000000000000 ≤ a) (h2 : a ≤ 1000000000000000) : Pure Try.prog G0 64 [.i a, .i b] (.i (a / b)) := by
  have hd := tdiv_floorP a b hb
  have hr := div_bound hb h1 h2 (by omega)
  have hw : IntKind.i64.wrap (a.tdiv b) = a.tdiv b := wrap_in (by show (-9223372036854775808 : Int) ≤ _; omega) (by show _ ≤ (9223372036854775807 : Int); omega)
  have he : a.tdiv b * b + a.tmod b = a := by have := Int.mul_tdiv_add_tmod a b; rw [Int.mul_comm]; exact this
  have hsm : -2000000000000000 ≤ a.tdiv b * b ∧ a.tdiv b * b ≤ 2000000000000000 := by
    have hm : a.tmod b ≤ 0 ∧ a ≤ a.tmod b ∨ 0 ≤ a.tmod b ∧ a.tmod b ≤ a := by
      rcases Int.lt_or_le a 0 with ha | ha
      · left
        have h2 : a.tmod b = -((-a) % b) := by
          have : a = -(-a) := by omega
          rw [show a.tmod b = (-(-a)).tmod b by rw [← this], Int.neg_tmod, Int.tmod_eq_emod_of_nonneg (by omega)]
        have e2 := Int.emod_nonneg (-a) (b := b) (by omega)
        have e3 := emod_le_selfP (a := -a) hb (by omega)
        omega
      · right
        rw [Int.tmod_eq_emod_of_nonneg ha]
        have e2 := Int.emod_nonneg a (b := b) (by omega)
        have e3 := emod_le_selfP hb ha
        omega
    omega
  refine pure_of mixed Try.func64 rfl rfl (Nat.le_of_ble_eq_true rfl) ?_
  conv => whnf
  repeat (refine And.intro ?_ ?_; (first | (with_reducible show okR _ _ _ _ = true; kernel_rfl) | (with_reducible show addC _ _ _ = _; kernel_rfl) | rfl | trivial | kernel_rfl | omega | exact Nat.le_of_ble_eq_true rfl | exact lt_len0 rfl | exact lt_len1 rfl); conv => whnf)
  rw [hw]
  refine inI (n := a.tdiv b * b) (by omega) (by omega) ?_
  conv => whnf
  repeat (refine And.intro ?_ ?_; (first | (with_reducible show okR _ _ _ _ = true; kernel_rfl) | (with_reducible show addC _ _ _ = _; kernel_rfl) | rfl | trivial | kernel_rfl | omega | exact Nat.le_of_ble_eq_true rfl | exact lt_len0 rfl | exact lt_len1 rfl); conv => whnf)
  refine ifD (fun h => ?_) (fun h => ?_) <;> try dsimp only at h
  · conv => whnf
    repeat (refine And.intro ?_ ?_; (first | (with_reducible show okR _ _ _ _ = true; kernel_rfl) | (with_reducible show addC _ _ _ = _; kernel_rfl) | rfl | trivial | kernel_rfl | omega | exact Nat.le_of_ble_eq_true rfl | exact lt_len0 rfl | exact lt_len1 rfl); conv => whnf)
    refine inI (by omega) (by omega) ?_
    conv => whnf
    repeat (refine And.intro ?_ ?_; (first | (with_reducible show okR _ _ _ _ = true; kernel_rfl) | (with_reducible show addC _ _ _ = _; kernel_rfl) | rfl | trivial | kernel_rfl | omega | exact Nat.le_of_ble_eq_true rfl | exact lt_len0 rfl | exact lt_len1 rfl); conv => whnf)
    omega
  · conv => whnf
    repeat (refine And.intro ?_ ?_; (first | (with_reducible show okR _ _ _ _ = true; kernel_rfl) | (with_reducible show addC _ _ _ = _; kernel_rfl) | rfl | trivial | kernel_rfl | omega | exact Nat.le_of_ble_eq_true rfl | exact lt_len0 rfl | exact lt_len1 rfl); conv => whnf)
    omega

def accR (y : Int) : List (XY × XY) → Int → Int → Int × Int
  | [], lo, hi => (lo, hi)
  | e :: r, lo, hi =>
    if 0 < e.2.y - e.1.y then accR y r lo (min hi (e.1.x + (e.2.x - e.1.x) * (y - e.1.y) / (e.2.y - e.1.y)))
    else if e.2.y - e.1.y < 0 then accR y r (max lo (e.1.x - (e.2.x - e.1.x) * (y - e.1.y) / (-(e.2.y - e.1.y)))) hi
    else if (e.2.x - e.1.x) * (y - e.1.y) < 0 then (1, 0) else accR y r lo hi

theorem refacross_pure (h : List XY) (hl : h.length ≤ 1000000) (hin : ∀ p ∈ h, p.In) (y : Int) (hy1 : -600 ≤ y) (hy2 : y ≤ 600) :
    Pure Try.prog G0 53 [.sl 2 (h.map eP), .i y] (.tup [.i (accR y (edgesN h) (-600) 600).1, .i (accR y (edgesN h) (-600) 600).2]) := by
  generalize hP : accR y (edgesN h) (-600) 600 = P
  refine pure_of mixed Try.func53 rfl rfl (Nat.le_of_ble_eq_true rfl) ?_
  conv => whnf
  repeat (refine And.intro ?_ ?_; (first | (with_reducible show okR _ _ _ _ = true; kernel_rfl) | (with_reducible show addC _ _ _ = _; kernel_rfl) | rfl | trivial | kernel_rfl | omega | exact Nat.le_of_ble_eq_true rfl | exact lt_len0 rfl | exact lt_len1 rfl); conv => whnf)
  refine loop_rule mixed (ι := Nat × Int × Int) (fun i s => match i with | (k, a, b) => [(0, .sl 2 (h.map eP)), (1, .i y), (6, .i a), (7, .i b), (8, .i k)]) (fun i s => []) (fun i => i.1 ≤ h.length ∧ accR y ((edgesN h).drop i.1) i.2.1 i.2.2 = P) (fun i => h.length - i.1) (0, -600, 600) ⟨by show 0 ≤ _; omega, hP⟩ (weakTo_cov ?_ ?_) fun i hk s ct => ?_
  · conv => whnf
    repeat (refine And.intro ?_ ?_; (first | exact rfl | exact Or.inl rfl | exact congrArg (SV.int .i64) (by first | rfl | omega | (simp; done) | (simp; omega))); conv => whnf)
    exact trivial
  · conv => whnf
    repeat (refine And.intro ?_ ?_; (first | exact rfl | exact Or.inl rfl | exact congrArg (SV.int .i64) (by first | rfl | omega | (simp; done) | (simp; omega))); conv => whnf)
    exact trivial
  obtain ⟨k, a, b⟩ := i
  obtain ⟨hk, hk2⟩ := hk
  simp only at hk hk2
  conv => whnf
  repeat (refine And.intro ?_ ?_; (first | (with_reducible show okR _ _ _ _ = true; kernel_rfl) | (with_reducible show addC _ _ _ = _; kernel_rfl) | rfl | trivial | kernel_rfl | omega | exact Nat.le_of_ble_eq_true rfl | exact lt_len0 rfl | exact lt_len1 rfl); conv => whnf)
  refine ifD (fun h3 => ?_) (fun h3 => ?_) <;> try dsimp only at h3
  · rw [List.length_map] at h3
    have hkl : k < h.length := by omega
    have hx : (h.map eP)[(k : Int).toNat]? = some (eP (nth h k)) := get_map (nth_get2 hkl)
    obtain ⟨a1, a2, a3, a4⟩ := hin _ (nth_mem hkl)
    obtain ⟨b1, b2, b3, b4⟩ := hin _ (nth_mem (l := h) (i := (k + 1) % h.length) (Nat.mod_lt _ (by omega)))
    have hnx : nxt h k = nth h ((k + 1) % h.length) := rfl
    have hng : (h.map eP)[(((k + 1 : Nat) : Int).tmod ((h.map eP).length : Nat)).toNat]? = some (eP (nxt h k)) := next_map hkl rfl
    rw [← hnx] at b1 b2 b3 b4
    rw [drop_cons (edges_get hkl)] at hk2
    generalize hS : nth h k = S at *
    generalize hT : nxt h k = T at *
    have m1 := @mulD (T.x - S.x) (y - S.y) (by omega) (by omega) (by omega) (by omega)
    conv => whnf
    repeat (refine And.intro ?_ ?_; (first | (with_reducible show okR _ _ _ _ = true; kernel_rfl) | (with_reducible show addC _ _ _ = _; kernel_rfl) | rfl | trivial | kernel_rfl | omega | exact Nat.le_of_ble_eq_true rfl | exact lt_len0 rfl | exact lt_len1 rfl); conv => whnf)
    refine ⟨_, hx, ?_⟩
    conv => whnf
    repeat (refine And.intro ?_ ?_; (first | (with_reducible show okR _ _ _ _ = true; kernel_rfl) | (with_reducible show addC _ _ _ = _; kernel_rfl) | rfl | trivial | kernel_rfl | omega | exact Nat.le_of_ble_eq_true rfl | exact lt_len0 rfl | exact lt_len1 rfl); conv => whnf)
    refine inI (by omega) (by omega) ?_
    conv => whnf
    repeat (refine And.intro ?_ ?_; (first | (with_reducible show okR _ _ _ _ = true; kernel_rfl) | (with_reducible show addC _ _ _ = _; kernel_rfl) | rfl | trivial | kernel_rfl | omega | exact Nat.le_of_ble_eq_true rfl | exact lt_len0 rfl | exact lt_len1 rfl); conv => whnf)
    refine And.intro (by rw [List.length_map]; omega) ?_
    conv => whnf
    repeat (refine And.intro ?_ ?_; (first | (with_reducible show okR _ _ _ _ = true; kernel_rfl) | (with_reducible show addC _ _ _ = _; kernel_rfl) | rfl | trivial | kernel_rfl | omega | exact Nat.le_of_ble_eq_true rfl | exact lt_len0 rfl | exact lt_len1 rfl); conv => whnf)
    refine And.intro (Int.tmod_nonneg _ (by omega)) ?_
    conv => whnf
    repeat (refine And.intro ?_ ?_; (first | (with_reducible show okR _ _ _ _ = true; kernel_rfl) | (with_reducible show addC _ _ _ = _; kernel_rfl) | rfl | trivial | kernel_rfl | omega | exact Nat.le_of_ble_eq_true rfl | exact lt_len0 rfl | exact lt_len1 rfl); conv => whnf)
    refine ⟨_, hng, ?_⟩
    conv => whnf
    repeat (refine And.intro ?_ ?_; (first | (with_reducible show okR _ _ _ _ = true; kernel_rfl) | (with_reducible show addC _ _ _ = _; kernel_rfl) | rfl | trivial | kernel_rfl | omega | exact Nat.le_of_ble_eq_true rfl | exact lt_len0 rfl | exact lt_len1 rfl); conv => whnf)
    refine inI (by omega) (by omega) ?_
    conv => whnf
    repeat (refine And.intro ?_ ?_; (first | (with_reducible show okR _ _ _ _ = true; kernel_rfl) | (with_reducible show addC _ _ _ = _; kernel_rfl) | rfl | trivial | kernel_rfl | omega | exact Nat.le_of_ble_eq_true rfl | exact lt_len0 rfl | exact lt_len1 rfl); conv => whnf)
    refine inI (by omega) (by omega) ?_
    conv => whnf
    repeat (refine And.intro ?_ ?_; (first | (with_reducible show okR _ _ _ _ = true; kernel_rfl) | (with_reducible show addC _ _ _ = _; kernel_rfl) | rfl | trivial | kernel_rfl | omega | exact Nat.le_of_ble_eq_true rfl | exact lt_len0 rfl | exact lt_len1 rfl); conv => whnf)
    refine inI (by omega) (by omega) ?_
    conv => whnf
    repeat (refine And.intro ?_ ?_; (first | (with_reducible show okR _ _ _ _ = true; kernel_rfl) | (with_reducible show addC _ _ _ = _; kernel_rfl) | rfl | trivial | kernel_rfl | omega | exact Nat.le_of_ble_eq_true rfl | exact lt_len0 rfl | exact lt_len1 rfl); conv => whnf)
    refine inI (by omega) (by omega) ?_
    conv => whnf
    repeat (refine And.intro ?_ ?_; (first | (with_reducible show okR _ _ _ _ = true; kernel_rfl) | (with_reducible show addC _ _ _ = _; kernel_rfl) | rfl | trivial | kernel_rfl | omega | exact Nat.le_of_ble_eq_true rfl | exact lt_len0 rfl | exact lt_len1 rfl); conv => whnf)
    refine ifD (fun h4 => ?_) (fun h4 => ?_) <;> try dsimp only at h4
    · have f1 := @div_bound ((T.x - S.x) * (y - S.y)) (T.y - S.y) 1440000 h4 (by omega) (by omega) (by omega)
      conv => whnf
      repeat (refine And.intro ?_ ?_; (first | (with_reducible show okR _ _ _ _ = true; kernel_rfl) | (with_reducible show addC _ _ _ = _; kernel_rfl) | rfl | trivial | kernel_rfl | omega | exact Nat.le_of_ble_eq_true rfl | exact lt_len0 rfl | exact lt_len1 rfl); conv => whnf)
      refine callP_of (reffloor_pure ((T.x - S.x) * (y - S.y)) (T.y - S.y) h4 (by omega) (by omega)) ?_
      conv => whnf
      repeat (refine And.intro ?_ ?_; (first | (with_reducible show okR _ _ _ _ = true; kernel_rfl) | (with_reducible show addC _ _ _ = _; kernel_rfl) | rfl | trivial | kernel_rfl | omega | exact Nat.le_of_ble_eq_true rfl | exact lt_len0 rfl | exact lt_len1 rfl); conv => whnf)
      refine inI (by omega) (by omega) ?_
      conv => whnf
      repeat (refine And.intro ?_ ?_; (first | (with_reducible show okR _ _ _ _ = true; kernel_rfl) | (with_reducible show addC _ _ _ = _; kernel_rfl) | rfl | trivial | kernel_rfl | omega | exact Nat.le_of_ble_eq_true rfl | exact lt_len0 rfl | exact lt_len1 rfl); conv => whnf)
      refine inI (by omega) (by omega) ?_
      conv => whnf
      repeat (refine And.intro ?_ ?_; (first | (with_reducible show okR _ _ _ _ = true; kernel_rfl) | (with_reducible show addC _ _ _ = _; kernel_rfl) | rfl | trivial | kernel_rfl | omega | exact Nat.le_of_ble_eq_true rfl | exact lt_len0 rfl | exact lt_len1 rfl); conv => whnf)
      refine ⟨(k + 1, a, min b (S.x + (T.x - S.x) * (y - S.y) / (T.y - S.y))), ⟨by show k + 1 ≤ _; omega, ?_⟩, by show h.length - (k + 1) < h.length - k; omega, weakTo_cov ?_ ?_⟩
      · rw [accR, if_pos h4] at hk2; exact hk2
      · conv => whnf
        repeat (refine And.intro ?_ ?_; (first | exact rfl | exact Or.inl rfl | exact congrArg (SV.int .i64) (by first | rfl | omega | (simp; done) | (simp; omega))); conv => whnf)
        exact trivial
      · conv => whnf
        repeat (refine And.intro ?_ ?_; (first | exact rfl | exact Or.inl rfl | exact congrArg (SV.int .i64) (by first | rfl | omega | (simp; done) | (simp; omega))); conv => whnf)
        exact trivial
    · conv => whnf
      repeat (refine And.intro ?_ ?_; (first | (with_reducible show okR _ _ _ _ = true; kernel_rfl) | (with_reducible show addC _ _ _ = _; kernel_rfl) | rfl | trivial | kernel_rfl | omega | exact Nat.le_of_ble_eq_true rfl | exact lt_len0 rfl | exact lt_len1 rfl); conv => whnf)
      refine ifD (fun h5 => ?_) (fun h5 => ?_) <;> try dsimp only at h5
      · have f1 := @div_bound ((T.x - S.x) * (y - S.y)) (-(T.y - S.y)) 1440000 (by omega) (by omega) (by omega) (by omega)
        conv => whnf
        repeat (refine And.intro ?_ ?_; (first | (with_reducible show okR _ _ _ _ = true; kernel_rfl) | (with_reducible show addC _ _ _ = _; kernel_rfl) | rfl | trivial | kernel_rfl | omega | exact Nat.le_of_ble_eq_true rfl | exact lt_len0 rfl | exact lt_len1 rfl); conv => whnf)
        refine inI (by omega) (by omega) ?_
        conv => whnf
        repeat (refine And.intro ?_ ?_; (first | (with_reducible show okR _ _ _ _ = true; kernel_rfl) | (with_reducible show addC _ _ _ = _; kernel_rfl) | rfl | trivial | kernel_rfl | omega | exact Nat.le_of_ble_eq_true rfl | exact lt_len0 rfl | exact lt_len1 rfl); conv => whnf)
        refine callP_of (reffloor_pure ((T.x - S.x) * (y - S.y)) (-(T.y - S.y)) (by omega) (by omega) (by omega)) ?_
        conv => whnf
        repeat (refine And.intro ?_ ?_; (first | (with_reducible show okR _ _ _ _ = true; kernel_rfl) | (with_reducible show addC _ _ _ = _; kernel_rfl) | rfl | trivial | kernel_rfl | omega | exact Nat.le_of_ble_eq_true rfl | exact lt_len0 rfl | exact lt_len1 rfl); conv => whnf)
        refine inI (by omega) (by omega) ?_
        conv => whnf
        repeat (refine And.intro ?_ ?_; (first | (with_reducible show okR _ _ _ _ = true; kernel_rfl) | (with_reducible show addC _ _ _ = _; kernel_rfl) | rfl | trivial | kernel_rfl | omega | exact Nat.le_of_ble_eq_true rfl | exact lt_len0 rfl | exact lt_len1 rfl); conv => whnf)
        refine inI (by omega) (by omega) ?_
        conv => whnf
        repeat (refine And.intro ?_ ?_; (first | (with_reducible show okR _ _ _ _ = true; kernel_rfl) | (with_reducible show addC _ _ _ = _; kernel_rfl) | rfl | trivial | kernel_rfl | omega | exact Nat.le_of_ble_eq_true rfl | exact lt_len0 rfl | exact lt_len1 rfl); conv => whnf)
        refine ⟨(k + 1, max a (S.x - (T.x - S.x) * (y - S.y) / (-(T.y - S.y))), b), ⟨by show k + 1 ≤ _; omega, ?_⟩, by show h.length - (k + 1) < h.length - k; omega, weakTo_cov ?_ ?_⟩
        · rw [accR, if_neg h4, if_pos h5] at hk2; exact hk2
        · conv => whnf
          repeat (refine And.intro ?_ ?_; (first | exact rfl | exact Or.inl rfl | exact congrArg (SV.int .i64) (by first | rfl | omega | (simp; done) | (simp; omega))); conv => whnf)
          exact trivial
        · conv => whnf
          repeat (refine And.intro ?_ ?_; (first | exact rfl | exact Or.inl rfl | exact congrArg (SV.int .i64) (by first | rfl | omega | (simp; done) | (simp; omega))); conv => whnf)
          exact trivial
      · conv => whnf
        repeat (refine And.intro ?_ ?_; (first | (with_reducible show okR _ _ _ _ = true; kernel_rfl) | (with_reducible show addC _ _ _ = _; kernel_rfl) | rfl | trivial | kernel_rfl | omega | exact Nat.le_of_ble_eq_true rfl | exact lt_len0 rfl | exact lt_len1 rfl); conv => whnf)
        refine ifD (fun h6 => ?_) (fun h6 => ?_) <;> try dsimp only at h6
        · conv => whnf
          repeat (refine And.intro ?_ ?_; (first | (with_reducible show okR _ _ _ _ = true; kernel_rfl) | (with_reducible show addC _ _ _ = _; kernel_rfl) | rfl | trivial | kernel_rfl | omega | exact Nat.le_of_ble_eq_true rfl | exact lt_len0 rfl | exact lt_len1 rfl); conv => whnf)
          rw [accR, if_neg h4, if_neg h5, if_pos h6] at hk2
          rw [← hk2]
          conv => whnf
          repeat (refine And.intro ?_ ?_; (first | exact rfl | exact Or.inl rfl | exact congrArg (SV.int .i64) (by first | rfl | omega | (simp; done) | (simp; omega))); conv => whnf)
          exact trivial
        · conv => whnf
          repeat (refine And.intro ?_ ?_; (first | (with_reducible show okR _ _ _ _ = true; kernel_rfl) | (with_reducible show addC _ _ _ = _; kernel_rfl) | rfl | trivial | kernel_rfl | omega | exact Nat.le_of_ble_eq_true rfl | exact lt_len0 rfl | exact lt_len1 rfl); conv => whnf)
          refine inI (by omega) (by omega) ?_
          conv => whnf
          repeat (refine And.intro ?_ ?_; (first | (with_reducible show okR _ _ _ _ = true; kernel_rfl) | (with_reducible show addC _ _ _ = _; kernel_rfl) | rfl | trivial | kernel_rfl | omega | exact Nat.le_of_ble_eq_true rfl | exact lt_len0 rfl | exact lt_len1 rfl); conv => whnf)
          refine ⟨(k + 1, a, b), ⟨by show k + 1 ≤ _; omega, ?_⟩, by show h.length - (k + 1) < h.length - k; omega, weakTo_cov ?_ ?_⟩
          · rw [accR, if_neg h4, if_neg h5, if_neg h6] at hk2; exact hk2
          · conv => whnf
            repeat (refine And.intro ?_ ?_; (first | exact rfl | exact Or.inl rfl | exact congrArg (SV.int .i64) (by first | rfl | omega | (simp; done) | (simp; omega))); conv => whnf)
            exact trivial
          · conv => whnf
            repeat (refine And.intro ?_ ?_; (first | exact rfl | exact Or.inl rfl | exact congrArg (SV.int .i64) (by first | rfl | omega | (simp; done) | (simp; omega))); conv => whnf)
            exact trivial
  · rw [List.length_map] at h3
    rw [List.drop_eq_nil_of_le (by rw [edges_len]; omega)] at hk2
    have hab : P = (a, b) := hk2.symm
    rw [hab]
    conv => whnf
    repeat (refine And.intro ?_ ?_; (first | (with_reducible show okR _ _ _ _ = true; kernel_rfl) | (with_reducible show addC _ _ _ = _; kernel_rfl) | rfl | trivial | kernel_rfl | omega | exact Nat.le_of_ble_eq_true rfl | exact lt_len0 rfl | exact lt_len1 rfl); conv => whnf)
    exact trivial

def chordR (l : List XY) (low high : Int) : Int × Int :=
  if (hullN l).length = 0 ∨ low ≥ high ∨ low < -600 ∨ high > 600 then (0, 0)
  else if (accR low (edgesN (hullN l)) (-600) 600).1 > (accR low (edgesN (hullN l)) (-600) 600).2 ∨ (accR high (edgesN (hullN l)) (-600) 600).1 > (accR high (edgesN (hullN l)) (-600) 600).2 then (0, 0)
  else spanOf (accR low (edgesN (hullN l)) (-600) 600) (accR high (edgesN (hullN l)) (-600) 600)

theorem hullN_in (l : List XY) : ∀ x ∈ hullN l, x.In := fun x h => by
  by_cases hc : compN l = true
  · rw [hullN, if_pos hc, hullS] at h
    split at h
    · cases h
    · rcases List.mem_append.1 h with h | h
      · exact ((compN_iff l).1 hc).all x (sortedN_sub l x (chainN_sub _ x ((List.dropLast_sublist _).subset h)))
      · exact ((compN_iff l).1 hc).all x (sortedN_sub l x (by have := chainN_sub _ x ((List.dropLast_sublist _).subset h); simpa using this))
  · rw [hullN, if_neg hc] at h; cases h
theorem hullN_len (l : List XY) : (hullN l).length ≤ 64 := by
  by_cases hc : compN l = true
  · have hf := ((compN_iff l).1 hc).few
    rw [hullN, if_pos hc, hullS]
    split
    · simp
    · have h1 := chainN_len (sortedN l)
      have h2 := chainN_len (sortedN l).reverse
      have h3 := sortedN_len l
      rw [List.length_reverse] at h2
      rw [List.length_append, List.length_dropLast, List.length_dropLast]
      omega
  · rw [hullN, if_neg hc]; simp

theorem refchord_pure (l : List XY) (hl : l.length ≤ 1000000) (low high : Int) : Pure Try.prog G0 27 [.sl 2 (l.map eP), .i low, .i high] (.agg (eSp (chordR l low high))) := by
  have hin := hullN_in l
  have hlen := hullN_len l
  have hhl := refhull_pure l hl
  have hch : chordR l low high = if (hullN l).length = 0 ∨ low ≥ high ∨ low < -600 ∨ high > 600 then (0, 0)
    else if (accR low (edgesN (hullN l)) (-600) 600).1 > (accR low (edgesN (hullN l)) (-600) 600).2 ∨ (accR high (edgesN (hullN l)) (-600) 600).1 > (accR high (edgesN (hullN l)) (-600) 600).2 then (0, 0)
    else spanOf (accR low (edgesN (hullN l)) (-600) 600) (accR high (edgesN (hullN l)) (-600) 600) := rfl
  rw [hch]
  generalize hullN l = h at *
  have hml : (h.map eP).length = h.length := List.length_map ..
  refine stop_pure Try.func27 rfl rfl (Nat.le_of_ble_eq_true rfl) ?_
  refine stop_seq mixed ?_
  conv => whnf
  repeat (refine And.intro ?_ ?_; (first | (with_reducible show okR _ _ _ _ = true; kernel_rfl) | (with_reducible show addC _ _ _ = _; kernel_rfl) | rfl | trivial | kernel_rfl | omega | exact Nat.le_of_ble_eq_true rfl | exact lt_len0 rfl | exact lt_len1 rfl); conv => whnf)
  refine stop_seq mixed ?_
  conv => whnf
  repeat (refine And.intro ?_ ?_; (first | (with_reducible show okR _ _ _ _ = true; kernel_rfl) | (with_reducible show addC _ _ _ = _; kernel_rfl) | rfl | trivial | kernel_rfl | omega | exact Nat.le_of_ble_eq_true rfl | exact lt_len0 rfl | exact lt_len1 rfl); conv => whnf)
  refine callP_of (hhl) ?_
  conv => whnf
  repeat (refine And.intro ?_ ?_; (first | (with_reducible show okR _ _ _ _ = true; kernel_rfl) | (with_reducible show addC _ _ _ = _; kernel_rfl) | rfl | trivial | kernel_rfl | omega | exact Nat.le_of_ble_eq_true rfl | exact lt_len0 rfl | exact lt_len1 rfl); conv => whnf)
  refine stop_to (fun s => [(1, .i low), (2, .i high), (6, .lptr 6 (s 6) 0 0), (7, .sl 2 (h.map eP))]) (fun s => [(6, ⟨s 6, 0, 2, [[.i 0, .i 0]]⟩)]) (weakTo_cov ?_ ?_) fun s ct => ?_
  · conv => whnf
    repeat (refine And.intro ?_ ?_; (first | exact rfl | exact Or.inl rfl | exact congrArg (SV.int .i64) (by first | rfl | omega | (simp; done) | (simp; omega))); conv => whnf)
    exact trivial
  · conv => whnf
    repeat (refine And.intro ?_ ?_; (first | exact rfl | exact Or.inl rfl | exact congrArg (SV.int .i64) (by first | rfl | omega | (simp; done) | (simp; omega))); conv => whnf)
    exact trivial
  refine stop_seq mixed ?_
  conv => whnf
  repeat (refine And.intro ?_ ?_; (first | (with_reducible show okR _ _ _ _ = true; kernel_rfl) | (with_reducible show addC _ _ _ = _; kernel_rfl) | rfl | trivial | kernel_rfl | omega | exact Nat.le_of_ble_eq_true rfl | exact lt_len0 rfl | exact lt_len1 rfl); conv => whnf)
  refine ifD (fun h1 => ?_) (fun h1 => ?_) <;> try dsimp only at h1
  · conv => whnf
    repeat (refine And.intro ?_ ?_; (first | (with_reducible show okR _ _ _ _ = true; kernel_rfl) | (with_reducible show addC _ _ _ = _; kernel_rfl) | rfl | trivial | kernel_rfl | omega | exact Nat.le_of_ble_eq_true rfl | exact lt_len0 rfl | exact lt_len1 rfl); conv => whnf)
    rw [if_pos (.inl (by omega))]
    conv => whnf
    repeat (refine And.intro ?_ ?_; (first | exact rfl | exact Or.inl rfl | exact congrArg (SV.int .i64) (by first | rfl | omega | (simp; done) | (simp; omega))); conv => whnf)
    exact trivial
  conv => whnf
  repeat (refine And.intro ?_ ?_; (first | (with_reducible show okR _ _ _ _ = true; kernel_rfl) | (with_reducible show addC _ _ _ = _; kernel_rfl) | rfl | trivial | kernel_rfl | omega | exact Nat.le_of_ble_eq_true rfl | exact lt_len0 rfl | exact lt_len1 rfl); conv => whnf)
  refine ifD (fun h2 => ?_) (fun h2 => ?_) <;> try dsimp only at h2
  · conv => whnf
    repeat (refine And.intro ?_ ?_; (first | (with_reducible show okR _ _ _ _ = true; kernel_rfl) | (with_reducible show addC _ _ _ = _; kernel_rfl) | rfl | trivial | kernel_rfl | omega | exact Nat.le_of_ble_eq_true rfl | exact lt_len0 rfl | exact lt_len1 rfl); conv => whnf)
    rw [if_pos (.inr (.inl h2))]
    conv => whnf
    repeat (refine And.intro ?_ ?_; (first | exact rfl | exact Or.inl rfl | exact congrArg (SV.int .i64) (by first | rfl | omega | (simp; done) | (simp; omega))); conv => whnf)
    exact trivial
  conv => whnf
  repeat (refine And.intro ?_ ?_; (first | (with_reducible show okR _ _ _ _ = true; kernel_rfl) | (with_reducible show addC _ _ _ = _; kernel_rfl) | rfl | trivial | kernel_rfl | omega | exact Nat.le_of_ble_eq_true rfl | exact lt_len0 rfl | exact lt_len1 rfl); conv => whnf)
  refine ifD (fun h3 => ?_) (fun h3 => ?_) <;> try dsimp only at h3
  · conv => whnf
    repeat (refine And.intro ?_ ?_; (first | (with_reducible show okR _ _ _ _ = true; kernel_rfl) | (with_reducible show addC _ _ _ = _; kernel_rfl) | rfl | trivial | kernel_rfl | omega | exact Nat.le_of_ble_eq_true rfl | exact lt_len0 rfl | exact lt_len1 rfl); conv => whnf)
    rw [if_pos (.inr (.inr (.inl h3)))]
    conv => whnf
    repeat (refine And.intro ?_ ?_; (first | exact rfl | exact Or.inl rfl | exact congrArg (SV.int .i64) (by first | rfl | omega | (simp; done) | (simp; omega))); conv => whnf)
    exact trivial
  conv => whnf
  repeat (refine And.intro ?_ ?_; (first | (with_reducible show okR _ _ _ _ = true; kernel_rfl) | (with_reducible show addC _ _ _ = _; kernel_rfl) | rfl | trivial | kernel_rfl | omega | exact Nat.le_of_ble_eq_true rfl | exact lt_len0 rfl | exact lt_len1 rfl); conv => whnf)
  refine ifD (fun h4 => ?_) (fun h4 => ?_) <;> try dsimp only at h4
  · conv => whnf
    repeat (refine And.intro ?_ ?_; (first | (with_reducible show okR _ _ _ _ = true; kernel_rfl) | (with_reducible show addC _ _ _ = _; kernel_rfl) | rfl | trivial | kernel_rfl | omega | exact Nat.le_of_ble_eq_true rfl | exact lt_len0 rfl | exact lt_len1 rfl); conv => whnf)
    rw [if_pos (.inr (.inr (.inr h4)))]
    conv => whnf
    repeat (refine And.intro ?_ ?_; (first | exact rfl | exact Or.inl rfl | exact congrArg (SV.int .i64) (by first | rfl | omega | (simp; done) | (simp; omega))); conv => whnf)
    exact trivial
  rw [if_neg (by omega)]
  have c1 := refacross_pure h (by omega) hin low (by omega) (by omega)
  have c2 := refacross_pure h (by omega) hin high (by omega) (by omega)
  generalize accR low (edgesN h) (-600) 600 = p at *
  generalize accR high (edgesN h) (-600) 600 = q at *
  conv => whnf
  repeat (refine And.intro ?_ ?_; (first | (with_reducible show okR _ _ _ _ = true; kernel_rfl) | (with_reducible show addC _ _ _ = _; kernel_rfl) | rfl | trivial | kernel_rfl | omega | exact Nat.le_of_ble_eq_true rfl | exact lt_len0 rfl | exact lt_len1 rfl); conv => whnf)
  refine stop_to (fun s => [(1, .i low), (2, .i high), (6, .lptr 6 (s 6) 0 0), (7, .sl 2 (h.map eP))]) (fun s => [(6, ⟨s 6, 0, 2, [[.i 0, .i 0]]⟩)]) (weakTo_cov ?_ ?_) fun s ct => ?_
  · conv => whnf
    repeat (refine And.intro ?_ ?_; (first | exact rfl | exact Or.inl rfl | exact congrArg (SV.int .i64) (by first | rfl | omega | (simp; done) | (simp; omega))); conv => whnf)
    exact trivial
  · conv => whnf
    repeat (refine And.intro ?_ ?_; (first | exact rfl | exact Or.inl rfl | exact congrArg (SV.int .i64) (by first | rfl | omega | (simp; done) | (simp; omega))); conv => whnf)
    exact trivial
  refine stop_seq mixed ?_
  conv => whnf
  repeat (refine And.intro ?_ ?_; (first | (with_reducible show okR _ _ _ _ = true; kernel_rfl) | (with_reducible show addC _ _ _ = _; kernel_rfl) | rfl | trivial | kernel_rfl | omega | exact Nat.le_of_ble_eq_true rfl | exact lt_len0 rfl | exact lt_len1 rfl); conv => whnf)
  refine callP_of (c1) ?_
  conv => whnf
  repeat (refine And.intro ?_ ?_; (first | (with_reducible show okR _ _ _ _ = true; kernel_rfl) | (with_reducible show addC _ _ _ = _; kernel_rfl) | rfl | trivial | kernel_rfl | omega | exact Nat.le_of_ble_eq_true rfl | exact lt_len0 rfl | exact lt_len1 rfl); conv => whnf)
  refine stop_seq mixed ?_
  conv => whnf
  repeat (refine And.intro ?_ ?_; (first | (with_reducible show okR _ _ _ _ = true; kernel_rfl) | (with_reducible show addC _ _ _ = _; kernel_rfl) | rfl | trivial | kernel_rfl | omega | exact Nat.le_of_ble_eq_true rfl | exact lt_len0 rfl | exact lt_len1 rfl); conv => whnf)
  refine callP_of (c2) ?_
  conv => whnf
  repeat (refine And.intro ?_ ?_; (first | (with_reducible show okR _ _ _ _ = true; kernel_rfl) | (with_reducible show addC _ _ _ = _; kernel_rfl) | rfl | trivial | kernel_rfl | omega | exact Nat.le_of_ble_eq_true rfl | exact lt_len0 rfl | exact lt_len1 rfl); conv => whnf)
  refine stop_to (fun s => [(6, .lptr 6 (s 6) 0 0), (8, .i p.1), (9, .i p.2), (10, .i q.1), (11, .i q.2)]) (fun s => [(6, ⟨s 6, 0, 2, [[.i 0, .i 0]]⟩)]) (weakTo_cov ?_ ?_) fun s ct => ?_
  · conv => whnf
    repeat (refine And.intro ?_ ?_; (first | exact rfl | exact Or.inl rfl | exact congrArg (SV.int .i64) (by first | rfl | omega | (simp; done) | (simp; omega))); conv => whnf)
    exact trivial
  · conv => whnf
    repeat (refine And.intro ?_ ?_; (first | exact rfl | exact Or.inl rfl | exact congrArg (SV.int .i64) (by first | rfl | omega | (simp; done) | (simp; omega))); conv => whnf)
    exact trivial
  refine stop_go mixed ?_
  conv => whnf
  repeat (refine And.intro ?_ ?_; (first | (with_reducible show okR _ _ _ _ = true; kernel_rfl) | (with_reducible show addC _ _ _ = _; kernel_rfl) | rfl | trivial | kernel_rfl | omega | exact Nat.le_of_ble_eq_true rfl | exact lt_len0 rfl | exact lt_len1 rfl); conv => whnf)
  refine ifD (p := p.2 < p.1) (fun h5 => ?_) (fun h5 => ?_)
  · conv => whnf
    repeat (refine And.intro ?_ ?_; (first | (with_reducible show okR _ _ _ _ = true; kernel_rfl) | (with_reducible show addC _ _ _ = _; kernel_rfl) | rfl | trivial | kernel_rfl | omega | exact Nat.le_of_ble_eq_true rfl | exact lt_len0 rfl | exact lt_len1 rfl); conv => whnf)
    rw [if_pos (.inl h5)]
    conv => whnf
    repeat (refine And.intro ?_ ?_; (first | exact rfl | exact Or.inl rfl | exact congrArg (SV.int .i64) (by first | rfl | omega | (simp; done) | (simp; omega))); conv => whnf)
    exact trivial
  conv => whnf
  repeat (refine And.intro ?_ ?_; (first | (with_reducible show okR _ _ _ _ = true; kernel_rfl) | (with_reducible show addC _ _ _ = _; kernel_rfl) | rfl | trivial | kernel_rfl | omega | exact Nat.le_of_ble_eq_true rfl | exact lt_len0 rfl | exact lt_len1 rfl); conv => whnf)
  refine ifD (p := q.2 < q.1) (fun h6 => ?_) (fun h6 => ?_)
  · conv => whnf
    repeat (refine And.intro ?_ ?_; (first | (with_reducible show okR _ _ _ _ = true; kernel_rfl) | (with_reducible show addC _ _ _ = _; kernel_rfl) | rfl | trivial | kernel_rfl | omega | exact Nat.le_of_ble_eq_true rfl | exact lt_len0 rfl | exact lt_len1 rfl); conv => whnf)
    rw [if_pos (.inr h6)]
    conv => whnf
    repeat (refine And.intro ?_ ?_; (first | exact rfl | exact Or.inl rfl | exact congrArg (SV.int .i64) (by first | rfl | omega | (simp; done) | (simp; omega))); conv => whnf)
    exact trivial
  conv => whnf
  repeat (refine And.intro ?_ ?_; (first | (with_reducible show okR _ _ _ _ = true; kernel_rfl) | (with_reducible show addC _ _ _ = _; kernel_rfl) | rfl | trivial | kernel_rfl | omega | exact Nat.le_of_ble_eq_true rfl | exact lt_len0 rfl | exact lt_len1 rfl); conv => whnf)
  rw [if_neg (by omega)]
  refine ifD (p := min p.2 q.2 ≤ max p.1 q.1) (fun h7 => ?_) (fun h7 => ?_)
  · conv => whnf
    repeat (refine And.intro ?_ ?_; (first | (with_reducible show okR _ _ _ _ = true; kernel_rfl) | (with_reducible show addC _ _ _ = _; kernel_rfl) | rfl | trivial | kernel_rfl | omega | exact Nat.le_of_ble_eq_true rfl | exact lt_len0 rfl | exact lt_len1 rfl); conv => whnf)
    rw [spanOf, if_neg (by omega)]
    conv => whnf
    repeat (refine And.intro ?_ ?_; (first | exact rfl | exact Or.inl rfl | exact congrArg (SV.int .i64) (by first | rfl | omega | (simp; done) | (simp; omega))); conv => whnf)
    exact trivial
  · conv => whnf
    repeat (refine And.intro ?_ ?_; (first | (with_reducible show okR _ _ _ _ = true; kernel_rfl) | (with_reducible show addC _ _ _ = _; kernel_rfl) | rfl | trivial | kernel_rfl | omega | exact Nat.le_of_ble_eq_true rfl | exact lt_len0 rfl | exact lt_len1 rfl); conv => whnf)
    rw [spanOf, if_pos (by omega)]
    conv => whnf
    repeat (refine And.intro ?_ ?_; (first | exact rfl | exact Or.inl rfl | exact congrArg (SV.int .i64) (by first | rfl | omega | (simp; done) | (simp; omega))); conv => whnf)
    exact trivial
end Go.Proofs.Yticandbdabgkeaa.Am
