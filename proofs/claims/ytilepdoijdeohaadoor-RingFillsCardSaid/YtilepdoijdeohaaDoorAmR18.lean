/- What is repaired in a ring: plain lemmas. No condition: definitions and lemmas. -/
import Derived.Test.YtilepdoijdeohaaDoorAmR16
namespace Go.Proofs.YtilepdoijdeohaaDoor.Am
open Go
set_option maxRecDepth 100000

theorem tdiv_floor (a b : Int) (hb : 0 < b) : (a.tmod b < 0 ∧ a.tdiv b - 1 = a / b) ∨ (¬ a.tmod b < 0 ∧ a.tdiv b = a / b) := by
  rcases Int.lt_or_le a 0 with ha | ha
  · have h1 : a.tdiv b = -((-a) / b) := by
      have : a = -(-a) := by omega
      rw [show a.tdiv b = (-(-a)).tdiv b by rw [← this], Int.neg_tdiv, Int.tdiv_eq_ediv_of_nonneg (by omega)]
    have h2 : a.tmod b = -((-a) % b) := by
      have : a = -(-a) := by omega
      rw [show a.tmod b = (-(-a)).tmod b by rw [← this], Int.neg_tmod, Int.tmod_eq_emod_of_nonneg (by omega)]
    have e1 := Int.emod_add_mul_ediv (-a) b
    have e2 := Int.emod_nonneg (-a) (b := b) (by omega)
    have e3 := Int.emod_lt_of_pos (-a) hb
    rcases Int.lt_or_le 0 ((-a) % b) with h | h
    · left
      refine ⟨by omega, ?_⟩
      rw [h1]
      symm
      rw [Int.ediv_eq_iff_of_pos hb]
      have : (-((-a) / b) - 1) * b = -(b * ((-a) / b)) - b := by rw [Int.sub_mul, Int.neg_mul, Int.mul_comm]; omega
      constructor <;> omega
    · right
      refine ⟨by omega, ?_⟩
      rw [h1]
      symm
      rw [Int.ediv_eq_iff_of_pos hb]
      have : -((-a) / b) * b = -(b * ((-a) / b)) := by rw [Int.neg_mul, Int.mul_comm]
      constructor <;> omega
  · right
    rw [Int.tmod_eq_emod_of_nonneg ha, Int.tdiv_eq_ediv_of_nonneg ha]
    exact ⟨by have := Int.emod_nonneg a (b := b) (by omega); omega, rfl⟩

theorem floor_pure (a b : Int) (hb : 0 < b) (h1 : -1000000000000000 ≤ a) (h2 : a ≤ 1000000000000000) : Pure Tryd.prog G0 38 [.i a, .i b] (.i (a / b)) := by
  have hd := tdiv_floor a b hb
  have hr : -1000000000000000 ≤ a / b ∧ a / b ≤ 1000000000000000 := by
    constructor
    · exact (Int.le_ediv_iff_mul_le hb).2 (by omega)
    · rcases Int.lt_or_le a 0 with h | h
      · have := Int.ediv_neg_of_neg_of_pos h hb; omega
      · exact Int.le_trans (Int.ediv_le_self b h) h2
  have hw : IntKind.i64.wrap (a.tdiv b) = a.tdiv b := wrap_in (by show (-9223372036854775808 : Int) ≤ _; omega) (by show _ ≤ (9223372036854775807 : Int); omega)
  refine pure_of mixed Tryd.func38 rfl rfl (Nat.le_of_ble_eq_true rfl) ?_
  conv => whnf
  repeat (refine And.intro ?_ ?_; (first | (with_reducible show okR _ _ _ _ = true; kernel_rfl) | (with_reducible show addC _ _ _ = _; kernel_rfl) | rfl | trivial | kernel_rfl | omega | exact Nat.le_of_ble_eq_true rfl | exact lt_len0 rfl | exact lt_len1 rfl); conv => whnf)
  refine ifD (fun h => ?_) (fun h => ?_) <;> try dsimp only at h
  · conv => whnf
    repeat (refine And.intro ?_ ?_; (first | (with_reducible show okR _ _ _ _ = true; kernel_rfl) | (with_reducible show addC _ _ _ = _; kernel_rfl) | rfl | trivial | kernel_rfl | omega | exact Nat.le_of_ble_eq_true rfl | exact lt_len0 rfl | exact lt_len1 rfl); conv => whnf)
    rw [hw]
    refine inI (by omega) (by omega) ?_
    conv => whnf
    repeat (refine And.intro ?_ ?_; (first | (with_reducible show okR _ _ _ _ = true; kernel_rfl) | (with_reducible show addC _ _ _ = _; kernel_rfl) | rfl | trivial | kernel_rfl | omega | exact Nat.le_of_ble_eq_true rfl | exact lt_len0 rfl | exact lt_len1 rfl); conv => whnf)
    omega
  · conv => whnf
    repeat (refine And.intro ?_ ?_; (first | (with_reducible show okR _ _ _ _ = true; kernel_rfl) | (with_reducible show addC _ _ _ = _; kernel_rfl) | rfl | trivial | kernel_rfl | omega | exact Nat.le_of_ble_eq_true rfl | exact lt_len0 rfl | exact lt_len1 rfl); conv => whnf)
    rw [hw]
    omega

theorem few_pure (r : Rg) : Pure Tryd.prog G0 9 [eRg r] (.bool (decide (r.l.length ≤ 100))) := by
  refine pure_of mixed Tryd.func9 rfl rfl (Nat.le_of_ble_eq_true rfl) ?_
  conv => whnf
  repeat (refine And.intro ?_ ?_; (first | (with_reducible show okR _ _ _ _ = true; kernel_rfl) | (with_reducible show addC _ _ _ = _; kernel_rfl) | rfl | trivial | kernel_rfl | omega | exact Nat.le_of_ble_eq_true rfl | exact lt_len0 rfl | exact lt_len1 rfl); conv => whnf)
  rw [List.length_map, Bool.eq_iff_iff, decide_eq_true_iff, decide_eq_true_iff]
  omega
end Go.Proofs.YtilepdoijdeohaaDoor.Am
namespace Go.Proofs.YtilepdoijdeohaaDoor.Am
open Go

/-- The distance to the neighbor: no gap there, and gaps on the way. -/
theorem seekN_spec {l : List Rd} {at_ : Nat} {step : Int} : ∀ f j, (∃ d, j ≤ d ∧ d < j + f ∧ okAt l (pos l.length at_ step d) = true) →
    ∃ d, j ≤ d ∧ d < j + f ∧ seekN l at_ step f j = pos l.length at_ step d ∧ okAt l (pos l.length at_ step d) = true ∧ ∀ e, j ≤ e → e < d → okAt l (pos l.length at_ step e) = false
  | 0, j, ⟨d, h1, h2, _⟩ => by omega
  | f + 1, j, ⟨d, h1, h2, h3⟩ => by
    by_cases h : okAt l (pos l.length at_ step j) = true
    · exact ⟨j, Nat.le_refl _, by omega, by rw [seekN, if_pos h], h, fun e he1 he2 => by omega⟩
    · have hne : d ≠ j := fun e => h (by rw [← e]; exact h3)
      obtain ⟨d', g1, g2, g3, g4, g5⟩ := seekN_spec (l := l) (at_ := at_) (step := step) f (j + 1) ⟨d, by omega, by omega, h3⟩
      refine ⟨d', by omega, by omega, by rw [seekN, if_neg h]; exact g3, g4, fun e he1 he2 => ?_⟩
      by_cases hej : e = j
      · rw [hej]; simpa using h
      · exact g5 e (by omega) he2

theorem nbrN_spec {l : List Rd} {at_ i : Nat} {step : Int} (hs : step = 1 ∨ step = -1) (ha : at_ < l.length) (hi : okAt l i = true) (hne : i ≠ at_) :
    ∃ d, 1 ≤ d ∧ d < l.length ∧ nbrN l at_ step = pos l.length at_ step d ∧ okAt l (pos l.length at_ step d) = true ∧ ∀ e, 1 ≤ e → e < d → okAt l (pos l.length at_ step e) = false := by
  obtain ⟨j, h1, h2, h3⟩ := pos_reach hs ha (okAt_lt hi) hne
  obtain ⟨d, g1, g2, g3, g4, g5⟩ := seekN_spec (l := l) (at_ := at_) (step := step) l.length 1 ⟨j, h1, by omega, by rw [h3]; exact hi⟩
  refine ⟨d, g1, ?_, g3, g4, g5⟩
  rcases Nat.lt_or_ge j d with h | h
  · have := g5 j h1 h
    rw [h3, hi] at this
    cases this
  · omega
theorem nbrN_ok {l : List Rd} {at_ i : Nat} {step : Int} (hs : step = 1 ∨ step = -1) (ha : at_ < l.length) (hi : okAt l i = true) (hne : i ≠ at_) : okAt l (nbrN l at_ step) = true := by
  obtain ⟨d, _, _, h3, h4, _⟩ := nbrN_spec hs ha hi hne
  rw [h3]; exact h4

theorem pos_fwd {n at_ j : Nat} (h : at_ + j < n) : pos n at_ 1 j = at_ + j := by
  have : (pos n at_ 1 j : Int) = at_ + j := by
    rw [pos_cast (by omega), Int.one_mul]; exact Int.emod_eq_of_lt (by omega) (by omega)
  omega
theorem pos_wrap {n at_ j : Nat} (ha : at_ < n) (hj : j ≤ n) (h : n ≤ at_ + j) : pos n at_ 1 j = at_ + j - n := by
  have : (pos n at_ 1 j : Int) = at_ + j - n := by
    rw [pos_cast (by omega), Int.one_mul, ← Int.sub_emod_right]; exact Int.emod_eq_of_lt (by omega) (by omega)
  omega
theorem pos_back {n at_ j : Nat} (ha : at_ < n) (h : j ≤ at_) : pos n at_ (-1) j = at_ - j := by
  have : (pos n at_ (-1) j : Int) = at_ - j := by
    rw [pos_cast (by omega), show (at_ : Int) + -1 * j = at_ - j by omega]; exact Int.emod_eq_of_lt (by omega) (by omega)
  omega
theorem pos_backwrap {n at_ j : Nat} (ha : at_ < n) (hj : j ≤ n) (h : at_ < j) : pos n at_ (-1) j = at_ + n - j := by
  have : (pos n at_ (-1) j : Int) = at_ + n - j := by
    rw [pos_cast (by omega), show (at_ : Int) + -1 * j = at_ - j by omega, show ((at_ : Int) - j) % n = (at_ - j + n) % n from (Int.add_emod_right ..).symm, Int.emod_eq_of_lt (by omega) (by omega)]; omega
  omega

/-- With two readings, a gap's neighbors differ. -/
theorem nbrs_ne {l : List Rd} {at_ : Nat} (ha : at_ < l.length) (hgap : okAt l at_ = false) (h2 : 2 ≤ okCount l) : nbrN l at_ 1 ≠ nbrN l at_ (-1) := fun he => by
  obtain ⟨i, hi1, hi2⟩ := ok_two h2 at_
  obtain ⟨d, d1, d2, d3, d4, d5⟩ := nbrN_spec (step := 1) (.inl rfl) ha hi2 hi1
  obtain ⟨b, b1, b2, b3, b4, b5⟩ := nbrN_spec (step := -1) (.inr rfl) ha hi2 hi1
  obtain ⟨i3, hi3, hi4⟩ := ok_two h2 (pos l.length at_ 1 d)
  have hi5 := okAt_lt hi4
  have hne : i3 ≠ at_ := fun e => by rw [e, hgap] at hi4; cases hi4
  rw [d3, b3] at he
  obtain ⟨j, j1, j2, j3⟩ := pos_reach (step := 1) (.inl rfl) ha hi5 hne
  obtain ⟨m, m1, m2, m3⟩ := pos_reach (step := -1) (.inr rfl) ha hi5 hne
  have hjd : d < j := by
    rcases Nat.lt_trichotomy j d with h | h | h
    · have := d5 j j1 h; rw [j3, hi4] at this; cases this
    · rw [h] at j3; exact absurd j3.symm hi3
    · exact h
  have hmb : b < m := by
    rcases Nat.lt_trichotomy m b with h | h | h
    · have := b5 m m1 h; rw [m3, hi4] at this; cases this
    · rw [h] at m3; exact absurd (m3.symm.trans he.symm) hi3
    · exact h
  have sum : ∀ x y : Nat, 1 ≤ x → x < l.length → 1 ≤ y → y < l.length → pos l.length at_ 1 x = pos l.length at_ (-1) y → x + y = l.length := fun x y hx1 hx2 hy1 hy2 h => by
    rcases Nat.lt_or_ge (at_ + x) l.length with hx | hx
    · rw [pos_fwd hx] at h
      rcases Nat.lt_or_ge at_ y with hy | hy
      · rw [pos_backwrap ha (by omega) hy] at h; omega
      · rw [pos_back ha hy] at h; omega
    · rw [pos_wrap ha (by omega) hx] at h
      rcases Nat.lt_or_ge at_ y with hy | hy
      · rw [pos_backwrap ha (by omega) hy] at h; omega
      · rw [pos_back ha hy] at h; omega
  have s1 := sum d b d1 d2 b1 b2 he
  have s2 := sum j m j1 j2 m1 m2 (j3.trans m3.symm)
  omega
end Go.Proofs.YtilepdoijdeohaaDoor.Am
