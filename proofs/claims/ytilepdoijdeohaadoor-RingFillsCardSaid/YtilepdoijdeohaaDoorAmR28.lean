/- Between which readings a repaired point lies: plain lemmas. No condition: definitions and lemmas. -/
import Derived.Test.YtilepdoijdeohaaDoorAmR25
namespace Go.Proofs.YtilepdoijdeohaaDoor.Am
open Go

/-- How far a gap's neighbors are. -/
theorem fill_dists {l : List Rd} {k : Nat} (hk : k < l.length) (hgap : okAt l k = false) (h2 : 2 ≤ okCount l) :
    ∃ b d : Nat, 1 ≤ b ∧ 1 ≤ d ∧ b + d < l.length ∧ ((k : Int) - nbrN l k (-1) + l.length) % l.length = b ∧ ((nbrN l k 1 : Int) - nbrN l k (-1) + l.length) % l.length = b + d := by
  obtain ⟨i, hi1, hi2⟩ := ok_two h2 k
  obtain ⟨d, d1, d2, d3, d4, d5⟩ := nbrN_spec (step := 1) (.inl rfl) hk hi2 hi1
  obtain ⟨b, b1, b2, b3, b4, b5⟩ := nbrN_spec (step := -1) (.inr rfl) hk hi2 hi1
  have hne := nbrs_ne hk hgap h2
  have hpos : pos l.length k 1 (l.length - b) = pos l.length k (-1) b := by
    rcases Nat.lt_or_ge k b with h | h
    · rw [pos_fwd (by omega), pos_backwrap hk (by omega) h]
      omega
    · rw [pos_wrap hk (by omega) (by omega), pos_back hk h]
      omega
  have hlt : b + d < l.length := by
    rcases Nat.lt_trichotomy d (l.length - b) with h | h | h
    · omega
    · rw [d3, b3, h, hpos] at hne
      exact absurd rfl hne
    · have := d5 (l.length - b) (by omega) h
      rw [hpos, b4] at this
      cases this
  refine ⟨b, d, b1, d1, hlt, ?_, ?_⟩
  · rw [b3]
    rcases Nat.lt_or_ge k b with h | h
    · rw [pos_backwrap hk (by omega) h, show ((k : Int) - ((k + l.length - b : Nat) : Int) + l.length) = b by omega]
      exact Int.emod_eq_of_lt (by omega) (by omega)
    · rw [pos_back hk h, show ((k : Int) - ((k - b : Nat) : Int) + l.length) = b + l.length by omega, Int.add_emod_right]
      exact Int.emod_eq_of_lt (by omega) (by omega)
  · rw [b3, d3]
    rcases Nat.lt_or_ge k b with h | h
    · rw [pos_backwrap hk (by omega) h, pos_fwd (by omega), show (((k + d : Nat) : Int) - ((k + l.length - b : Nat) : Int) + l.length) = b + d by omega]
      exact Int.emod_eq_of_lt (by omega) (by omega)
    · rw [pos_back hk h]
      rcases Nat.lt_or_ge (k + d) l.length with g | g
      · rw [pos_fwd g, show (((k + d : Nat) : Int) - ((k - b : Nat) : Int) + l.length) = b + d + l.length by omega, Int.add_emod_right]
        exact Int.emod_eq_of_lt (by omega) (by omega)
      · rw [pos_wrap hk (by omega) g, show (((k + d - l.length : Nat) : Int) - ((k - b : Nat) : Int) + l.length) = b + d by omega]
        exact Int.emod_eq_of_lt (by omega) (by omega)

theorem between {pa pb D1 D2 lo hi : Int} (h1 : 0 ≤ D1) (h2 : D1 ≤ D2) (h3 : 0 < D2) (ha : lo ≤ pa ∧ pa ≤ hi) (hb : lo ≤ pb ∧ pb ≤ hi) : lo ≤ pa + (pb - pa) * D1 / D2 ∧ pa + (pb - pa) * D1 / D2 ≤ hi := by
  rcases Int.le_total pa pb with h | h
  · have m0 : 0 ≤ (pb - pa) * D1 := Int.mul_nonneg (by omega) h1
    have m1 : (pb - pa) * D1 ≤ (pb - pa) * D2 := Int.mul_le_mul_of_nonneg_left h2 (by omega)
    have q0 := Int.ediv_nonneg m0 (show 0 ≤ D2 by omega)
    have q1 := Int.ediv_le_of_le_mul h3 m1
    omega
  · have m0 : (pb - pa) * D1 ≤ 0 * D2 := by
      rw [Int.zero_mul]
      exact Int.mul_nonpos_of_nonpos_of_nonneg (by omega) h1
    have m1 : (pb - pa) * D2 ≤ (pb - pa) * D1 := Int.mul_le_mul_of_nonpos_left (by omega) h2
    have q0 := Int.ediv_le_of_le_mul h3 m0
    have q1 := (Int.le_ediv_iff_mul_le h3).2 m1
    omega

/-- A repaired point lies within all bounds of the readings. -/
theorem fill_within {l : List Rd} (h2 : 2 ≤ okCount l) {lo hi : XY} (hb : ∀ i, i < l.length → (rdAt l i).ok = true → (lo.x ≤ (rdAt l i).p.x ∧ (rdAt l i).p.x ≤ hi.x) ∧ lo.y ≤ (rdAt l i).p.y ∧ (rdAt l i).p.y ≤ hi.y) {k : Nat} (hk : k < l.length) :
    (lo.x ≤ (fillN l k).x ∧ (fillN l k).x ≤ hi.x) ∧ lo.y ≤ (fillN l k).y ∧ (fillN l k).y ≤ hi.y := by
  unfold fillN
  by_cases hok : (rdAt l k).ok = true
  · rw [if_pos hok]
    exact hb k hk hok
  · rw [if_neg hok]
    have hgap : okAt l k = false := by rw [okAt_rdAt hk]; simpa using hok
    obtain ⟨b, d, b1, d1, hlt, e1, e2⟩ := fill_dists hk hgap h2
    obtain ⟨i, hi1, hi2⟩ := ok_two h2 k
    have ha := nbrN_lt l k (-1) hk
    have hc := nbrN_lt l k 1 hk
    have oka := nbrN_ok (step := -1) (.inr rfl) hk hi2 hi1
    have okc := nbrN_ok (step := 1) (.inl rfl) hk hi2 hi1
    rw [okAt_rdAt ha] at oka
    rw [okAt_rdAt hc] at okc
    have b1 := hb _ ha oka
    have b2 := hb _ hc okc
    rw [e1, e2]
    exact ⟨between (by omega) (by omega) (by omega) b1.1 b2.1, between (by omega) (by omega) (by omega) b1.2 b2.2⟩

theorem all_ok : ∀ {l : List Rd}, okCount l = l.length → ∀ i, i < l.length → okAt l i = true
  | x :: l, h, 0, _ => by
    have := okCount_gaps l
    unfold okCount at h
    cases hx : x.ok with
    | true => simpa [okAt] using hx
    | false => rw [hx] at h; simp at h; omega
  | x :: l, h, i + 1, hi => by
    have hg := okCount_gaps l
    have : okCount l = l.length := by
      unfold okCount at h
      split at h <;> simp at h <;> omega
    have := all_ok this i (by simpa using hi)
    simpa [okAt] using this
  | [], _, _, hi => by simp at hi
theorem gap_one {l : List Rd} (h : 0 < gapsOf l) : ∃ i, i < l.length ∧ okAt l i = false := by
  unfold gapsOf at h
  obtain ⟨x, hx⟩ := List.exists_mem_of_length_pos h
  obtain ⟨h1, h2⟩ := List.mem_filter.1 hx
  obtain ⟨i, hi⟩ := List.mem_iff_getElem?.1 h1
  exact ⟨i, (List.getElem?_eq_some_iff.1 hi).1, by rw [okAt_get hi]; simpa using h2⟩
theorem most_zero {l : List Rd} (h : gapsOf l = 0) : mostTo l l.length = 0 := by
  have hc := okCount_gaps l
  have := mostTo_ub (l := l) (M := 0) (k := l.length) fun i hi hf => by
    rw [all_ok (by omega) i hi] at hf
    cases hf
  omega
theorem most_pos {l : List Rd} (h : 0 < gapsOf l) : 0 < mostTo l l.length := by
  obtain ⟨i, hi, hf⟩ := gap_one h
  refine Nat.lt_of_lt_of_le ?_ (mostTo_ge hi hf)
  exact runF_ge l i l.length 0 1 (Nat.zero_le _) (by omega) fun j _ hj => by
    obtain rfl : j = 0 := by omega
    rw [Nat.add_zero, Nat.mod_eq_of_lt hi]
    exact hf
theorem most_le (l : List Rd) : mostTo l l.length ≤ l.length := mostTo_ub fun i _ _ => by have := runF_le l i l.length 0; unfold runN; omega

/-- The repaired ring. -/
def fullN (r : Rg) : Rg := ⟨r.z, (List.range r.l.length).map fun i => ⟨fillN r.l i, true⟩⟩
theorem fullN_length (r : Rg) : (fullN r).l.length = r.l.length := by simp [fullN]
theorem fullN_gaps (r : Rg) : gapsOf (fullN r).l = 0 := by
  simp [gapsOf, fullN, List.filter_map]
theorem Okay.full {r : Rg} (ho : Okay r) (h2 : 2 ≤ okCount r.l) : Okay (fullN r) := by
  refine ⟨by rw [fullN_length]; exact ho.low, by rw [fullN_length]; exact ho.high, ho.z0, ho.z1, fun x hx => ?_⟩
  obtain ⟨i, hi, rfl⟩ := List.mem_map.1 hx
  have := fill_within h2 (lo := ⟨-600, -600⟩) (hi := ⟨600, 600⟩) (fun j hj _ => by
    have := rd_range (ho.rd _ (rdAt_mem hj))
    exact ⟨⟨this.1, this.2.1⟩, this.2.2⟩) (List.mem_range.1 hi)
  exact rdErr_mk ⟨this.1.1, this.1.2, this.2⟩
theorem fill_full {r : Rg} {i : Nat} (hi : i < r.l.length) : fillN (fullN r).l i = fillN r.l i := by
  have e : rdAt (fullN r).l i = ⟨fillN r.l i, true⟩ := rdAt_range hi
  rw [fillN, e, if_pos rfl]

theorem repair_ok {r : Rg} (ho : Okay r) (most : Int) : repairErr r most = 0 ↔ 3 ≤ okCount r.l ∧ (gapsOf r.l = 0 ∨ mostTo r.l r.l.length ≤ most) := by
  have hc := okCount_gaps r.l
  have h0 := check_okay.2 ho
  unfold repairErr
  rw [if_neg (by omega)]
  constructor
  · intro h
    by_cases hb : (r.l.length : Int) - gapsOf r.l < 3 ∨ (most < mostTo r.l r.l.length ∧ 0 < mostTo r.l r.l.length)
    · rw [if_pos hb] at h
      omega
    · rcases Nat.eq_zero_or_pos (gapsOf r.l) with hg | hg
      · exact ⟨by omega, .inl hg⟩
      · have := most_pos hg
        exact ⟨by omega, .inr (by omega)⟩
  · rintro ⟨h1, h2⟩
    rw [if_neg]
    rcases h2 with h2 | h2
    · rw [most_zero h2]; omega
    · omega
theorem repair_err {r : Rg} (ho : Okay r) (most : Int) : repairErr r most = 0 ∨ repairErr r most = 30 := by
  have h0 := check_okay.2 ho
  unfold repairErr
  rw [if_neg (by omega)]
  split
  · exact .inr rfl
  · exact .inl rfl
theorem repair_eq {r : Rg} {most : Int} (h : repairErr r most = 0) : repairN r most = (List.range r.l.length).map (fillN r.l) := by
  rw [repairN, if_neg (by omega)]
theorem repair_full {r : Rg} (ho : Okay r) (h3 : 3 ≤ okCount r.l) : repairErr (fullN r) 0 = 0 ∧ repairN (fullN r) 0 = (List.range r.l.length).map (fillN r.l) := by
  have hg := fullN_gaps r
  have hl := fullN_length r
  have hc := okCount_gaps (fullN r).l
  have hlow := ho.low
  have h := (repair_ok (ho.full (by omega)) 0).2 ⟨by omega, .inl hg⟩
  refine ⟨h, ?_⟩
  rw [repair_eq h, hl]
  exact List.map_congr_left fun i hi => fill_full (List.mem_range.1 hi)
theorem repair_more {r : Rg} (ho : Okay r) (h3 : 3 ≤ okCount r.l) : repairErr r 32 = 0 := by
  have := most_le r.l
  have := ho.high
  exact (repair_ok ho 32).2 ⟨h3, .inr (by omega)⟩
end Go.Proofs.YtilepdoijdeohaaDoor.Am
