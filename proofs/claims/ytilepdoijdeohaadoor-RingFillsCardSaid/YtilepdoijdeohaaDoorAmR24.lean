/- What turning and merging rings do: plain lemmas. No condition: definitions and lemmas. -/
import Derived.Test.YtilepdoijdeohaaDoorAmR22
namespace Go.Proofs.YtilepdoijdeohaaDoor.Am
open Go

theorem rdAt_map {l : List Rd} {f : Rd → Rd} {i : Nat} (h : i < l.length) : rdAt (l.map f) i = f (rdAt l i) := by
  unfold rdAt
  rw [List.getElem?_map, List.getElem?_eq_getElem h]
  rfl
theorem rdAt_range {n : Nat} {f : Nat → Rd} {i : Nat} (h : i < n) : rdAt ((List.range n).map f) i = f i := by
  unfold rdAt
  rw [List.getElem?_map, List.getElem?_range h]
  rfl
theorem rd_ext {l m : List Rd} (hl : l.length = m.length) (h : ∀ i, i < l.length → rdAt l i = rdAt m i) : l = m := by
  refine List.ext_getElem? fun i => ?_
  rcases Nat.lt_or_ge i l.length with hi | hi
  · rw [rdAt_get hi, rdAt_get (by omega), h i hi]
  · rw [List.getElem?_eq_none hi, List.getElem?_eq_none (by omega)]
theorem rdAt_mem {l : List Rd} {i : Nat} (h : i < l.length) : rdAt l i ∈ l := List.mem_of_getElem? (rdAt_get h)
theorem okAt_rdAt {l : List Rd} {i : Nat} (h : i < l.length) : okAt l i = (rdAt l i).ok := okAt_get (rdAt_get h)

theorem rdErr_mk {p : XY} (h : -600 ≤ p.x ∧ p.x ≤ 600 ∧ -600 ≤ p.y ∧ p.y ≤ 600) : rdErr ⟨p, true⟩ = 0 := by
  have h1 : (farN p.x || farN p.y) = false := by simp [farN]; omega
  simp [rdErr, h1]

/-- A reading, turned. -/
def turnRd (k : Nat) (x : Rd) : Rd := if x.ok = true then ⟨rotN k x.p, true⟩ else x
theorem turnRd_ok (k : Nat) (x : Rd) : (turnRd k x).ok = x.ok := by
  unfold turnRd
  split
  · rename_i h; rw [h]
  · rfl
theorem rotN_range {p : XY} (h : -600 ≤ p.x ∧ p.x ≤ 600 ∧ -600 ≤ p.y ∧ p.y ≤ 600) : ∀ k, -600 ≤ (rotN k p).x ∧ (rotN k p).x ≤ 600 ∧ -600 ≤ (rotN k p).y ∧ (rotN k p).y ≤ 600
  | 0 => h
  | k + 1 => by
    have := rotN_range h k
    rw [rotN]
    unfold rot
    simp only
    omega
theorem turnRd_err {k : Nat} {x : Rd} (h : rdErr x = 0) : rdErr (turnRd k x) = 0 := by
  unfold turnRd
  split
  · rename_i hk
    exact rdErr_mk (rotN_range ((rdErr_small h).1 hk) k)
  · exact h

theorem turnR_eq {r : Rg} (ho : Okay r) (q : Int) : turnR r q = ⟨r.z, r.l.map (turnRd (q % 4).toNat)⟩ := by
  have hc : decide (checkN r ≠ 0) = false := by simp [check_okay.2 ho]
  unfold turnR
  rw [hc]
  congr 1
  refine rd_ext (by simp) fun i hi => ?_
  have hi : i < r.l.length := by simpa using hi
  rw [rdAt_range hi, rdAt_map hi]
  unfold turn1N turnRd
  simp
theorem Okay.turn {r : Rg} (ho : Okay r) (q : Int) : Okay (turnR r q) := by
  rw [turnR_eq ho]
  refine ⟨by simpa using ho.low, by simpa using ho.high, ho.z0, ho.z1, fun x hx => ?_⟩
  obtain ⟨y, hy, rfl⟩ := List.mem_map.1 hx
  exact turnRd_err (ho.rd y hy)

theorem rotN_add (p : XY) (j : Nat) : ∀ k, rotN k (rotN j p) = rotN (j + k) p
  | 0 => rfl
  | k + 1 => by rw [rotN, rotN_add p j k, ← Nat.add_assoc, rotN]
theorem rotN_four (p : XY) : rotN 4 p = p := by
  obtain ⟨x, y⟩ := p
  simp [rotN, rot]
theorem tmod_four (q : Int) : q.tmod 4 = q % 4 ∨ q.tmod 4 = q % 4 - 4 := by
  rcases Int.lt_or_le q 0 with h | h
  · have e : q.tmod 4 = -((-q) % 4) := by
      rw [show q.tmod 4 = (-(-q)).tmod 4 by rw [Int.neg_neg], Int.neg_tmod, Int.tmod_eq_emod_of_nonneg (by omega)]
    omega
  · exact .inl (Int.tmod_eq_emod_of_nonneg h)
theorem turn_back {r : Rg} (ho : Okay r) (q : Int) : turnR (turnR r q) (3 * q.tmod 4) = r := by
  rw [turnR_eq (ho.turn q), turnR_eq ho]
  have hq : (q % 4).toNat + ((3 * q.tmod 4) % 4).toNat = 0 ∨ (q % 4).toNat + ((3 * q.tmod 4) % 4).toNat = 4 := by
    have h1 := tmod_four q
    omega
  have e : ∀ x : Rd, turnRd ((3 * q.tmod 4) % 4).toNat (turnRd (q % 4).toNat x) = x := fun x => by
    obtain ⟨p, ok⟩ := x
    cases ok with
    | false => rfl
    | true =>
      show (⟨rotN _ (rotN _ p), true⟩ : Rd) = _
      rw [rotN_add]
      rcases hq with hq | hq <;> rw [hq]
      · rfl
      · rw [rotN_four]
  simp only [List.map_map]
  rw [show ((turnRd ((3 * q.tmod 4) % 4).toNat) ∘ turnRd (q % 4).toNat) = id from funext e, List.map_id]

/-! ### Merging -/
structure Fit2 (u v : Rg) : Prop where
  a : Okay u
  b : Okay v
  z : u.z = v.z
  l : u.l.length = v.l.length
theorem merge_fit {a b : Rg} : mergeErr a b = 0 ↔ Fit2 a b := by
  unfold mergeErr
  constructor
  · intro h
    by_cases h1 : checkN a = 0
    · rw [if_neg (by omega)] at h
      by_cases h2 : checkN b = 0
      · rw [if_neg (by omega)] at h
        by_cases h3 : a.z ≠ b.z ∨ a.l.length ≠ b.l.length
        · rw [if_pos h3] at h; omega
        · exact ⟨check_okay.1 h1, check_okay.1 h2, by omega, by omega⟩
      · rw [if_pos h2] at h; omega
    · rw [if_pos h1] at h; omega
  · intro h
    rw [if_neg (by simp [check_okay.2 h.a]), if_neg (by simp [check_okay.2 h.b]), if_neg (by have := h.z; have := h.l; omega)]
theorem Fit2.eq {a b : Rg} (h : Fit2 a b) : mergeN a b = ⟨a.z, (List.range a.l.length).map (merge1N a b)⟩ := by
  unfold mergeN
  rw [if_neg (by simp [merge_fit.2 h])]
theorem Fit2.len {a b : Rg} (h : Fit2 a b) : (mergeN a b).l.length = a.l.length := by rw [h.eq]; simp
theorem Fit2.at {a b : Rg} (h : Fit2 a b) {i : Nat} (hi : i < a.l.length) : rdAt (mergeN a b).l i = if (rdAt a.l i).ok = true then rdAt a.l i else rdAt b.l i := by
  rw [h.eq]
  exact rdAt_range hi
theorem Fit2.okay {a b : Rg} (h : Fit2 a b) : Okay (mergeN a b) := by
  have hz : (mergeN a b).z = a.z := by rw [h.eq]
  refine ⟨by rw [h.len]; exact h.a.low, by rw [h.len]; exact h.a.high, by rw [hz]; exact h.a.z0, by rw [hz]; exact h.a.z1, fun x hx => ?_⟩
  rw [h.eq] at hx
  obtain ⟨i, hi, rfl⟩ := List.mem_map.1 hx
  have hi : i < a.l.length := by simpa using hi
  unfold merge1N
  split
  · exact h.a.rd _ (rdAt_mem hi)
  · exact h.b.rd _ (rdAt_mem (by rw [← h.l]; exact hi))
theorem Fit2.self {a : Rg} (h : Okay a) : Fit2 a a := ⟨h, h, rfl, rfl⟩
theorem merge_self {a : Rg} (h : Okay a) : mergeN a a = a := by
  have hf := Fit2.self h
  have e : (mergeN a a).l = a.l := rd_ext hf.len fun i hi => by
    rw [hf.at (by rw [← hf.len]; exact hi)]
    split <;> rfl
  have hz : (mergeN a a).z = a.z := by rw [hf.eq]
  cases hm : mergeN a a with
  | mk z l =>
    rw [hm] at e hz
    cases a
    simp_all
theorem Fit2.turn {a b : Rg} (h : Fit2 a b) (q : Int) : Fit2 (turnR a q) (turnR b q) :=
  ⟨h.a.turn q, h.b.turn q, by rw [turnR_eq h.a, turnR_eq h.b]; exact h.z, by rw [turnR_length, turnR_length]; exact h.l⟩
theorem merge_turn {a b : Rg} (h : Fit2 a b) (q : Int) : mergeN (turnR a q) (turnR b q) = turnR (mergeN a b) q := by
  have ht := h.turn q
  rw [ht.eq, turnR_eq h.okay]
  have hz : (turnR a q).z = (mergeN a b).z := by rw [h.eq, turnR_eq h.a]
  rw [hz]
  congr 1
  refine rd_ext (by simp [turnR_length, h.len]) fun i hi => ?_
  have hi : i < a.l.length := by simpa [turnR_length] using hi
  rw [rdAt_range (by rw [turnR_length]; exact hi), rdAt_map (by rw [h.len]; exact hi), h.at hi]
  unfold merge1N
  have ea : rdAt (turnR a q).l i = turnRd (q % 4).toNat (rdAt a.l i) := by rw [turnR_eq h.a]; exact rdAt_map hi
  have eb : rdAt (turnR b q).l i = turnRd (q % 4).toNat (rdAt b.l i) := by rw [turnR_eq h.b]; exact rdAt_map (by rw [← h.l]; exact hi)
  rw [ea, eb, turnRd_ok]
  split <;> rfl
theorem okCount_le : ∀ {l m : List Rd}, l.length = m.length → (∀ i, okAt l i = true → okAt m i = true) → okCount l ≤ okCount m
  | [], [], _, _ => Nat.le_refl _
  | x :: l, y :: m, hl, h => by
    have ih := okCount_le (l := l) (m := m) (by simpa using hl) fun i hi => by
      have := h (i + 1) (by simpa [okAt] using hi)
      simpa [okAt] using this
    have h0 := h 0
    simp only [okAt, List.getElem?_cons_zero] at h0
    unfold okCount
    cases hx : x.ok with
    | false => simp; omega
    | true => rw [h0 hx]; simp; omega
  | [], _ :: _, hl, _ => by simp at hl
  | _ :: _, [], hl, _ => by simp at hl
theorem Fit2.gaps {a b : Rg} (h : Fit2 a b) : gapsOf (mergeN a b).l ≤ gapsOf a.l := by
  have h1 := okCount_gaps a.l
  have h2 := okCount_gaps (mergeN a b).l
  rw [h.len] at h2
  have := okCount_le (l := a.l) (m := (mergeN a b).l) h.len.symm fun i hi => by
    have hlt := okAt_lt hi
    rw [okAt_rdAt hlt] at hi
    rw [okAt_rdAt (by rw [h.len]; exact hlt), h.at hlt, if_pos hi, hi]
  omega
end Go.Proofs.YtilepdoijdeohaaDoor.Am
