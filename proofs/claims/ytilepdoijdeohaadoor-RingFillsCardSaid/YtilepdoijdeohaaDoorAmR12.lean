/- The contract of the reference's cleaning of a ring. No condition: definitions and lemmas. -/
import Derived.Test.YtilepdoijdeohaaDoorAmR11
namespace Go.Proofs.YtilepdoijdeohaaDoor.Am
open Go
set_option maxRecDepth 100000

/-- The number of gaps. -/
def gapsOf (l : List Rd) : Nat := (l.filter fun x => !x.ok).length

theorem seekN_self (l : List Rd) (at_ : Nat) (step : Int) (h : ∀ i, okAt l i = true → i = at_) : ∀ f j, seekN l at_ step f j = at_
  | 0, _ => rfl
  | f + 1, j => by
    rw [seekN]
    split
    · rename_i h1; exact h _ h1
    · exact seekN_self l at_ step h f (j + 1)

theorem pos_ne {n at_ : Nat} {step : Int} (hs : step = 1 ∨ step = -1) (ha : at_ < n) {j : Nat} (h1 : 1 ≤ j) (h2 : j < n) : pos n at_ step j ≠ at_ := fun e => by
  have h := pos_cast (n := n) (at_ := at_) (step := step) (j := j) (by omega)
  rw [e] at h
  have hd : ((n : Int)) ∣ step * j := by
    have hat : (at_ : Int) % n = at_ := Int.emod_eq_of_lt (by omega) (by omega)
    have h3 : ((at_ : Int) + step * j - at_) % n = 0 := by
      rw [Int.sub_emod, ← h, hat, Int.sub_self, Int.zero_emod]
    rw [show (at_ : Int) + step * j - at_ = step * j by omega] at h3
    exact Int.dvd_of_emod_eq_zero h3
  have hd2 : ((n : Int)) ∣ (j : Int) := by
    rcases hs with rfl | rfl
    · simpa using hd
    · have : (-1 : Int) * j = -(j : Int) := by omega
      rw [this] at hd
      exact Int.dvd_neg.1 hd
  have := Int.le_of_dvd (by omega) hd2
  omega

theorem seekN_other {l : List Rd} {at_ : Nat} {step : Int} (hs : step = 1 ∨ step = -1) (ha : at_ < l.length) {j0 : Nat} (h0 : j0 < l.length) (hok : okAt l (pos l.length at_ step j0) = true) :
    ∀ f j, 1 ≤ j → j ≤ j0 → j0 < j + f → seekN l at_ step f j ≠ at_
  | 0, j, _, h1, h2 => by omega
  | f + 1, j, hj, h1, h2 => by
    rw [seekN]
    split
    · exact pos_ne hs ha hj (by omega)
    · rename_i hno
      have hne : j ≠ j0 := fun e => hno (by rw [e]; exact hok)
      exact seekN_other hs ha h0 hok f (j + 1) (by omega) (by omega) (by omega)

theorem pos_reach {n at_ i : Nat} {step : Int} (hs : step = 1 ∨ step = -1) (ha : at_ < n) (hi : i < n) (hne : i ≠ at_) : ∃ j, 1 ≤ j ∧ j < n ∧ pos n at_ step j = i := by
  have key : ∀ j : Nat, 1 ≤ j → j < n → ((at_ : Int) + step * j) % n = i → ∃ j, 1 ≤ j ∧ j < n ∧ pos n at_ step j = i := fun j h1 h2 h3 => by
    refine ⟨j, h1, h2, ?_⟩
    have := pos_cast (n := n) (at_ := at_) (step := step) (j := j) (by omega)
    omega
  rcases hs with rfl | rfl
  · rcases Nat.lt_or_ge at_ i with h | h
    · exact key (i - at_) (by omega) (by omega) (by rw [show (at_ : Int) + 1 * ((i - at_ : Nat) : Int) = i by omega]; exact Int.emod_eq_of_lt (by omega) (by omega))
    · exact key (n + i - at_) (by omega) (by omega) (by rw [show (at_ : Int) + 1 * ((n + i - at_ : Nat) : Int) = i + n by omega, Int.add_emod_right]; exact Int.emod_eq_of_lt (by omega) (by omega))
  · rcases Nat.lt_or_ge i at_ with h | h
    · exact key (at_ - i) (by omega) (by omega) (by rw [show (at_ : Int) + -1 * ((at_ - i : Nat) : Int) = i by omega]; exact Int.emod_eq_of_lt (by omega) (by omega))
    · exact key (n + at_ - i) (by omega) (by omega) (by rw [show (at_ : Int) + -1 * ((n + at_ - i : Nat) : Int) = i - n by omega, Int.sub_emod_right]; exact Int.emod_eq_of_lt (by omega) (by omega))

theorem okAt_lt {l : List Rd} {i : Nat} (h : okAt l i = true) : i < l.length := by
  rcases Nat.lt_or_ge i l.length with h1 | h1
  · exact h1
  · simp [okAt, List.getElem?_eq_none h1] at h

theorem nbrN_other {l : List Rd} {at_ i : Nat} {step : Int} (hs : step = 1 ∨ step = -1) (ha : at_ < l.length) (hok : okAt l i = true) (hne : i ≠ at_) : nbrN l at_ step ≠ at_ := by
  obtain ⟨j, h1, h2, h3⟩ := pos_reach hs ha (okAt_lt hok) hne
  exact seekN_other hs ha h2 (by rw [h3]; exact hok) _ _ (by omega) h1 (by omega)

def okCount : List Rd → Nat
  | [] => 0
  | x :: r => (if x.ok = true then 1 else 0) + okCount r
theorem okCount_gaps : ∀ l : List Rd, okCount l + gapsOf l = l.length
  | [] => rfl
  | x :: r => by
    have := okCount_gaps r
    unfold gapsOf at *
    cases h : x.ok <;> simp [okCount, h] <;> omega
theorem ok_one : ∀ {l : List Rd}, 1 ≤ okCount l → ∃ i, okAt l i = true
  | [], h => by simp [okCount] at h
  | x :: r, h => by
    cases hx : x.ok with
    | true => exact ⟨0, by simp [okAt, hx]⟩
    | false =>
      obtain ⟨i, hi⟩ := ok_one (l := r) (by simpa [okCount, hx] using h)
      exact ⟨i + 1, by simpa [okAt] using hi⟩
theorem ok_two : ∀ {l : List Rd}, 2 ≤ okCount l → ∀ a, ∃ i, i ≠ a ∧ okAt l i = true
  | [], h, _ => by simp [okCount] at h
  | x :: r, h, a => by
    cases hx : x.ok with
    | true =>
      rcases Nat.eq_zero_or_pos a with ha | ha
      · obtain ⟨i, hi⟩ := ok_one (l := r) (by simp [okCount, hx] at h; omega)
        exact ⟨i + 1, by omega, by simpa [okAt] using hi⟩
      · exact ⟨0, by omega, by simp [okAt, hx]⟩
    | false =>
      obtain ⟨i, hi, hk⟩ := ok_two (l := r) (by simpa [okCount, hx] using h) (a - 1)
      rcases Nat.eq_zero_or_pos a with ha | ha
      · exact ⟨i + 1, by omega, by simpa [okAt] using hk⟩
      · exact ⟨i + 1, by omega, by simpa [okAt] using hk⟩
theorem ok_count1 : ∀ {l : List Rd} {i : Nat}, okAt l i = true → 1 ≤ okCount l
  | [], i, h => by simp [okAt] at h
  | x :: r, 0, h => by simp [okAt] at h; simp [okCount, h]
  | x :: r, i + 1, h => by have := ok_count1 (l := r) (i := i) (by simpa [okAt] using h); simp only [okCount]; omega
theorem ok_count2 : ∀ {l : List Rd} {i j : Nat}, i ≠ j → okAt l i = true → okAt l j = true → 2 ≤ okCount l
  | [], i, j, _, h, _ => by simp [okAt] at h
  | x :: r, 0, 0, h, _, _ => absurd rfl h
  | x :: r, 0, j + 1, _, h, k => by
    have := ok_count1 (l := r) (i := j) (by simpa [okAt] using k)
    simp [okAt] at h
    simp [okCount, h]; omega
  | x :: r, i + 1, 0, _, h, k => by
    have := ok_count1 (l := r) (i := i) (by simpa [okAt] using h)
    simp [okAt] at k
    simp [okCount, k]; omega
  | x :: r, i + 1, j + 1, hne, h, k => by
    have := ok_count2 (l := r) (i := i) (j := j) (by omega) (by simpa [okAt] using h) (by simpa [okAt] using k)
    simp only [okCount]; omega

/-- Where few readings are there, none is an outlier. -/
theorem few_out {l : List Rd} {at_ : Nat} (ha : at_ < l.length) (limit : Int) (h : l.length - gapsOf l < 2) : outN l at_ limit = false := by
  have hc := okCount_gaps l
  cases hok : (rdAt l at_).ok with
  | false => simp [outN, hok]
  | true =>
    have hat : okAt l at_ = true := by rw [okAt_get (rdAt_get ha)]; exact hok
    have hself : ∀ i, okAt l i = true → i = at_ := fun i hi => by
      rcases Nat.decEq i at_ with hne | he
      · have := ok_count2 hne hi hat; omega
      · exact he
    have : nbrN l at_ (-1) = at_ := seekN_self l at_ (-1) hself _ _
    simp [outN, outStep, this]
end Go.Proofs.YtilepdoijdeohaaDoor.Am
