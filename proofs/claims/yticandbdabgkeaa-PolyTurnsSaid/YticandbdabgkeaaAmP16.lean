/- The program's order of points is the reference's; so is its hull. Plain law. -/
import Derived.Test.YticandbdabgkeaaAmP15
namespace Go.Proofs.Yticandbdabgkeaa.Am
open Go

theorem before_irr (a : XY) : before a a = false := by rw [before_false]; omega
theorem before_trans {a b c : XY} (h1 : before a b = true) (h2 : before b c = true) : before a c = true := by rw [before_iff] at *; omega
theorem before_asymm {a b : XY} (h1 : before a b = true) : before b a = false := by rw [before_iff] at h1; rw [before_false]; omega
theorem before_le_trans {a b c : XY} (h1 : before b a = false) (h2 : before b c = true) : before a c = true := by rw [before_false] at h1; rw [before_iff] at *; omega
theorem not_before_of {a b : XY} (h1 : before a b = false) (h2 : a ≠ b) : before b a = true := by
  cases h : before b a with
  | true => rfl
  | false => exact absurd (before_total a b h1 h) h2

/-- Strictly in order. -/
def Ord (l : List XY) : Prop := l.Pairwise fun a b => before a b = true

theorem ins_mem (x : XY) : ∀ (l : List XY) (z : XY), z ∈ ins x l ↔ z = x ∨ z ∈ l
  | [], z => by simp [ins]
  | y :: r, z => by
    rw [ins]
    split
    · rw [List.mem_cons, ins_mem x r z, List.mem_cons]
      constructor
      · rintro (h | h | h)
        · exact .inr (.inl h)
        · exact .inl h
        · exact .inr (.inr h)
      · rintro (h | h | h)
        · exact .inr (.inl h)
        · exact .inl h
        · exact .inr (.inr h)
    · split
      · rename_i h; subst h; simp
      · simp
theorem ins_ord (x : XY) : ∀ {l : List XY}, Ord l → Ord (ins x l)
  | [], _ => by simp [ins, Ord]
  | y :: r, h => by
    obtain ⟨h1, h2⟩ := List.pairwise_cons.1 h
    rw [ins]
    split
    · rename_i hb
      refine List.pairwise_cons.2 ⟨fun z hz => ?_, ins_ord x h2⟩
      rcases (ins_mem x r z).1 hz with rfl | hz
      · exact hb
      · exact h1 z hz
    · rename_i hb
      split
      · exact h
      · rename_i hne
        have hxy : before x y = true := not_before_of (by simpa using hb) (fun e => hne e)
        refine List.pairwise_cons.2 ⟨fun z hz => ?_, h⟩
        rcases List.mem_cons.1 hz with rfl | hz
        · exact hxy
        · exact before_trans hxy (h1 z hz)
theorem foldl_ins_mem : ∀ (l st : List XY) (z : XY), z ∈ l.foldl (fun st x => ins x st) st ↔ z ∈ st ∨ z ∈ l
  | [], st, z => by simp
  | x :: l, st, z => by
    rw [List.foldl_cons, foldl_ins_mem l _ z, ins_mem, List.mem_cons]
    constructor
    · rintro ((h | h) | h)
      · exact .inr (.inl h)
      · exact .inl h
      · exact .inr (.inr h)
    · rintro (h | h | h)
      · exact .inl (.inr h)
      · exact .inl (.inl h)
      · exact .inr h
theorem foldl_ins_ord : ∀ (l : List XY) {st : List XY}, Ord st → Ord (l.foldl (fun st x => ins x st) st)
  | [], _, h => h
  | x :: l, _, h => foldl_ins_ord l (ins_ord x h)
theorem sortedN_mem (l : List XY) (z : XY) : z ∈ sortedN l ↔ z ∈ l := by rw [sortedN, foldl_ins_mem]; simp
theorem sortedN_ord (l : List XY) : Ord (sortedN l) := foldl_ins_ord l List.Pairwise.nil

theorem ord_unique : ∀ {a b : List XY}, Ord a → Ord b → (∀ z, z ∈ a ↔ z ∈ b) → a = b
  | [], [], _, _, _ => rfl
  | [], y :: b, _, _, h => by have := (h y).2 (by simp); simp at this
  | x :: a, [], _, _, h => by have := (h x).1 (by simp); simp at this
  | x :: a, y :: b, ha, hb, h => by
    obtain ⟨ha1, ha2⟩ := List.pairwise_cons.1 ha
    obtain ⟨hb1, hb2⟩ := List.pairwise_cons.1 hb
    have hxy : x = y := by
      rcases List.mem_cons.1 ((h x).1 (by simp)) with e | hx
      · exact e
      · rcases List.mem_cons.1 ((h y).2 (by simp)) with e | hy
        · exact e.symm
        · have h1 := hb1 x hx
          have h2 := ha1 y hy
          rw [before_asymm h1] at h2
          cases h2
    subst hxy
    congr 1
    refine ord_unique ha2 hb2 fun z => ?_
    constructor
    · intro hz
      rcases List.mem_cons.1 ((h z).1 (by simp [hz])) with e | h'
      · have := ha1 z hz
        rw [e, before_irr] at this
        cases this
      · exact h'
    · intro hz
      rcases List.mem_cons.1 ((h z).2 (by simp [hz])) with e | h'
      · have := hb1 z hz
        rw [e, before_irr] at this
        cases this
      · exact h'

theorem sortS_le (l : List XY) : (sortS l).Pairwise fun a b => before b a = false := by
  have h := List.pairwise_mergeSort (le := fun x y => !before y x) (l := l)
    (fun a b c h1 h2 => by
      simp only [Bool.not_eq_true'] at *
      cases h : before c a with
      | false => rfl
      | true =>
        have := before_le_trans (a := b) (b := c) (c := a) h2 h
        rw [this] at h1; cases h1)
    (fun a b => by
      cases h1 : before b a with
      | false => simp
      | true => simp [before_asymm h1])
  exact h.imp fun h => by simpa using h
theorem nth_mono {l : List XY} (h : l.Pairwise fun a b => before b a = false) {i j : Nat} (hij : i ≤ j) (hj : j < l.length) : before (nth l j) (nth l i) = false := by
  rcases Nat.lt_or_eq_of_le hij with h1 | rfl
  · have hi := nth_getE (l := l) (i := i) (by omega)
    have hj' := nth_getE hj
    obtain ⟨q1, e1⟩ := List.getElem?_eq_some_iff.1 hi
    obtain ⟨q2, e2⟩ := List.getElem?_eq_some_iff.1 hj'
    have := List.pairwise_iff_getElem.1 h i j q1 q2 h1
    rw [e1, e2] at this
    exact this
  · exact before_irr _
/-- Without doubles: strictly in order, the same members. -/
theorem cmpTo_spec {l : List XY} (h : l.Pairwise fun a b => before b a = false) : ∀ k, k ≤ l.length → Ord (cmpTo l k) ∧ (∀ z, z ∈ cmpTo l k ↔ ∃ i, i < k ∧ z = nth l i) ∧ (∀ m, k = m + 1 → nth l m ∈ cmpTo l k)
  | 0, _ => ⟨by simp [cmpTo, Ord], fun z => by simp [cmpTo], fun m h => by omega⟩
  | k + 1, hk => by
    obtain ⟨h1, h2, h3⟩ := cmpTo_spec h k (by omega)
    rw [cmpTo]
    split
    · rename_i hc
      refine ⟨?_, fun z => ?_, fun m hm => by cases hm; simp⟩
      · refine List.pairwise_append.2 ⟨h1, List.pairwise_singleton _ _, fun a ha b hb => ?_⟩
        simp only [List.mem_singleton] at hb
        subst hb
        obtain ⟨i, hi, rfl⟩ := (h2 a).1 ha
        rcases hc with rfl | hne
        · omega
        · have ha1 := nth_mono h (i := k - 1) (j := k) (by omega) (by omega)
          have hb1 : before (nth l (k - 1)) (nth l k) = true := not_before_of ha1 hne
          exact before_le_trans (nth_mono h (i := i) (j := k - 1) (by omega) (by omega)) hb1
      · rw [List.mem_append, h2]
        constructor
        · rintro (⟨i, hi, e⟩ | hz)
          · exact ⟨i, by omega, e⟩
          · exact ⟨k, by omega, by simpa using hz⟩
        · rintro ⟨i, hi, e⟩
          rcases Nat.lt_or_eq_of_le (Nat.lt_succ_iff.1 hi) with h' | rfl
          · exact .inl ⟨i, h', e⟩
          · exact .inr (by simp [e])
    · rename_i hc
      have hk0 : k ≠ 0 := fun e => hc (.inl e)
      have he : nth l k = nth l (k - 1) := Classical.byContradiction fun hne => hc (.inr hne)
      have hin : nth l k ∈ cmpTo l k := by rw [he]; exact h3 (k - 1) (by omega)
      refine ⟨h1, fun z => ?_, fun m hm => by cases hm; exact hin⟩
      rw [h2]
      constructor
      · rintro ⟨i, hi, e⟩; exact ⟨i, by omega, e⟩
      · rintro ⟨i, hi, e⟩
        rcases Nat.lt_or_eq_of_le (Nat.lt_succ_iff.1 hi) with h' | rfl
        · exact ⟨i, h', e⟩
        · rw [e]; exact (h2 _).1 hin
theorem orderN_eq (l : List XY) : orderN l = sortedN l := by
  obtain ⟨h1, h2, _⟩ := cmpTo_spec (sortS_le l) (sortS l).length (Nat.le_refl _)
  refine ord_unique h1 (sortedN_ord l) fun z => ?_
  rw [sortedN_mem, ← sortS_mem l z]
  refine (h2 z).trans ?_
  constructor
  · rintro ⟨i, hi, rfl⟩
    exact List.mem_of_getElem? (nth_getE hi)
  · intro hz
    obtain ⟨i, hi, e⟩ := List.getElem_of_mem hz
    refine ⟨i, hi, ?_⟩
    have := nth_getE hi
    rw [List.getElem?_eq_getElem hi, e] at this
    exact Option.some.inj this
theorem hullP_eq (l : List XY) : hullP l = hullN l := by
  unfold hullP hullN
  split
  · rw [orderN_eq]
    unfold hullS
    have e1 := chainN_len (sortedN l)
    have e2 := chainN_len (sortedN l).reverse
    rw [List.length_reverse] at e2
    by_cases h3 : (sortedN l).length < 3
    · rw [if_pos h3, if_pos (by omega)]
    · rw [if_neg h3]
      have hne : sortedN l ≠ [] := fun e => by rw [e] at h3; simp at h3
      have p1 := chainN_pos hne
      have p2 := chainN_pos (l := (sortedN l).reverse) (by simpa using hne)
      by_cases h5 : (chainN (sortedN l)).length + (chainN (sortedN l).reverse).length < 5
      · rw [if_pos h5, if_pos (by rw [List.length_append, List.length_dropLast, List.length_dropLast]; omega)]
      · rw [if_neg h5, if_neg (by rw [List.length_append, List.length_dropLast, List.length_dropLast]; omega)]
  · rfl
end Go.Proofs.Yticandbdabgkeaa.Am
