/- Lists that are made anew element by element. No condition: definitions and lemmas. -/
import Derived.Test.YticandbdabgkeaaAmD3
namespace Go.Proofs.Yticandbdabgkeaa.Am
open Go

/-- The first ones anew, the others as they were. -/
def mixN {α : Type} (f : Nat → α) (l : List α) (k : Nat) : List α := (List.range k).map f ++ l.drop k
theorem mix_zero {α : Type} (f : Nat → α) (l : List α) : mixN f l 0 = l := by simp [mixN]
theorem mix_len {α : Type} {f : Nat → α} {l : List α} {k : Nat} (h : k ≤ l.length) : (mixN f l k).length = l.length := by simp [mixN]; omega
theorem mix_full {α : Type} {f : Nat → α} {l : List α} : mixN f l l.length = (List.range l.length).map f := by simp [mixN]
theorem mix_get {α : Type} {f : Nat → α} {l : List α} {k : Nat} {x : α} (h : l[k]? = some x) : (mixN f l k)[k]? = some x := by
  rw [mixN, List.getElem?_append_right (by simp)]
  simp [h]
theorem mix_set {α β : Type} {f : Nat → α} {l : List α} {k : Nat} {x : α} (e : α → β) {y : β} (h : l[k]? = some x) (hy : y = e (f k)) : ((mixN f l k).map e).set k y = (mixN f l (k + 1)).map e := by
  subst hy
  rw [mixN, mixN, List.range_succ, drop_cons h, List.map_append, List.map_append, List.map_append, List.set_append_right _ _ (by simp)]
  simp
theorem mix_same {α : Type} {f : Nat → α} {l : List α} {k : Nat} {x : α} (h : l[k]? = some x) (hf : f k = x) : mixN f l k = mixN f l (k + 1) := by
  rw [mixN, mixN, List.range_succ, drop_cons h, List.map_append]
  simp [hf]

end Go.Proofs.Yticandbdabgkeaa.Am
