/- Turning and mirroring: regions, hulls, and back. Plain law. -/
import Derived.Test.YticandbdabgkeaaAmP26
namespace Go.Proofs.Yticandbdabgkeaa.Am
open Go

theorem has_of {l l' : List XY} {q q' : XY} (h1 : checkP l' = checkP l) (h2 : inN q' = inN q) (h3 : (edgesN l').any (fun e => onSeg e.1 e.2 q') = (edgesN l).any (fun e => onSeg e.1 e.2 q))
    (h4 : (edgesN l).any (fun e => onSeg e.1 e.2 q) = false → par (fun e => flipP e.1 e.2 q') (edgesN l') = par (fun e => flipP e.1 e.2 q) (edgesN l)) : hasP l' q' = hasP l q := by
  unfold hasP
  rw [h1, h2]
  split
  · rw [hasE_eq, hasE_eq, h3]
    cases h : (edgesN l).any (fun e => onSeg e.1 e.2 q) with
    | true => rfl
    | false => rw [h4 h]
  · rfl
theorem any_false {q : XY} {es : List (XY × XY)} (h : es.any (fun e => onSeg e.1 e.2 q) = false) {e : XY × XY} (he : e ∈ es) : onSeg e.1 e.2 q = false := by
  cases hh : onSeg e.1 e.2 q with
  | false => rfl
  | true =>
    have : es.any (fun e => onSeg e.1 e.2 q) = true := List.any_eq_true.2 ⟨e, he, hh⟩
    rw [this] at h; cases h
theorem has_rot (l : List XY) (q : XY) : hasP (l.map rot) (rot q) = hasP l q := by
  refine has_of (check_rot l) (inN_rot q) ?_ fun hany => ?_
  · rw [edges_map, List.any_map]
    congr 1; funext e; exact onSeg_rot _ _ _
  · rw [edges_map, par_map]
    refine par_same (T := fun p => decide (p.x > q.x) && !decide (p.y > q.y)) fun e he => ?_
    rw [Bool.xor_comm]
    exact flip_rot (any_false hany he)
theorem flip_mir (a b q : XY) : xor (flipP (mirN b) (mirN a) (mirN q)) (flipP a b q) = xor (decide (a.y > q.y)) (decide (b.y > q.y)) := by
  unfold flipP
  have hc : crossN (mirN b) (mirN a) (mirN q) = crossN a b q := by rw [cross_mir, cross_swap, Int.neg_neg]
  rw [hc]
  simp only [mirN]
  by_cases ya : a.y > q.y <;> by_cases yb : b.y > q.y <;> by_cases s : crossN a b q > 0 <;> by_cases e1 : b.y > a.y <;> by_cases e2 : a.y > b.y <;> first
    | (exfalso; omega)
    | (simp only [ya, yb, s, e1, e2, decide_true, decide_false]; rfl)
theorem any_perm {f : XY × XY → Bool} {a b : List (XY × XY)} (h : a.Perm b) : a.any f = b.any f := by
  rw [Bool.eq_iff_iff, List.any_eq_true, List.any_eq_true]
  exact ⟨fun ⟨e, he, hf⟩ => ⟨e, h.mem_iff.1 he, hf⟩, fun ⟨e, he, hf⟩ => ⟨e, h.mem_iff.2 he, hf⟩⟩
theorem has_mir (l : List XY) (q : XY) : hasP (l.reverse.map mirN) (mirN q) = hasP l q := by
  refine has_of (check_mir l) (inN_mir q) ?_ fun _ => ?_
  · rw [edges_map, List.any_map, any_perm (edges_rev l), List.any_map]
    congr 1; funext e; exact onSeg_mir _ _ _
  · rw [edges_map, par_map, par_perm (edges_rev l), par_map]
    exact par_same (T := fun p => decide (p.y > q.y)) fun e _ => flip_mir e.1 e.2 q

/-! ### Quarters -/
theorem rotN_add (a b : Nat) (p : XY) : rotN a (rotN b p) = rotN (a + b) p := by
  induction a with
  | zero => rw [Nat.zero_add]; rfl
  | succ a ih => rw [Nat.succ_add, rotN, rotN, ih]
theorem rotN_four (p : XY) : rotN 4 p = p := by cases p; simp [rotN, rot]
theorem map_rotN (n : Nat) (l : List XY) : l.map (rotN (n + 1)) = (l.map (rotN n)).map rot := by rw [List.map_map]; rfl
theorem has_rotN (l : List XY) (q : XY) : ∀ n, hasP (l.map (rotN n)) (rotN n q) = hasP l q
  | 0 => by rw [show l.map (rotN 0) = l from List.map_id l]; rfl
  | n + 1 => by rw [map_rotN, rotN, has_rot, has_rotN l q n]
theorem comp_rotN {l : List XY} (h : Comp l) : ∀ n, Comp (l.map (rotN n))
  | 0 => by rw [show l.map (rotN 0) = l from List.map_id l]; exact h
  | n + 1 => by rw [map_rotN]; exact (comp_rotN h n).rot
theorem area_rotN {l : List XY} (h : Comp l) : ∀ n, areaN (l.map (rotN n)) = areaN l
  | 0 => by rw [show l.map (rotN 0) = l from List.map_id l]
  | n + 1 => by rw [map_rotN, area_rot (comp_rotN h n), area_rotN h n]
theorem lin_rot : Lin rot := ⟨fun α β => ⟨β, -α, fun p => by simp only [rot]; grind⟩, fun a b c => by rw [cross_rot4], fun p h => In.rot h⟩
theorem lin_mir : Lin mirN := ⟨fun α β => ⟨-α, β, fun p => by simp only [mirN]; grind⟩, fun a b c => by rw [cross_mir]; omega, fun p h => In.mir h⟩
theorem lin_rotN : ∀ n, Lin (rotN n)
  | 0 => ⟨fun α β => ⟨α, β, fun _ => rfl⟩, fun _ _ _ => Iff.rfl, fun _ h => h⟩
  | n + 1 => by
    have h := lin_rotN n
    refine ⟨fun α β => ?_, fun a b c => ?_, fun p hp => lin_rot.ran _ (h.ran p hp)⟩
    · obtain ⟨α1, β1, h1⟩ := lin_rot.lin α β
      obtain ⟨α2, β2, h2⟩ := h.lin α1 β1
      exact ⟨α2, β2, fun p => (h1 (rotN n p)).trans (h2 p)⟩
    · exact (lin_rot.zero _ _ _).trans (h.zero a b c)

theorem in_least {p : XY} (h : p.In) : leastN p = false := by
  unfold XY.In at h
  simp [leastN]
  omega
theorem any_least {l : List XY} (h : ∀ p ∈ l, p.In) : l.any leastN = false := by
  cases hh : l.any leastN with
  | false => rfl
  | true =>
    obtain ⟨p, hp, e⟩ := List.any_eq_true.1 hh
    rw [in_least (h p hp)] at e; cases e
theorem turn_in {l : List XY} (h : ∀ p ∈ l, p.In) (q : Int) : turnN l q = l.map (rotN (q % 4).toNat) := by
  rw [turnN, if_neg (by rw [any_least h]; simp)]
theorem mirror_in {l : List XY} (h : ∀ p ∈ l, p.In) : mirrorN l = l.reverse.map mirN := by
  rw [mirrorN, if_neg (by rw [any_least h]; simp)]
theorem mir_mir (p : XY) : mirN (mirN p) = p := by cases p; simp [mirN]
theorem mirror_back (l : List XY) : (l.reverse.map mirN).reverse.map mirN = l := by
  rw [← List.map_reverse, List.reverse_reverse, List.map_map]
  conv => rhs; rw [← List.map_id l]
  exact List.map_congr_left fun p _ => mir_mir p
theorem turn_back (l : List XY) {a b : Nat} (h : a + b = 0 ∨ a + b = 4) : (l.map (rotN b)).map (rotN a) = l := by
  rw [List.map_map]
  conv => rhs; rw [← List.map_id l]
  refine List.map_congr_left fun p _ => ?_
  show rotN a (rotN b p) = p
  rw [rotN_add]
  rcases h with h | h
  · rw [h]; rfl
  · rw [h]; exact rotN_four p
theorem hull_turn {l : List XY} (hc : Comp l) (n : Nat) : hullN (l.map (rotN n)) = hullN ((hullN l).map (rotN n)) :=
  hull_image (lin_rotN n) hc (fun z => by simp only [List.mem_map]; exact ⟨fun ⟨p, h1, h2⟩ => ⟨p, h1, h2.symm⟩, fun ⟨p, h1, h2⟩ => ⟨p, h1, h2.symm⟩⟩) (List.length_map _)
    (fun z => by simp only [List.mem_map]; exact ⟨fun ⟨p, h1, h2⟩ => ⟨p, h1, h2.symm⟩, fun ⟨p, h1, h2⟩ => ⟨p, h1, h2.symm⟩⟩) (List.length_map _)
theorem hull_mir {l : List XY} (hc : Comp l) : hullN (l.reverse.map mirN) = hullN ((hullN l).reverse.map mirN) :=
  hull_image lin_mir hc (fun z => by simp only [List.mem_map, List.mem_reverse]; exact ⟨fun ⟨p, h1, h2⟩ => ⟨p, h1, h2.symm⟩, fun ⟨p, h1, h2⟩ => ⟨p, h1, h2.symm⟩⟩) (by simp)
    (fun z => by simp only [List.mem_map, List.mem_reverse]; exact ⟨fun ⟨p, h1, h2⟩ => ⟨p, h1, h2.symm⟩, fun ⟨p, h1, h2⟩ => ⟨p, h1, h2.symm⟩⟩) (by simp)
end Go.Proofs.Yticandbdabgkeaa.Am
