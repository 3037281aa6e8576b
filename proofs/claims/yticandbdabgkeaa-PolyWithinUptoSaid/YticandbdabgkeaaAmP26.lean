/- Turning and mirroring keep areas and regions. Plain law. -/
import Derived.Test.YticandbdabgkeaaAmP25
import Derived.Test.YticandbdabgkeaaAmP9
namespace Go.Proofs.Yticandbdabgkeaa.Am
open Go

/-! ### Sums and parities over a ring -/
def par (f : XY × XY → Bool) : List (XY × XY) → Bool
  | [] => false
  | e :: r => xor (f e) (par f r)
def psum (f : XY × XY → Int) : List (XY × XY) → Int
  | [] => 0
  | e :: r => f e + psum f r
theorem xor_lc (a b c : Bool) : xor a (xor b c) = xor b (xor a c) := by cases a <;> cases b <;> cases c <;> rfl
theorem par_perm {f : XY × XY → Bool} {a b : List (XY × XY)} (h : a.Perm b) : par f a = par f b := by
  induction h with
  | nil => rfl
  | cons x _ ih => simp only [par, ih]
  | swap x y l => simp only [par]; exact xor_lc _ _ _
  | trans _ _ h1 h2 => exact h1.trans h2
theorem psum_perm {f : XY × XY → Int} {a b : List (XY × XY)} (h : a.Perm b) : psum f a = psum f b := by
  induction h with
  | nil => rfl
  | cons x _ ih => simp only [psum, ih]
  | swap x y l => simp only [psum]; omega
  | trans _ _ h1 h2 => exact h1.trans h2
theorem par_app (f : XY × XY → Bool) : ∀ a b : List (XY × XY), par f (a ++ b) = xor (par f a) (par f b)
  | [], b => by simp [par]
  | e :: a, b => by simp only [List.cons_append, par, par_app f a b, Bool.xor_assoc]
theorem psum_app (f : XY × XY → Int) : ∀ a b : List (XY × XY), psum f (a ++ b) = psum f a + psum f b
  | [], b => by simp [psum]
  | e :: a, b => by simp only [List.cons_append, psum, psum_app f a b]; omega
theorem par_xor (f g : XY × XY → Bool) : ∀ a : List (XY × XY), par (fun e => xor (f e) (g e)) a = xor (par f a) (par g a)
  | [] => rfl
  | e :: a => by
    simp only [par, par_xor f g a]
    cases f e <;> cases g e <;> cases par f a <;> cases par g a <;> rfl
theorem par_congr {f g : XY × XY → Bool} : ∀ {a : List (XY × XY)}, (∀ e ∈ a, f e = g e) → par f a = par g a
  | [], _ => rfl
  | e :: a, h => by simp only [par]; rw [h e (by simp), par_congr fun e' he => h e' (by simp [he])]
theorem psum_congr {f g : XY × XY → Int} : ∀ {a : List (XY × XY)}, (∀ e ∈ a, f e = g e) → psum f a = psum g a
  | [], _ => rfl
  | e :: a, h => by simp only [psum]; rw [h e (by simp), psum_congr fun e' he => h e' (by simp [he])]
theorem par_map (f : XY × XY → Bool) (g : XY × XY → XY × XY) : ∀ a : List (XY × XY), par f (a.map g) = par (fun e => f (g e)) a
  | [] => rfl
  | e :: a => by simp only [List.map_cons, par, par_map f g a]
theorem psum_map (f : XY × XY → Int) (g : XY × XY → XY × XY) : ∀ a : List (XY × XY), psum f (a.map g) = psum (fun e => f (g e)) a
  | [] => rfl
  | e :: a => by simp only [List.map_cons, psum, psum_map f g a]

def edgesTo (l : List XY) (k : Nat) : List (XY × XY) := (List.range k).map fun i => (nth l i, nxt l i)
theorem edgesTo_succ (l : List XY) (k : Nat) : edgesTo l (k + 1) = edgesTo l k ++ [(nth l k, nxt l k)] := by simp [edgesTo, List.range_succ]
/-- Round a ring, what changes changes back. -/
theorem ring_par (T : XY → Bool) (l : List XY) : par (fun e => xor (T e.1) (T e.2)) (edgesN l) = false := by
  have key : ∀ k, k < l.length → par (fun e => xor (T e.1) (T e.2)) (edgesTo l k) = xor (T (nth l 0)) (T (nth l k)) := fun k => by
    induction k with
    | zero => intro _; simp [edgesTo, par]
    | succ k ih =>
      intro hk
      rw [edgesTo_succ, par_app, ih (by omega)]
      simp only [par, Bool.xor_false]
      rw [nxt_nth, Nat.mod_eq_of_lt hk]
      cases T (nth l 0) <;> cases T (nth l k) <;> cases T (nth l (k + 1)) <;> rfl
  show par _ (edgesTo l l.length) = false
  rcases Nat.eq_zero_or_pos l.length with h | h
  · rw [h]; rfl
  · obtain ⟨n, hn⟩ : ∃ n, l.length = n + 1 := ⟨l.length - 1, by omega⟩
    rw [hn, edgesTo_succ, par_app, key n (by omega)]
    simp only [par, Bool.xor_false]
    rw [nxt_nth, ← hn, Nat.mod_self]
    cases T (nth l 0) <;> cases T (nth l n) <;> rfl
theorem ring_sum (T : XY → Int) (l : List XY) : psum (fun e => T e.2 - T e.1) (edgesN l) = 0 := by
  have key : ∀ k, k < l.length → psum (fun e => T e.2 - T e.1) (edgesTo l k) = T (nth l k) - T (nth l 0) := fun k => by
    induction k with
    | zero => intro _; simp [edgesTo, psum]
    | succ k ih =>
      intro hk
      rw [edgesTo_succ, psum_app, ih (by omega)]
      simp only [psum]
      rw [nxt_nth, Nat.mod_eq_of_lt hk]
      omega
  show psum _ (edgesTo l l.length) = 0
  rcases Nat.eq_zero_or_pos l.length with h | h
  · rw [h]; rfl
  · obtain ⟨n, hn⟩ : ∃ n, l.length = n + 1 := ⟨l.length - 1, by omega⟩
    rw [hn, edgesTo_succ, psum_app, key n (by omega)]
    simp only [psum]
    rw [nxt_nth, ← hn, Nat.mod_self]
    omega
theorem par_same {f g : XY × XY → Bool} {T : XY → Bool} {l : List XY} (h : ∀ e ∈ edgesN l, xor (f e) (g e) = xor (T e.1) (T e.2)) : par f (edgesN l) = par g (edgesN l) := by
  have h1 := par_xor f g (edgesN l)
  rw [par_congr h, ring_par] at h1
  cases hf : par f (edgesN l) <;> cases hg : par g (edgesN l) <;> rw [hf, hg] at h1 <;> first | rfl | cases h1

theorem hasE_eq (q : XY) : ∀ (es : List (XY × XY)) (i : Bool), hasE q es i = (es.any (fun e => onSeg e.1 e.2 q) || xor i (par (fun e => flipP e.1 e.2 q) es))
  | [], i => by simp [hasE, par]
  | e :: es, i => by
    rw [hasE, List.any_cons, par]
    cases hs : onSeg e.1 e.2 q with
    | true => simp
    | false =>
      rw [if_neg (by simp), hasE_eq q es]
      cases hf : flipP e.1 e.2 q <;> cases i <;> cases par (fun e => flipP e.1 e.2 q) es <;> simp

theorem edges_map (T : XY → XY) (l : List XY) : edgesN (l.map T) = (edgesN l).map fun e => (T e.1, T e.2) := by
  rw [edgesN, edgesN, List.length_map, List.map_map]
  refine List.map_congr_left fun i hi => ?_
  have hi : i < l.length := List.mem_range.1 hi
  simp only [Function.comp]
  rw [nth_map T hi, nxt_nth, nxt_nth, List.length_map, nth_map T (Nat.mod_lt _ (by omega))]
/-- Backwards round the ring. -/
theorem edges_rev (l : List XY) : (edgesN l.reverse).Perm ((edgesN l).map fun e => (e.2, e.1)) := by
  rcases Nat.eq_zero_or_pos l.length with h | h
  · rw [List.eq_nil_of_length_eq_zero h]; exact List.Perm.refl _
  obtain ⟨n, hn⟩ : ∃ n, l.length = n + 1 := ⟨l.length - 1, by omega⟩
  have e1 : edgesN l.reverse = ((List.range n).map fun i => (nth l (n - i), nth l (n - 1 - i))) ++ [(nth l 0, nth l n)] := by
    rw [edgesN, List.length_reverse, hn, List.range_succ, List.map_append]
    congr 1
    · refine List.map_congr_left fun i hi => ?_
      have hi : i < n := List.mem_range.1 hi
      rw [nxt_nth, List.length_reverse, nth_rev (by omega), hn, Nat.mod_eq_of_lt (by omega), nth_rev (by omega), hn]
      rw [show n + 1 - 1 - i = n - i by omega, show n + 1 - 1 - (i + 1) = n - 1 - i by omega]
    · simp only [List.map_cons, List.map_nil]
      rw [nxt_nth, List.length_reverse, hn, Nat.mod_self, nth_rev (by omega), nth_rev (by omega), hn, show n + 1 - 1 - n = 0 by omega, show n + 1 - 1 - 0 = n by omega]
  have e2 : (edgesN l).map (fun e => (e.2, e.1)) = ((List.range n).map fun i => (nth l (i + 1), nth l i)) ++ [(nth l 0, nth l n)] := by
    rw [edgesN, hn, List.range_succ, List.map_append, List.map_append]
    congr 1
    · rw [List.map_map]
      refine List.map_congr_left fun i hi => ?_
      have hi : i < n := List.mem_range.1 hi
      simp only [Function.comp]
      rw [nxt_nth, hn, Nat.mod_eq_of_lt (by omega)]
    · simp only [List.map_cons, List.map_nil]
      rw [nxt_nth, hn, Nat.mod_self]
  rw [e1, e2]
  refine List.Perm.append_right _ ?_
  have e3 : ((List.range n).map fun i => (nth l (n - i), nth l (n - 1 - i))) = ((List.range n).map fun i => (nth l (i + 1), nth l i)).reverse := by
    refine List.ext_getElem (by simp) fun i h1 h2 => ?_
    simp only [List.length_map, List.length_range] at h1
    simp only [List.getElem_map, List.getElem_range, List.getElem_reverse, List.length_map, List.length_range]
    rw [show n - 1 - i + 1 = n - i by omega]
  rw [e3]
  exact List.reverse_perm _

/-! ### Areas -/
def wedge (e : XY × XY) : Int := e.1.x * e.2.y - e.2.x * e.1.y
theorem areaTo_eq (l : List XY) : ∀ k, areaTo l k = psum wedge (edgesTo l k)
  | 0 => rfl
  | k + 1 => by
    rw [areaTo, areaTo_eq l k, edgesTo_succ, psum_app]
    simp [psum, wedge]
theorem areaN_eq {l : List XY} (h : Comp l) : areaN l = psum wedge (edgesN l) := by
  rw [areaN, if_pos ((compN_iff l).2 h), areaTo_eq]; rfl

theorem In.rot {p : XY} (h : p.In) : (rot p).In := by unfold XY.In at *; simp only [Am.rot]; omega
theorem In.mir {p : XY} (h : p.In) : (mirN p).In := by unfold XY.In at *; simp only [mirN]; omega
theorem Comp.rot {l : List XY} (h : Comp l) : Comp (l.map Am.rot) := ⟨by rw [List.length_map]; exact h.few, fun p hp => by obtain ⟨q, hq, rfl⟩ := List.mem_map.1 hp; exact In.rot (h.all q hq)⟩
theorem Comp.mir {l : List XY} (h : Comp l) : Comp (l.reverse.map mirN) := ⟨by rw [List.length_map, List.length_reverse]; exact h.few, fun p hp => by obtain ⟨q, hq, rfl⟩ := List.mem_map.1 hp; exact In.mir (h.all q (by simpa using hq))⟩
theorem area_rot {l : List XY} (h : Comp l) : areaN (l.map rot) = areaN l := by
  rw [areaN_eq h.rot, areaN_eq h, edges_map, psum_map]
  refine psum_congr fun e _ => ?_
  simp only [wedge, rot]; grind
theorem area_mir {l : List XY} (h : Comp l) : areaN (l.reverse.map mirN) = areaN l := by
  rw [areaN_eq h.mir, areaN_eq h, edges_map, psum_map, psum_perm (edges_rev l), psum_map]
  refine psum_congr fun e _ => ?_
  simp only [wedge, mirN]; grind
theorem check_of {l l' : List XY} (h1 : l'.length = l.length) (h2 : compN l' = compN l) (h3 : compN l = true → areaN l' = areaN l) : checkP l' = checkP l := by
  unfold checkP
  rw [h1, h2]
  split
  · rfl
  · split
    · rfl
    · split
      · rfl
      · rename_i hc
        rw [h3 (by simpa using hc)]
theorem inN_rot (p : XY) : inN (rot p) = inN p := by
  rw [Bool.eq_iff_iff, inN_iff, inN_iff]; unfold XY.In; simp only [rot]; omega
theorem inN_mir (p : XY) : inN (mirN p) = inN p := by
  rw [Bool.eq_iff_iff, inN_iff, inN_iff]; unfold XY.In; simp only [mirN]; omega
theorem comp_rot (l : List XY) : compN (l.map rot) = compN l := by
  rw [compN, compN, List.length_map, List.all_map]
  congr 2; funext p; exact inN_rot p
theorem comp_mir (l : List XY) : compN (l.reverse.map mirN) = compN l := by
  rw [compN, compN, List.length_map, List.length_reverse, List.all_map, List.all_reverse]
  congr 2; funext p; exact inN_mir p
theorem check_rot (l : List XY) : checkP (l.map rot) = checkP l := check_of (List.length_map _) (comp_rot l) fun h => area_rot ((compN_iff l).1 h)
theorem check_mir (l : List XY) : checkP (l.reverse.map mirN) = checkP l := check_of (by simp) (comp_mir l) fun h => area_mir ((compN_iff l).1 h)

/-! ### Regions -/
theorem onSeg_iff (a b q : XY) : onSeg a b q = true ↔ crossN a b q = 0 ∧ min a.x b.x ≤ q.x ∧ q.x ≤ max a.x b.x ∧ min a.y b.y ≤ q.y ∧ q.y ≤ max a.y b.y := by
  simp only [onSeg, Bool.and_eq_true, decide_eq_true_eq, and_assoc]
theorem cross_rot4 (a b c : XY) : crossN (rot a) (rot b) (rot c) = crossN a b c := by simp only [crossN, rot]; grind
theorem cross_mir (a b c : XY) : crossN (mirN a) (mirN b) (mirN c) = -crossN a b c := by simp only [crossN, mirN]; grind
theorem onSeg_rot (a b q : XY) : onSeg (rot a) (rot b) (rot q) = onSeg a b q := by
  rw [Bool.eq_iff_iff, onSeg_iff, onSeg_iff, cross_rot4]; simp only [rot]; omega
theorem onSeg_mir (a b q : XY) : onSeg (mirN b) (mirN a) (mirN q) = onSeg a b q := by
  rw [Bool.eq_iff_iff, onSeg_iff, onSeg_iff, cross_mir, cross_swap]; simp only [mirN]; omega
theorem mul_signs (u v : Int) : (0 < u → 0 < v → 0 < u * v) ∧ (u ≤ 0 → v ≤ 0 → 0 ≤ u * v) ∧ (0 < u → v ≤ 0 → u * v ≤ 0) ∧ (u ≤ 0 → 0 < v → u * v ≤ 0) ∧ (u * v = 0 → u = 0 ∨ v = 0) := by
  refine ⟨fun a b => Int.mul_pos a b, fun a b => ?_, fun a b => ?_, fun a b => ?_, fun h => Int.mul_eq_zero.1 h⟩
  · have := Int.mul_nonneg (show 0 ≤ -u by omega) (show 0 ≤ -v by omega)
    rwa [Int.neg_mul_neg] at this
  · have := Int.mul_nonneg (show 0 ≤ u by omega) (show 0 ≤ -v by omega)
    rw [Int.mul_neg] at this; omega
  · have := Int.mul_nonneg (show 0 ≤ -u by omega) (show 0 ≤ v by omega)
    rw [Int.neg_mul] at this; omega
/-- The ray to the right and the ray down: they differ by the corner between them. -/
theorem flip_rot {a b q : XY} (h : onSeg a b q = false) : xor (flipP a b q) (flipP (rot a) (rot b) (rot q)) = xor (decide (a.x > q.x) && !decide (a.y > q.y)) (decide (b.x > q.x) && !decide (b.y > q.y)) := by
  have hns : ¬ (crossN a b q = 0 ∧ min a.x b.x ≤ q.x ∧ q.x ≤ max a.x b.x ∧ min a.y b.y ≤ q.y ∧ q.y ≤ max a.y b.y) := fun hh => by rw [(onSeg_iff a b q).2 hh] at h; cases h
  have hc : crossN a b q = (a.x - q.x) * (b.y - q.y) - (b.x - q.x) * (a.y - q.y) := by simp only [crossN]; grind
  have m1 := mul_signs (a.x - q.x) (b.y - q.y)
  have m2 := mul_signs (b.x - q.x) (a.y - q.y)
  unfold flipP
  rw [cross_rot4]
  simp only [rot]
  rw [hc] at hns ⊢
  generalize (a.x - q.x) * (b.y - q.y) = P at *
  generalize (b.x - q.x) * (a.y - q.y) = Q at *
  by_cases xa : a.x > q.x <;> by_cases xb : b.x > q.x <;> by_cases ya : a.y > q.y <;> by_cases yb : b.y > q.y <;> by_cases s : P - Q > 0 <;>
    by_cases e1 : b.y > a.y <;> by_cases e2 : b.x > a.x <;> first
    | (exfalso; omega)
    | (simp only [xa, xb, ya, yb, s, e1, e2, decide_true, decide_false]; rfl)
end Go.Proofs.Yticandbdabgkeaa.Am
