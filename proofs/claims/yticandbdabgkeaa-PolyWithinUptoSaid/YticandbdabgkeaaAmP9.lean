/- The contract of the question whether a polygon has a point. No condition: definitions and lemmas. -/
import Derived.Test.YticandbdabgkeaaAmP4
namespace Go.Proofs.Yticandbdabgkeaa.Am
open Go
set_option maxRecDepth 100000

def edgesN (l : List XY) : List (XY × XY) := (List.range l.length).map fun i => (nth l i, nxt l i)
theorem edges_get {l : List XY} {k : Nat} (h : k < l.length) : (edgesN l)[k]? = some (nth l k, nxt l k) := by
  rw [edgesN, List.getElem?_map, List.getElem?_range h]; rfl
theorem edges_len (l : List XY) : (edgesN l).length = l.length := by simp [edgesN]
/-- On the edge. -/
def onSeg (a b q : XY) : Bool := decide (crossN a b q = 0) && decide (min a.x b.x ≤ q.x) && decide (q.x ≤ max a.x b.x) && decide (min a.y b.y ≤ q.y) && decide (q.y ≤ max a.y b.y)
/-- The ray to the right crosses the edge. -/
def flipP (a b q : XY) : Bool := (!(decide (a.y > q.y) == decide (b.y > q.y))) && (decide (crossN a b q > 0) == decide (b.y > a.y))
def hasE (q : XY) : List (XY × XY) → Bool → Bool
  | [], i => i
  | e :: r, i => if onSeg e.1 e.2 q = true then true else hasE q r (if flipP e.1 e.2 q = true then !i else i)
def hasP (l : List XY) (q : XY) : Bool := if checkP l = 0 ∧ inN q = true then hasE q (edgesN l) false else false

theorem checkP_comp {l : List XY} (h : checkP l = 0) : Comp l ∧ 3 ≤ l.length ∧ areaN l ≠ 0 := by
  unfold checkP at h
  split at h
  · omega
  · split at h
    · omega
    · split at h
      · omega
      · rename_i h1 h2 h3
        split at h
        · omega
        · rename_i h4
          exact ⟨(compN_iff l).1 (by simpa using h3), by omega, h4⟩
theorem nth_get2 {l : List XY} {k : Nat} (h : k < l.length) : l[k]? = some (nth l k) := by
  rw [nth_get (List.getElem?_eq_getElem h)]; exact List.getElem?_eq_getElem h

theorem has_pure (l : List XY) (hl : l.length ≤ 1000000) (q : XY) : Pure Try.prog G0 30 [.sl 2 (l.map eP), .agg (eP q)] (.bool (hasP l q)) := by
  refine pure_of mixed Try.func30 rfl rfl (Nat.le_of_ble_eq_true rfl) ?_
  conv => whnf
  repeat (refine And.intro ?_ ?_; (first | (with_reducible show okR _ _ _ _ = true; kernel_rfl) | (with_reducible show addC _ _ _ = _; kernel_rfl) | rfl | trivial | kernel_rfl | omega | exact Nat.le_of_ble_eq_true rfl | exact lt_len0 rfl | exact lt_len1 rfl); conv => whnf)
  refine callP_of (polycheck_pure l (by omega)) ?_
  conv => whnf
  repeat (refine And.intro ?_ ?_; (first | (with_reducible show okR _ _ _ _ = true; kernel_rfl) | (with_reducible show addC _ _ _ = _; kernel_rfl) | rfl | trivial | kernel_rfl | omega | exact Nat.le_of_ble_eq_true rfl | exact lt_len0 rfl | exact lt_len1 rfl); conv => whnf)
  refine ifB_intro (fun h1 => ?_) (fun h1 => ?_) <;> try dsimp only at h1
  · conv => whnf
    repeat (refine And.intro ?_ ?_; (first | (with_reducible show okR _ _ _ _ = true; kernel_rfl) | (with_reducible show addC _ _ _ = _; kernel_rfl) | rfl | trivial | kernel_rfl | omega | exact Nat.le_of_ble_eq_true rfl | exact lt_len0 rfl | exact lt_len1 rfl); conv => whnf)
    rw [hasP, if_neg (by intro h; simp [h.1] at h1)]
  have h1 : checkP l = 0 := by simpa using h1
  conv => whnf
  repeat (refine And.intro ?_ ?_; (first | (with_reducible show okR _ _ _ _ = true; kernel_rfl) | (with_reducible show addC _ _ _ = _; kernel_rfl) | rfl | trivial | kernel_rfl | omega | exact Nat.le_of_ble_eq_true rfl | exact lt_len0 rfl | exact lt_len1 rfl); conv => whnf)
  refine callP_of (polyranged_pure q) ?_
  conv => whnf
  repeat (refine And.intro ?_ ?_; (first | (with_reducible show okR _ _ _ _ = true; kernel_rfl) | (with_reducible show addC _ _ _ = _; kernel_rfl) | rfl | trivial | kernel_rfl | omega | exact Nat.le_of_ble_eq_true rfl | exact lt_len0 rfl | exact lt_len1 rfl); conv => whnf)
  refine ifB_intro (fun h2 => ?_) (fun h2 => ?_) <;> try dsimp only at h2
  · conv => whnf
    repeat (refine And.intro ?_ ?_; (first | (with_reducible show okR _ _ _ _ = true; kernel_rfl) | (with_reducible show addC _ _ _ = _; kernel_rfl) | rfl | trivial | kernel_rfl | omega | exact Nat.le_of_ble_eq_true rfl | exact lt_len0 rfl | exact lt_len1 rfl); conv => whnf)
    rw [hasP, if_neg (by intro h; simp [h.2] at h2)]
  have h2 : inN q = true := by simpa using h2
  have hq := (inN_iff q).1 h2
  obtain ⟨hC, hlen, _⟩ := checkP_comp h1
  have hhas : hasP l q = hasE q (edgesN l) false := by rw [hasP, if_pos ⟨h1, h2⟩]
  have hfew := hC.few
  conv => whnf
  repeat (refine And.intro ?_ ?_; (first | (with_reducible show okR _ _ _ _ = true; kernel_rfl) | (with_reducible show addC _ _ _ = _; kernel_rfl) | rfl | trivial | kernel_rfl | omega | exact Nat.le_of_ble_eq_true rfl | exact lt_len0 rfl | exact lt_len1 rfl); conv => whnf)
  refine loop_rule mixed (ι := Nat × Bool) (fun i s => match i with | (k, i) => [(0, .sl 2 (l.map eP)), (3, .lptr 3 (s 3) 0 0), (5, .bool i), (18, .sl 2 (l.map eP)), (19, .i l.length), (20, .i k)]) (fun i s => [(3, ⟨s 3, 0, 2, [eP q]⟩)]) (fun i => i.1 ≤ l.length ∧ hasE q (edgesN l) false = hasE q ((edgesN l).drop i.1) i.2) (fun i => l.length - i.1) (0, false) ⟨by show 0 ≤ _; omega, rfl⟩ (weakTo_cov ?_ ?_) fun i hk s ct => ?_
  · conv => whnf
    repeat (refine And.intro ?_ ?_; (first | exact rfl | exact Or.inl rfl | exact congrArg (SV.int .i64) (by first | rfl | omega | (simp; done) | (simp; omega))); conv => whnf)
    exact trivial
  · conv => whnf
    repeat (refine And.intro ?_ ?_; (first | exact rfl | exact Or.inl rfl | exact congrArg (SV.int .i64) (by first | rfl | omega | (simp; done) | (simp; omega))); conv => whnf)
    exact trivial
  obtain ⟨k, i⟩ := i
  obtain ⟨hk, hk2⟩ := hk
  simp only at hk hk2
  conv => whnf
  repeat (refine And.intro ?_ ?_; (first | (with_reducible show okR _ _ _ _ = true; kernel_rfl) | (with_reducible show addC _ _ _ = _; kernel_rfl) | rfl | trivial | kernel_rfl | omega | exact Nat.le_of_ble_eq_true rfl | exact lt_len0 rfl | exact lt_len1 rfl); conv => whnf)
  refine ifD (fun h3 => ?_) (fun h3 => ?_) <;> try dsimp only at h3
  · have hkl : k < l.length := by omega
    have hA := nth_in hC hkl
    have hB := nxt_in hC hkl
    conv => whnf
    repeat (refine And.intro ?_ ?_; (first | (with_reducible show okR _ _ _ _ = true; kernel_rfl) | (with_reducible show addC _ _ _ = _; kernel_rfl) | rfl | trivial | kernel_rfl | omega | exact Nat.le_of_ble_eq_true rfl | exact lt_len0 rfl | exact lt_len1 rfl); conv => whnf)
    have hx : (l.map eP)[(k : Int).toNat]? = some (eP (nth l k)) := get_map (nth_get2 hkl)
    refine ⟨_, hx, ?_⟩
    conv => whnf
    repeat (refine And.intro ?_ ?_; (first | (with_reducible show okR _ _ _ _ = true; kernel_rfl) | (with_reducible show addC _ _ _ = _; kernel_rfl) | rfl | trivial | kernel_rfl | omega | exact Nat.le_of_ble_eq_true rfl | exact lt_len0 rfl | exact lt_len1 rfl); conv => whnf)
    refine inI (by omega) (by omega) ?_
    conv => whnf
    repeat (refine And.intro ?_ ?_; (first | (with_reducible show okR _ _ _ _ = true; kernel_rfl) | (with_reducible show addC _ _ _ = _; kernel_rfl) | rfl | trivial | kernel_rfl | omega | exact Nat.le_of_ble_eq_true rfl | exact lt_len0 rfl | exact lt_len1 rfl); conv => whnf)
    refine And.intro (by rw [List.length_map]; omega) ?_
    conv => whnf
    repeat (refine And.intro ?_ ?_; (first | (with_reducible show okR _ _ _ _ = true; kernel_rfl) | (with_reducible show addC _ _ _ = _; kernel_rfl) | rfl | trivial | kernel_rfl | omega | exact Nat.le_of_ble_eq_true rfl | exact lt_len0 rfl | exact lt_len1 rfl); conv => whnf)
    refine And.intro (Int.tmod_nonneg _ (by omega)) ?_
    conv => whnf
    repeat (refine And.intro ?_ ?_; (first | (with_reducible show okR _ _ _ _ = true; kernel_rfl) | (with_reducible show addC _ _ _ = _; kernel_rfl) | rfl | trivial | kernel_rfl | omega | exact Nat.le_of_ble_eq_true rfl | exact lt_len0 rfl | exact lt_len1 rfl); conv => whnf)
    refine ⟨_, next_map hkl rfl, ?_⟩
    conv => whnf
    repeat (refine And.intro ?_ ?_; (first | (with_reducible show okR _ _ _ _ = true; kernel_rfl) | (with_reducible show addC _ _ _ = _; kernel_rfl) | rfl | trivial | kernel_rfl | omega | exact Nat.le_of_ble_eq_true rfl | exact lt_len0 rfl | exact lt_len1 rfl); conv => whnf)
    refine callP_of (polycross_pure (nth l k) (nxt l k) q hA hB hq) ?_
    conv => whnf
    repeat (refine And.intro ?_ ?_; (first | (with_reducible show okR _ _ _ _ = true; kernel_rfl) | (with_reducible show addC _ _ _ = _; kernel_rfl) | rfl | trivial | kernel_rfl | omega | exact Nat.le_of_ble_eq_true rfl | exact lt_len0 rfl | exact lt_len1 rfl); conv => whnf)
    refine ifD (fun g1 => ?_) (fun g1 => ?_) <;> try dsimp only at g1
    · conv => whnf
      repeat (refine And.intro ?_ ?_; (first | (with_reducible show okR _ _ _ _ = true; kernel_rfl) | (with_reducible show addC _ _ _ = _; kernel_rfl) | rfl | trivial | kernel_rfl | omega | exact Nat.le_of_ble_eq_true rfl | exact lt_len0 rfl | exact lt_len1 rfl); conv => whnf)
      refine ifD (fun g2 => ?_) (fun g2 => ?_) <;> try dsimp only at g2
      · conv => whnf
        repeat (refine And.intro ?_ ?_; (first | (with_reducible show okR _ _ _ _ = true; kernel_rfl) | (with_reducible show addC _ _ _ = _; kernel_rfl) | rfl | trivial | kernel_rfl | omega | exact Nat.le_of_ble_eq_true rfl | exact lt_len0 rfl | exact lt_len1 rfl); conv => whnf)
        refine ifD (fun g3 => ?_) (fun g3 => ?_) <;> try dsimp only at g3
        · conv => whnf
          repeat (refine And.intro ?_ ?_; (first | (with_reducible show okR _ _ _ _ = true; kernel_rfl) | (with_reducible show addC _ _ _ = _; kernel_rfl) | rfl | trivial | kernel_rfl | omega | exact Nat.le_of_ble_eq_true rfl | exact lt_len0 rfl | exact lt_len1 rfl); conv => whnf)
          refine ifD (fun g4 => ?_) (fun g4 => ?_) <;> try dsimp only at g4
          · conv => whnf
            repeat (refine And.intro ?_ ?_; (first | (with_reducible show okR _ _ _ _ = true; kernel_rfl) | (with_reducible show addC _ _ _ = _; kernel_rfl) | rfl | trivial | kernel_rfl | omega | exact Nat.le_of_ble_eq_true rfl | exact lt_len0 rfl | exact lt_len1 rfl); conv => whnf)
            refine ifD (fun g5 => ?_) (fun g5 => ?_) <;> try dsimp only at g5
            · conv => whnf
              repeat (refine And.intro ?_ ?_; (first | (with_reducible show okR _ _ _ _ = true; kernel_rfl) | (with_reducible show addC _ _ _ = _; kernel_rfl) | rfl | trivial | kernel_rfl | omega | exact Nat.le_of_ble_eq_true rfl | exact lt_len0 rfl | exact lt_len1 rfl); conv => whnf)
              rw [hhas, hk2, drop_cons (edges_get hkl), hasE, if_pos]
              show onSeg (nth l k) (nxt l k) q = true
              rw [onSeg, decide_eq_true g1, decide_eq_true g2, decide_eq_true g3, decide_eq_true g4, decide_eq_true g5]; rfl
            · have hon : onSeg (nth l k) (nxt l k) q = false := by rw [onSeg, decide_eq_false g5]; simp
              conv => whnf
              repeat (refine And.intro ?_ ?_; (first | (with_reducible show okR _ _ _ _ = true; kernel_rfl) | (with_reducible show addC _ _ _ = _; kernel_rfl) | rfl | trivial | kernel_rfl | omega | exact Nat.le_of_ble_eq_true rfl | exact lt_len0 rfl | exact lt_len1 rfl); conv => whnf)
              refine ifB_intro (fun hd => ?_) (fun hd => ?_) <;> try dsimp only at hd
              · conv => whnf
                repeat (refine And.intro ?_ ?_; (first | (with_reducible show okR _ _ _ _ = true; kernel_rfl) | (with_reducible show addC _ _ _ = _; kernel_rfl) | rfl | trivial | kernel_rfl | omega | exact Nat.le_of_ble_eq_true rfl | exact lt_len0 rfl | exact lt_len1 rfl); conv => whnf)
                refine ifB_intro (fun he => ?_) (fun he => ?_) <;> try dsimp only at he
                · conv => whnf
                  repeat (refine And.intro ?_ ?_; (first | (with_reducible show okR _ _ _ _ = true; kernel_rfl) | (with_reducible show addC _ _ _ = _; kernel_rfl) | rfl | trivial | kernel_rfl | omega | exact Nat.le_of_ble_eq_true rfl | exact lt_len0 rfl | exact lt_len1 rfl); conv => whnf)
                  refine inI (by omega) (by omega) ?_
                  conv => whnf
                  repeat (refine And.intro ?_ ?_; (first | (with_reducible show okR _ _ _ _ = true; kernel_rfl) | (with_reducible show addC _ _ _ = _; kernel_rfl) | rfl | trivial | kernel_rfl | omega | exact Nat.le_of_ble_eq_true rfl | exact lt_len0 rfl | exact lt_len1 rfl); conv => whnf)
                  refine ⟨(k + 1, !i), ⟨by show k + 1 ≤ _; omega, ?_⟩, by show l.length - (k + 1) < l.length - k; omega, weakTo_cov ?_ ?_⟩
                  · rw [hk2, drop_cons (edges_get hkl), hasE, if_neg (by simp [hon]), if_pos (by rw [flipP, hd, Bool.true_and]; exact he)]
                  · conv => whnf
                    repeat (refine And.intro ?_ ?_; (first | exact rfl | exact Or.inl rfl | exact congrArg (SV.int .i64) (by first | rfl | omega | (simp; done) | (simp; omega))); conv => whnf)
                    exact trivial
                  · conv => whnf
                    repeat (refine And.intro ?_ ?_; (first | exact rfl | exact Or.inl rfl | exact congrArg (SV.int .i64) (by first | rfl | omega | (simp; done) | (simp; omega))); conv => whnf)
                    exact trivial
                · conv => whnf
                  repeat (refine And.intro ?_ ?_; (first | (with_reducible show okR _ _ _ _ = true; kernel_rfl) | (with_reducible show addC _ _ _ = _; kernel_rfl) | rfl | trivial | kernel_rfl | omega | exact Nat.le_of_ble_eq_true rfl | exact lt_len0 rfl | exact lt_len1 rfl); conv => whnf)
                  refine inI (by omega) (by omega) ?_
                  conv => whnf
                  repeat (refine And.intro ?_ ?_; (first | (with_reducible show okR _ _ _ _ = true; kernel_rfl) | (with_reducible show addC _ _ _ = _; kernel_rfl) | rfl | trivial | kernel_rfl | omega | exact Nat.le_of_ble_eq_true rfl | exact lt_len0 rfl | exact lt_len1 rfl); conv => whnf)
                  refine ⟨(k + 1, i), ⟨by show k + 1 ≤ _; omega, ?_⟩, by show l.length - (k + 1) < l.length - k; omega, weakTo_cov ?_ ?_⟩
                  · rw [hk2, drop_cons (edges_get hkl), hasE, if_neg (by simp [hon]), if_neg (by rw [flipP, hd, Bool.true_and, he]; simp)]
                  · conv => whnf
                    repeat (refine And.intro ?_ ?_; (first | exact rfl | exact Or.inl rfl | exact congrArg (SV.int .i64) (by first | rfl | omega | (simp; done) | (simp; omega))); conv => whnf)
                    exact trivial
                  · conv => whnf
                    repeat (refine And.intro ?_ ?_; (first | exact rfl | exact Or.inl rfl | exact congrArg (SV.int .i64) (by first | rfl | omega | (simp; done) | (simp; omega))); conv => whnf)
                    exact trivial
              · conv => whnf
                repeat (refine And.intro ?_ ?_; (first | (with_reducible show okR _ _ _ _ = true; kernel_rfl) | (with_reducible show addC _ _ _ = _; kernel_rfl) | rfl | trivial | kernel_rfl | omega | exact Nat.le_of_ble_eq_true rfl | exact lt_len0 rfl | exact lt_len1 rfl); conv => whnf)
                refine inI (by omega) (by omega) ?_
                conv => whnf
                repeat (refine And.intro ?_ ?_; (first | (with_reducible show okR _ _ _ _ = true; kernel_rfl) | (with_reducible show addC _ _ _ = _; kernel_rfl) | rfl | trivial | kernel_rfl | omega | exact Nat.le_of_ble_eq_true rfl | exact lt_len0 rfl | exact lt_len1 rfl); conv => whnf)
                refine ⟨(k + 1, i), ⟨by show k + 1 ≤ _; omega, ?_⟩, by show l.length - (k + 1) < l.length - k; omega, weakTo_cov ?_ ?_⟩
                · rw [hk2, drop_cons (edges_get hkl), hasE, if_neg (by simp [hon]), if_neg (by rw [flipP, hd]; simp)]
                · conv => whnf
                  repeat (refine And.intro ?_ ?_; (first | exact rfl | exact Or.inl rfl | exact congrArg (SV.int .i64) (by first | rfl | omega | (simp; done) | (simp; omega))); conv => whnf)
                  exact trivial
                · conv => whnf
                  repeat (refine And.intro ?_ ?_; (first | exact rfl | exact Or.inl rfl | exact congrArg (SV.int .i64) (by first | rfl | omega | (simp; done) | (simp; omega))); conv => whnf)
                  exact trivial
          · have hon : onSeg (nth l k) (nxt l k) q = false := by rw [onSeg, decide_eq_false g4]; simp
            conv => whnf
            repeat (refine And.intro ?_ ?_; (first | (with_reducible show okR _ _ _ _ = true; kernel_rfl) | (with_reducible show addC _ _ _ = _; kernel_rfl) | rfl | trivial | kernel_rfl | omega | exact Nat.le_of_ble_eq_true rfl | exact lt_len0 rfl | exact lt_len1 rfl); conv => whnf)
            refine ifB_intro (fun hd => ?_) (fun hd => ?_) <;> try dsimp only at hd
            · conv => whnf
              repeat (refine And.intro ?_ ?_; (first | (with_reducible show okR _ _ _ _ = true; kernel_rfl) | (with_reducible show addC _ _ _ = _; kernel_rfl) | rfl | trivial | kernel_rfl | omega | exact Nat.le_of_ble_eq_true rfl | exact lt_len0 rfl | exact lt_len1 rfl); conv => whnf)
              refine ifB_intro (fun he => ?_) (fun he => ?_) <;> try dsimp only at he
              · conv => whnf
                repeat (refine And.intro ?_ ?_; (first | (with_reducible show okR _ _ _ _ = true; kernel_rfl) | (with_reducible show addC _ _ _ = _; kernel_rfl) | rfl | trivial | kernel_rfl | omega | exact Nat.le_of_ble_eq_true rfl | exact lt_len0 rfl | exact lt_len1 rfl); conv => whnf)
                refine inI (by omega) (by omega) ?_
                conv => whnf
                repeat (refine And.intro ?_ ?_; (first | (with_reducible show okR _ _ _ _ = true; kernel_rfl) | (with_reducible show addC _ _ _ = _; kernel_rfl) | rfl | trivial | kernel_rfl | omega | exact Nat.le_of_ble_eq_true rfl | exact lt_len0 rfl | exact lt_len1 rfl); conv => whnf)
                refine ⟨(k + 1, !i), ⟨by show k + 1 ≤ _; omega, ?_⟩, by show l.length - (k + 1) < l.length - k; omega, weakTo_cov ?_ ?_⟩
                · rw [hk2, drop_cons (edges_get hkl), hasE, if_neg (by simp [hon]), if_pos (by rw [flipP, hd, Bool.true_and]; exact he)]
                · conv => whnf
                  repeat (refine And.intro ?_ ?_; (first | exact rfl | exact Or.inl rfl | exact congrArg (SV.int .i64) (by first | rfl | omega | (simp; done) | (simp; omega))); conv => whnf)
                  exact trivial
                · conv => whnf
                  repeat (refine And.intro ?_ ?_; (first | exact rfl | exact Or.inl rfl | exact congrArg (SV.int .i64) (by first | rfl | omega | (simp; done) | (simp; omega))); conv => whnf)
                  exact trivial
              · conv => whnf
                repeat (refine And.intro ?_ ?_; (first | (with_reducible show okR _ _ _ _ = true; kernel_rfl) | (with_reducible show addC _ _ _ = _; kernel_rfl) | rfl | trivial | kernel_rfl | omega | exact Nat.le_of_ble_eq_true rfl | exact lt_len0 rfl | exact lt_len1 rfl); conv => whnf)
                refine inI (by omega) (by omega) ?_
                conv => whnf
                repeat (refine And.intro ?_ ?_; (first | (with_reducible show okR _ _ _ _ = true; kernel_rfl) | (with_reducible show addC _ _ _ = _; kernel_rfl) | rfl | trivial | kernel_rfl | omega | exact Nat.le_of_ble_eq_true rfl | exact lt_len0 rfl | exact lt_len1 rfl); conv => whnf)
                refine ⟨(k + 1, i), ⟨by show k + 1 ≤ _; omega, ?_⟩, by show l.length - (k + 1) < l.length - k; omega, weakTo_cov ?_ ?_⟩
                · rw [hk2, drop_cons (edges_get hkl), hasE, if_neg (by simp [hon]), if_neg (by rw [flipP, hd, Bool.true_and, he]; simp)]
                · conv => whnf
                  repeat (refine And.intro ?_ ?_; (first | exact rfl | exact Or.inl rfl | exact congrArg (SV.int .i64) (by first | rfl | omega | (simp; done) | (simp; omega))); conv => whnf)
                  exact trivial
                · conv => whnf
                  repeat (refine And.intro ?_ ?_; (first | exact rfl | exact Or.inl rfl | exact congrArg (SV.int .i64) (by first | rfl | omega | (simp; done) | (simp; omega))); conv => whnf)
                  exact trivial
            · conv => whnf
              repeat (refine And.intro ?_ ?_; (first | (with_reducible show okR _ _ _ _ = true; kernel_rfl) | (with_reducible show addC _ _ _ = _; kernel_rfl) | rfl | trivial | kernel_rfl | omega | exact Nat.le_of_ble_eq_true rfl | exact lt_len0 rfl | exact lt_len1 rfl); conv => whnf)
              refine inI (by omega) (by omega) ?_
              conv => whnf
              repeat (refine And.intro ?_ ?_; (first | (with_reducible show okR _ _ _ _ = true; kernel_rfl) | (with_reducible show addC _ _ _ = _; kernel_rfl) | rfl | trivial | kernel_rfl | omega | exact Nat.le_of_ble_eq_true rfl | exact lt_len0 rfl | exact lt_len1 rfl); conv => whnf)
              refine ⟨(k + 1, i), ⟨by show k + 1 ≤ _; omega, ?_⟩, by show l.length - (k + 1) < l.length - k; omega, weakTo_cov ?_ ?_⟩
              · rw [hk2, drop_cons (edges_get hkl), hasE, if_neg (by simp [hon]), if_neg (by rw [flipP, hd]; simp)]
              · conv => whnf
                repeat (refine And.intro ?_ ?_; (first | exact rfl | exact Or.inl rfl | exact congrArg (SV.int .i64) (by first | rfl | omega | (simp; done) | (simp; omega))); conv => whnf)
                exact trivial
              · conv => whnf
                repeat (refine And.intro ?_ ?_; (first | exact rfl | exact Or.inl rfl | exact congrArg (SV.int .i64) (by first | rfl | omega | (simp; done) | (simp; omega))); conv => whnf)
                exact trivial
        · have hon : onSeg (nth l k) (nxt l k) q = false := by rw [onSeg, decide_eq_false g3]; simp
          conv => whnf
          repeat (refine And.intro ?_ ?_; (first | (with_reducible show okR _ _ _ _ = true; kernel_rfl) | (with_reducible show addC _ _ _ = _; kernel_rfl) | rfl | trivial | kernel_rfl | omega | exact Nat.le_of_ble_eq_true rfl | exact lt_len0 rfl | exact lt_len1 rfl); conv => whnf)
          refine ifB_intro (fun hd => ?_) (fun hd => ?_) <;> try dsimp only at hd
          · conv => whnf
            repeat (refine And.intro ?_ ?_; (first | (with_reducible show okR _ _ _ _ = true; kernel_rfl) | (with_reducible show addC _ _ _ = _; kernel_rfl) | rfl | trivial | kernel_rfl | omega | exact Nat.le_of_ble_eq_true rfl | exact lt_len0 rfl | exact lt_len1 rfl); conv => whnf)
            refine ifB_intro (fun he => ?_) (fun he => ?_) <;> try dsimp only at he
            · conv => whnf
              repeat (refine And.intro ?_ ?_; (first | (with_reducible show okR _ _ _ _ = true; kernel_rfl) | (with_reducible show addC _ _ _ = _; kernel_rfl) | rfl | trivial | kernel_rfl | omega | exact Nat.le_of_ble_eq_true rfl | exact lt_len0 rfl | exact lt_len1 rfl); conv => whnf)
              refine inI (by omega) (by omega) ?_
              conv => whnf
              repeat (refine And.intro ?_ ?_; (first | (with_reducible show okR _ _ _ _ = true; kernel_rfl) | (with_reducible show addC _ _ _ = _; kernel_rfl) | rfl | trivial | kernel_rfl | omega | exact Nat.le_of_ble_eq_true rfl | exact lt_len0 rfl | exact lt_len1 rfl); conv => whnf)
              refine ⟨(k + 1, !i), ⟨by show k + 1 ≤ _; omega, ?_⟩, by show l.length - (k + 1) < l.length - k; omega, weakTo_cov ?_ ?_⟩
              · rw [hk2, drop_cons (edges_get hkl), hasE, if_neg (by simp [hon]), if_pos (by rw [flipP, hd, Bool.true_and]; exact he)]
              · conv => whnf
                repeat (refine And.intro ?_ ?_; (first | exact rfl | exact Or.inl rfl | exact congrArg (SV.int .i64) (by first | rfl | omega | (simp; done) | (simp; omega))); conv => whnf)
                exact trivial
              · conv => whnf
                repeat (refine And.intro ?_ ?_; (first | exact rfl | exact Or.inl rfl | exact congrArg (SV.int .i64) (by first | rfl | omega | (simp; done) | (simp; omega))); conv => whnf)
                exact trivial
            · conv => whnf
              repeat (refine And.intro ?_ ?_; (first | (with_reducible show okR _ _ _ _ = true; kernel_rfl) | (with_reducible show addC _ _ _ = _; kernel_rfl) | rfl | trivial | kernel_rfl | omega | exact Nat.le_of_ble_eq_true rfl | exact lt_len0 rfl | exact lt_len1 rfl); conv => whnf)
              refine inI (by omega) (by omega) ?_
              conv => whnf
              repeat (refine And.intro ?_ ?_; (first | (with_reducible show okR _ _ _ _ = true; kernel_rfl) | (with_reducible show addC _ _ _ = _; kernel_rfl) | rfl | trivial | kernel_rfl | omega | exact Nat.le_of_ble_eq_true rfl | exact lt_len0 rfl | exact lt_len1 rfl); conv => whnf)
              refine ⟨(k + 1, i), ⟨by show k + 1 ≤ _; omega, ?_⟩, by show l.length - (k + 1) < l.length - k; omega, weakTo_cov ?_ ?_⟩
              · rw [hk2, drop_cons (edges_get hkl), hasE, if_neg (by simp [hon]), if_neg (by rw [flipP, hd, Bool.true_and, he]; simp)]
              · conv => whnf
                repeat (refine And.intro ?_ ?_; (first | exact rfl | exact Or.inl rfl | exact congrArg (SV.int .i64) (by first | rfl | omega | (simp; done) | (simp; omega))); conv => whnf)
                exact trivial
              · conv => whnf
                repeat (refine And.intro ?_ ?_; (first | exact rfl | exact Or.inl rfl | exact congrArg (SV.int .i64) (by first | rfl | omega | (simp; done) | (simp; omega))); conv => whnf)
                exact trivial
          · conv => whnf
            repeat (refine And.intro ?_ ?_; (first | (with_reducible show okR _ _ _ _ = true; kernel_rfl) | (with_reducible show addC _ _ _ = _; kernel_rfl) | rfl | trivial | kernel_rfl | omega | exact Nat.le_of_ble_eq_true rfl | exact lt_len0 rfl | exact lt_len1 rfl); conv => whnf)
            refine inI (by omega) (by omega) ?_
            conv => whnf
            repeat (refine And.intro ?_ ?_; (first | (with_reducible show okR _ _ _ _ = true; kernel_rfl) | (with_reducible show addC _ _ _ = _; kernel_rfl) | rfl | trivial | kernel_rfl | omega | exact Nat.le_of_ble_eq_true rfl | exact lt_len0 rfl | exact lt_len1 rfl); conv => whnf)
            refine ⟨(k + 1, i), ⟨by show k + 1 ≤ _; omega, ?_⟩, by show l.length - (k + 1) < l.length - k; omega, weakTo_cov ?_ ?_⟩
            · rw [hk2, drop_cons (edges_get hkl), hasE, if_neg (by simp [hon]), if_neg (by rw [flipP, hd]; simp)]
            · conv => whnf
              repeat (refine And.intro ?_ ?_; (first | exact rfl | exact Or.inl rfl | exact congrArg (SV.int .i64) (by first | rfl | omega | (simp; done) | (simp; omega))); conv => whnf)
              exact trivial
            · conv => whnf
              repeat (refine And.intro ?_ ?_; (first | exact rfl | exact Or.inl rfl | exact congrArg (SV.int .i64) (by first | rfl | omega | (simp; done) | (simp; omega))); conv => whnf)
              exact trivial
      · have hon : onSeg (nth l k) (nxt l k) q = false := by rw [onSeg, decide_eq_false g2]; simp
        conv => whnf
        repeat (refine And.intro ?_ ?_; (first | (with_reducible show okR _ _ _ _ = true; kernel_rfl) | (with_reducible show addC _ _ _ = _; kernel_rfl) | rfl | trivial | kernel_rfl | omega | exact Nat.le_of_ble_eq_true rfl | exact lt_len0 rfl | exact lt_len1 rfl); conv => whnf)
        refine ifB_intro (fun hd => ?_) (fun hd => ?_) <;> try dsimp only at hd
        · conv => whnf
          repeat (refine And.intro ?_ ?_; (first | (with_reducible show okR _ _ _ _ = true; kernel_rfl) | (with_reducible show addC _ _ _ = _; kernel_rfl) | rfl | trivial | kernel_rfl | omega | exact Nat.le_of_ble_eq_true rfl | exact lt_len0 rfl | exact lt_len1 rfl); conv => whnf)
          refine ifB_intro (fun he => ?_) (fun he => ?_) <;> try dsimp only at he
          · conv => whnf
            repeat (refine And.intro ?_ ?_; (first | (with_reducible show okR _ _ _ _ = true; kernel_rfl) | (with_reducible show addC _ _ _ = _; kernel_rfl) | rfl | trivial | kernel_rfl | omega | exact Nat.le_of_ble_eq_true rfl | exact lt_len0 rfl | exact lt_len1 rfl); conv => whnf)
            refine inI (by omega) (by omega) ?_
            conv => whnf
            repeat (refine And.intro ?_ ?_; (first | (with_reducible show okR _ _ _ _ = true; kernel_rfl) | (with_reducible show addC _ _ _ = _; kernel_rfl) | rfl | trivial | kernel_rfl | omega | exact Nat.le_of_ble_eq_true rfl | exact lt_len0 rfl | exact lt_len1 rfl); conv => whnf)
            refine ⟨(k + 1, !i), ⟨by show k + 1 ≤ _; omega, ?_⟩, by show l.length - (k + 1) < l.length - k; omega, weakTo_cov ?_ ?_⟩
            · rw [hk2, drop_cons (edges_get hkl), hasE, if_neg (by simp [hon]), if_pos (by rw [flipP, hd, Bool.true_and]; exact he)]
            · conv => whnf
              repeat (refine And.intro ?_ ?_; (first | exact rfl | exact Or.inl rfl | exact congrArg (SV.int .i64) (by first | rfl | omega | (simp; done) | (simp; omega))); conv => whnf)
              exact trivial
            · conv => whnf
              repeat (refine And.intro ?_ ?_; (first | exact rfl | exact Or.inl rfl | exact congrArg (SV.int .i64) (by first | rfl | omega | (simp; done) | (simp; omega))); conv => whnf)
              exact trivial
          · conv => whnf
            repeat (refine And.intro ?_ ?_; (first | (with_reducible show okR _ _ _ _ = true; kernel_rfl) | (with_reducible show addC _ _ _ = _; kernel_rfl) | rfl | trivial | kernel_rfl | omega | exact Nat.le_of_ble_eq_true rfl | exact lt_len0 rfl | exact lt_len1 rfl); conv => whnf)
            refine inI (by omega) (by omega) ?_
            conv => whnf
            repeat (refine And.intro ?_ ?_; (first | (with_reducible show okR _ _ _ _ = true; kernel_rfl) | (with_reducible show addC _ _ _ = _; kernel_rfl) | rfl | trivial | kernel_rfl | omega | exact Nat.le_of_ble_eq_true rfl | exact lt_len0 rfl | exact lt_len1 rfl); conv => whnf)
            refine ⟨(k + 1, i), ⟨by show k + 1 ≤ _; omega, ?_⟩, by show l.length - (k + 1) < l.length - k; omega, weakTo_cov ?_ ?_⟩
            · rw [hk2, drop_cons (edges_get hkl), hasE, if_neg (by simp [hon]), if_neg (by rw [flipP, hd, Bool.true_and, he]; simp)]
            · conv => whnf
              repeat (refine And.intro ?_ ?_; (first | exact rfl | exact Or.inl rfl | exact congrArg (SV.int .i64) (by first | rfl | omega | (simp; done) | (simp; omega))); conv => whnf)
              exact trivial
            · conv => whnf
              repeat (refine And.intro ?_ ?_; (first | exact rfl | exact Or.inl rfl | exact congrArg (SV.int .i64) (by first | rfl | omega | (simp; done) | (simp; omega))); conv => whnf)
              exact trivial
        · conv => whnf
          repeat (refine And.intro ?_ ?_; (first | (with_reducible show okR _ _ _ _ = true; kernel_rfl) | (with_reducible show addC _ _ _ = _; kernel_rfl) | rfl | trivial | kernel_rfl | omega | exact Nat.le_of_ble_eq_true rfl | exact lt_len0 rfl | exact lt_len1 rfl); conv => whnf)
          refine inI (by omega) (by omega) ?_
          conv => whnf
          repeat (refine And.intro ?_ ?_; (first | (with_reducible show okR _ _ _ _ = true; kernel_rfl) | (with_reducible show addC _ _ _ = _; kernel_rfl) | rfl | trivial | kernel_rfl | omega | exact Nat.le_of_ble_eq_true rfl | exact lt_len0 rfl | exact lt_len1 rfl); conv => whnf)
          refine ⟨(k + 1, i), ⟨by show k + 1 ≤ _; omega, ?_⟩, by show l.length - (k + 1) < l.length - k; omega, weakTo_cov ?_ ?_⟩
          · rw [hk2, drop_cons (edges_get hkl), hasE, if_neg (by simp [hon]), if_neg (by rw [flipP, hd]; simp)]
          · conv => whnf
            repeat (refine And.intro ?_ ?_; (first | exact rfl | exact Or.inl rfl | exact congrArg (SV.int .i64) (by first | rfl | omega | (simp; done) | (simp; omega))); conv => whnf)
            exact trivial
          · conv => whnf
            repeat (refine And.intro ?_ ?_; (first | exact rfl | exact Or.inl rfl | exact congrArg (SV.int .i64) (by first | rfl | omega | (simp; done) | (simp; omega))); conv => whnf)
            exact trivial
    · have hon : onSeg (nth l k) (nxt l k) q = false := by rw [onSeg, decide_eq_false g1]; simp
      conv => whnf
      repeat (refine And.intro ?_ ?_; (first | (with_reducible show okR _ _ _ _ = true; kernel_rfl) | (with_reducible show addC _ _ _ = _; kernel_rfl) | rfl | trivial | kernel_rfl | omega | exact Nat.le_of_ble_eq_true rfl | exact lt_len0 rfl | exact lt_len1 rfl); conv => whnf)
      refine ifB_intro (fun hd => ?_) (fun hd => ?_) <;> try dsimp only at hd
      · conv => whnf
        repeat (refine And.intro ?_ ?_; (first | (with_reducible show okR _ _ _ _ = true; kernel_rfl) | (with_reducible show addC _ _ _ = _; kernel_rfl) | rfl | trivial | kernel_rfl | omega | exact Nat.le_of_ble_eq_true rfl | exact lt_len0 rfl | exact lt_len1 rfl); conv => whnf)
        refine ifB_intro (fun he => ?_) (fun he => ?_) <;> try dsimp only at he
        · conv => whnf
          repeat (refine And.intro ?_ ?_; (first | (with_reducible show okR _ _ _ _ = true; kernel_rfl) | (with_reducible show addC _ _ _ = _; kernel_rfl) | rfl | trivial | kernel_rfl | omega | exact Nat.le_of_ble_eq_true rfl | exact lt_len0 rfl | exact lt_len1 rfl); conv => whnf)
          refine inI (by omega) (by omega) ?_
          conv => whnf
          repeat (refine And.intro ?_ ?_; (first | (with_reducible show okR _ _ _ _ = true; kernel_rfl) | (with_reducible show addC _ _ _ = _; kernel_rfl) | rfl | trivial | kernel_rfl | omega | exact Nat.le_of_ble_eq_true rfl | exact lt_len0 rfl | exact lt_len1 rfl); conv => whnf)
          refine ⟨(k + 1, !i), ⟨by show k + 1 ≤ _; omega, ?_⟩, by show l.length - (k + 1) < l.length - k; omega, weakTo_cov ?_ ?_⟩
          · rw [hk2, drop_cons (edges_get hkl), hasE, if_neg (by simp [hon]), if_pos (by rw [flipP, hd, Bool.true_and]; exact he)]
          · conv => whnf
            repeat (refine And.intro ?_ ?_; (first | exact rfl | exact Or.inl rfl | exact congrArg (SV.int .i64) (by first | rfl | omega | (simp; done) | (simp; omega))); conv => whnf)
            exact trivial
          · conv => whnf
            repeat (refine And.intro ?_ ?_; (first | exact rfl | exact Or.inl rfl | exact congrArg (SV.int .i64) (by first | rfl | omega | (simp; done) | (simp; omega))); conv => whnf)
            exact trivial
        · conv => whnf
          repeat (refine And.intro ?_ ?_; (first | (with_reducible show okR _ _ _ _ = true; kernel_rfl) | (with_reducible show addC _ _ _ = _; kernel_rfl) | rfl | trivial | kernel_rfl | omega | exact Nat.le_of_ble_eq_true rfl | exact lt_len0 rfl | exact lt_len1 rfl); conv => whnf)
          refine inI (by omega) (by omega) ?_
          conv => whnf
          repeat (refine And.intro ?_ ?_; (first | (with_reducible show okR _ _ _ _ = true; kernel_rfl) | (with_reducible show addC _ _ _ = _; kernel_rfl) | rfl | trivial | kernel_rfl | omega | exact Nat.le_of_ble_eq_true rfl | exact lt_len0 rfl | exact lt_len1 rfl); conv => whnf)
          refine ⟨(k + 1, i), ⟨by show k + 1 ≤ _; omega, ?_⟩, by show l.length - (k + 1) < l.length - k; omega, weakTo_cov ?_ ?_⟩
          · rw [hk2, drop_cons (edges_get hkl), hasE, if_neg (by simp [hon]), if_neg (by rw [flipP, hd, Bool.true_and, he]; simp)]
          · conv => whnf
            repeat (refine And.intro ?_ ?_; (first | exact rfl | exact Or.inl rfl | exact congrArg (SV.int .i64) (by first | rfl | omega | (simp; done) | (simp; omega))); conv => whnf)
            exact trivial
          · conv => whnf
            repeat (refine And.intro ?_ ?_; (first | exact rfl | exact Or.inl rfl | exact congrArg (SV.int .i64) (by first | rfl | omega | (simp; done) | (simp; omega))); conv => whnf)
            exact trivial
      · conv => whnf
        repeat (refine And.intro ?_ ?_; (first | (with_reducible show okR _ _ _ _ = true; kernel_rfl) | (with_reducible show addC _ _ _ = _; kernel_rfl) | rfl | trivial | kernel_rfl | omega | exact Nat.le_of_ble_eq_true rfl | exact lt_len0 rfl | exact lt_len1 rfl); conv => whnf)
        refine inI (by omega) (by omega) ?_
        conv => whnf
        repeat (refine And.intro ?_ ?_; (first | (with_reducible show okR _ _ _ _ = true; kernel_rfl) | (with_reducible show addC _ _ _ = _; kernel_rfl) | rfl | trivial | kernel_rfl | omega | exact Nat.le_of_ble_eq_true rfl | exact lt_len0 rfl | exact lt_len1 rfl); conv => whnf)
        refine ⟨(k + 1, i), ⟨by show k + 1 ≤ _; omega, ?_⟩, by show l.length - (k + 1) < l.length - k; omega, weakTo_cov ?_ ?_⟩
        · rw [hk2, drop_cons (edges_get hkl), hasE, if_neg (by simp [hon]), if_neg (by rw [flipP, hd]; simp)]
        · conv => whnf
          repeat (refine And.intro ?_ ?_; (first | exact rfl | exact Or.inl rfl | exact congrArg (SV.int .i64) (by first | rfl | omega | (simp; done) | (simp; omega))); conv => whnf)
          exact trivial
        · conv => whnf
          repeat (refine And.intro ?_ ?_; (first | exact rfl | exact Or.inl rfl | exact congrArg (SV.int .i64) (by first | rfl | omega | (simp; done) | (simp; omega))); conv => whnf)
          exact trivial
  · conv => whnf
    repeat (refine And.intro ?_ ?_; (first | (with_reducible show okR _ _ _ _ = true; kernel_rfl) | (with_reducible show addC _ _ _ = _; kernel_rfl) | rfl | trivial | kernel_rfl | omega | exact Nat.le_of_ble_eq_true rfl | exact lt_len0 rfl | exact lt_len1 rfl); conv => whnf)
    rw [hhas, hk2, List.drop_eq_nil_of_le (by rw [edges_len]; omega)]
    rfl
end Go.Proofs.Yticandbdabgkeaa.Am
