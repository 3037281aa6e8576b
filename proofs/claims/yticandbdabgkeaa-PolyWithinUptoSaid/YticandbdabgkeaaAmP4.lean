/- The contracts of the cross product and of the chains of a hull, the program's and the reference's. No condition: definitions and lemmas. The contracts of the reference's order of points, its sort, and its hull. No condition: definitions and lemmas. -/
import Derived.Test.YticandbdabgkeaaAmP2
import Derived.Test.YticandbdabgkeaaAmD5
namespace Go.Proofs.Yticandbdabgkeaa.Am
open Go
set_option maxRecDepth 100000

def crossN (a b c : XY) : Int := (b.x - a.x) * (c.y - a.y) - (b.y - a.y) * (c.x - a.x)

theorem mulD {a b : Int} (h1 : -1200 ≤ a) (h2 : a ≤ 1200) (h3 : -1200 ≤ b) (h4 : b ≤ 1200) : -1440000 ≤ a * b ∧ a * b ≤ 1440000 := by
  constructor
  · rcases Int.le_total 0 b with hb | hb
    · have := Int.mul_le_mul_of_nonneg_right h1 hb
      omega
    · have := Int.mul_le_mul_of_nonpos_right h2 hb
      omega
  · rcases Int.le_total 0 b with hb | hb
    · have := Int.mul_le_mul_of_nonneg_right h2 hb
      omega
    · have := Int.mul_le_mul_of_nonpos_right h1 hb
      omega

theorem polycross_pure (a b c : XY) (ha : a.In) (hb : b.In) (hc : c.In) : Pure Try.prog G0 55 [.agg (eP a), .agg (eP b), .agg (eP c)] (.i (crossN a b c)) := by
  obtain ⟨a1, a2, a3, a4⟩ := ha
  obtain ⟨b1, b2, b3, b4⟩ := hb
  obtain ⟨c1, c2, c3, c4⟩ := hc
  have m1 := @mulD (b.x - a.x) (c.y - a.y) (by omega) (by omega) (by omega) (by omega)
  have m2 := @mulD (b.y - a.y) (c.x - a.x) (by omega) (by omega) (by omega) (by omega)
  refine pure_of mixed Try.func55 rfl rfl (Nat.le_of_ble_eq_true rfl) ?_
  conv => whnf
  repeat (refine And.intro ?_ ?_; (first | (with_reducible show okR _ _ _ _ = true; kernel_rfl) | (with_reducible show addC _ _ _ = _; kernel_rfl) | rfl | trivial | kernel_rfl | omega | exact Nat.le_of_ble_eq_true rfl | exact lt_len0 rfl | exact lt_len1 rfl); conv => whnf)
  refine inI (by omega) (by omega) ?_
  conv => whnf
  repeat (refine And.intro ?_ ?_; (first | (with_reducible show okR _ _ _ _ = true; kernel_rfl) | (with_reducible show addC _ _ _ = _; kernel_rfl) | rfl | trivial | kernel_rfl | omega | exact Nat.le_of_ble_eq_true rfl | exact lt_len0 rfl | exact lt_len1 rfl); conv => whnf)
  refine inI (by omega) (by omega) ?_
  conv => whnf
  repeat (refine And.intro ?_ ?_; (first | (with_reducible show okR _ _ _ _ = true; kernel_rfl) | (with_reducible show addC _ _ _ = _; kernel_rfl) | rfl | trivial | kernel_rfl | omega | exact Nat.le_of_ble_eq_true rfl | exact lt_len0 rfl | exact lt_len1 rfl); conv => whnf)
  refine inI (by omega) (by omega) ?_
  conv => whnf
  repeat (refine And.intro ?_ ?_; (first | (with_reducible show okR _ _ _ _ = true; kernel_rfl) | (with_reducible show addC _ _ _ = _; kernel_rfl) | rfl | trivial | kernel_rfl | omega | exact Nat.le_of_ble_eq_true rfl | exact lt_len0 rfl | exact lt_len1 rfl); conv => whnf)
  refine inI (by omega) (by omega) ?_
  conv => whnf
  repeat (refine And.intro ?_ ?_; (first | (with_reducible show okR _ _ _ _ = true; kernel_rfl) | (with_reducible show addC _ _ _ = _; kernel_rfl) | rfl | trivial | kernel_rfl | omega | exact Nat.le_of_ble_eq_true rfl | exact lt_len0 rfl | exact lt_len1 rfl); conv => whnf)
  refine inI (by omega) (by omega) ?_
  conv => whnf
  repeat (refine And.intro ?_ ?_; (first | (with_reducible show okR _ _ _ _ = true; kernel_rfl) | (with_reducible show addC _ _ _ = _; kernel_rfl) | rfl | trivial | kernel_rfl | omega | exact Nat.le_of_ble_eq_true rfl | exact lt_len0 rfl | exact lt_len1 rfl); conv => whnf)
  refine inI (by omega) (by omega) ?_
  conv => whnf
  repeat (refine And.intro ?_ ?_; (first | (with_reducible show okR _ _ _ _ = true; kernel_rfl) | (with_reducible show addC _ _ _ = _; kernel_rfl) | rfl | trivial | kernel_rfl | omega | exact Nat.le_of_ble_eq_true rfl | exact lt_len0 rfl | exact lt_len1 rfl); conv => whnf)
  refine inI (by omega) (by omega) ?_
  conv => whnf
  repeat (refine And.intro ?_ ?_; (first | (with_reducible show okR _ _ _ _ = true; kernel_rfl) | (with_reducible show addC _ _ _ = _; kernel_rfl) | rfl | trivial | kernel_rfl | omega | exact Nat.le_of_ble_eq_true rfl | exact lt_len0 rfl | exact lt_len1 rfl); conv => whnf)
  rfl

theorem refcross_pure (a b c : XY) (ha : a.In) (hb : b.In) (hc : c.In) : Pure Try.prog G0 31 [.agg (eP a), .agg (eP b), .agg (eP c)] (.i (crossN a b c)) := by
  obtain ⟨a1, a2, a3, a4⟩ := ha
  obtain ⟨b1, b2, b3, b4⟩ := hb
  obtain ⟨c1, c2, c3, c4⟩ := hc
  have m1 := @mulD (b.x - a.x) (c.y - a.y) (by omega) (by omega) (by omega) (by omega)
  have m2 := @mulD (b.y - a.y) (c.x - a.x) (by omega) (by omega) (by omega) (by omega)
  refine pure_of mixed Try.func31 rfl rfl (Nat.le_of_ble_eq_true rfl) ?_
  conv => whnf
  repeat (refine And.intro ?_ ?_; (first | (with_reducible show okR _ _ _ _ = true; kernel_rfl) | (with_reducible show addC _ _ _ = _; kernel_rfl) | rfl | trivial | kernel_rfl | omega | exact Nat.le_of_ble_eq_true rfl | exact lt_len0 rfl | exact lt_len1 rfl); conv => whnf)
  refine inI (by omega) (by omega) ?_
  conv => whnf
  repeat (refine And.intro ?_ ?_; (first | (with_reducible show okR _ _ _ _ = true; kernel_rfl) | (with_reducible show addC _ _ _ = _; kernel_rfl) | rfl | trivial | kernel_rfl | omega | exact Nat.le_of_ble_eq_true rfl | exact lt_len0 rfl | exact lt_len1 rfl); conv => whnf)
  refine inI (by omega) (by omega) ?_
  conv => whnf
  repeat (refine And.intro ?_ ?_; (first | (with_reducible show okR _ _ _ _ = true; kernel_rfl) | (with_reducible show addC _ _ _ = _; kernel_rfl) | rfl | trivial | kernel_rfl | omega | exact Nat.le_of_ble_eq_true rfl | exact lt_len0 rfl | exact lt_len1 rfl); conv => whnf)
  refine inI (by omega) (by omega) ?_
  conv => whnf
  repeat (refine And.intro ?_ ?_; (first | (with_reducible show okR _ _ _ _ = true; kernel_rfl) | (with_reducible show addC _ _ _ = _; kernel_rfl) | rfl | trivial | kernel_rfl | omega | exact Nat.le_of_ble_eq_true rfl | exact lt_len0 rfl | exact lt_len1 rfl); conv => whnf)
  refine inI (by omega) (by omega) ?_
  conv => whnf
  repeat (refine And.intro ?_ ?_; (first | (with_reducible show okR _ _ _ _ = true; kernel_rfl) | (with_reducible show addC _ _ _ = _; kernel_rfl) | rfl | trivial | kernel_rfl | omega | exact Nat.le_of_ble_eq_true rfl | exact lt_len0 rfl | exact lt_len1 rfl); conv => whnf)
  refine inI (by omega) (by omega) ?_
  conv => whnf
  repeat (refine And.intro ?_ ?_; (first | (with_reducible show okR _ _ _ _ = true; kernel_rfl) | (with_reducible show addC _ _ _ = _; kernel_rfl) | rfl | trivial | kernel_rfl | omega | exact Nat.le_of_ble_eq_true rfl | exact lt_len0 rfl | exact lt_len1 rfl); conv => whnf)
  refine inI (by omega) (by omega) ?_
  conv => whnf
  repeat (refine And.intro ?_ ?_; (first | (with_reducible show okR _ _ _ _ = true; kernel_rfl) | (with_reducible show addC _ _ _ = _; kernel_rfl) | rfl | trivial | kernel_rfl | omega | exact Nat.le_of_ble_eq_true rfl | exact lt_len0 rfl | exact lt_len1 rfl); conv => whnf)
  refine inI (by omega) (by omega) ?_
  conv => whnf
  repeat (refine And.intro ?_ ?_; (first | (with_reducible show okR _ _ _ _ = true; kernel_rfl) | (with_reducible show addC _ _ _ = _; kernel_rfl) | rfl | trivial | kernel_rfl | omega | exact Nat.le_of_ble_eq_true rfl | exact lt_len0 rfl | exact lt_len1 rfl); conv => whnf)
  rfl

/-! ### Chains -/
/-- The corners so far, the last one first. -/
def pop (q : XY) : List XY → List XY
  | [] => []
  | [a] => [a]
  | b :: a :: r => if crossN a b q ≤ 0 then pop q (a :: r) else b :: a :: r
def chainR (l : List XY) : List XY := l.foldl (fun st q => q :: pop q st) []
def chainN (l : List XY) : List XY := (chainR l).reverse

theorem pop_cons {q a b : XY} {r : List XY} (h : crossN a b q ≤ 0) : pop q (b :: a :: r) = pop q (a :: r) := by rw [pop, if_pos h]
theorem pop_stop {q a b : XY} {r : List XY} (h : ¬ crossN a b q ≤ 0) : pop q (b :: a :: r) = b :: a :: r := by rw [pop, if_neg h]
theorem pop_short {q : XY} {l : List XY} (h : l.length ≤ 1) : pop q l = l := by
  match l, h with
  | [], _ => rfl
  | [a], _ => rfl
theorem pop_sub (q : XY) : ∀ l : List XY, ∀ x ∈ pop q l, x ∈ l
  | [], x, h => h
  | [a], x, h => h
  | b :: a :: r, x, h => by
    by_cases hc : crossN a b q ≤ 0
    · rw [pop_cons hc] at h
      exact List.mem_cons_of_mem _ (pop_sub q (a :: r) x h)
    · rw [pop_stop hc] at h; exact h
theorem pop_len (q : XY) : ∀ l : List XY, (pop q l).length ≤ l.length
  | [] => Nat.le_refl _
  | [a] => Nat.le_refl _
  | b :: a :: r => by
    by_cases hc : crossN a b q ≤ 0
    · rw [pop_cons hc]
      have := pop_len q (a :: r)
      simp only [List.length_cons] at this ⊢
      omega
    · rw [pop_stop hc]; exact Nat.le_refl _
theorem foldl_sub : ∀ (l st : List XY), ∀ x ∈ l.foldl (fun st q => q :: pop q st) st, x ∈ st ∨ x ∈ l
  | [], st, x, h => .inl h
  | q :: l, st, x, h => by
    rcases foldl_sub l _ x h with h | h
    · rcases List.mem_cons.1 h with rfl | h
      · exact .inr (by simp)
      · exact .inl (pop_sub q st x h)
    · exact .inr (by simp [h])
theorem chainR_sub (l : List XY) : ∀ x ∈ chainR l, x ∈ l := fun x h => by
  rcases foldl_sub l [] x h with h | h
  · cases h
  · exact h
theorem foldl_len : ∀ (l st : List XY), (l.foldl (fun st q => q :: pop q st) st).length ≤ st.length + l.length
  | [], st => by simp
  | q :: l, st => by
    have h1 := foldl_len l (q :: pop q st)
    have h2 := pop_len q st
    simp only [List.foldl_cons, List.length_cons] at h1 ⊢
    omega
theorem chainR_len (l : List XY) : (chainR l).length ≤ l.length := by have := foldl_len l []; simpa [chainR] using this

theorem chainR_snoc {l : List XY} {k : Nat} {x : XY} (h : l[k]? = some x) : chainR (l.take (k + 1)) = x :: pop x (chainR (l.take k)) := by
  rw [chainR, take_snoc h, List.foldl_append]
  rfl

/-- The last two corners in the row. -/
theorem top_get {st : List XY} {j : Nat} {a b : XY} {r : List XY} (h : st.drop j = b :: a :: r) : (st.reverse.map eP)[st.length - j - 1]? = some (eP b) ∧ (st.reverse.map eP)[st.length - j - 2]? = some (eP a) := by
  have hl : st.length - j = r.length + 2 := by have := congrArg List.length h; simpa using this
  have e1 : st[j]? = some b := by have := congrArg (fun l => l[0]?) h; simpa using this
  have e2 : st[j + 1]? = some a := by have := congrArg (fun l => l[1]?) h; simpa using this
  constructor
  · refine get_map ?_
    rw [List.getElem?_reverse (by omega)]
    rw [show st.length - 1 - (st.length - j - 1) = j by omega]; exact e1
  · refine get_map ?_
    rw [List.getElem?_reverse (by omega)]
    rw [show st.length - 1 - (st.length - j - 2) = j + 1 by omega]; exact e2
theorem take_rev (st : List XY) (j : Nat) : (st.reverse.map eP).take (st.length - j) = ((st.drop j).reverse.map eP) := by
  rw [← List.map_take, List.reverse_drop]

theorem chain_fresh (l : List XY) (hl : l.length ≤ 1000000) (hin : ∀ p ∈ l, p.In) : FreshC Try.prog G0 46 [.sl 2 (l.map eP)] 2 ((chainN l).map eP) (.lrow 0 0) := by
  refine fresh_intro mixed Try.func46 rfl rfl (Nat.le_of_ble_eq_true rfl) ?_
  conv => whnf
  repeat (refine And.intro ?_ ?_; (first | (with_reducible show okR _ _ _ _ = true; kernel_rfl) | (with_reducible show addC _ _ _ = _; kernel_rfl) | rfl | trivial | kernel_rfl | omega | exact Nat.le_of_ble_eq_true rfl | exact lt_len0 rfl | exact lt_len1 rfl); conv => whnf)
  refine loop_weak (weak_nil_slot 3 40 2 rfl) ?_
  refine loop_rule mixed (ι := Nat) (fun k s => [(3, .lrow 40 (s 40)), (6, .sl 2 (l.map eP)), (7, .i l.length), (8, .i k)]) (fun k s => [(40, ⟨s 40, 1, 2, (chainR (l.take k)).reverse.map eP⟩)]) (fun k => k ≤ l.length) (fun k => l.length - k) 0 (by omega) (weakTo_cov ?_ ?_) fun k hk s ct => ?_
  · conv => whnf
    repeat (refine And.intro ?_ ?_; (first | exact rfl | exact Or.inl rfl | exact congrArg (SV.int .i64) (by first | rfl | omega | (simp; done) | (simp; omega))); conv => whnf)
    exact trivial
  · conv => whnf
    repeat (refine And.intro ?_ ?_; (first | exact rfl | exact Or.inl rfl | exact congrArg (SV.int .i64) (by first | rfl | omega | (simp; done) | (simp; omega))); conv => whnf)
    exact trivial
  conv => whnf
  repeat (refine And.intro ?_ ?_; (first | (with_reducible show okR _ _ _ _ = true; kernel_rfl) | (with_reducible show addC _ _ _ = _; kernel_rfl) | rfl | trivial | kernel_rfl | omega | exact Nat.le_of_ble_eq_true rfl | exact lt_len0 rfl | exact lt_len1 rfl); conv => whnf)
  refine ifD (fun h1 => ?_) (fun h1 => ?_) <;> try dsimp only at h1
  · obtain ⟨x, hx⟩ := get_lt (l := l) (k := k) (by omega)
    have hst := chainR_len (l.take k)
    have htk : (l.take k).length ≤ k := by simp; omega
    have hsub : ∀ p ∈ chainR (l.take k), p.In := fun p hp => hin p (List.mem_of_mem_take (chainR_sub _ p hp))
    have hs := chainR_snoc hx
    generalize hS : chainR (l.take k) = st at *
    have hxin := hin x (List.mem_of_getElem? hx)
    conv => whnf
    repeat (refine And.intro ?_ ?_; (first | (with_reducible show okR _ _ _ _ = true; kernel_rfl) | (with_reducible show addC _ _ _ = _; kernel_rfl) | rfl | trivial | kernel_rfl | omega | exact Nat.le_of_ble_eq_true rfl | exact lt_len0 rfl | exact lt_len1 rfl); conv => whnf)
    refine ⟨_, get_map hx, ?_⟩
    conv => whnf
    repeat (refine And.intro ?_ ?_; (first | (with_reducible show okR _ _ _ _ = true; kernel_rfl) | (with_reducible show addC _ _ _ = _; kernel_rfl) | rfl | trivial | kernel_rfl | omega | exact Nat.le_of_ble_eq_true rfl | exact lt_len0 rfl | exact lt_len1 rfl); conv => whnf)
    refine loop_rule mixed (ι := Nat) (fun j s => [(3, .lsl 40 (s 40) 0 (st.length - j)), (5, .lptr 5 (s 5) 0 0), (6, .sl 2 (l.map eP)), (7, .i l.length), (8, .i k)]) (fun j s => [(5, ⟨s 5, 0, 2, [eP x]⟩), (40, ⟨s 40, 1, 2, st.reverse.map eP⟩)]) (fun j => j ≤ st.length ∧ pop x st = pop x (st.drop j)) (fun j => st.length - j) 0 ⟨by omega, rfl⟩ (weakTo_cov ?_ ?_) fun j hj s ct => ?_
    · conv => whnf
      refine And.intro (.inr ?_) ?_
      · conv => whnf
        repeat (refine And.intro rfl ?_; conv => whnf)
        simp
      · conv => whnf
        repeat (refine And.intro ?_ ?_; (first | exact rfl | exact Or.inl rfl | exact congrArg (SV.int .i64) (by first | rfl | omega | (simp; done) | (simp; omega))); conv => whnf)
        exact trivial
    · conv => whnf
      repeat (refine And.intro ?_ ?_; (first | exact rfl | exact Or.inl rfl | exact congrArg (SV.int .i64) (by first | rfl | omega | (simp; done) | (simp; omega))); conv => whnf)
      exact trivial
    obtain ⟨hj, hp⟩ := hj
    conv => whnf
    repeat (refine And.intro ?_ ?_; (first | (with_reducible show okR _ _ _ _ = true; kernel_rfl) | (with_reducible show addC _ _ _ = _; kernel_rfl) | rfl | trivial | kernel_rfl | omega | exact Nat.le_of_ble_eq_true rfl | exact lt_len0 rfl | exact lt_len1 rfl); conv => whnf)
    refine ifD (fun h2 => ?_) (fun h2 => ?_) <;> try dsimp only at h2
    · obtain ⟨b, a, r, hr⟩ : ∃ b a r, st.drop j = b :: a :: r := by
        have hlen : (st.drop j).length = st.length - j := List.length_drop ..
        match hd : st.drop j with
        | [] => rw [hd] at hlen; simp at hlen; omega
        | [a] => rw [hd] at hlen; simp at hlen; omega
        | b :: a :: r => exact ⟨b, a, r, rfl⟩
      obtain ⟨g1, g2⟩ := top_get hr
      have hma : a ∈ st := List.mem_of_mem_drop (by rw [hr]; simp)
      have hmb : b ∈ st := List.mem_of_mem_drop (by rw [hr]; simp)
      have e1 : (0 + (((st.length - j : Nat) : Int) - 2).toNat) = st.length - j - 2 := by omega
      have e2 : (0 + (((st.length - j : Nat) : Int) - 1).toNat) = st.length - j - 1 := by omega
      rw [← e1] at g2
      rw [← e2] at g1
      have hpos : 2 ≤ st.length - j := by omega
      conv => whnf
      repeat (refine And.intro ?_ ?_; (first | (with_reducible show okR _ _ _ _ = true; kernel_rfl) | (with_reducible show addC _ _ _ = _; kernel_rfl) | rfl | trivial | kernel_rfl | omega | exact Nat.le_of_ble_eq_true rfl | exact lt_len0 rfl | exact lt_len1 rfl); conv => whnf)
      refine inI (by omega) (by omega) ?_
      conv => whnf
      repeat (refine And.intro ?_ ?_; (first | (with_reducible show okR _ _ _ _ = true; kernel_rfl) | (with_reducible show addC _ _ _ = _; kernel_rfl) | rfl | trivial | kernel_rfl | omega | exact Nat.le_of_ble_eq_true rfl | exact lt_len0 rfl | exact lt_len1 rfl); conv => whnf)
      refine ⟨_, g2, ?_⟩
      conv => whnf
      repeat (refine And.intro ?_ ?_; (first | (with_reducible show okR _ _ _ _ = true; kernel_rfl) | (with_reducible show addC _ _ _ = _; kernel_rfl) | rfl | trivial | kernel_rfl | omega | exact Nat.le_of_ble_eq_true rfl | exact lt_len0 rfl | exact lt_len1 rfl); conv => whnf)
      refine inI (by omega) (by omega) ?_
      conv => whnf
      repeat (refine And.intro ?_ ?_; (first | (with_reducible show okR _ _ _ _ = true; kernel_rfl) | (with_reducible show addC _ _ _ = _; kernel_rfl) | rfl | trivial | kernel_rfl | omega | exact Nat.le_of_ble_eq_true rfl | exact lt_len0 rfl | exact lt_len1 rfl); conv => whnf)
      refine ⟨_, g1, ?_⟩
      conv => whnf
      repeat (refine And.intro ?_ ?_; (first | (with_reducible show okR _ _ _ _ = true; kernel_rfl) | (with_reducible show addC _ _ _ = _; kernel_rfl) | rfl | trivial | kernel_rfl | omega | exact Nat.le_of_ble_eq_true rfl | exact lt_len0 rfl | exact lt_len1 rfl); conv => whnf)
      refine callP_of (polycross_pure a b x (hsub a hma) (hsub b hmb) hxin) ?_
      conv => whnf
      repeat (refine And.intro ?_ ?_; (first | (with_reducible show okR _ _ _ _ = true; kernel_rfl) | (with_reducible show addC _ _ _ = _; kernel_rfl) | rfl | trivial | kernel_rfl | omega | exact Nat.le_of_ble_eq_true rfl | exact lt_len0 rfl | exact lt_len1 rfl); conv => whnf)
      refine ifD (fun h3 => ?_) (fun h3 => ?_) <;> try dsimp only at h3
      · conv => whnf
        repeat (refine And.intro ?_ ?_; (first | (with_reducible show okR _ _ _ _ = true; kernel_rfl) | (with_reducible show addC _ _ _ = _; kernel_rfl) | rfl | trivial | kernel_rfl | omega | exact Nat.le_of_ble_eq_true rfl | exact lt_len0 rfl | exact lt_len1 rfl); conv => whnf)
        refine inI (by omega) (by omega) ?_
        conv => whnf
        repeat (refine And.intro ?_ ?_; (first | (with_reducible show okR _ _ _ _ = true; kernel_rfl) | (with_reducible show addC _ _ _ = _; kernel_rfl) | rfl | trivial | kernel_rfl | omega | exact Nat.le_of_ble_eq_true rfl | exact lt_len0 rfl | exact lt_len1 rfl); conv => whnf)
        refine ⟨j + 1, ⟨by omega, ?_⟩, by omega, weakTo_cov ?_ ?_⟩
        · rw [hp, hr, pop_cons h3, ← List.drop_drop, hr]; rfl
        · conv => whnf
          refine And.intro (.inl ?_) ?_
          · rw [show (((st.length - j : Nat) : Int) - 1).toNat = st.length - (j + 1) by omega]; rfl
          · conv => whnf
            repeat (refine And.intro ?_ ?_; (first | exact rfl | exact Or.inl rfl | exact congrArg (SV.int .i64) (by first | rfl | omega | (simp; done) | (simp; omega))); conv => whnf)
            exact trivial
        · conv => whnf
          repeat (refine And.intro ?_ ?_; (first | exact rfl | exact Or.inl rfl | exact congrArg (SV.int .i64) (by first | rfl | omega | (simp; done) | (simp; omega))); conv => whnf)
          exact trivial
      · conv => whnf
        repeat (refine And.intro ?_ ?_; (first | (with_reducible show okR _ _ _ _ = true; kernel_rfl) | (with_reducible show addC _ _ _ = _; kernel_rfl) | rfl | trivial | kernel_rfl | omega | exact Nat.le_of_ble_eq_true rfl | exact lt_len0 rfl | exact lt_len1 rfl); conv => whnf)
        refine And.intro (show st.length - j ≤ (st.reverse.map eP).length from by simp) ?_
        conv => whnf
        repeat (refine And.intro ?_ ?_; (first | (with_reducible show okR _ _ _ _ = true; kernel_rfl) | (with_reducible show addC _ _ _ = _; kernel_rfl) | rfl | trivial | kernel_rfl | omega | exact Nat.le_of_ble_eq_true rfl | exact lt_len0 rfl | exact lt_len1 rfl); conv => whnf)
        refine And.intro (show ((st.length - j) + 1) * 16 ≤ 140737488355328 from by omega) ?_
        conv => whnf
        repeat (refine And.intro ?_ ?_; (first | (with_reducible show okR _ _ _ _ = true; kernel_rfl) | (with_reducible show addC _ _ _ = _; kernel_rfl) | rfl | trivial | kernel_rfl | omega | exact Nat.le_of_ble_eq_true rfl | exact lt_len0 rfl | exact lt_len1 rfl); conv => whnf)
        refine inI (by omega) (by omega) ?_
        conv => whnf
        repeat (refine And.intro ?_ ?_; (first | (with_reducible show okR _ _ _ _ = true; kernel_rfl) | (with_reducible show addC _ _ _ = _; kernel_rfl) | rfl | trivial | kernel_rfl | omega | exact Nat.le_of_ble_eq_true rfl | exact lt_len0 rfl | exact lt_len1 rfl); conv => whnf)
        refine ⟨k + 1, by omega, by omega, weakTo_cov ?_ ?_⟩
        · conv => whnf
          repeat (refine And.intro ?_ ?_; (first | exact rfl | exact Or.inl rfl | exact congrArg (SV.int .i64) (by first | rfl | omega | (simp; done) | (simp; omega))); conv => whnf)
          exact trivial
        · conv => whnf
          refine And.intro ?_ trivial
          rw [hs, hp, hr, pop_stop h3, ← hr, List.reverse_cons, List.map_append]
          rw [take_rev]
          rfl
    · conv => whnf
      repeat (refine And.intro ?_ ?_; (first | (with_reducible show okR _ _ _ _ = true; kernel_rfl) | (with_reducible show addC _ _ _ = _; kernel_rfl) | rfl | trivial | kernel_rfl | omega | exact Nat.le_of_ble_eq_true rfl | exact lt_len0 rfl | exact lt_len1 rfl); conv => whnf)
      refine And.intro (show st.length - j ≤ (st.reverse.map eP).length from by simp) ?_
      conv => whnf
      repeat (refine And.intro ?_ ?_; (first | (with_reducible show okR _ _ _ _ = true; kernel_rfl) | (with_reducible show addC _ _ _ = _; kernel_rfl) | rfl | trivial | kernel_rfl | omega | exact Nat.le_of_ble_eq_true rfl | exact lt_len0 rfl | exact lt_len1 rfl); conv => whnf)
      refine And.intro (show ((st.length - j) + 1) * 16 ≤ 140737488355328 from by omega) ?_
      conv => whnf
      repeat (refine And.intro ?_ ?_; (first | (with_reducible show okR _ _ _ _ = true; kernel_rfl) | (with_reducible show addC _ _ _ = _; kernel_rfl) | rfl | trivial | kernel_rfl | omega | exact Nat.le_of_ble_eq_true rfl | exact lt_len0 rfl | exact lt_len1 rfl); conv => whnf)
      refine inI (by omega) (by omega) ?_
      conv => whnf
      repeat (refine And.intro ?_ ?_; (first | (with_reducible show okR _ _ _ _ = true; kernel_rfl) | (with_reducible show addC _ _ _ = _; kernel_rfl) | rfl | trivial | kernel_rfl | omega | exact Nat.le_of_ble_eq_true rfl | exact lt_len0 rfl | exact lt_len1 rfl); conv => whnf)
      refine ⟨k + 1, by omega, by omega, weakTo_cov ?_ ?_⟩
      · conv => whnf
        repeat (refine And.intro ?_ ?_; (first | exact rfl | exact Or.inl rfl | exact congrArg (SV.int .i64) (by first | rfl | omega | (simp; done) | (simp; omega))); conv => whnf)
        exact trivial
      · conv => whnf
        refine And.intro ?_ trivial
        rw [hs, hp, pop_short (by rw [List.length_drop]; omega), List.reverse_cons, List.map_append, take_rev]
        rfl
  · have hk : k = l.length := by omega
    subst hk
    conv => whnf
    repeat (refine And.intro ?_ ?_; (first | (with_reducible show okR _ _ _ _ = true; kernel_rfl) | (with_reducible show addC _ _ _ = _; kernel_rfl) | rfl | trivial | kernel_rfl | omega | exact Nat.le_of_ble_eq_true rfl | exact lt_len0 rfl | exact lt_len1 rfl); conv => whnf)
    rw [List.take_length]
    refine only_row_ret 40 (s 40) ?_
    exact ⟨rfl, rfl, rfl⟩
theorem refchain_fresh (l : List XY) (hl : l.length ≤ 1000000) (hin : ∀ p ∈ l, p.In) : FreshC Try.prog G0 50 [.sl 2 (l.map eP)] 2 ((chainN l).map eP) (.lrow 0 0) := by
  refine fresh_intro mixed Try.func50 rfl rfl (Nat.le_of_ble_eq_true rfl) ?_
  conv => whnf
  repeat (refine And.intro ?_ ?_; (first | (with_reducible show okR _ _ _ _ = true; kernel_rfl) | (with_reducible show addC _ _ _ = _; kernel_rfl) | rfl | trivial | kernel_rfl | omega | exact Nat.le_of_ble_eq_true rfl | exact lt_len0 rfl | exact lt_len1 rfl); conv => whnf)
  refine loop_weak (weak_nil_slot 3 45 2 rfl) ?_
  refine loop_rule mixed (ι := Nat) (fun k s => [(0, .sl 2 (l.map eP)), (3, .lrow 45 (s 45)), (4, .i k)]) (fun k s => [(45, ⟨s 45, 1, 2, (chainR (l.take k)).reverse.map eP⟩)]) (fun k => k ≤ l.length) (fun k => l.length - k) 0 (by omega) (weakTo_cov ?_ ?_) fun k hk s ct => ?_
  · conv => whnf
    repeat (refine And.intro ?_ ?_; (first | exact rfl | exact Or.inl rfl | exact congrArg (SV.int .i64) (by first | rfl | omega | (simp; done) | (simp; omega))); conv => whnf)
    exact trivial
  · conv => whnf
    repeat (refine And.intro ?_ ?_; (first | exact rfl | exact Or.inl rfl | exact congrArg (SV.int .i64) (by first | rfl | omega | (simp; done) | (simp; omega))); conv => whnf)
    exact trivial
  conv => whnf
  repeat (refine And.intro ?_ ?_; (first | (with_reducible show okR _ _ _ _ = true; kernel_rfl) | (with_reducible show addC _ _ _ = _; kernel_rfl) | rfl | trivial | kernel_rfl | omega | exact Nat.le_of_ble_eq_true rfl | exact lt_len0 rfl | exact lt_len1 rfl); conv => whnf)
  refine ifD (fun h1 => ?_) (fun h1 => ?_) <;> try dsimp only at h1
  · rw [List.length_map] at h1
    obtain ⟨x, hx⟩ := get_lt (l := l) (k := k) (by omega)
    have hst := chainR_len (l.take k)
    have htk : (l.take k).length ≤ k := by simp; omega
    have hsub : ∀ p ∈ chainR (l.take k), p.In := fun p hp => hin p (List.mem_of_mem_take (chainR_sub _ p hp))
    have hs := chainR_snoc hx
    generalize hS : chainR (l.take k) = st at *
    have hxin := hin x (List.mem_of_getElem? hx)
    conv => whnf
    repeat (refine And.intro ?_ ?_; (first | (with_reducible show okR _ _ _ _ = true; kernel_rfl) | (with_reducible show addC _ _ _ = _; kernel_rfl) | rfl | trivial | kernel_rfl | omega | exact Nat.le_of_ble_eq_true rfl | exact lt_len0 rfl | exact lt_len1 rfl); conv => whnf)
    refine loop_rule mixed (ι := Nat) (fun j s => [(0, .sl 2 (l.map eP)), (3, .lsl 45 (s 45) 0 (st.length - j)), (4, .i k)]) (fun j s => [(45, ⟨s 45, 1, 2, st.reverse.map eP⟩)]) (fun j => j ≤ st.length ∧ pop x st = pop x (st.drop j)) (fun j => st.length - j) 0 ⟨by omega, rfl⟩ (weakTo_cov ?_ ?_) fun j hj s ct => ?_
    · conv => whnf
      refine And.intro (.inl rfl) ?_
      conv => whnf
      refine And.intro (.inr ?_) ?_
      · conv => whnf
        repeat (refine And.intro rfl ?_; conv => whnf)
        simp
      · conv => whnf
        repeat (refine And.intro ?_ ?_; (first | exact rfl | exact Or.inl rfl | exact congrArg (SV.int .i64) (by first | rfl | omega | (simp; done) | (simp; omega))); conv => whnf)
        exact trivial
    · conv => whnf
      repeat (refine And.intro ?_ ?_; (first | exact rfl | exact Or.inl rfl | exact congrArg (SV.int .i64) (by first | rfl | omega | (simp; done) | (simp; omega))); conv => whnf)
      exact trivial
    obtain ⟨hj, hp⟩ := hj
    conv => whnf
    repeat (refine And.intro ?_ ?_; (first | (with_reducible show okR _ _ _ _ = true; kernel_rfl) | (with_reducible show addC _ _ _ = _; kernel_rfl) | rfl | trivial | kernel_rfl | omega | exact Nat.le_of_ble_eq_true rfl | exact lt_len0 rfl | exact lt_len1 rfl); conv => whnf)
    refine ifD (fun h2 => ?_) (fun h2 => ?_) <;> try dsimp only at h2
    · obtain ⟨b, a, r, hr⟩ : ∃ b a r, st.drop j = b :: a :: r := by
        have hlen : (st.drop j).length = st.length - j := List.length_drop ..
        match hd : st.drop j with
        | [] => rw [hd] at hlen; simp at hlen; omega
        | [a] => rw [hd] at hlen; simp at hlen; omega
        | b :: a :: r => exact ⟨b, a, r, rfl⟩
      obtain ⟨g1, g2⟩ := top_get hr
      have hma : a ∈ st := List.mem_of_mem_drop (by rw [hr]; simp)
      have hmb : b ∈ st := List.mem_of_mem_drop (by rw [hr]; simp)
      have e1 : (0 + (((st.length - j : Nat) : Int) - 2).toNat) = st.length - j - 2 := by omega
      have e2 : (0 + (((st.length - j : Nat) : Int) - 1).toNat) = st.length - j - 1 := by omega
      rw [← e1] at g2
      rw [← e2] at g1
      have hpos : 2 ≤ st.length - j := by omega
      conv => whnf
      repeat (refine And.intro ?_ ?_; (first | (with_reducible show okR _ _ _ _ = true; kernel_rfl) | (with_reducible show addC _ _ _ = _; kernel_rfl) | rfl | trivial | kernel_rfl | omega | exact Nat.le_of_ble_eq_true rfl | exact lt_len0 rfl | exact lt_len1 rfl); conv => whnf)
      refine inI (by omega) (by omega) ?_
      conv => whnf
      repeat (refine And.intro ?_ ?_; (first | (with_reducible show okR _ _ _ _ = true; kernel_rfl) | (with_reducible show addC _ _ _ = _; kernel_rfl) | rfl | trivial | kernel_rfl | omega | exact Nat.le_of_ble_eq_true rfl | exact lt_len0 rfl | exact lt_len1 rfl); conv => whnf)
      refine ⟨_, g2, ?_⟩
      conv => whnf
      repeat (refine And.intro ?_ ?_; (first | (with_reducible show okR _ _ _ _ = true; kernel_rfl) | (with_reducible show addC _ _ _ = _; kernel_rfl) | rfl | trivial | kernel_rfl | omega | exact Nat.le_of_ble_eq_true rfl | exact lt_len0 rfl | exact lt_len1 rfl); conv => whnf)
      refine inI (by omega) (by omega) ?_
      conv => whnf
      repeat (refine And.intro ?_ ?_; (first | (with_reducible show okR _ _ _ _ = true; kernel_rfl) | (with_reducible show addC _ _ _ = _; kernel_rfl) | rfl | trivial | kernel_rfl | omega | exact Nat.le_of_ble_eq_true rfl | exact lt_len0 rfl | exact lt_len1 rfl); conv => whnf)
      refine ⟨_, g1, ?_⟩
      conv => whnf
      repeat (refine And.intro ?_ ?_; (first | (with_reducible show okR _ _ _ _ = true; kernel_rfl) | (with_reducible show addC _ _ _ = _; kernel_rfl) | rfl | trivial | kernel_rfl | omega | exact Nat.le_of_ble_eq_true rfl | exact lt_len0 rfl | exact lt_len1 rfl); conv => whnf)
      refine ⟨_, get_map hx, ?_⟩
      conv => whnf
      repeat (refine And.intro ?_ ?_; (first | (with_reducible show okR _ _ _ _ = true; kernel_rfl) | (with_reducible show addC _ _ _ = _; kernel_rfl) | rfl | trivial | kernel_rfl | omega | exact Nat.le_of_ble_eq_true rfl | exact lt_len0 rfl | exact lt_len1 rfl); conv => whnf)
      refine callP_of (refcross_pure a b x (hsub a hma) (hsub b hmb) hxin) ?_
      conv => whnf
      repeat (refine And.intro ?_ ?_; (first | (with_reducible show okR _ _ _ _ = true; kernel_rfl) | (with_reducible show addC _ _ _ = _; kernel_rfl) | rfl | trivial | kernel_rfl | omega | exact Nat.le_of_ble_eq_true rfl | exact lt_len0 rfl | exact lt_len1 rfl); conv => whnf)
      refine ifD (fun h3 => ?_) (fun h3 => ?_) <;> try dsimp only at h3
      · conv => whnf
        repeat (refine And.intro ?_ ?_; (first | (with_reducible show okR _ _ _ _ = true; kernel_rfl) | (with_reducible show addC _ _ _ = _; kernel_rfl) | rfl | trivial | kernel_rfl | omega | exact Nat.le_of_ble_eq_true rfl | exact lt_len0 rfl | exact lt_len1 rfl); conv => whnf)
        refine inI (by omega) (by omega) ?_
        conv => whnf
        repeat (refine And.intro ?_ ?_; (first | (with_reducible show okR _ _ _ _ = true; kernel_rfl) | (with_reducible show addC _ _ _ = _; kernel_rfl) | rfl | trivial | kernel_rfl | omega | exact Nat.le_of_ble_eq_true rfl | exact lt_len0 rfl | exact lt_len1 rfl); conv => whnf)
        refine ⟨j + 1, ⟨by omega, ?_⟩, by omega, weakTo_cov ?_ ?_⟩
        · rw [hp, hr, pop_cons h3, ← List.drop_drop, hr]; rfl
        · conv => whnf
          refine And.intro (.inl rfl) ?_
          conv => whnf
          refine And.intro (.inl ?_) ?_
          · rw [show (((st.length - j : Nat) : Int) - 1).toNat = st.length - (j + 1) by omega]; rfl
          · conv => whnf
            repeat (refine And.intro ?_ ?_; (first | exact rfl | exact Or.inl rfl | exact congrArg (SV.int .i64) (by first | rfl | omega | (simp; done) | (simp; omega))); conv => whnf)
            exact trivial
        · conv => whnf
          repeat (refine And.intro ?_ ?_; (first | exact rfl | exact Or.inl rfl | exact congrArg (SV.int .i64) (by first | rfl | omega | (simp; done) | (simp; omega))); conv => whnf)
          exact trivial
      · conv => whnf
        repeat (refine And.intro ?_ ?_; (first | (with_reducible show okR _ _ _ _ = true; kernel_rfl) | (with_reducible show addC _ _ _ = _; kernel_rfl) | rfl | trivial | kernel_rfl | omega | exact Nat.le_of_ble_eq_true rfl | exact lt_len0 rfl | exact lt_len1 rfl); conv => whnf)
        refine ⟨_, get_map hx, ?_⟩
        conv => whnf
        repeat (refine And.intro ?_ ?_; (first | (with_reducible show okR _ _ _ _ = true; kernel_rfl) | (with_reducible show addC _ _ _ = _; kernel_rfl) | rfl | trivial | kernel_rfl | omega | exact Nat.le_of_ble_eq_true rfl | exact lt_len0 rfl | exact lt_len1 rfl); conv => whnf)
        refine And.intro (show st.length - j ≤ (st.reverse.map eP).length from by simp) ?_
        conv => whnf
        repeat (refine And.intro ?_ ?_; (first | (with_reducible show okR _ _ _ _ = true; kernel_rfl) | (with_reducible show addC _ _ _ = _; kernel_rfl) | rfl | trivial | kernel_rfl | omega | exact Nat.le_of_ble_eq_true rfl | exact lt_len0 rfl | exact lt_len1 rfl); conv => whnf)
        refine And.intro (show ((st.length - j) + 1) * 16 ≤ 140737488355328 from by omega) ?_
        conv => whnf
        repeat (refine And.intro ?_ ?_; (first | (with_reducible show okR _ _ _ _ = true; kernel_rfl) | (with_reducible show addC _ _ _ = _; kernel_rfl) | rfl | trivial | kernel_rfl | omega | exact Nat.le_of_ble_eq_true rfl | exact lt_len0 rfl | exact lt_len1 rfl); conv => whnf)
        refine inI (by omega) (by omega) ?_
        conv => whnf
        repeat (refine And.intro ?_ ?_; (first | (with_reducible show okR _ _ _ _ = true; kernel_rfl) | (with_reducible show addC _ _ _ = _; kernel_rfl) | rfl | trivial | kernel_rfl | omega | exact Nat.le_of_ble_eq_true rfl | exact lt_len0 rfl | exact lt_len1 rfl); conv => whnf)
        refine ⟨k + 1, by omega, by omega, weakTo_cov ?_ ?_⟩
        · conv => whnf
          repeat (refine And.intro ?_ ?_; (first | exact rfl | exact Or.inl rfl | exact congrArg (SV.int .i64) (by first | rfl | omega | (simp; done) | (simp; omega))); conv => whnf)
          exact trivial
        · conv => whnf
          refine And.intro ?_ trivial
          rw [hs, hp, hr, pop_stop h3, ← hr, List.reverse_cons, List.map_append]
          rw [take_rev]
          rfl
    · conv => whnf
      repeat (refine And.intro ?_ ?_; (first | (with_reducible show okR _ _ _ _ = true; kernel_rfl) | (with_reducible show addC _ _ _ = _; kernel_rfl) | rfl | trivial | kernel_rfl | omega | exact Nat.le_of_ble_eq_true rfl | exact lt_len0 rfl | exact lt_len1 rfl); conv => whnf)
      refine ⟨_, get_map hx, ?_⟩
      conv => whnf
      repeat (refine And.intro ?_ ?_; (first | (with_reducible show okR _ _ _ _ = true; kernel_rfl) | (with_reducible show addC _ _ _ = _; kernel_rfl) | rfl | trivial | kernel_rfl | omega | exact Nat.le_of_ble_eq_true rfl | exact lt_len0 rfl | exact lt_len1 rfl); conv => whnf)
      refine And.intro (show st.length - j ≤ (st.reverse.map eP).length from by simp) ?_
      conv => whnf
      repeat (refine And.intro ?_ ?_; (first | (with_reducible show okR _ _ _ _ = true; kernel_rfl) | (with_reducible show addC _ _ _ = _; kernel_rfl) | rfl | trivial | kernel_rfl | omega | exact Nat.le_of_ble_eq_true rfl | exact lt_len0 rfl | exact lt_len1 rfl); conv => whnf)
      refine And.intro (show ((st.length - j) + 1) * 16 ≤ 140737488355328 from by omega) ?_
      conv => whnf
      repeat (refine And.intro ?_ ?_; (first | (with_reducible show okR _ _ _ _ = true; kernel_rfl) | (with_reducible show addC _ _ _ = _; kernel_rfl) | rfl | trivial | kernel_rfl | omega | exact Nat.le_of_ble_eq_true rfl | exact lt_len0 rfl | exact lt_len1 rfl); conv => whnf)
      refine inI (by omega) (by omega) ?_
      conv => whnf
      repeat (refine And.intro ?_ ?_; (first | (with_reducible show okR _ _ _ _ = true; kernel_rfl) | (with_reducible show addC _ _ _ = _; kernel_rfl) | rfl | trivial | kernel_rfl | omega | exact Nat.le_of_ble_eq_true rfl | exact lt_len0 rfl | exact lt_len1 rfl); conv => whnf)
      refine ⟨k + 1, by omega, by omega, weakTo_cov ?_ ?_⟩
      · conv => whnf
        repeat (refine And.intro ?_ ?_; (first | exact rfl | exact Or.inl rfl | exact congrArg (SV.int .i64) (by first | rfl | omega | (simp; done) | (simp; omega))); conv => whnf)
        exact trivial
      · conv => whnf
        refine And.intro ?_ trivial
        rw [hs, hp, pop_short (by rw [List.length_drop]; omega), List.reverse_cons, List.map_append, take_rev]
        rfl
  · rw [List.length_map] at h1
    have hk : k = l.length := by omega
    subst hk
    conv => whnf
    repeat (refine And.intro ?_ ?_; (first | (with_reducible show okR _ _ _ _ = true; kernel_rfl) | (with_reducible show addC _ _ _ = _; kernel_rfl) | rfl | trivial | kernel_rfl | omega | exact Nat.le_of_ble_eq_true rfl | exact lt_len0 rfl | exact lt_len1 rfl); conv => whnf)
    rw [List.take_length]
    refine only_row_ret 45 (s 45) ?_
    exact ⟨rfl, rfl, rfl⟩
end Go.Proofs.Yticandbdabgkeaa.Am

namespace Go.Proofs.Yticandbdabgkeaa.Am
open Go
set_option maxRecDepth 100000

def before (a b : XY) : Bool := decide (a.x < b.x) || (decide (a.x = b.x) && decide (a.y < b.y))

theorem before_pure (a b : XY) : Pure Try.prog G0 32 [.agg (eP a), .agg (eP b)] (.bool (before a b)) := by
  refine pure_of mixed Try.func32 rfl rfl (Nat.le_of_ble_eq_true rfl) ?_
  conv => whnf
  repeat (refine And.intro ?_ ?_; (first | (with_reducible show okR _ _ _ _ = true; kernel_rfl) | (with_reducible show addC _ _ _ = _; kernel_rfl) | rfl | trivial | kernel_rfl | omega | exact Nat.le_of_ble_eq_true rfl | exact lt_len0 rfl | exact lt_len1 rfl); conv => whnf)
  refine ifD (fun h1 => ?_) (fun h1 => ?_) <;> try dsimp only at h1
  · conv => whnf
    repeat (refine And.intro ?_ ?_; (first | (with_reducible show okR _ _ _ _ = true; kernel_rfl) | (with_reducible show addC _ _ _ = _; kernel_rfl) | rfl | trivial | kernel_rfl | omega | exact Nat.le_of_ble_eq_true rfl | exact lt_len0 rfl | exact lt_len1 rfl); conv => whnf)
    simp [before, h1]
  conv => whnf
  repeat (refine And.intro ?_ ?_; (first | (with_reducible show okR _ _ _ _ = true; kernel_rfl) | (with_reducible show addC _ _ _ = _; kernel_rfl) | rfl | trivial | kernel_rfl | omega | exact Nat.le_of_ble_eq_true rfl | exact lt_len0 rfl | exact lt_len1 rfl); conv => whnf)
  refine ifD (fun h2 => ?_) (fun h2 => ?_) <;> try dsimp only at h2
  · conv => whnf
    repeat (refine And.intro ?_ ?_; (first | (with_reducible show okR _ _ _ _ = true; kernel_rfl) | (with_reducible show addC _ _ _ = _; kernel_rfl) | rfl | trivial | kernel_rfl | omega | exact Nat.le_of_ble_eq_true rfl | exact lt_len0 rfl | exact lt_len1 rfl); conv => whnf)
    simp [before, h2]
  · conv => whnf
    repeat (refine And.intro ?_ ?_; (first | (with_reducible show okR _ _ _ _ = true; kernel_rfl) | (with_reducible show addC _ _ _ = _; kernel_rfl) | rfl | trivial | kernel_rfl | omega | exact Nat.le_of_ble_eq_true rfl | exact lt_len0 rfl | exact lt_len1 rfl); conv => whnf)
    simp [before, h1, h2]

/-- One more point, in its place. -/
def ins (x : XY) : List XY → List XY
  | [] => [x]
  | y :: r => if before y x = true then y :: ins x r else if y = x then y :: r else x :: y :: r
def sortedN (l : List XY) : List XY := l.foldl (fun st x => ins x st) []

theorem ins_spec (x : XY) : ∀ (l : List XY) (k : Nat), (∀ y ∈ l.take k, before y x = true) → (∀ y, l[k]? = some y → before y x = false) → k ≤ l.length →
    ins x l = if l[k]? = some x then l else l.take k ++ x :: l.drop k
  | [], k, _, _, hk => by
    have : k = 0 := by simpa using hk
    subst this; simp [ins]
  | y :: r, 0, _, h2, _ => by
    have := h2 y rfl
    rw [ins, if_neg (by simp [this])]
    by_cases e : y = x
    · rw [if_pos e, if_pos (by rw [e]; rfl)]
    · rw [if_neg e, if_neg (by simpa using e)]
      rfl
  | y :: r, k + 1, h1, h2, hk => by
    have hy : before y x = true := h1 y (by simp)
    rw [ins, if_pos hy, ins_spec x r k (fun z hz => h1 z (by simp [hz])) (fun z hz => h2 z (by simpa using hz)) (by simpa using hk)]
    simp only [List.getElem?_cons_succ, List.take_succ_cons, List.drop_succ_cons]
    split <;> rfl

theorem ins_len (x : XY) : ∀ l : List XY, (ins x l).length ≤ l.length + 1
  | [] => by simp [ins]
  | y :: r => by
    rw [ins]
    split
    · have := ins_len x r; simp; omega
    · split <;> simp
theorem ins_sub (x : XY) : ∀ l : List XY, ∀ z ∈ ins x l, z = x ∨ z ∈ l
  | [], z, h => by simp [ins] at h; exact .inl h
  | y :: r, z, h => by
    rw [ins] at h
    split at h
    · rcases List.mem_cons.1 h with rfl | h
      · simp
      · rcases ins_sub x r z h with h | h
        · exact .inl h
        · exact .inr (by simp [h])
    · split at h
      · exact .inr h
      · rcases List.mem_cons.1 h with rfl | h
        · exact .inl rfl
        · exact .inr h
theorem foldl_ins_len : ∀ (l st : List XY), (l.foldl (fun st x => ins x st) st).length ≤ st.length + l.length
  | [], st => by simp
  | x :: l, st => by
    have h1 := foldl_ins_len l (ins x st)
    have h2 := ins_len x st
    simp only [List.foldl_cons, List.length_cons]
    omega
theorem sortedN_len (l : List XY) : (sortedN l).length ≤ l.length := by have := foldl_ins_len l []; simpa [sortedN] using this
theorem foldl_ins_sub : ∀ (l st : List XY), ∀ z ∈ l.foldl (fun st x => ins x st) st, z ∈ st ∨ z ∈ l
  | [], st, z, h => .inl h
  | x :: l, st, z, h => by
    rcases foldl_ins_sub l _ z h with h | h
    · rcases ins_sub x st z h with rfl | h
      · exact .inr (by simp)
      · exact .inl h
    · exact .inr (by simp [h])
theorem sortedN_sub (l : List XY) : ∀ z ∈ sortedN l, z ∈ l := fun z h => by
  rcases foldl_ins_sub l [] z h with h | h
  · cases h
  · exact h
theorem sortedN_snoc {l : List XY} {k : Nat} {x : XY} (h : l[k]? = some x) : sortedN (l.take (k + 1)) = ins x (sortedN (l.take k)) := by
  rw [sortedN, take_snoc h, List.foldl_append]
  rfl

theorem weakTo_weak {G : Nat → List SV} {N : Nat} {S : (Nat → Nat) → List (Nat × SV)} {O : (Nat → Nat) → List (Nat × Ob)} {sl sl' : Slots} {ob ob' : Tab} {ct ct' : Cnt} (h : Weak G N sl ob ct sl' ob' ct') (k : WeakTo G N S O sl' ob' ct') : WeakTo G N S O sl ob ct := by
  obtain ⟨s, c, k⟩ := k
  exact ⟨s, c, h.trans k⟩

theorem sorted_pure (l : List XY) (hl : l.length ≤ 1000000) : Pure Try.prog G0 49 [.sl 2 (l.map eP)] (.sl 2 ((sortedN l).map eP)) := by
  refine pure_of mixed Try.func49 rfl rfl (Nat.le_of_ble_eq_true rfl) ?_
  conv => whnf
  repeat (refine And.intro ?_ ?_; (first | (with_reducible show okR _ _ _ _ = true; kernel_rfl) | (with_reducible show addC _ _ _ = _; kernel_rfl) | rfl | trivial | kernel_rfl | omega | exact Nat.le_of_ble_eq_true rfl | exact lt_len0 rfl | exact lt_len1 rfl); conv => whnf)
  refine loop_rule mixed (ι := Nat) (fun k s => [(0, .sl 2 (l.map eP)), (3, .sl 2 ((sortedN (l.take k)).map eP)), (4, .i k)]) (fun k s => []) (fun k => k ≤ l.length) (fun k => l.length - k) 0 (by omega) (weakTo_cov ?_ ?_) fun k hk s ct => ?_
  · conv => whnf
    refine And.intro (.inl rfl) ?_
    conv => whnf
    refine And.intro (.inr rfl) ?_
    conv => whnf
    repeat (refine And.intro ?_ ?_; (first | exact rfl | exact Or.inl rfl | exact congrArg (SV.int .i64) (by first | rfl | omega | (simp; done) | (simp; omega))); conv => whnf)
    exact trivial
  · conv => whnf
    repeat (refine And.intro ?_ ?_; (first | exact rfl | exact Or.inl rfl | exact congrArg (SV.int .i64) (by first | rfl | omega | (simp; done) | (simp; omega))); conv => whnf)
    exact trivial
  conv => whnf
  repeat (refine And.intro ?_ ?_; (first | (with_reducible show okR _ _ _ _ = true; kernel_rfl) | (with_reducible show addC _ _ _ = _; kernel_rfl) | rfl | trivial | kernel_rfl | omega | exact Nat.le_of_ble_eq_true rfl | exact lt_len0 rfl | exact lt_len1 rfl); conv => whnf)
  refine ifD (fun h1 => ?_) (fun h1 => ?_) <;> try dsimp only at h1
  · rw [List.length_map] at h1
    obtain ⟨x, hx⟩ := get_lt (l := l) (k := k) (by omega)
    have hst := sortedN_len (l.take k)
    have htk : (l.take k).length ≤ k := by simp; omega
    have hs := sortedN_snoc hx
    generalize hS : sortedN (l.take k) = st at *
    conv => whnf
    repeat (refine And.intro ?_ ?_; (first | (with_reducible show okR _ _ _ _ = true; kernel_rfl) | (with_reducible show addC _ _ _ = _; kernel_rfl) | rfl | trivial | kernel_rfl | omega | exact Nat.le_of_ble_eq_true rfl | exact lt_len0 rfl | exact lt_len1 rfl); conv => whnf)
    refine loop_rule mixed (ι := Nat) (fun j s => [(0, .sl 2 (l.map eP)), (3, .sl 2 (st.map eP)), (4, .i k), (5, .i j)]) (fun j s => []) (fun j => j ≤ st.length ∧ ∀ y ∈ st.take j, before y x = true) (fun j => st.length - j) 0 ⟨by omega, by simp⟩ (weakTo_cov ?_ ?_) fun j hj s ct => ?_
    · conv => whnf
      repeat (refine And.intro ?_ ?_; (first | exact rfl | exact Or.inl rfl | exact congrArg (SV.int .i64) (by first | rfl | omega | (simp; done) | (simp; omega))); conv => whnf)
      exact trivial
    · conv => whnf
      repeat (refine And.intro ?_ ?_; (first | exact rfl | exact Or.inl rfl | exact congrArg (SV.int .i64) (by first | rfl | omega | (simp; done) | (simp; omega))); conv => whnf)
      exact trivial
    obtain ⟨hj, hbj⟩ := hj
    conv => whnf
    repeat (refine And.intro ?_ ?_; (first | (with_reducible show okR _ _ _ _ = true; kernel_rfl) | (with_reducible show addC _ _ _ = _; kernel_rfl) | rfl | trivial | kernel_rfl | omega | exact Nat.le_of_ble_eq_true rfl | exact lt_len0 rfl | exact lt_len1 rfl); conv => whnf)
    -- behind the inner loop
    have fin : ∀ (b : Bool), (b = true ↔ st[j]? = some x) → (∀ y, st[j]? = some y → before y x = false) → ins x st = if b = true then st else st.take j ++ x :: st.drop j := fun b hb h2 => by
      rw [ins_spec x st j hbj h2 hj]
      cases b with
      | true => rw [if_pos (hb.1 rfl), if_pos rfl]
      | false => rw [if_neg (fun h => by have := hb.2 h; cases this), if_neg (by simp)]
    refine ifD (fun h2 => ?_) (fun h2 => ?_) <;> try dsimp only at h2
    · rw [List.length_map] at h2
      obtain ⟨y, hy⟩ := get_lt (l := st) (k := j) (by omega)
      conv => whnf
      repeat (refine And.intro ?_ ?_; (first | (with_reducible show okR _ _ _ _ = true; kernel_rfl) | (with_reducible show addC _ _ _ = _; kernel_rfl) | rfl | trivial | kernel_rfl | omega | exact Nat.le_of_ble_eq_true rfl | exact lt_len0 rfl | exact lt_len1 rfl); conv => whnf)
      refine ⟨_, get_map hy, ?_⟩
      conv => whnf
      repeat (refine And.intro ?_ ?_; (first | (with_reducible show okR _ _ _ _ = true; kernel_rfl) | (with_reducible show addC _ _ _ = _; kernel_rfl) | rfl | trivial | kernel_rfl | omega | exact Nat.le_of_ble_eq_true rfl | exact lt_len0 rfl | exact lt_len1 rfl); conv => whnf)
      refine ⟨_, get_map hx, ?_⟩
      conv => whnf
      repeat (refine And.intro ?_ ?_; (first | (with_reducible show okR _ _ _ _ = true; kernel_rfl) | (with_reducible show addC _ _ _ = _; kernel_rfl) | rfl | trivial | kernel_rfl | omega | exact Nat.le_of_ble_eq_true rfl | exact lt_len0 rfl | exact lt_len1 rfl); conv => whnf)
      refine callP_of (before_pure y x) ?_
      conv => whnf
      repeat (refine And.intro ?_ ?_; (first | (with_reducible show okR _ _ _ _ = true; kernel_rfl) | (with_reducible show addC _ _ _ = _; kernel_rfl) | rfl | trivial | kernel_rfl | omega | exact Nat.le_of_ble_eq_true rfl | exact lt_len0 rfl | exact lt_len1 rfl); conv => whnf)
      refine ifB_intro (fun h3 => ?_) (fun h3 => ?_) <;> try dsimp only at h3
      · conv => whnf
        repeat (refine And.intro ?_ ?_; (first | (with_reducible show okR _ _ _ _ = true; kernel_rfl) | (with_reducible show addC _ _ _ = _; kernel_rfl) | rfl | trivial | kernel_rfl | omega | exact Nat.le_of_ble_eq_true rfl | exact lt_len0 rfl | exact lt_len1 rfl); conv => whnf)
        refine inI (by omega) (by omega) ?_
        conv => whnf
        repeat (refine And.intro ?_ ?_; (first | (with_reducible show okR _ _ _ _ = true; kernel_rfl) | (with_reducible show addC _ _ _ = _; kernel_rfl) | rfl | trivial | kernel_rfl | omega | exact Nat.le_of_ble_eq_true rfl | exact lt_len0 rfl | exact lt_len1 rfl); conv => whnf)
        refine ⟨j + 1, ⟨by omega, fun z hz => ?_⟩, by omega, weakTo_cov ?_ ?_⟩
        · rw [take_snoc hy] at hz
          rcases List.mem_append.1 hz with hz | hz
          · exact hbj z hz
          · simp at hz; rw [hz]; exact h3
        · conv => whnf
          repeat (refine And.intro ?_ ?_; (first | exact rfl | exact Or.inl rfl | exact congrArg (SV.int .i64) (by first | rfl | omega | (simp; done) | (simp; omega))); conv => whnf)
          exact trivial
        · conv => whnf
          repeat (refine And.intro ?_ ?_; (first | exact rfl | exact Or.inl rfl | exact congrArg (SV.int .i64) (by first | rfl | omega | (simp; done) | (simp; omega))); conv => whnf)
          exact trivial
      · conv => whnf
        repeat (refine And.intro ?_ ?_; (first | (with_reducible show okR _ _ _ _ = true; kernel_rfl) | (with_reducible show addC _ _ _ = _; kernel_rfl) | rfl | trivial | kernel_rfl | omega | exact Nat.le_of_ble_eq_true rfl | exact lt_len0 rfl | exact lt_len1 rfl); conv => whnf)
        refine ifD (fun h5 => ?_) (fun h5 => ?_) <;> try dsimp only at h5
        · conv => whnf
          repeat (refine And.intro ?_ ?_; (first | (with_reducible show okR _ _ _ _ = true; kernel_rfl) | (with_reducible show addC _ _ _ = _; kernel_rfl) | rfl | trivial | kernel_rfl | omega | exact Nat.le_of_ble_eq_true rfl | exact lt_len0 rfl | exact lt_len1 rfl); conv => whnf)
          refine ⟨_, get_map hy, ?_⟩
          conv => whnf
          repeat (refine And.intro ?_ ?_; (first | (with_reducible show okR _ _ _ _ = true; kernel_rfl) | (with_reducible show addC _ _ _ = _; kernel_rfl) | rfl | trivial | kernel_rfl | omega | exact Nat.le_of_ble_eq_true rfl | exact lt_len0 rfl | exact lt_len1 rfl); conv => whnf)
          refine ⟨_, get_map hx, ?_⟩
          conv => whnf
          repeat (refine And.intro ?_ ?_; (first | (with_reducible show okR _ _ _ _ = true; kernel_rfl) | (with_reducible show addC _ _ _ = _; kernel_rfl) | rfl | trivial | kernel_rfl | omega | exact Nat.le_of_ble_eq_true rfl | exact lt_len0 rfl | exact lt_len1 rfl); conv => whnf)
          refine ifB_intro (fun h4 => ?_) (fun h4 => ?_) <;> try dsimp only at h4
          · conv => whnf
            repeat (refine And.intro ?_ ?_; (first | (with_reducible show okR _ _ _ _ = true; kernel_rfl) | (with_reducible show addC _ _ _ = _; kernel_rfl) | rfl | trivial | kernel_rfl | omega | exact Nat.le_of_ble_eq_true rfl | exact lt_len0 rfl | exact lt_len1 rfl); conv => whnf)
            refine inI (by omega) (by omega) ?_
            conv => whnf
            repeat (refine And.intro ?_ ?_; (first | (with_reducible show okR _ _ _ _ = true; kernel_rfl) | (with_reducible show addC _ _ _ = _; kernel_rfl) | rfl | trivial | kernel_rfl | omega | exact Nat.le_of_ble_eq_true rfl | exact lt_len0 rfl | exact lt_len1 rfl); conv => whnf)
            refine ⟨k + 1, by omega, by omega, weakTo_cov ?_ ?_⟩
            · conv => whnf
              refine And.intro (.inl rfl) ?_
              conv => whnf
              refine And.intro (.inl ?_) ?_
              · have hyx : y = x := by
                  obtain ⟨y1, y2⟩ := y
                  obtain ⟨x1, x2⟩ := x
                  simp at h4
                  rw [h4.1, h4.2]
                rw [hs, fin true ⟨fun _ => by rw [hy, hyx], fun _ => rfl⟩ (fun z hz => by rw [hy] at hz; cases hz; exact h3), if_pos rfl]
                rfl
              · conv => whnf
                repeat (refine And.intro ?_ ?_; (first | exact rfl | exact Or.inl rfl | exact congrArg (SV.int .i64) (by first | rfl | omega | (simp; done) | (simp; omega))); conv => whnf)
                exact trivial
            · conv => whnf
              repeat (refine And.intro ?_ ?_; (first | exact rfl | exact Or.inl rfl | exact congrArg (SV.int .i64) (by first | rfl | omega | (simp; done) | (simp; omega))); conv => whnf)
              exact trivial
          · have hyx : y ≠ x := fun e => by subst e; simp at h4
            have hsf := fin false ⟨fun h => (by cases h), fun h => by rw [hy] at h; cases h; exact absurd rfl hyx⟩ (fun z hz => by rw [hy] at hz; cases hz; exact h3)
            rw [if_neg (by simp)] at hsf
            conv => whnf
            repeat (refine And.intro ?_ ?_; (first | (with_reducible show okR _ _ _ _ = true; kernel_rfl) | (with_reducible show addC _ _ _ = _; kernel_rfl) | rfl | trivial | kernel_rfl | omega | exact Nat.le_of_ble_eq_true rfl | exact lt_len0 rfl | exact lt_len1 rfl); conv => whnf)
            refine And.intro (bytes_le (b := 16) rfl ?_) ?_
            · first | omega | (simp; done) | (simp; omega)
            conv => whnf
            repeat (refine And.intro ?_ ?_; (first | (with_reducible show okR _ _ _ _ = true; kernel_rfl) | (with_reducible show addC _ _ _ = _; kernel_rfl) | rfl | trivial | kernel_rfl | omega | exact Nat.le_of_ble_eq_true rfl | exact lt_len0 rfl | exact lt_len1 rfl); conv => whnf)
            refine ⟨_, get_map hx, ?_⟩
            conv => whnf
            repeat (refine And.intro ?_ ?_; (first | (with_reducible show okR _ _ _ _ = true; kernel_rfl) | (with_reducible show addC _ _ _ = _; kernel_rfl) | rfl | trivial | kernel_rfl | omega | exact Nat.le_of_ble_eq_true rfl | exact lt_len0 rfl | exact lt_len1 rfl); conv => whnf)
            refine And.intro (bytes_le (b := 16) rfl ?_) ?_
            · first | omega | (simp; done) | (simp; omega)
            conv => whnf
            repeat (refine And.intro ?_ ?_; (first | (with_reducible show okR _ _ _ _ = true; kernel_rfl) | (with_reducible show addC _ _ _ = _; kernel_rfl) | rfl | trivial | kernel_rfl | omega | exact Nat.le_of_ble_eq_true rfl | exact lt_len0 rfl | exact lt_len1 rfl); conv => whnf)
            refine And.intro (bytes_le (b := 16) rfl ?_) ?_
            · first | omega | (simp; done) | (simp; omega)
            conv => whnf
            repeat (refine And.intro ?_ ?_; (first | (with_reducible show okR _ _ _ _ = true; kernel_rfl) | (with_reducible show addC _ _ _ = _; kernel_rfl) | rfl | trivial | kernel_rfl | omega | exact Nat.le_of_ble_eq_true rfl | exact lt_len0 rfl | exact lt_len1 rfl); conv => whnf)
            refine inI (by omega) (by omega) ?_
            conv => whnf
            repeat (refine And.intro ?_ ?_; (first | (with_reducible show okR _ _ _ _ = true; kernel_rfl) | (with_reducible show addC _ _ _ = _; kernel_rfl) | rfl | trivial | kernel_rfl | omega | exact Nat.le_of_ble_eq_true rfl | exact lt_len0 rfl | exact lt_len1 rfl); conv => whnf)
            refine ⟨k + 1, by omega, by omega, weakTo_weak (weak_frz_slot 3 45 rfl rfl) (weakTo_cov ?_ ?_)⟩
            · conv => whnf
              refine And.intro (.inl rfl) ?_
              conv => whnf
              refine And.intro (.inl ?_) ?_
              · rw [hs, hsf]
                simp only [List.map_append, List.map_take, List.map_drop, List.map_cons, List.append_assoc]
                rfl
              · conv => whnf
                repeat (refine And.intro ?_ ?_; (first | exact rfl | exact Or.inl rfl | exact congrArg (SV.int .i64) (by first | rfl | omega | (simp; done) | (simp; omega))); conv => whnf)
                exact trivial
            · conv => whnf
              repeat (refine And.intro ?_ ?_; (first | exact rfl | exact Or.inl rfl | exact congrArg (SV.int .i64) (by first | rfl | omega | (simp; done) | (simp; omega))); conv => whnf)
              exact trivial
        · exact absurd (by rw [List.length_map]; omega) h5
    · rw [List.length_map] at h2
      have hml : (st.map eP).length = st.length := List.length_map ..
      have hnone : st[j]? = none := List.getElem?_eq_none (by omega)
      have hsf := fin false ⟨fun h => (by cases h), fun h => by rw [hnone] at h; cases h⟩ (fun z hz => by rw [hnone] at hz; cases hz)
      rw [if_neg (by simp)] at hsf
      conv => whnf
      repeat (refine And.intro ?_ ?_; (first | (with_reducible show okR _ _ _ _ = true; kernel_rfl) | (with_reducible show addC _ _ _ = _; kernel_rfl) | rfl | trivial | kernel_rfl | omega | exact Nat.le_of_ble_eq_true rfl | exact lt_len0 rfl | exact lt_len1 rfl); conv => whnf)
      refine ifD (fun h5 => ?_) (fun h5 => ?_) <;> try dsimp only at h5
      · exact absurd h5 (by rw [List.length_map]; omega)
      conv => whnf
      repeat (refine And.intro ?_ ?_; (first | (with_reducible show okR _ _ _ _ = true; kernel_rfl) | (with_reducible show addC _ _ _ = _; kernel_rfl) | rfl | trivial | kernel_rfl | omega | exact Nat.le_of_ble_eq_true rfl | exact lt_len0 rfl | exact lt_len1 rfl); conv => whnf)
      refine And.intro (bytes_le (b := 16) rfl ?_) ?_
      · first | omega | (simp; done) | (simp; omega)
      conv => whnf
      repeat (refine And.intro ?_ ?_; (first | (with_reducible show okR _ _ _ _ = true; kernel_rfl) | (with_reducible show addC _ _ _ = _; kernel_rfl) | rfl | trivial | kernel_rfl | omega | exact Nat.le_of_ble_eq_true rfl | exact lt_len0 rfl | exact lt_len1 rfl); conv => whnf)
      refine ⟨_, get_map hx, ?_⟩
      conv => whnf
      repeat (refine And.intro ?_ ?_; (first | (with_reducible show okR _ _ _ _ = true; kernel_rfl) | (with_reducible show addC _ _ _ = _; kernel_rfl) | rfl | trivial | kernel_rfl | omega | exact Nat.le_of_ble_eq_true rfl | exact lt_len0 rfl | exact lt_len1 rfl); conv => whnf)
      refine And.intro (bytes_le (b := 16) rfl ?_) ?_
      · first | omega | (simp; done) | (simp; omega)
      conv => whnf
      repeat (refine And.intro ?_ ?_; (first | (with_reducible show okR _ _ _ _ = true; kernel_rfl) | (with_reducible show addC _ _ _ = _; kernel_rfl) | rfl | trivial | kernel_rfl | omega | exact Nat.le_of_ble_eq_true rfl | exact lt_len0 rfl | exact lt_len1 rfl); conv => whnf)
      refine And.intro (bytes_le (b := 16) rfl ?_) ?_
      · first | omega | (simp; done) | (simp; omega)
      conv => whnf
      repeat (refine And.intro ?_ ?_; (first | (with_reducible show okR _ _ _ _ = true; kernel_rfl) | (with_reducible show addC _ _ _ = _; kernel_rfl) | rfl | trivial | kernel_rfl | omega | exact Nat.le_of_ble_eq_true rfl | exact lt_len0 rfl | exact lt_len1 rfl); conv => whnf)
      refine inI (by omega) (by omega) ?_
      conv => whnf
      repeat (refine And.intro ?_ ?_; (first | (with_reducible show okR _ _ _ _ = true; kernel_rfl) | (with_reducible show addC _ _ _ = _; kernel_rfl) | rfl | trivial | kernel_rfl | omega | exact Nat.le_of_ble_eq_true rfl | exact lt_len0 rfl | exact lt_len1 rfl); conv => whnf)
      refine ⟨k + 1, by omega, by omega, weakTo_weak (weak_frz_slot 3 45 rfl rfl) (weakTo_cov ?_ ?_)⟩
      · conv => whnf
        refine And.intro (.inl rfl) ?_
        conv => whnf
        refine And.intro (.inl ?_) ?_
        · rw [hs, hsf]
          simp only [List.map_append, List.map_take, List.map_drop, List.map_cons, List.append_assoc]
          rfl
        · conv => whnf
          repeat (refine And.intro ?_ ?_; (first | exact rfl | exact Or.inl rfl | exact congrArg (SV.int .i64) (by first | rfl | omega | (simp; done) | (simp; omega))); conv => whnf)
          exact trivial
      · conv => whnf
        repeat (refine And.intro ?_ ?_; (first | exact rfl | exact Or.inl rfl | exact congrArg (SV.int .i64) (by first | rfl | omega | (simp; done) | (simp; omega))); conv => whnf)
        exact trivial
  · rw [List.length_map] at h1
    have hk : k = l.length := by omega
    subst hk
    conv => whnf
    repeat (refine And.intro ?_ ?_; (first | (with_reducible show okR _ _ _ _ = true; kernel_rfl) | (with_reducible show addC _ _ _ = _; kernel_rfl) | rfl | trivial | kernel_rfl | omega | exact Nat.le_of_ble_eq_true rfl | exact lt_len0 rfl | exact lt_len1 rfl); conv => whnf)
    rw [List.take_length]

/-! ### The hull -/
def hullS (s : List XY) : List XY := if (chainN s).length + (chainN s.reverse).length < 5 then [] else (chainN s).dropLast ++ (chainN s.reverse).dropLast
def hullN (l : List XY) : List XY := if compN l = true then hullS (sortedN l) else []

theorem chainR_ne {l : List XY} (h : l ≠ []) : chainR l ≠ [] := by
  obtain ⟨x, r, rfl⟩ : ∃ r x, l = r ++ [x] := ⟨l.dropLast, l.getLast h, (List.dropLast_concat_getLast h).symm⟩
  rw [chainR, List.foldl_append]
  simp
theorem chainN_pos {l : List XY} (h : l ≠ []) : 1 ≤ (chainN l).length := by
  have := List.length_pos_iff.2 (chainR_ne h)
  rw [chainN, List.length_reverse]; exact this
theorem chainN_len (l : List XY) : (chainN l).length ≤ l.length := by rw [chainN, List.length_reverse]; exact chainR_len l
theorem chainN_sub (l : List XY) : ∀ x ∈ chainN l, x ∈ l := fun x h => chainR_sub l x (by simpa [chainN] using h)
theorem chainN_nil : chainN [] = [] := rfl

theorem refhull_pure (l : List XY) (hl : l.length ≤ 1000000) : Pure Try.prog G0 25 [.sl 2 (l.map eP)] (.sl 2 ((hullN l).map eP)) := by
  refine pure_of mixed Try.func25 rfl rfl (Nat.le_of_ble_eq_true rfl) ?_
  conv => whnf
  repeat (refine And.intro ?_ ?_; (first | (with_reducible show okR _ _ _ _ = true; kernel_rfl) | (with_reducible show addC _ _ _ = _; kernel_rfl) | rfl | trivial | kernel_rfl | omega | exact Nat.le_of_ble_eq_true rfl | exact lt_len0 rfl | exact lt_len1 rfl); conv => whnf)
  refine ifD (fun h1 => ?_) (fun h1 => ?_) <;> try dsimp only at h1
  · conv => whnf
    repeat (refine And.intro ?_ ?_; (first | (with_reducible show okR _ _ _ _ = true; kernel_rfl) | (with_reducible show addC _ _ _ = _; kernel_rfl) | rfl | trivial | kernel_rfl | omega | exact Nat.le_of_ble_eq_true rfl | exact lt_len0 rfl | exact lt_len1 rfl); conv => whnf)
    rw [List.length_map] at h1
    rw [hullN, if_neg]
    · rfl
    · intro hc
      have := ((compN_iff l).1 hc).few
      omega
  rw [List.length_map] at h1
  conv => whnf
  repeat (refine And.intro ?_ ?_; (first | (with_reducible show okR _ _ _ _ = true; kernel_rfl) | (with_reducible show addC _ _ _ = _; kernel_rfl) | rfl | trivial | kernel_rfl | omega | exact Nat.le_of_ble_eq_true rfl | exact lt_len0 rfl | exact lt_len1 rfl); conv => whnf)
  refine callP_of (refranged_pure l (by omega)) ?_
  conv => whnf
  repeat (refine And.intro ?_ ?_; (first | (with_reducible show okR _ _ _ _ = true; kernel_rfl) | (with_reducible show addC _ _ _ = _; kernel_rfl) | rfl | trivial | kernel_rfl | omega | exact Nat.le_of_ble_eq_true rfl | exact lt_len0 rfl | exact lt_len1 rfl); conv => whnf)
  refine ifB_intro (fun hc => ?_) (fun hc => ?_) <;> try dsimp only at hc
  · conv => whnf
    repeat (refine And.intro ?_ ?_; (first | (with_reducible show okR _ _ _ _ = true; kernel_rfl) | (with_reducible show addC _ _ _ = _; kernel_rfl) | rfl | trivial | kernel_rfl | omega | exact Nat.le_of_ble_eq_true rfl | exact lt_len0 rfl | exact lt_len1 rfl); conv => whnf)
    rw [hullN, if_neg]
    · rfl
    · intro h
      simp only [compN, Bool.and_eq_true] at h
      simp [h.2] at hc
  have hc : compN l = true := by
    simp only [compN, Bool.and_eq_true, decide_eq_true_eq]
    exact ⟨by omega, by simpa using hc⟩
  have hC := (compN_iff l).1 hc
  have hsl := sortedN_len l
  have hsin : ∀ p ∈ sortedN l, p.In := fun p hp => hC.all p (sortedN_sub l p hp)
  rw [hullN, if_pos hc]
  conv => whnf
  repeat (refine And.intro ?_ ?_; (first | (with_reducible show okR _ _ _ _ = true; kernel_rfl) | (with_reducible show addC _ _ _ = _; kernel_rfl) | rfl | trivial | kernel_rfl | omega | exact Nat.le_of_ble_eq_true rfl | exact lt_len0 rfl | exact lt_len1 rfl); conv => whnf)
  refine callP_of (sorted_pure l hl) ?_
  conv => whnf
  repeat (refine And.intro ?_ ?_; (first | (with_reducible show okR _ _ _ _ = true; kernel_rfl) | (with_reducible show addC _ _ _ = _; kernel_rfl) | rfl | trivial | kernel_rfl | omega | exact Nat.le_of_ble_eq_true rfl | exact lt_len0 rfl | exact lt_len1 rfl); conv => whnf)
  generalize sortedN l = s0 at *
  have hfew := hC.few
  have hml : (s0.map eP).length = s0.length := List.length_map ..
  refine inI (by omega) (by omega) ?_
  conv => whnf
  repeat (refine And.intro ?_ ?_; (first | (with_reducible show okR _ _ _ _ = true; kernel_rfl) | (with_reducible show addC _ _ _ = _; kernel_rfl) | rfl | trivial | kernel_rfl | omega | exact Nat.le_of_ble_eq_true rfl | exact lt_len0 rfl | exact lt_len1 rfl); conv => whnf)
  refine loop_weak (weak_nil_slot 4 32 2 rfl) ?_
  refine loop_rule mixed (ι := Nat) (fun k s => [(3, .sl 2 (s0.map eP)), (4, .lrow 32 (s 32)), (5, .i ((s0.length : Int) - 1 - k))]) (fun k s => [(32, ⟨s 32, 1, 2, (s0.reverse.take k).map eP⟩)]) (fun k => k ≤ s0.length) (fun k => s0.length - k) 0 (by omega) (weakTo_cov ?_ ?_) fun k hk s ct => ?_
  · conv => whnf
    repeat (refine And.intro ?_ ?_; (first | exact rfl | exact Or.inl rfl | exact congrArg (SV.int .i64) (by first | rfl | omega | (simp; done) | (simp; omega)) | exact congrArg (SV.int .i64) ((by simp)) | exact congrArg (fun l => some (Ob.mk _ 1 _ l)) ((by simp)) | exact ((by simp))); conv => whnf)
    exact trivial
  · conv => whnf
    repeat (refine And.intro ?_ ?_; (first | exact rfl | exact Or.inl rfl | exact congrArg (SV.int .i64) (by first | rfl | omega | (simp; done) | (simp; omega))); conv => whnf)
    exact trivial
  conv => whnf
  repeat (refine And.intro ?_ ?_; (first | (with_reducible show okR _ _ _ _ = true; kernel_rfl) | (with_reducible show addC _ _ _ = _; kernel_rfl) | rfl | trivial | kernel_rfl | omega | exact Nat.le_of_ble_eq_true rfl | exact lt_len0 rfl | exact lt_len1 rfl); conv => whnf)
  refine ifD (fun h2 => ?_) (fun h2 => ?_) <;> try dsimp only at h2
  · obtain ⟨x, hx⟩ := get_lt (l := s0) (k := s0.length - 1 - k) (by omega)
    have hxi : (s0.map eP)[((s0.length : Int) - 1 - k).toNat]? = some (eP x) := by
      rw [show ((s0.length : Int) - 1 - k).toNat = s0.length - 1 - k by omega]; exact get_map hx
    conv => whnf
    repeat (refine And.intro ?_ ?_; (first | (with_reducible show okR _ _ _ _ = true; kernel_rfl) | (with_reducible show addC _ _ _ = _; kernel_rfl) | rfl | trivial | kernel_rfl | omega | exact Nat.le_of_ble_eq_true rfl | exact lt_len0 rfl | exact lt_len1 rfl); conv => whnf)
    refine ⟨_, hxi, ?_⟩
    conv => whnf
    repeat (refine And.intro ?_ ?_; (first | (with_reducible show okR _ _ _ _ = true; kernel_rfl) | (with_reducible show addC _ _ _ = _; kernel_rfl) | rfl | trivial | kernel_rfl | omega | exact Nat.le_of_ble_eq_true rfl | exact lt_len0 rfl | exact lt_len1 rfl); conv => whnf)
    refine And.intro (bytes_le (b := 16) rfl ?_) ?_
    · first | omega | (simp; done) | (simp; omega)
    conv => whnf
    repeat (refine And.intro ?_ ?_; (first | (with_reducible show okR _ _ _ _ = true; kernel_rfl) | (with_reducible show addC _ _ _ = _; kernel_rfl) | rfl | trivial | kernel_rfl | omega | exact Nat.le_of_ble_eq_true rfl | exact lt_len0 rfl | exact lt_len1 rfl); conv => whnf)
    refine inI (by omega) (by omega) ?_
    conv => whnf
    repeat (refine And.intro ?_ ?_; (first | (with_reducible show okR _ _ _ _ = true; kernel_rfl) | (with_reducible show addC _ _ _ = _; kernel_rfl) | rfl | trivial | kernel_rfl | omega | exact Nat.le_of_ble_eq_true rfl | exact lt_len0 rfl | exact lt_len1 rfl); conv => whnf)
    refine ⟨k + 1, by omega, by omega, weakTo_cov ?_ ?_⟩
    · conv => whnf
      repeat (refine And.intro ?_ ?_; (first | exact rfl | exact Or.inl rfl | exact congrArg (SV.int .i64) (by first | rfl | omega | (simp; done) | (simp; omega))); conv => whnf)
      exact trivial
    · conv => whnf
      refine And.intro ?_ trivial
      rw [take_snoc (rev_get (by omega) hx), List.map_append]
      rfl
  · have hk : k = s0.length := by omega
    subst hk
    conv => whnf
    repeat (refine And.intro ?_ ?_; (first | (with_reducible show okR _ _ _ _ = true; kernel_rfl) | (with_reducible show addC _ _ _ = _; kernel_rfl) | rfl | trivial | kernel_rfl | omega | exact Nat.le_of_ble_eq_true rfl | exact lt_len0 rfl | exact lt_len1 rfl); conv => whnf)
    have hrev : (s0.reverse.take s0.length) = s0.reverse := by rw [← List.length_reverse, List.take_length]
    refine callF_of (refchain_fresh s0 (by omega) hsin) ?_
    conv => whnf
    repeat (refine And.intro ?_ ?_; (first | (with_reducible show okR _ _ _ _ = true; kernel_rfl) | (with_reducible show addC _ _ _ = _; kernel_rfl) | rfl | trivial | kernel_rfl | omega | exact Nat.le_of_ble_eq_true rfl | exact lt_len0 rfl | exact lt_len1 rfl); conv => whnf)
    refine callF_of (refchain_fresh (s0.reverse.take s0.length) (by rw [hrev]; simp; omega) (fun p hp => hsin p (by rw [hrev] at hp; simpa using hp))) ?_
    conv => whnf
    repeat (refine And.intro ?_ ?_; (first | (with_reducible show okR _ _ _ _ = true; kernel_rfl) | (with_reducible show addC _ _ _ = _; kernel_rfl) | rfl | trivial | kernel_rfl | omega | exact Nat.le_of_ble_eq_true rfl | exact lt_len0 rfl | exact lt_len1 rfl); conv => whnf)
    rw [hrev]
    have e1 : ((chainN s0).map eP).length = (chainN s0).length := List.length_map ..
    have e2 : ((chainN s0.reverse).map eP).length = (chainN s0.reverse).length := List.length_map ..
    have c1 := chainN_len s0
    have c2 := chainN_len s0.reverse
    rw [List.length_reverse] at c2
    refine inI (n := (((chainN s0).map eP).length : Int) + (((chainN s0.reverse).map eP).length : Int)) (by omega) (by omega) ?_
    conv => whnf
    repeat (refine And.intro ?_ ?_; (first | (with_reducible show okR _ _ _ _ = true; kernel_rfl) | (with_reducible show addC _ _ _ = _; kernel_rfl) | rfl | trivial | kernel_rfl | omega | exact Nat.le_of_ble_eq_true rfl | exact lt_len0 rfl | exact lt_len1 rfl); conv => whnf)
    refine ifD (p := (((chainN s0).map eP).length : Int) + (((chainN s0.reverse).map eP).length : Int) < 5) (fun h3 => ?_) (fun h3 => ?_)
    · conv => whnf
      repeat (refine And.intro ?_ ?_; (first | (with_reducible show okR _ _ _ _ = true; kernel_rfl) | (with_reducible show addC _ _ _ = _; kernel_rfl) | rfl | trivial | kernel_rfl | omega | exact Nat.le_of_ble_eq_true rfl | exact lt_len0 rfl | exact lt_len1 rfl); conv => whnf)
      rw [hullS, if_pos (by omega)]
      rfl
    · have hne : s0 ≠ [] := fun e => by
        subst e
        simp [chainN_nil] at h3
      have p1 := chainN_pos hne
      have p2 := chainN_pos (l := s0.reverse) (by simpa using hne)
      conv => whnf
      repeat (refine And.intro ?_ ?_; (first | (with_reducible show okR _ _ _ _ = true; kernel_rfl) | (with_reducible show addC _ _ _ = _; kernel_rfl) | rfl | trivial | kernel_rfl | omega | exact Nat.le_of_ble_eq_true rfl | exact lt_len0 rfl | exact lt_len1 rfl); conv => whnf)
      refine inI (n := (((chainN s0).map eP).length : Int) - 1) (by omega) (by omega) ?_
      conv => whnf
      repeat (refine And.intro ?_ ?_; (first | (with_reducible show okR _ _ _ _ = true; kernel_rfl) | (with_reducible show addC _ _ _ = _; kernel_rfl) | rfl | trivial | kernel_rfl | omega | exact Nat.le_of_ble_eq_true rfl | exact lt_len0 rfl | exact lt_len1 rfl); conv => whnf)
      refine And.intro (show 0 ≤ (((chainN s0).map eP).length : Int) - 1 from by first | omega | (simp; done) | (simp; omega)) ?_
      conv => whnf
      repeat (refine And.intro ?_ ?_; (first | (with_reducible show okR _ _ _ _ = true; kernel_rfl) | (with_reducible show addC _ _ _ = _; kernel_rfl) | rfl | trivial | kernel_rfl | omega | exact Nat.le_of_ble_eq_true rfl | exact lt_len0 rfl | exact lt_len1 rfl); conv => whnf)
      refine And.intro (show (((chainN s0).map eP).length : Int) - 1 ≤ (((chainN s0).map eP).length : Int) from by first | omega | (simp; done) | (simp; omega)) ?_
      conv => whnf
      repeat (refine And.intro ?_ ?_; (first | (with_reducible show okR _ _ _ _ = true; kernel_rfl) | (with_reducible show addC _ _ _ = _; kernel_rfl) | rfl | trivial | kernel_rfl | omega | exact Nat.le_of_ble_eq_true rfl | exact lt_len0 rfl | exact lt_len1 rfl); conv => whnf)
      refine And.intro (show 0 + ((((chainN s0).map eP).length : Int) - 1).toNat ≤ ((chainN s0).map eP).length from by first | omega | (simp; done) | (simp; omega)) ?_
      conv => whnf
      repeat (refine And.intro ?_ ?_; (first | (with_reducible show okR _ _ _ _ = true; kernel_rfl) | (with_reducible show addC _ _ _ = _; kernel_rfl) | rfl | trivial | kernel_rfl | omega | exact Nat.le_of_ble_eq_true rfl | exact lt_len0 rfl | exact lt_len1 rfl); conv => whnf)
      refine And.intro (bytes_le (b := 16) (n := 0 + ((((chainN s0).map eP).drop 0).take ((((chainN s0).map eP).length : Int) - 1).toNat).length) rfl (by rw [List.drop_zero, List.length_take]; omega)) ?_
      conv => whnf
      repeat (refine And.intro ?_ ?_; (first | (with_reducible show okR _ _ _ _ = true; kernel_rfl) | (with_reducible show addC _ _ _ = _; kernel_rfl) | rfl | trivial | kernel_rfl | omega | exact Nat.le_of_ble_eq_true rfl | exact lt_len0 rfl | exact lt_len1 rfl); conv => whnf)
      refine inI (n := (((chainN s0.reverse).map eP).length : Int) - 1) (by omega) (by omega) ?_
      conv => whnf
      repeat (refine And.intro ?_ ?_; (first | (with_reducible show okR _ _ _ _ = true; kernel_rfl) | (with_reducible show addC _ _ _ = _; kernel_rfl) | rfl | trivial | kernel_rfl | omega | exact Nat.le_of_ble_eq_true rfl | exact lt_len0 rfl | exact lt_len1 rfl); conv => whnf)
      refine And.intro (show 0 ≤ (((chainN s0.reverse).map eP).length : Int) - 1 from by first | omega | (simp; done) | (simp; omega)) ?_
      conv => whnf
      repeat (refine And.intro ?_ ?_; (first | (with_reducible show okR _ _ _ _ = true; kernel_rfl) | (with_reducible show addC _ _ _ = _; kernel_rfl) | rfl | trivial | kernel_rfl | omega | exact Nat.le_of_ble_eq_true rfl | exact lt_len0 rfl | exact lt_len1 rfl); conv => whnf)
      refine And.intro (show (((chainN s0.reverse).map eP).length : Int) - 1 ≤ (((chainN s0.reverse).map eP).length : Int) from by first | omega | (simp; done) | (simp; omega)) ?_
      conv => whnf
      repeat (refine And.intro ?_ ?_; (first | (with_reducible show okR _ _ _ _ = true; kernel_rfl) | (with_reducible show addC _ _ _ = _; kernel_rfl) | rfl | trivial | kernel_rfl | omega | exact Nat.le_of_ble_eq_true rfl | exact lt_len0 rfl | exact lt_len1 rfl); conv => whnf)
      refine And.intro (show 0 + ((((chainN s0.reverse).map eP).length : Int) - 1).toNat ≤ ((chainN s0.reverse).map eP).length from by first | omega | (simp; done) | (simp; omega)) ?_
      conv => whnf
      repeat (refine And.intro ?_ ?_; (first | (with_reducible show okR _ _ _ _ = true; kernel_rfl) | (with_reducible show addC _ _ _ = _; kernel_rfl) | rfl | trivial | kernel_rfl | omega | exact Nat.le_of_ble_eq_true rfl | exact lt_len0 rfl | exact lt_len1 rfl); conv => whnf)
      refine And.intro (bytes_le (b := 16) (n := ((([] : List (List SV)) ++ (((chainN s0).map eP).drop 0).take ((((chainN s0).map eP).length : Int) - 1).toNat)).length + ((((chainN s0.reverse).map eP).drop 0).take ((((chainN s0.reverse).map eP).length : Int) - 1).toNat).length) rfl (by rw [List.nil_append, List.drop_zero, List.drop_zero, List.length_take, List.length_take]; omega)) ?_
      conv => whnf
      repeat (refine And.intro ?_ ?_; (first | (with_reducible show okR _ _ _ _ = true; kernel_rfl) | (with_reducible show addC _ _ _ = _; kernel_rfl) | rfl | trivial | kernel_rfl | omega | exact Nat.le_of_ble_eq_true rfl | exact lt_len0 rfl | exact lt_len1 rfl); conv => whnf)
      show ([] : List (List SV)) ++ (((chainN s0).map eP).drop 0).take ((((chainN s0).map eP).length : Int) - 1).toNat ++ (((chainN s0.reverse).map eP).drop 0).take ((((chainN s0.reverse).map eP).length : Int) - 1).toNat = (hullS s0).map eP
      rw [hullS, if_neg (by omega), List.dropLast_eq_take, List.dropLast_eq_take, List.map_append, List.map_take, List.map_take, List.nil_append, List.drop_zero, List.drop_zero, e1, e2]
      rw [show (((chainN s0).length : Int) - 1).toNat = (chainN s0).length - 1 by omega, show (((chainN s0.reverse).length : Int) - 1).toNat = (chainN s0.reverse).length - 1 by omega]
end Go.Proofs.Yticandbdabgkeaa.Am
