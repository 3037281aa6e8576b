/- The contracts of the cross product and of the chains of a hull, the program's and the reference's. No condition: definitions and lemmas. -/
import Derived.Test.YticandbdabgkeaaAmP3
import Derived.Test.YticandbdabgkeaaAmD5
namespace Go.Proofs.Yticandbdabgkeaa.Am
open Go
set_option maxRecDepth 100000

def crossN (a b c : XY) : Int := (b.x - a.x) * (c.y - a.y) - (b.y - a.y) * (c.x - a.x)

theorem mulD {a b : Int} (h1 : -1200 ≤ a) (h2 : a ≤ 1200) (h3 : -1200 ≤ b) (h4 : b ≤ 1200) : -1440000 ≤ a * b ∧ a * b ≤ 1440000 := by
  constructor
  · rcases Int.le_total 0 b with hb | hb
    · have := Int.mul_le_mul_of_nonneg_right h1 hb
      omega
    · have := Int.mul_le_mul_of_nonpos_right h2 hb
      omega
  · rcases Int.le_total 0 b with hb | hb
    · have := Int.mul_le_mul_of_nonneg_right h2 hb
      omega
    · have := Int.mul_le_mul_of_nonpos_right h1 hb
      omega

theorem polycross_pure (a b c : XY) (ha : a.In) (hb : b.In) (hc : c.In) : Pure Try.prog G0 55 [.agg (eP a), .agg (eP b), .agg (eP c)] (.i (crossN a b c)) := by
  obtain ⟨a1, a2, a3, a4⟩ := ha
  obtain ⟨b1, b2, b3, b4⟩ := hb
  obtain ⟨c1, c2, c3, c4⟩ := hc
  have m1 := @mulD (b.x - a.x) (c.y - a.y) (by omega) (by omega) (by omega) (by omega)
  have m2 := @mulD (b.y - a.y) (c.x - a.x) (by omega) (by omega) (by omega) (by omega)
  refine pure_of mixed Try.func55 rfl rfl (Nat.le_of_ble_eq_true rfl) ?_
  conv => whnf
  repeat (refine And.intro ?_ ?_; (first | (with_reducible show okR _ _ _ _ = true; kernel_rfl) | (with_reducible show addC _ _ _ = _; kernel_rfl) | rfl | trivial | kernel_rfl | omega | exact Nat.le_of_ble_eq_true rfl | exact lt_len0 rfl | exact lt_len1 rfl); conv => whnf)
  refine inI (by omega) (by omega) ?_
  conv => whnf
  repeat (refine And.intro ?_ ?_; (first | (with_reducible show okR _ _ _ _ = true; kernel_rfl) | (with_reducible show addC _ _ _ = _; kernel_rfl) | rfl | trivial | kernel_rfl | omega | exact Nat.le_of_ble_eq_true rfl | exact lt_len0 rfl | exact lt_len1 rfl); conv => whnf)
  refine inI (by omega) (by omega) ?_
  conv => whnf
  repeat (refine And.intro ?_ ?_; (first | (with_reducible show okR _ _ _ _ = true; kernel_rfl) | (with_reducible show addC _ _ _ = _; kernel_rfl) | rfl | trivial | kernel_rfl | omega | exact Nat.le_of_ble_eq_true rfl | exact lt_len0 rfl | exact lt_len1 rfl); conv => whnf)
  refine inI (by omega) (by omega) ?_
  conv => whnf
  repeat (refine And.intro ?_ ?_; (first | (with_reducible show okR _ _ _ _ = true; kernel_rfl) | (with_reducible show addC _ _ _ = _; kernel_rfl) | rfl | trivial | kernel_rfl | omega | exact Nat.le_of_ble_eq_true rfl | exact lt_len0 rfl | exact lt_len1 rfl); conv => whnf)
  refine inI (by omega) (by omega) ?_
  conv => whnf
  repeat (refine And.intro ?_ ?_; (first | (with_reducible show okR _ _ _ _ = true; kernel_rfl) | (with_reducible show addC _ _ _ = _; kernel_rfl) | rfl | trivial | kernel_rfl | omega | exact Nat.le_of_ble_eq_true rfl | exact lt_len0 rfl | exact lt_len1 rfl); conv => whnf)
  refine inI (by omega) (by omega) ?_
  conv => whnf
  repeat (refine And.intro ?_ ?_; (first | (with_reducible show okR _ _ _ _ = true; kernel_rfl) | (with_reducible show addC _ _ _ = _; kernel_rfl) | rfl | trivial | kernel_rfl | omega | exact Nat.le_of_ble_eq_true rfl | exact lt_len0 rfl | exact lt_len1 rfl); conv => whnf)
  refine inI (by omega) (by omega) ?_
  conv => whnf
  repeat (refine And.intro ?_ ?_; (first | (with_reducible show okR _ _ _ _ = true; kernel_rfl) | (with_reducible show addC _ _ _ = _; kernel_rfl) | rfl | trivial | kernel_rfl | omega | exact Nat.le_of_ble_eq_true rfl | exact lt_len0 rfl | exact lt_len1 rfl); conv => whnf)
  refine inI (by omega) (by omega) ?_
  conv => whnf
  repeat (refine And.intro ?_ ?_; (first | (with_reducible show okR _ _ _ _ = true; kernel_rfl) | (with_reducible show addC _ _ _ = _; kernel_rfl) | rfl | trivial | kernel_rfl | omega | exact Nat.le_of_ble_eq_true rfl | exact lt_len0 rfl | exact lt_len1 rfl); conv => whnf)
  rfl

theorem refcross_pure (a b c : XY) (ha : a.In) (hb : b.In) (hc : c.In) : Pure Try.prog G0 31 [.agg (eP a), .agg (eP b), .agg (eP c)] (.i (crossN a b c)) := by
  obtain ⟨a1, a2, a3, a4⟩ := ha
  obtain ⟨b1, b2, b3, b4⟩ := hb
  obtain ⟨c1, c2, c3, c4⟩ := hc
  have m1 := @mulD (b.x - a.x) (c.y - a.y) (by omega) (by omega) (by omega) (by omega)
  have m2 := @mulD (b.y - a.y) (c.x - a.x) (by omega) (by omega) (by omega) (by omega)
  refine pure_of mixed Try.func31 rfl rfl (Nat.le_of_ble_eq_true rfl) ?_
  conv => whnf
  repeat (refine And.intro ?_ ?_; (first | (with_reducible show okR _ _ _ _ = true; kernel_rfl) | (with_reducible show addC _ _ _ = _; kernel_rfl) | rfl | trivial | kernel_rfl | omega | exact Nat.le_of_ble_eq_true rfl | exact lt_len0 rfl | exact lt_len1 rfl); conv => whnf)
  refine inI (by omega) (by omega) ?_
  conv => whnf
  repeat (refine And.intro ?_ ?_; (first | (with_reducible show okR _ _ _ _ = true; kernel_rfl) | (with_reducible show addC _ _ _ = _; kernel_rfl) | rfl | trivial | kernel_rfl | omega | exact Nat.le_of_ble_eq_true rfl | exact lt_len0 rfl | exact lt_len1 rfl); conv => whnf)
  refine inI (by omega) (by omega) ?_
  conv => whnf
  repeat (refine And.intro ?_ ?_; (first | (with_reducible show okR _ _ _ _ = true; kernel_rfl) | (with_reducible show addC _ _ _ = _; kernel_rfl) | rfl | trivial | kernel_rfl | omega | exact Nat.le_of_ble_eq_true rfl | exact lt_len0 rfl | exact lt_len1 rfl); conv => whnf)
  refine inI (by omega) (by omega) ?_
  conv => whnf
  repeat (refine And.intro ?_ ?_; (first | (with_reducible show okR _ _ _ _ = true; kernel_rfl) | (with_reducible show addC _ _ _ = _; kernel_rfl) | rfl | trivial | kernel_rfl | omega | exact Nat.le_of_ble_eq_true rfl | exact lt_len0 rfl | exact lt_len1 rfl); conv => whnf)
  refine inI (by omega) (by omega) ?_
  conv => whnf
  repeat (refine And.intro ?_ ?_; (first | (with_reducible show okR _ _ _ _ = true; kernel_rfl) | (with_reducible show addC _ _ _ = _; kernel_rfl) | rfl | trivial | kernel_rfl | omega | exact Nat.le_of_ble_eq_true rfl | exact lt_len0 rfl | exact lt_len1 rfl); conv => whnf)
  refine inI (by omega) (by omega) ?_
  conv => whnf
  repeat (refine And.intro ?_ ?_; (first | (with_reducible show okR _ _ _ _ = true; kernel_rfl) | (with_reducible show addC _ _ _ = _; kernel_rfl) | rfl | trivial | kernel_rfl | omega | exact Nat.le_of_ble_eq_true rfl | exact lt_len0 rfl | exact lt_len1 rfl); conv => whnf)
  refine inI (by omega) (by omega) ?_
  conv => whnf
  repeat (refine And.intro ?_ ?_; (first | (with_reducible show okR _ _ _ _ = true; kernel_rfl) | (with_reducible show addC _ _ _ = _; kernel_rfl) | rfl | trivial | kernel_rfl | omega | exact Nat.le_of_ble_eq_true rfl | exact lt_len0 rfl | exact lt_len1 rfl); conv => whnf)
  refine inI (by omega) (by omega) ?_
  conv => whnf
  repeat (refine And.intro ?_ ?_; (first | (with_reducible show okR _ _ _ _ = true; kernel_rfl) | (with_reducible show addC _ _ _ = _; kernel_rfl) | rfl | trivial | kernel_rfl | omega | exact Nat.le_of_ble_eq_true rfl | exact lt_len0 rfl | exact lt_len1 rfl); conv => whnf)
  rfl

/-! ### Chains -/
/-- The corners so far, the last one first. -/
def pop (q : XY) : List XY → List XY
  | [] => []
  | [a] => [a]
  | b :: a :: r => if crossN a b q ≤ 0 then pop q (a :: r) else b :: a :: r
def chainR (l : List XY) : List XY := l.foldl (fun st q => q :: pop q st) []
def chainN (l : List XY) : List XY := (chainR l).reverse

theorem pop_cons {q a b : XY} {r : List XY} (h : crossN a b q ≤ 0) : pop q (b :: a :: r) = pop q (a :: r) := by rw [pop, if_pos h]
theorem pop_stop {q a b : XY} {r : List XY} (h : ¬ crossN a b q ≤ 0) : pop q (b :: a :: r) = b :: a :: r := by rw [pop, if_neg h]
theorem pop_short {q : XY} {l : List XY} (h : l.length ≤ 1) : pop q l = l := by
  match l, h with
  | [], _ => rfl
  | [a], _ => rfl
theorem pop_sub (q : XY) : ∀ l : List XY, ∀ x ∈ pop q l, x ∈ l
  | [], x, h => h
  | [a], x, h => h
  | b :: a :: r, x, h => by
    by_cases hc : crossN a b q ≤ 0
    · rw [pop_cons hc] at h
      exact List.mem_cons_of_mem _ (pop_sub q (a :: r) x h)
    · rw [pop_stop hc] at h; exact h
theorem pop_len (q : XY) : ∀ l : List XY, (pop q l).length ≤ l.length
  | [] => Nat.le_refl _
  | [a] => Nat.le_refl _
  | b :: a :: r => by
    by_cases hc : crossN a b q ≤ 0
    · rw [pop_cons hc]
      have := pop_len q (a :: r)
      simp only [List.length_cons] at this ⊢
      omega
    · rw [pop_stop hc]; exact Nat.le_refl _
theorem foldl_sub : ∀ (l st : List XY), ∀ x ∈ l.foldl (fun st q => q :: pop q st) st, x ∈ st ∨ x ∈ l
  | [], st, x, h => .inl h
  | q :: l, st, x, h => by
    rcases foldl_sub l _ x h with h | h
    · rcases List.mem_cons.1 h with rfl | h
      · exact .inr (by simp)
      · exact .inl (pop_sub q st x h)
    · exact .inr (by simp [h])
theorem chainR_sub (l : List XY) : ∀ x ∈ chainR l, x ∈ l := fun x h => by
  rcases foldl_sub l [] x h with h | h
  · cases h
  · exact h
theorem foldl_len : ∀ (l st : List XY), (l.foldl (fun st q => q :: pop q st) st).length ≤ st.length + l.length
  | [], st => by simp
  | q :: l, st => by
    have h1 := foldl_len l (q :: pop q st)
    have h2 := pop_len q st
    simp only [List.foldl_cons, List.length_cons] at h1 ⊢
    omega
theorem chainR_len (l : List XY) : (chainR l).length ≤ l.length := by have := foldl_len l []; simpa [chainR] using this

theorem chainR_snoc {l : List XY} {k : Nat} {x : XY} (h : l[k]? = some x) : chainR (l.take (k + 1)) = x :: pop x (chainR (l.take k)) := by
  rw [chainR, take_snoc h, List.foldl_append]
  rfl

/-- The last two corners in the row. -/
theorem top_get {st : List XY} {j : Nat} {a b : XY} {r : List XY} (h : st.drop j = b :: a :: r) : (st.reverse.map eP)[st.length - j - 1]? = some (eP b) ∧ (st.reverse.map eP)[st.length - j - 2]? = some (eP a) := by
  have hl : st.length - j = r.length + 2 := by have := congrArg List.length h; simpa using this
  have e1 : st[j]? = some b := by have := congrArg (fun l => l[0]?) h; simpa using this
  have e2 : st[j + 1]? = some a := by have := congrArg (fun l => l[1]?) h; simpa using this
  constructor
  · refine get_map ?_
    rw [List.getElem?_reverse (by omega)]
    rw [show st.length - 1 - (st.length - j - 1) = j by omega]; exact e1
  · refine get_map ?_
    rw [List.getElem?_reverse (by omega)]
    rw [show st.length - 1 - (st.length - j - 2) = j + 1 by omega]; exact e2
theorem take_rev (st : List XY) (j : Nat) : (st.reverse.map eP).take (st.length - j) = ((st.drop j).reverse.map eP) := by
  rw [← List.map_take, List.reverse_drop]

theorem chain_fresh (l : List XY) (hl : l.length ≤ 1000000) (hin : ∀ p ∈ l, p.In) : FreshC Try.prog G0 46 [.sl 2 (l.map eP)] 2 ((chainN l).map eP) (.lrow 0 0) := by
  refine fresh_intro mixed Try.func46 rfl rfl (Nat.le_of_ble_eq_true rfl) ?_
  conv => whnf
  repeat (refine And.intro ?_ ?_; (first | (with_reducible show okR _ _ _ _ = true; kernel_rfl) | (with_reducible show addC _ _ _ = _; kernel_rfl) | rfl | trivial | kernel_rfl | omega | exact Nat.le_of_ble_eq_true rfl | exact lt_len0 rfl | exact lt_len1 rfl); conv => whnf)
  refine loop_weak (weak_nil_slot 3 40 2 rfl) ?_
  refine loop_rule mixed (ι := Nat) (fun k s => [(3, .lrow 40 (s 40)), (6, .sl 2 (l.map eP)), (7, .i l.length), (8, .i k)]) (fun k s => [(40, ⟨s 40, 1, 2, (chainR (l.take k)).reverse.map eP⟩)]) (fun k => k ≤ l.length) (fun k => l.length - k) 0 (by omega) (weakTo_cov ?_ ?_) fun k hk s ct => ?_
  · conv => whnf
    repeat (refine And.intro ?_ ?_; (first | exact rfl | exact Or.inl rfl | exact congrArg (SV.int .i64) (by first | rfl | omega | (simp; done) | (simp; omega))); conv => whnf)
    exact trivial
  · conv => whnf
    repeat (refine And.intro ?_ ?_; (first | exact rfl | exact Or.inl rfl | exact congrArg (SV.int .i64) (by first | rfl | omega | (simp; done) | (simp; omega))); conv => whnf)
    exact trivial
  conv => whnf
  repeat (refine And.intro ?_ ?_; (first | (with_reducible show okR _ _ _ _ = true; kernel_rfl) | (with_reducible show addC _ _ _ = _; kernel_rfl) | rfl | trivial | kernel_rfl | omega | exact Nat.le_of_ble_eq_true rfl | exact lt_len0 rfl | exact lt_len1 rfl); conv => whnf)
  refine ifD (fun h1 => ?_) (fun h1 => ?_) <;> try dsimp only at h1
  · obtain ⟨x, hx⟩ := get_lt (l := l) (k := k) (by omega)
    have hst := chainR_len (l.take k)
    have htk : (l.take k).length ≤ k := by simp; omega
    have hsub : ∀ p ∈ chainR (l.take k), p.In := fun p hp => hin p (List.mem_of_mem_take (chainR_sub _ p hp))
    have hs := chainR_snoc hx
    generalize hS : chainR (l.take k) = st at *
    have hxin := hin x (List.mem_of_getElem? hx)
    conv => whnf
    repeat (refine And.intro ?_ ?_; (first | (with_reducible show okR _ _ _ _ = true; kernel_rfl) | (with_reducible show addC _ _ _ = _; kernel_rfl) | rfl | trivial | kernel_rfl | omega | exact Nat.le_of_ble_eq_true rfl | exact lt_len0 rfl | exact lt_len1 rfl); conv => whnf)
    refine ⟨_, get_map hx, ?_⟩
    conv => whnf
    repeat (refine And.intro ?_ ?_; (first | (with_reducible show okR _ _ _ _ = true; kernel_rfl) | (with_reducible show addC _ _ _ = _; kernel_rfl) | rfl | trivial | kernel_rfl | omega | exact Nat.le_of_ble_eq_true rfl | exact lt_len0 rfl | exact lt_len1 rfl); conv => whnf)
    refine loop_rule mixed (ι := Nat) (fun j s => [(3, .lsl 40 (s 40) 0 (st.length - j)), (5, .lptr 5 (s 5) 0 0), (6, .sl 2 (l.map eP)), (7, .i l.length), (8, .i k)]) (fun j s => [(5, ⟨s 5, 0, 2, [eP x]⟩), (40, ⟨s 40, 1, 2, st.reverse.map eP⟩)]) (fun j => j ≤ st.length ∧ pop x st = pop x (st.drop j)) (fun j => st.length - j) 0 ⟨by omega, rfl⟩ (weakTo_cov ?_ ?_) fun j hj s ct => ?_
    · conv => whnf
      refine And.intro (.inr ?_) ?_
      · conv => whnf
        repeat (refine And.intro rfl ?_; conv => whnf)
        simp
      · conv => whnf
        repeat (refine And.intro ?_ ?_; (first | exact rfl | exact Or.inl rfl | exact congrArg (SV.int .i64) (by first | rfl | omega | (simp; done) | (simp; omega))); conv => whnf)
        exact trivial
    · conv => whnf
      repeat (refine And.intro ?_ ?_; (first | exact rfl | exact Or.inl rfl | exact congrArg (SV.int .i64) (by first | rfl | omega | (simp; done) | (simp; omega))); conv => whnf)
      exact trivial
    obtain ⟨hj, hp⟩ := hj
    conv => whnf
    repeat (refine And.intro ?_ ?_; (first | (with_reducible show okR _ _ _ _ = true; kernel_rfl) | (with_reducible show addC _ _ _ = _; kernel_rfl) | rfl | trivial | kernel_rfl | omega | exact Nat.le_of_ble_eq_true rfl | exact lt_len0 rfl | exact lt_len1 rfl); conv => whnf)
    refine ifD (fun h2 => ?_) (fun h2 => ?_) <;> try dsimp only at h2
    · obtain ⟨b, a, r, hr⟩ : ∃ b a r, st.drop j = b :: a :: r := by
        have hlen : (st.drop j).length = st.length - j := List.length_drop ..
        match hd : st.drop j with
        | [] => rw [hd] at hlen; simp at hlen; omega
        | [a] => rw [hd] at hlen; simp at hlen; omega
        | b :: a :: r => exact ⟨b, a, r, rfl⟩
      obtain ⟨g1, g2⟩ := top_get hr
      have hma : a ∈ st := List.mem_of_mem_drop (by rw [hr]; simp)
      have hmb : b ∈ st := List.mem_of_mem_drop (by rw [hr]; simp)
      have e1 : (0 + (((st.length - j : Nat) : Int) - 2).toNat) = st.length - j - 2 := by omega
      have e2 : (0 + (((st.length - j : Nat) : Int) - 1).toNat) = st.length - j - 1 := by omega
      rw [← e1] at g2
      rw [← e2] at g1
      have hpos : 2 ≤ st.length - j := by omega
      conv => whnf
      repeat (refine And.intro ?_ ?_; (first | (with_reducible show okR _ _ _ _ = true; kernel_rfl) | (with_reducible show addC _ _ _ = _; kernel_rfl) | rfl | trivial | kernel_rfl | omega | exact Nat.le_of_ble_eq_true rfl | exact lt_len0 rfl | exact lt_len1 rfl); conv => whnf)
      refine inI (by omega) (by omega) ?_
      conv => whnf
      repeat (refine And.intro ?_ ?_; (first | (with_reducible show okR _ _ _ _ = true; kernel_rfl) | (with_reducible show addC _ _ _ = _; kernel_rfl) | rfl | trivial | kernel_rfl | omega | exact Nat.le_of_ble_eq_true rfl | exact lt_len0 rfl | exact lt_len1 rfl); conv => whnf)
      refine ⟨_, g2, ?_⟩
      conv => whnf
      repeat (refine And.intro ?_ ?_; (first | (with_reducible show okR _ _ _ _ = true; kernel_rfl) | (with_reducible show addC _ _ _ = _; kernel_rfl) | rfl | trivial | kernel_rfl | omega | exact Nat.le_of_ble_eq_true rfl | exact lt_len0 rfl | exact lt_len1 rfl); conv => whnf)
      refine inI (by omega) (by omega) ?_
      conv => whnf
      repeat (refine And.intro ?_ ?_; (first | (with_reducible show okR _ _ _ _ = true; kernel_rfl) | (with_reducible show addC _ _ _ = _; kernel_rfl) | rfl | trivial | kernel_rfl | omega | exact Nat.le_of_ble_eq_true rfl | exact lt_len0 rfl | exact lt_len1 rfl); conv => whnf)
      refine ⟨_, g1, ?_⟩
      conv => whnf
      repeat (refine And.intro ?_ ?_; (first | (with_reducible show okR _ _ _ _ = true; kernel_rfl) | (with_reducible show addC _ _ _ = _; kernel_rfl) | rfl | trivial | kernel_rfl | omega | exact Nat.le_of_ble_eq_true rfl | exact lt_len0 rfl | exact lt_len1 rfl); conv => whnf)
      refine callP_of (polycross_pure a b x (hsub a hma) (hsub b hmb) hxin) ?_
      conv => whnf
      repeat (refine And.intro ?_ ?_; (first | (with_reducible show okR _ _ _ _ = true; kernel_rfl) | (with_reducible show addC _ _ _ = _; kernel_rfl) | rfl | trivial | kernel_rfl | omega | exact Nat.le_of_ble_eq_true rfl | exact lt_len0 rfl | exact lt_len1 rfl); conv => whnf)
      refine ifD (fun h3 => ?_) (fun h3 => ?_) <;> try dsimp only at h3
      · conv => whnf
        repeat (refine And.intro ?_ ?_; (first | (with_reducible show okR _ _ _ _ = true; kernel_rfl) | (with_reducible show addC _ _ _ = _; kernel_rfl) | rfl | trivial | kernel_rfl | omega | exact Nat.le_of_ble_eq_true rfl | exact lt_len0 rfl | exact lt_len1 rfl); conv => whnf)
        refine inI (by omega) (by omega) ?_
        conv => whnf
        repeat (refine And.intro ?_ ?_; (first | (with_reducible show okR _ _ _ _ = true; kernel_rfl) | (with_reducible show addC _ _ _ = _; kernel_rfl) | rfl | trivial | kernel_rfl | omega | exact Nat.le_of_ble_eq_true rfl | exact lt_len0 rfl | exact lt_len1 rfl); conv => whnf)
        refine ⟨j + 1, ⟨by omega, ?_⟩, by omega, weakTo_cov ?_ ?_⟩
        · rw [hp, hr, pop_cons h3, ← List.drop_drop, hr]; rfl
        · conv => whnf
          refine And.intro (.inl ?_) ?_
          · rw [show (((st.length - j : Nat) : Int) - 1).toNat = st.length - (j + 1) by omega]; rfl
          · conv => whnf
            repeat (refine And.intro ?_ ?_; (first | exact rfl | exact Or.inl rfl | exact congrArg (SV.int .i64) (by first | rfl | omega | (simp; done) | (simp; omega))); conv => whnf)
            exact trivial
        · conv => whnf
          repeat (refine And.intro ?_ ?_; (first | exact rfl | exact Or.inl rfl | exact congrArg (SV.int .i64) (by first | rfl | omega | (simp; done) | (simp; omega))); conv => whnf)
          exact trivial
      · conv => whnf
        repeat (refine And.intro ?_ ?_; (first | (with_reducible show okR _ _ _ _ = true; kernel_rfl) | (with_reducible show addC _ _ _ = _; kernel_rfl) | rfl | trivial | kernel_rfl | omega | exact Nat.le_of_ble_eq_true rfl | exact lt_len0 rfl | exact lt_len1 rfl); conv => whnf)
        refine And.intro (show st.length - j ≤ (st.reverse.map eP).length from by simp) ?_
        conv => whnf
        repeat (refine And.intro ?_ ?_; (first | (with_reducible show okR _ _ _ _ = true; kernel_rfl) | (with_reducible show addC _ _ _ = _; kernel_rfl) | rfl | trivial | kernel_rfl | omega | exact Nat.le_of_ble_eq_true rfl | exact lt_len0 rfl | exact lt_len1 rfl); conv => whnf)
        refine And.intro (show ((st.length - j) + 1) * 16 ≤ 140737488355328 from by omega) ?_
        conv => whnf
        repeat (refine And.intro ?_ ?_; (first | (with_reducible show okR _ _ _ _ = true; kernel_rfl) | (with_reducible show addC _ _ _ = _; kernel_rfl) | rfl | trivial | kernel_rfl | omega | exact Nat.le_of_ble_eq_true rfl | exact lt_len0 rfl | exact lt_len1 rfl); conv => whnf)
        refine inI (by omega) (by omega) ?_
        conv => whnf
        repeat (refine And.intro ?_ ?_; (first | (with_reducible show okR _ _ _ _ = true; kernel_rfl) | (with_reducible show addC _ _ _ = _; kernel_rfl) | rfl | trivial | kernel_rfl | omega | exact Nat.le_of_ble_eq_true rfl | exact lt_len0 rfl | exact lt_len1 rfl); conv => whnf)
        refine ⟨k + 1, by omega, by omega, weakTo_cov ?_ ?_⟩
        · conv => whnf
          repeat (refine And.intro ?_ ?_; (first | exact rfl | exact Or.inl rfl | exact congrArg (SV.int .i64) (by first | rfl | omega | (simp; done) | (simp; omega))); conv => whnf)
          exact trivial
        · conv => whnf
          refine And.intro ?_ trivial
          rw [hs, hp, hr, pop_stop h3, ← hr, List.reverse_cons, List.map_append]
          rw [take_rev]
          rfl
    · conv => whnf
      repeat (refine And.intro ?_ ?_; (first | (with_reducible show okR _ _ _ _ = true; kernel_rfl) | (with_reducible show addC _ _ _ = _; kernel_rfl) | rfl | trivial | kernel_rfl | omega | exact Nat.le_of_ble_eq_true rfl | exact lt_len0 rfl | exact lt_len1 rfl); conv => whnf)
      refine And.intro (show st.length - j ≤ (st.reverse.map eP).length from by simp) ?_
      conv => whnf
      repeat (refine And.intro ?_ ?_; (first | (with_reducible show okR _ _ _ _ = true; kernel_rfl) | (with_reducible show addC _ _ _ = _; kernel_rfl) | rfl | trivial | kernel_rfl | omega | exact Nat.le_of_ble_eq_true rfl | exact lt_len0 rfl | exact lt_len1 rfl); conv => whnf)
      refine And.intro (show ((st.length - j) + 1) * 16 ≤ 140737488355328 from by omega) ?_
      conv => whnf
      repeat (refine And.intro ?_ ?_; (first | (with_reducible show okR _ _ _ _ = true; kernel_rfl) | (with_reducible show addC _ _ _ = _; kernel_rfl) | rfl | trivial | kernel_rfl | omega | exact Nat.le_of_ble_eq_true rfl | exact lt_len0 rfl | exact lt_len1 rfl); conv => whnf)
      refine inI (by omega) (by omega) ?_
      conv => whnf
      repeat (refine And.intro ?_ ?_; (first | (with_reducible show okR _ _ _ _ = true; kernel_rfl) | (with_reducible show addC _ _ _ = _; kernel_rfl) | rfl | trivial | kernel_rfl | omega | exact Nat.le_of_ble_eq_true rfl | exact lt_len0 rfl | exact lt_len1 rfl); conv => whnf)
      refine ⟨k + 1, by omega, by omega, weakTo_cov ?_ ?_⟩
      · conv => whnf
        repeat (refine And.intro ?_ ?_; (first | exact rfl | exact Or.inl rfl | exact congrArg (SV.int .i64) (by first | rfl | omega | (simp; done) | (simp; omega))); conv => whnf)
        exact trivial
      · conv => whnf
        refine And.intro ?_ trivial
        rw [hs, hp, pop_short (by rw [List.length_drop]; omega), List.reverse_cons, List.map_append, take_rev]
        rfl
  · have hk : k = l.length := by omega
    subst hk
    conv => whnf
    repeat (refine And.intro ?_ ?_; (first | (with_reducible show okR _ _ _ _ = true; kernel_rfl) | (with_reducible show addC _ _ _ = _; kernel_rfl) | rfl | trivial | kernel_rfl | omega | exact Nat.le_of_ble_eq_true rfl | exact lt_len0 rfl | exact lt_len1 rfl); conv => whnf)
    rw [List.take_length]
    refine only_row_ret 40 (s 40) ?_
    exact ⟨rfl, rfl, rfl⟩
theorem refchain_fresh (l : List XY) (hl : l.length ≤ 1000000) (hin : ∀ p ∈ l, p.In) : FreshC Try.prog G0 50 [.sl 2 (l.map eP)] 2 ((chainN l).map eP) (.lrow 0 0) := by
  refine fresh_intro mixed Try.func50 rfl rfl (Nat.le_of_ble_eq_true rfl) ?_
  conv => whnf
  repeat (refine And.intro ?_ ?_; (first | (with_reducible show okR _ _ _ _ = true; kernel_rfl) | (with_reducible show addC _ _ _ = _; kernel_rfl) | rfl | trivial | kernel_rfl | omega | exact Nat.le_of_ble_eq_true rfl | exact lt_len0 rfl | exact lt_len1 rfl); conv => whnf)
  refine loop_weak (weak_nil_slot 3 45 2 rfl) ?_
  refine loop_rule mixed (ι := Nat) (fun k s => [(0, .sl 2 (l.map eP)), (3, .lrow 45 (s 45)), (4, .i k)]) (fun k s => [(45, ⟨s 45, 1, 2, (chainR (l.take k)).reverse.map eP⟩)]) (fun k => k ≤ l.length) (fun k => l.length - k) 0 (by omega) (weakTo_cov ?_ ?_) fun k hk s ct => ?_
  · conv => whnf
    repeat (refine And.intro ?_ ?_; (first | exact rfl | exact Or.inl rfl | exact congrArg (SV.int .i64) (by first | rfl | omega | (simp; done) | (simp; omega))); conv => whnf)
    exact trivial
  · conv => whnf
    repeat (refine And.intro ?_ ?_; (first | exact rfl | exact Or.inl rfl | exact congrArg (SV.int .i64) (by first | rfl | omega | (simp; done) | (simp; omega))); conv => whnf)
    exact trivial
  conv => whnf
  repeat (refine And.intro ?_ ?_; (first | (with_reducible show okR _ _ _ _ = true; kernel_rfl) | (with_reducible show addC _ _ _ = _; kernel_rfl) | rfl | trivial | kernel_rfl | omega | exact Nat.le_of_ble_eq_true rfl | exact lt_len0 rfl | exact lt_len1 rfl); conv => whnf)
  refine ifD (fun h1 => ?_) (fun h1 => ?_) <;> try dsimp only at h1
  · rw [List.length_map] at h1
    obtain ⟨x, hx⟩ := get_lt (l := l) (k := k) (by omega)
    have hst := chainR_len (l.take k)
    have htk : (l.take k).length ≤ k := by simp; omega
    have hsub : ∀ p ∈ chainR (l.take k), p.In := fun p hp => hin p (List.mem_of_mem_take (chainR_sub _ p hp))
    have hs := chainR_snoc hx
    generalize hS : chainR (l.take k) = st at *
    have hxin := hin x (List.mem_of_getElem? hx)
    conv => whnf
    repeat (refine And.intro ?_ ?_; (first | (with_reducible show okR _ _ _ _ = true; kernel_rfl) | (with_reducible show addC _ _ _ = _; kernel_rfl) | rfl | trivial | kernel_rfl | omega | exact Nat.le_of_ble_eq_true rfl | exact lt_len0 rfl | exact lt_len1 rfl); conv => whnf)
    refine loop_rule mixed (ι := Nat) (fun j s => [(0, .sl 2 (l.map eP)), (3, .lsl 45 (s 45) 0 (st.length - j)), (4, .i k)]) (fun j s => [(45, ⟨s 45, 1, 2, st.reverse.map eP⟩)]) (fun j => j ≤ st.length ∧ pop x st = pop x (st.drop j)) (fun j => st.length - j) 0 ⟨by omega, rfl⟩ (weakTo_cov ?_ ?_) fun j hj s ct => ?_
    · conv => whnf
      refine And.intro (.inl rfl) ?_
      conv => whnf
      refine And.intro (.inr ?_) ?_
      · conv => whnf
        repeat (refine And.intro rfl ?_; conv => whnf)
        simp
      · conv => whnf
        repeat (refine And.intro ?_ ?_; (first | exact rfl | exact Or.inl rfl | exact congrArg (SV.int .i64) (by first | rfl | omega | (simp; done) | (simp; omega))); conv => whnf)
        exact trivial
    · conv => whnf
      repeat (refine And.intro ?_ ?_; (first | exact rfl | exact Or.inl rfl | exact congrArg (SV.int .i64) (by first | rfl | omega | (simp; done) | (simp; omega))); conv => whnf)
      exact trivial
    obtain ⟨hj, hp⟩ := hj
    conv => whnf
    repeat (refine And.intro ?_ ?_; (first | (with_reducible show okR _ _ _ _ = true; kernel_rfl) | (with_reducible show addC _ _ _ = _; kernel_rfl) | rfl | trivial | kernel_rfl | omega | exact Nat.le_of_ble_eq_true rfl | exact lt_len0 rfl | exact lt_len1 rfl); conv => whnf)
    refine ifD (fun h2 => ?_) (fun h2 => ?_) <;> try dsimp only at h2
    · obtain ⟨b, a, r, hr⟩ : ∃ b a r, st.drop j = b :: a :: r := by
        have hlen : (st.drop j).length = st.length - j := List.length_drop ..
        match hd : st.drop j with
        | [] => rw [hd] at hlen; simp at hlen; omega
        | [a] => rw [hd] at hlen; simp at hlen; omega
        | b :: a :: r => exact ⟨b, a, r, rfl⟩
      obtain ⟨g1, g2⟩ := top_get hr
      have hma : a ∈ st := List.mem_of_mem_drop (by rw [hr]; simp)
      have hmb : b ∈ st := List.mem_of_mem_drop (by rw [hr]; simp)
      have e1 : (0 + (((st.length - j : Nat) : Int) - 2).toNat) = st.length - j - 2 := by omega
      have e2 : (0 + (((st.length - j : Nat) : Int) - 1).toNat) = st.length - j - 1 := by omega
      rw [← e1] at g2
      rw [← e2] at g1
      have hpos : 2 ≤ st.length - j := by omega
      conv => whnf
      repeat (refine And.intro ?_ ?_; (first | (with_reducible show okR _ _ _ _ = true; kernel_rfl) | (with_reducible show addC _ _ _ = _; kernel_rfl) | rfl | trivial | kernel_rfl | omega | exact Nat.le_of_ble_eq_true rfl | exact lt_len0 rfl | exact lt_len1 rfl); conv => whnf)
      refine inI (by omega) (by omega) ?_
      conv => whnf
      repeat (refine And.intro ?_ ?_; (first | (with_reducible show okR _ _ _ _ = true; kernel_rfl) | (with_reducible show addC _ _ _ = _; kernel_rfl) | rfl | trivial | kernel_rfl | omega | exact Nat.le_of_ble_eq_true rfl | exact lt_len0 rfl | exact lt_len1 rfl); conv => whnf)
      refine ⟨_, g2, ?_⟩
      conv => whnf
      repeat (refine And.intro ?_ ?_; (first | (with_reducible show okR _ _ _ _ = true; kernel_rfl) | (with_reducible show addC _ _ _ = _; kernel_rfl) | rfl | trivial | kernel_rfl | omega | exact Nat.le_of_ble_eq_true rfl | exact lt_len0 rfl | exact lt_len1 rfl); conv => whnf)
      refine inI (by omega) (by omega) ?_
      conv => whnf
      repeat (refine And.intro ?_ ?_; (first | (with_reducible show okR _ _ _ _ = true; kernel_rfl) | (with_reducible show addC _ _ _ = _; kernel_rfl) | rfl | trivial | kernel_rfl | omega | exact Nat.le_of_ble_eq_true rfl | exact lt_len0 rfl | exact lt_len1 rfl); conv => whnf)
      refine ⟨_, g1, ?_⟩
      conv => whnf
      repeat (refine And.intro ?_ ?_; (first | (with_reducible show okR _ _ _ _ = true; kernel_rfl) | (with_reducible show addC _ _ _ = _; kernel_rfl) | rfl | trivial | kernel_rfl | omega | exact Nat.le_of_ble_eq_true rfl | exact lt_len0 rfl | exact lt_len1 rfl); conv => whnf)
      refine ⟨_, get_map hx, ?_⟩
      conv => whnf
      repeat (refine And.intro ?_ ?_; (first | (with_reducible show okR _ _ _ _ = true; kernel_rfl) | (with_reducible show addC _ _ _ = _; kernel_rfl) | rfl | trivial | kernel_rfl | omega | exact Nat.le_of_ble_eq_true rfl | exact lt_len0 rfl | exact lt_len1 rfl); conv => whnf)
      refine callP_of (refcross_pure a b x (hsub a hma) (hsub b hmb) hxin) ?_
      conv => whnf
      repeat (refine And.intro ?_ ?_; (first | (with_reducible show okR _ _ _ _ = true; kernel_rfl) | (with_reducible show addC _ _ _ = _; kernel_rfl) | rfl | trivial | kernel_rfl | omega | exact Nat.le_of_ble_eq_true rfl | exact lt_len0 rfl | exact lt_len1 rfl); conv => whnf)
      refine ifD (fun h3 => ?_) (fun h3 => ?_) <;> try dsimp only at h3
      · conv => whnf
        repeat (refine And.intro ?_ ?_; (first | (with_reducible show okR _ _ _ _ = true; kernel_rfl) | (with_reducible show addC _ _ _ = _; kernel_rfl) | rfl | trivial | kernel_rfl | omega | exact Nat.le_of_ble_eq_true rfl | exact lt_len0 rfl | exact lt_len1 rfl); conv => whnf)
        refine inI (by omega) (by omega) ?_
        conv => whnf
        repeat (refine And.intro ?_ ?_; (first | (with_reducible show okR _ _ _ _ = true; kernel_rfl) | (with_reducible show addC _ _ _ = _; kernel_rfl) | rfl | trivial | kernel_rfl | omega | exact Nat.le_of_ble_eq_true rfl | exact lt_len0 rfl | exact lt_len1 rfl); conv => whnf)
        refine ⟨j + 1, ⟨by omega, ?_⟩, by omega, weakTo_cov ?_ ?_⟩
        · rw [hp, hr, pop_cons h3, ← List.drop_drop, hr]; rfl
        · conv => whnf
          refine And.intro (.inl rfl) ?_
          conv => whnf
          refine And.intro (.inl ?_) ?_
          · rw [show (((st.length - j : Nat) : Int) - 1).toNat = st.length - (j + 1) by omega]; rfl
          · conv => whnf
            repeat (refine And.intro ?_ ?_; (first | exact rfl | exact Or.inl rfl | exact congrArg (SV.int .i64) (by first | rfl | omega | (simp; done) | (simp; omega))); conv => whnf)
            exact trivial
        · conv => whnf
          repeat (refine And.intro ?_ ?_; (first | exact rfl | exact Or.inl rfl | exact congrArg (SV.int .i64) (by first | rfl | omega | (simp; done) | (simp; omega))); conv => whnf)
          exact trivial
      · conv => whnf
        repeat (refine And.intro ?_ ?_; (first | (with_reducible show okR _ _ _ _ = true; kernel_rfl) | (with_reducible show addC _ _ _ = _; kernel_rfl) | rfl | trivial | kernel_rfl | omega | exact Nat.le_of_ble_eq_true rfl | exact lt_len0 rfl | exact lt_len1 rfl); conv => whnf)
        refine ⟨_, get_map hx, ?_⟩
        conv => whnf
        repeat (refine And.intro ?_ ?_; (first | (with_reducible show okR _ _ _ _ = true; kernel_rfl) | (with_reducible show addC _ _ _ = _; kernel_rfl) | rfl | trivial | kernel_rfl | omega | exact Nat.le_of_ble_eq_true rfl | exact lt_len0 rfl | exact lt_len1 rfl); conv => whnf)
        refine And.intro (show st.length - j ≤ (st.reverse.map eP).length from by simp) ?_
        conv => whnf
        repeat (refine And.intro ?_ ?_; (first | (with_reducible show okR _ _ _ _ = true; kernel_rfl) | (with_reducible show addC _ _ _ = _; kernel_rfl) | rfl | trivial | kernel_rfl | omega | exact Nat.le_of_ble_eq_true rfl | exact lt_len0 rfl | exact lt_len1 rfl); conv => whnf)
        refine And.intro (show ((st.length - j) + 1) * 16 ≤ 140737488355328 from by omega) ?_
        conv => whnf
        repeat (refine And.intro ?_ ?_; (first | (with_reducible show okR _ _ _ _ = true; kernel_rfl) | (with_reducible show addC _ _ _ = _; kernel_rfl) | rfl | trivial | kernel_rfl | omega | exact Nat.le_of_ble_eq_true rfl | exact lt_len0 rfl | exact lt_len1 rfl); conv => whnf)
        refine inI (by omega) (by omega) ?_
        conv => whnf
        repeat (refine And.intro ?_ ?_; (first | (with_reducible show okR _ _ _ _ = true; kernel_rfl) | (with_reducible show addC _ _ _ = _; kernel_rfl) | rfl | trivial | kernel_rfl | omega | exact Nat.le_of_ble_eq_true rfl | exact lt_len0 rfl | exact lt_len1 rfl); conv => whnf)
        refine ⟨k + 1, by omega, by omega, weakTo_cov ?_ ?_⟩
        · conv => whnf
          repeat (refine And.intro ?_ ?_; (first | exact rfl | exact Or.inl rfl | exact congrArg (SV.int .i64) (by first | rfl | omega | (simp; done) | (simp; omega))); conv => whnf)
          exact trivial
        · conv => whnf
          refine And.intro ?_ trivial
          rw [hs, hp, hr, pop_stop h3, ← hr, List.reverse_cons, List.map_append]
          rw [take_rev]
          rfl
    · conv => whnf
      repeat (refine And.intro ?_ ?_; (first | (with_reducible show okR _ _ _ _ = true; kernel_rfl) | (with_reducible show addC _ _ _ = _; kernel_rfl) | rfl | trivial | kernel_rfl | omega | exact Nat.le_of_ble_eq_true rfl | exact lt_len0 rfl | exact lt_len1 rfl); conv => whnf)
      refine ⟨_, get_map hx, ?_⟩
      conv => whnf
      repeat (refine And.intro ?_ ?_; (first | (with_reducible show okR _ _ _ _ = true; kernel_rfl) | (with_reducible show addC _ _ _ = _; kernel_rfl) | rfl | trivial | kernel_rfl | omega | exact Nat.le_of_ble_eq_true rfl | exact lt_len0 rfl | exact lt_len1 rfl); conv => whnf)
      refine And.intro (show st.length - j ≤ (st.reverse.map eP).length from by simp) ?_
      conv => whnf
      repeat (refine And.intro ?_ ?_; (first | (with_reducible show okR _ _ _ _ = true; kernel_rfl) | (with_reducible show addC _ _ _ = _; kernel_rfl) | rfl | trivial | kernel_rfl | omega | exact Nat.le_of_ble_eq_true rfl | exact lt_len0 rfl | exact lt_len1 rfl); conv => whnf)
      refine And.intro (show ((st.length - j) + 1) * 16 ≤ 140737488355328 from by omega) ?_
      conv => whnf
      repeat (refine And.intro ?_ ?_; (first | (with_reducible show okR _ _ _ _ = true; kernel_rfl) | (with_reducible show addC _ _ _ = _; kernel_rfl) | rfl | trivial | kernel_rfl | omega | exact Nat.le_of_ble_eq_true rfl | exact lt_len0 rfl | exact lt_len1 rfl); conv => whnf)
      refine inI (by omega) (by omega) ?_
      conv => whnf
      repeat (refine And.intro ?_ ?_; (first | (with_reducible show okR _ _ _ _ = true; kernel_rfl) | (with_reducible show addC _ _ _ = _; kernel_rfl) | rfl | trivial | kernel_rfl | omega | exact Nat.le_of_ble_eq_true rfl | exact lt_len0 rfl | exact lt_len1 rfl); conv => whnf)
      refine ⟨k + 1, by omega, by omega, weakTo_cov ?_ ?_⟩
      · conv => whnf
        repeat (refine And.intro ?_ ?_; (first | exact rfl | exact Or.inl rfl | exact congrArg (SV.int .i64) (by first | rfl | omega | (simp; done) | (simp; omega))); conv => whnf)
        exact trivial
      · conv => whnf
        refine And.intro ?_ trivial
        rw [hs, hp, pop_short (by rw [List.length_drop]; omega), List.reverse_cons, List.map_append, take_rev]
        rfl
  · rw [List.length_map] at h1
    have hk : k = l.length := by omega
    subst hk
    conv => whnf
    repeat (refine And.intro ?_ ?_; (first | (with_reducible show okR _ _ _ _ = true; kernel_rfl) | (with_reducible show addC _ _ _ = _; kernel_rfl) | rfl | trivial | kernel_rfl | omega | exact Nat.le_of_ble_eq_true rfl | exact lt_len0 rfl | exact lt_len1 rfl); conv => whnf)
    rw [List.take_length]
    refine only_row_ret 45 (s 45) ?_
    exact ⟨rfl, rfl, rfl⟩
end Go.Proofs.Yticandbdabgkeaa.Am
