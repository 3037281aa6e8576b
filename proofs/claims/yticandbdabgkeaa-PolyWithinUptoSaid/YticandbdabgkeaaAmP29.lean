/- The program's region of a hull is what lies to the left of every edge. Plain law. -/
import Derived.Test.YticandbdabgkeaaAmP27
namespace Go.Proofs.Yticandbdabgkeaa.Am
open Go

theorem between1 {α β u v : Int} (h0 : 0 < α) (h1 : 0 ≤ β) (h2 : β ≤ α) (h : α * u = β * v) : min 0 v ≤ u ∧ u ≤ max 0 v := by
  have e : α * (v - u) = (α - β) * v := by rw [Int.mul_sub, h, Int.sub_mul]
  rcases Int.le_total 0 v with hv | hv
  · have a1 := Int.mul_nonneg h1 hv
    have a2 := Int.mul_nonneg (show 0 ≤ α - β by omega) hv
    have b1 : 0 ≤ u := nonneg_of_mul h0 (by rw [h]; exact a1)
    have b2 : 0 ≤ v - u := nonneg_of_mul h0 (by rw [e]; exact a2)
    omega
  · have a1 := Int.mul_nonneg h1 (show 0 ≤ -v by omega)
    have a2 := Int.mul_nonneg (show 0 ≤ α - β by omega) (show 0 ≤ -v by omega)
    rw [Int.mul_neg] at a1 a2
    have b1 : 0 ≤ -u := nonneg_of_mul h0 (by rw [Int.mul_neg, h]; exact a1)
    have b2 : 0 ≤ -(v - u) := nonneg_of_mul h0 (by rw [Int.mul_neg, e]; exact a2)
    omega
/-- On the line of an edge, within the ring: on the edge. -/
theorem on_edge {b c d e q : XY} (h1 : 0 < crossN b c d) (h2 : 0 < crossN c d e) (a1 : 0 ≤ crossN b c q) (hz : crossN c d q = 0) (a3 : 0 ≤ crossN d e q) : onSeg c d q = true := by
  have k1 : crossN b c d * (q.x - c.x) = crossN b c q * (d.x - c.x) := by
    have : crossN b c d * (q.x - c.x) - crossN b c q * (d.x - c.x) = (c.x - b.x) * (-crossN c d q) := by simp only [crossN]; grind
    rw [hz] at this; simp only [Int.neg_zero, Int.mul_zero] at this; omega
  have k2 : crossN b c d * (q.y - c.y) = crossN b c q * (d.y - c.y) := by
    have : crossN b c d * (q.y - c.y) - crossN b c q * (d.y - c.y) = (c.y - b.y) * (-crossN c d q) := by simp only [crossN]; grind
    rw [hz] at this; simp only [Int.neg_zero, Int.mul_zero] at this; omega
  have m1 : crossN b c d * crossN d e q = (crossN b c d - crossN b c q) * crossN c d e := by
    have e1 : crossN b c d * crossN d e q = crossN b c d * crossN d e c + ((e.x - d.x) * (crossN b c d * (q.y - c.y)) - (e.y - d.y) * (crossN b c d * (q.x - c.x))) := by simp only [crossN]; grind
    rw [e1, k1, k2]
    simp only [crossN]; grind
  have hge : crossN b c q ≤ crossN b c d := by
    have := Int.mul_nonneg (Int.le_of_lt h1) a3
    rw [m1, Int.mul_comm] at this
    have := nonneg_of_mul h2 this
    omega
  have bx := between1 h1 a1 hge k1
  have by' := between1 h1 a1 hge k2
  rw [onSeg_iff]
  exact ⟨hz, by omega, by omega, by omega, by omega⟩

/-- A point of a segment. -/
def Comb (a b q : XY) : Prop := ∃ u v : Int, 0 ≤ u ∧ 0 ≤ v ∧ 0 < u + v ∧ (u + v) * q.x = u * a.x + v * b.x ∧ (u + v) * q.y = u * a.y + v * b.y
theorem comb_of {a b q : XY} (hab : a ≠ b) (h : onSeg a b q = true) : Comb a b q := by
  obtain ⟨h0, h1, h2, h3, h4⟩ := (onSeg_iff a b q).1 h
  rw [cross_vec] at h0
  rcases Int.lt_trichotomy a.x b.x with hx | hx | hx
  · refine ⟨b.x - q.x, q.x - a.x, by omega, by omega, by omega, by grind, ?_⟩
    have : (b.x - q.x + (q.x - a.x)) * q.y - ((b.x - q.x) * a.y + (q.x - a.x) * b.y) = (b.x - a.x) * (q.y - a.y) - (b.y - a.y) * (q.x - a.x) := by grind
    omega
  · have hy : a.y ≠ b.y := fun e => hab (xy_ext hx e)
    have hq : q.x = a.x := by omega
    rcases Int.lt_or_gt_of_ne hy with hy | hy
    · exact ⟨b.y - q.y, q.y - a.y, by omega, by omega, by omega, by rw [hq, ← hx]; grind, by grind⟩
    · exact ⟨q.y - b.y, a.y - q.y, by omega, by omega, by omega, by rw [hq, ← hx]; grind, by grind⟩
  · refine ⟨q.x - b.x, a.x - q.x, by omega, by omega, by omega, by grind, ?_⟩
    have : (q.x - b.x + (a.x - q.x)) * q.y - ((q.x - b.x) * a.y + (a.x - q.x) * b.y) = -((b.x - a.x) * (q.y - a.y) - (b.y - a.y) * (q.x - a.x)) := by grind
    omega
theorem comb_left {A B a b q : XY} (h : Comb a b q) (ha : 0 ≤ crossN A B a) (hb : 0 ≤ crossN A B b) : 0 ≤ crossN A B q := by
  obtain ⟨u, v, h1, h2, h3, hx, hy⟩ := h
  refine nonneg_of_mul h3 ?_
  have e : (u + v) * crossN A B q = u * crossN A B a + v * crossN A B b + ((B.x - A.x) * ((u + v) * q.y - (u * a.y + v * b.y)) - (B.y - A.y) * ((u + v) * q.x - (u * a.x + v * b.x))) := by simp only [crossN]; grind
  rw [e, hx, hy, Int.sub_self, Int.sub_self, Int.mul_zero, Int.mul_zero]
  have p1 := Int.mul_nonneg h1 ha
  have p2 := Int.mul_nonneg h2 hb
  omega

theorem par_to (T : XY → Bool) (l : List XY) : ∀ k, k < l.length → par (fun e => xor (T e.1) (T e.2)) (edgesTo l k) = xor (T (nth l 0)) (T (nth l k)) := fun k => by
  induction k with
  | zero => intro _; simp [edgesTo, par]
  | succ k ih =>
    intro hk
    rw [edgesTo_succ, par_app, ih (by omega)]
    simp only [par, Bool.xor_false]
    rw [nxt_nth, Nat.mod_eq_of_lt hk]
    cases T (nth l 0) <;> cases T (nth l k) <;> cases T (nth l (k + 1)) <;> rfl
theorem par_none : ∀ {es : List (XY × XY)} {f : XY × XY → Bool}, (∀ e ∈ es, f e = false) → par f es = false
  | [], _, _ => rfl
  | e :: es, f, h => by simp only [par]; rw [h e (by simp), par_none fun e' he => h e' (by simp [he])]; rfl
def edgesFrom (l : List XY) (m : Nat) : List (XY × XY) := (List.range (l.length - m)).map fun j => (nth l (m + j), nxt l (m + j))
theorem edges_split {l : List XY} {m : Nat} (h : m ≤ l.length) : edgesN l = edgesTo l m ++ edgesFrom l m := by
  have e : l.length = m + (l.length - m) := by omega
  rw [edgesN, edgesTo, edgesFrom]
  conv => lhs; rw [e, List.range_add, List.map_append, List.map_map]
  rfl
theorem to_mem {l : List XY} {m : Nat} {e : XY × XY} (h : e ∈ edgesTo l m) : ∃ i, i < m ∧ e = (nth l i, nxt l i) := by
  simp only [edgesTo, List.mem_map, List.mem_range] at h
  obtain ⟨i, h1, h2⟩ := h
  exact ⟨i, h1, h2.symm⟩
theorem from_mem {l : List XY} {m : Nat} {e : XY × XY} (h : e ∈ edgesFrom l m) : ∃ i, m ≤ i ∧ i < l.length ∧ e = (nth l i, nxt l i) := by
  simp only [edgesFrom, List.mem_map, List.mem_range] at h
  obtain ⟨i, h1, h2⟩ := h
  exact ⟨m + i, by omega, by omega, h2.symm⟩

/-- The ray down crosses an edge. -/
def dnE (q : XY) (e : XY × XY) : Bool := flipP (rot e.1) (rot e.2) (rot q)
theorem dn_iff (a b q : XY) : dnE q (a, b) = ((!(decide (a.x > q.x) == decide (b.x > q.x))) && (decide (crossN a b q > 0) == decide (b.x > a.x))) := by
  unfold dnE flipP
  rw [cross_rot4]
  rfl
theorem before_x {a b : XY} (h : before a b = true) : a.x ≤ b.x := by rw [before_iff] at h; omega

theorem psum_nonneg : ∀ {es : List (XY × XY)} {f : XY × XY → Int}, (∀ e ∈ es, 0 ≤ f e) → 0 ≤ psum f es
  | [], _, _ => Int.le_refl _
  | e :: es, f, h => by
    have h1 := h e (by simp)
    have h2 := psum_nonneg (es := es) fun e' he => h e' (by simp [he])
    simp only [psum]; omega
theorem psum_pos {f : XY × XY → Int} {x : XY × XY} : ∀ {es : List (XY × XY)}, (∀ e ∈ es, 0 ≤ f e) → x ∈ es → 0 < f x → 0 < psum f es
  | e :: es, h, hx, hp => by
    have h1 := h e (by simp)
    have h2 := psum_nonneg (es := es) fun e' he => h e' (by simp [he])
    simp only [psum]
    rcases List.mem_cons.1 hx with rfl | hx
    · omega
    · have := psum_pos (es := es) (fun e' he => h e' (by simp [he])) hx hp
      omega
theorem psum_add (f g : XY × XY → Int) : ∀ es : List (XY × XY), psum (fun e => f e + g e) es = psum f es + psum g es
  | [] => rfl
  | e :: es => by simp only [psum, psum_add f g es]; omega
/-- A place where what holds first no longer holds. -/
theorem turn_at {P : Nat → Prop} {a b : Nat} (hab : a ≤ b) (ha : P a) (hb : ¬ P b) : ∃ i, a ≤ i ∧ i < b ∧ P i ∧ ¬ P (i + 1) := by
  induction b with
  | zero => rw [show a = 0 by omega] at ha; exact absurd ha hb
  | succ b ih =>
    rcases Nat.lt_or_eq_of_le hab with h | rfl
    · rcases Classical.em (P b) with h1 | h1
      · exact ⟨b, by omega, by omega, h1, hb⟩
      · obtain ⟨i, h2, h3, h4⟩ := ih (by omega) h1
        exact ⟨i, h2, by omega, h4⟩
    · exact absurd ha hb
section
variable {s H : List XY} {m : Nat} (hH : Hull s H m)
include hH
theorem Hull.fwd_x {i j : Nat} (hij : i ≤ j) (hj : j ≤ m) : (nth H i).x ≤ (nth H j).x := by
  rcases Nat.lt_or_eq_of_le hij with h | rfl
  · exact before_x (hH.fwd_lt j i h hj)
  · exact Int.le_refl _
theorem Hull.back_x {i j : Nat} (hi : m ≤ i) (hij : i ≤ j) (hj : j < H.length) : (nth H j).x ≤ (nth H i).x := by
  rcases Nat.lt_or_eq_of_le hij with h | rfl
  · exact before_x (hH.back_lt j i hi h hj)
  · exact Int.le_refl _
theorem Hull.nxt_fwd {i : Nat} (hi : i < m) : nxt H i = nth H (i + 1) := by
  have := hH.mid
  rw [nxt_nth, Nat.mod_eq_of_lt (by omega)]
theorem Hull.edge_ne {i : Nat} (hi : i < H.length) : nth H i ≠ nxt H i := fun e => by
  have := hH.turn i hi
  rw [← e] at this
  have z : crossN (nth H i) (nth H i) (nxt H ((i + 1) % H.length)) = 0 := by simp only [crossN]; grind
  omega
/-- On no edge and within: to the left of all. -/
theorem Hull.strict {q : XY} (hq : Reg H q) (hno : ∀ e ∈ edgesN H, onSeg e.1 e.2 q = false) {i : Nat} (hi : i < H.length) : 0 < crossN (nth H i) (nxt H i) q := by
  have h0 := hq i hi
  rcases Int.lt_or_le 0 (crossN (nth H i) (nxt H i) q) with h | h
  · exact h
  · exfalso
    obtain ⟨p, hp, hpi⟩ := prev_ex hi
    have hb : nxt H p = nth H i := by rw [nxt_nth, hpi]
    have t1 := hH.turn p hp
    rw [hpi, hb] at t1
    have a1 := hq p hp
    rw [hb] at a1
    have := on_edge t1 (hH.turn i hi) a1 (by omega) (hq _ (Nat.mod_lt _ (by omega)))
    have h2 := hno (nth H i, nxt H i) (edges_mem.2 ⟨i, hi, rfl⟩)
    rw [show onSeg (nth H i, nxt H i).1 (nth H i, nxt H i).2 q = true from this] at h2
    cases h2
theorem Hull.seg_reg {q : XY} {e : XY × XY} (he : e ∈ edgesN H) (h : onSeg e.1 e.2 q = true) : Reg H q := by
  obtain ⟨i, hi, rfl⟩ := edges_mem.1 he
  have hc := comb_of (hH.edge_ne hi) h
  intro j hj
  exact comb_left hc (hH.left j hj _ (hH.sub _ (nth_mem hi))) (hH.left j hj _ (hH.sub _ (nxt_mem' hi)))
where nxt_mem' {i : Nat} (hi : i < H.length) : nxt H i ∈ H := nth_mem (Nat.mod_lt _ (by omega))

/-- The ray down from a point within crosses the lower way once and the upper way not at all. -/
theorem Hull.par_reg {q : XY} (hq : Reg H q) (hno : ∀ e ∈ edgesN H, onSeg e.1 e.2 q = false) : par (dnE q) (edgesN H) = true := by
  have hm := hH.mid
  have h3 := hH.three
  have pos := fun i hi => hH.strict hq hno (i := i) hi
  rw [edges_split (by omega : m ≤ H.length), par_app]
  have e1 : par (dnE q) (edgesTo H m) = par (fun e => xor (decide (e.1.x > q.x)) (decide (e.2.x > q.x))) (edgesTo H m) := par_congr fun e he => by
    obtain ⟨i, hi, rfl⟩ := to_mem he
    rw [dn_iff]
    have hx := before_x (hH.fwd i hi)
    have hp := pos i (by omega)
    simp only
    by_cases x1 : (nth H i).x > q.x <;> by_cases x2 : (nxt H i).x > q.x <;> by_cases x3 : (nxt H i).x > (nth H i).x <;> first
      | (exfalso; omega)
      | (simp only [x1, x2, x3, hp, decide_true, decide_false]; rfl)
  have e2 : par (dnE q) (edgesFrom H m) = false := par_none fun e he => by
    obtain ⟨i, hi1, hi2, rfl⟩ := from_mem he
    rw [dn_iff]
    have hx := before_x (hH.back i hi1 hi2)
    have hp := pos i hi2
    by_cases x1 : (nth H i).x > q.x <;> by_cases x2 : (nxt H i).x > q.x <;> by_cases x3 : (nxt H i).x > (nth H i).x <;> first
      | (exfalso; omega)
      | (simp only [x1, x2, x3, hp, decide_true, decide_false]; rfl)
  rw [e1, e2, par_to (fun p => decide (p.x > q.x)) H m (by omega)]
  -- between the ends
  have l1 : (nth H 0).x ≤ q.x := by
    rcases hH.least_first hq with h | h
    · rw [h]; exact Int.le_refl _
    · exact before_x h
  have l2 : q.x < (nth H m).x := by
    have hn : nxt H (m - 1) = nth H m := by rw [nxt_nth, show m - 1 + 1 = m by omega, Nat.mod_eq_of_lt (by omega)]
    have ht := hH.turn (m - 1) (by omega)
    rw [show m - 1 + 1 = m by omega, Nat.mod_eq_of_lt (by omega), hn] at ht
    have k2 := pos (m - 1) (by omega)
    rw [hn] at k2
    have k1 := pos m (by omega)
    have o1 := hH.fwd (m - 1) (by omega)
    rw [hn] at o1
    have o2 := hH.back m (Nat.le_refl m) (by omega)
    have x1 := before_x o1
    have x2 := before_x o2
    generalize nth H (m - 1) = a at *
    generalize nth H m = b at *
    generalize nxt H m = c at *
    have e : crossN a b c * (q.x - b.x) = crossN b c q * (a.x - b.x) + crossN a b q * (c.x - b.x) := by simp only [crossN]; grind
    rcases Int.lt_or_le q.x b.x with h | h
    · exact h
    · exfalso
      have p0 := Int.mul_nonneg (Int.le_of_lt ht) (show 0 ≤ q.x - b.x by omega)
      have p1 := Int.mul_nonneg (Int.le_of_lt k1) (show 0 ≤ b.x - a.x by omega)
      have p2 := Int.mul_nonneg (Int.le_of_lt k2) (show 0 ≤ b.x - c.x by omega)
      have f1 : crossN b c q * (a.x - b.x) = -(crossN b c q * (b.x - a.x)) := by grind
      have f2 : crossN a b q * (c.x - b.x) = -(crossN a b q * (b.x - c.x)) := by grind
      rw [f1, f2] at e
      have z1 : b.x - a.x = 0 := by
        rcases Int.mul_eq_zero.1 (show crossN b c q * (b.x - a.x) = 0 by omega) with h | h <;> omega
      have z2 : b.x - c.x = 0 := by
        rcases Int.mul_eq_zero.1 (show crossN a b q * (b.x - c.x) = 0 by omega) with h | h <;> omega
      have : crossN a b c = 0 := by
        rw [cross_vec, z1, show c.x - a.x = 0 by omega]; simp
      omega
  rw [decide_eq_false (show ¬ (nth H 0).x > q.x by omega), decide_eq_true (show (nth H m).x > q.x by omega)]
  rfl


/-- Only points within have an odd number of edges below them. -/
theorem Hull.par_only {q : XY} (hno : ∀ e ∈ edgesN H, onSeg e.1 e.2 q = false) (hp : par (dnE q) (edgesN H) = true) : Reg H q := by
  have hm := hH.mid
  have h3 := hH.three
  have xmin : ∀ i, i < H.length → (nth H 0).x ≤ (nth H i).x := fun i hi => by
    rcases hH.first _ (hH.sub _ (nth_mem hi)) with h | h
    · rw [h]; exact Int.le_refl _
    · exact before_x h
  have xmax : ∀ i, i < H.length → (nth H i).x ≤ (nth H m).x := fun i hi => by
    rcases hH.last _ (hH.sub _ (nth_mem hi)) with h | h
    · rw [h]; exact Int.le_refl _
    · exact before_x h
  have nlt : ∀ i, i < H.length → (i + 1) % H.length < H.length := fun i _ => Nat.mod_lt _ (by omega)
  have none : (∀ i, i < H.length → ((nth H i).x > q.x ↔ (nxt H i).x > q.x)) → False := fun hsame => by
    have : par (dnE q) (edgesN H) = false := par_none fun e he => by
      obtain ⟨i, hi, rfl⟩ := edges_mem.1 he
      rw [dn_iff]
      have := hsame i hi
      by_cases x1 : (nth H i).x > q.x
      · simp only [x1, this.1 x1, decide_true]; rfl
      · simp only [x1, show ¬ (nxt H i).x > q.x from fun h => x1 (this.2 h), decide_false]; rfl
    rw [this] at hp; cases hp
  have l1 : (nth H 0).x ≤ q.x := by
    rcases Int.lt_or_le q.x (nth H 0).x with h | h
    · refine (none fun i hi => ?_).elim
      have a1 := xmin i hi
      have a2 := xmin _ (nlt i hi)
      rw [← nxt_nth] at a2
      omega
    · exact h
  have l2 : q.x < (nth H m).x := by
    rcases Int.lt_or_le q.x (nth H m).x with h | h
    · exact h
    · refine (none fun i hi => ?_).elim
      have a1 := xmax i hi
      have a2 := xmax _ (nlt i hi)
      rw [← nxt_nth] at a2
      omega
  obtain ⟨i, -, hi, i1, i2⟩ := turn_at (P := fun i => ¬ (nth H i).x > q.x) (Nat.zero_le m) (by omega) (by omega)
  obtain ⟨j, hj1, hj2, j1, j2⟩ := turn_at (P := fun t => (nth H (t % H.length)).x > q.x) (show m ≤ H.length by omega) (by rw [Nat.mod_eq_of_lt (by omega)]; exact l2) (by rw [Nat.mod_self]; omega)
  rw [Nat.mod_eq_of_lt hj2] at j1
  rw [← nxt_nth] at j2
  have ein := hH.nxt_fwd hi
  have hf : par (dnE q) (edgesTo H m) = decide (crossN (nth H i) (nxt H i) q > 0) := by
    have others : ∀ k, k < m → k ≠ i → ((nth H k).x > q.x ↔ (nxt H k).x > q.x) := fun k hk hne => by
      have en := hH.nxt_fwd hk
      rw [en]
      rcases Nat.lt_or_ge k i with h | h
      · have a1 := hH.fwd_x (i := k) (j := i) (by omega) (by omega)
        have a2 := hH.fwd_x (i := k + 1) (j := i) (by omega) (by omega)
        omega
      · have a1 := hH.fwd_x (i := i + 1) (j := k) (by omega) (by omega)
        have a2 := hH.fwd_x (i := i + 1) (j := k + 1) (by omega) (by omega)
        omega
    by_cases hs : crossN (nth H i) (nxt H i) q > 0
    · rw [decide_eq_true hs]
      have : par (dnE q) (edgesTo H m) = par (fun e => xor (decide (e.1.x > q.x)) (decide (e.2.x > q.x))) (edgesTo H m) := par_congr fun e he => by
        obtain ⟨k, hk, rfl⟩ := to_mem he
        rw [dn_iff]
        simp only
        by_cases hki : k = i
        · subst hki
          rw [ein] at hs ⊢
          have x3 : (nth H (k + 1)).x > (nth H k).x := by omega
          simp only [i1, show (nth H (k + 1)).x > q.x by omega, hs, x3, decide_true, decide_false]; rfl
        · have := others k hk hki
          by_cases x1 : (nth H k).x > q.x
          · simp only [x1, this.1 x1, decide_true]; rfl
          · simp only [x1, show ¬ (nxt H k).x > q.x from fun h => x1 (this.2 h), decide_false]; rfl
      rw [this, par_to (fun p => decide (p.x > q.x)) H m (by omega), decide_eq_false (show ¬ (nth H 0).x > q.x by omega), decide_eq_true (show (nth H m).x > q.x by omega)]
      rfl
    · rw [decide_eq_false hs]
      refine par_none fun e he => ?_
      obtain ⟨k, hk, rfl⟩ := to_mem he
      rw [dn_iff]
      by_cases hki : k = i
      · subst hki
        rw [ein] at hs ⊢
        have x3 : (nth H (k + 1)).x > (nth H k).x := by omega
        simp only [i1, show (nth H (k + 1)).x > q.x by omega, hs, x3, decide_true, decide_false]; rfl
      · have := others k hk hki
        by_cases x1 : (nth H k).x > q.x
        · simp only [x1, this.1 x1, decide_true]; rfl
        · simp only [x1, show ¬ (nxt H k).x > q.x from fun h => x1 (this.2 h), decide_false]; rfl
  have hb : par (dnE q) (edgesFrom H m) = !decide (crossN (nth H j) (nxt H j) q > 0) := by
    have others : ∀ k, m ≤ k → k < H.length → k ≠ j → ((nth H k).x > q.x ↔ (nxt H k).x > q.x) := fun k hk1 hk2 hne => by
      rcases Nat.lt_or_ge k j with h | h
      · have en : nxt H k = nth H (k + 1) := by rw [nxt_nth, Nat.mod_eq_of_lt (by omega)]
        rw [en]
        have a1 := hH.back_x (i := k) (j := j) hk1 (by omega) hj2
        have a2 := hH.back_x (i := k + 1) (j := j) (by omega) (by omega) hj2
        omega
      · have en : nxt H j = nth H (j + 1) := by rw [nxt_nth, Nat.mod_eq_of_lt (by omega)]
        rw [en] at j2
        have a1 := hH.back_x (i := j + 1) (j := k) (by omega) (by omega) hk2
        rcases Nat.lt_or_ge (k + 1) H.length with h' | h'
        · have en2 : nxt H k = nth H (k + 1) := by rw [nxt_nth, Nat.mod_eq_of_lt h']
          have a2 := hH.back_x (i := j + 1) (j := k + 1) (by omega) (by omega) h'
          rw [en2]; omega
        · have en2 : nxt H k = nth H 0 := by rw [nxt_nth, show k + 1 = H.length by omega, Nat.mod_self]
          rw [en2]; omega
    by_cases hs : crossN (nth H j) (nxt H j) q > 0
    · rw [decide_eq_true hs]
      refine par_none fun e he => ?_
      obtain ⟨k, hk1, hk2, rfl⟩ := from_mem he
      rw [dn_iff]
      by_cases hki : k = j
      · subst hki
        have x3 : ¬ (nxt H k).x > (nth H k).x := by omega
        simp only [j1, j2, hs, x3, decide_true, decide_false]; rfl
      · have := others k hk1 hk2 hki
        by_cases x1 : (nth H k).x > q.x
        · simp only [x1, this.1 x1, decide_true]; rfl
        · simp only [x1, show ¬ (nxt H k).x > q.x from fun h => x1 (this.2 h), decide_false]; rfl
    · rw [decide_eq_false hs]
      have : par (dnE q) (edgesFrom H m) = par (fun e => xor (decide (e.1.x > q.x)) (decide (e.2.x > q.x))) (edgesFrom H m) := par_congr fun e he => by
        obtain ⟨k, hk1, hk2, rfl⟩ := from_mem he
        rw [dn_iff]
        simp only
        by_cases hki : k = j
        · subst hki
          have x3 : ¬ (nxt H k).x > (nth H k).x := by omega
          simp only [j1, j2, hs, x3, decide_true, decide_false]; rfl
        · have := others k hk1 hk2 hki
          by_cases x1 : (nth H k).x > q.x
          · simp only [x1, this.1 x1, decide_true]; rfl
          · simp only [x1, show ¬ (nxt H k).x > q.x from fun h => x1 (this.2 h), decide_false]; rfl
      rw [this]
      have hr := ring_par (fun p => decide (p.x > q.x)) H
      rw [edges_split (show m ≤ H.length by omega), par_app, par_to (fun p => decide (p.x > q.x)) H m (by omega), decide_eq_false (show ¬ (nth H 0).x > q.x by omega), decide_eq_true (show (nth H m).x > q.x by omega)] at hr
      cases hh : par (fun e => xor (decide (e.1.x > q.x)) (decide (e.2.x > q.x))) (edgesFrom H m) with
      | true => rfl
      | false => rw [hh] at hr; cases hr
  rw [edges_split (show m ≤ H.length by omega), par_app, hf, hb] at hp
  have hi' : i < H.length := by omega
  have lv : ∀ k, k < H.length → ∀ t, t < H.length → 0 ≤ crossN (nth H k) (nxt H k) (nth H t) ∧ 0 ≤ crossN (nth H k) (nxt H k) (nxt H t) := fun k hk t ht => ⟨hH.corner t ht k hk, hH.corner _ (nlt t ht) k hk⟩
  have hseg := hno (nth H j, nxt H j) (edges_mem.2 ⟨j, hj2, rfl⟩)
  have i2' : (nxt H i).x > q.x := by rw [ein]; omega
  by_cases s1 : crossN (nth H i) (nxt H i) q > 0
  · by_cases s2 : crossN (nth H j) (nxt H j) q > 0
    · intro k hk
      obtain ⟨fa, fb⟩ := lv k hk i hi'
      obtain ⟨fc, fd⟩ := lv k hk j hj2
      generalize nth H k = A at *
      generalize nxt H k = B at *
      generalize nth H i = a at *
      generalize nxt H i = b at *
      generalize nth H j = c at *
      generalize nxt H j = d at *
      rcases Int.le_total A.x B.x with hx | hx
      · refine nonneg_of_mul (show 0 < b.x - a.x by omega) ?_
        have e : (b.x - a.x) * crossN A B q = (b.x - q.x) * crossN A B a + (q.x - a.x) * crossN A B b + (B.x - A.x) * crossN a b q := by simp only [crossN]; grind
        have p1 := Int.mul_nonneg (show 0 ≤ b.x - q.x by omega) fa
        have p2 := Int.mul_nonneg (show 0 ≤ q.x - a.x by omega) fb
        have p3 := Int.mul_nonneg (show 0 ≤ B.x - A.x by omega) (Int.le_of_lt s1)
        rw [e]; omega
      · refine nonneg_of_mul (show 0 < c.x - d.x by omega) ?_
        have e : (c.x - d.x) * crossN A B q = (q.x - d.x) * crossN A B c + (c.x - q.x) * crossN A B d + (A.x - B.x) * crossN c d q := by simp only [crossN]; grind
        have p1 := Int.mul_nonneg (show 0 ≤ q.x - d.x by omega) fc
        have p2 := Int.mul_nonneg (show 0 ≤ c.x - q.x by omega) fd
        have p3 := Int.mul_nonneg (show 0 ≤ A.x - B.x by omega) (Int.le_of_lt s2)
        rw [e]; omega
    · rw [decide_eq_true s1, decide_eq_false s2] at hp; cases hp
  · by_cases s2 : crossN (nth H j) (nxt H j) q > 0
    · rw [decide_eq_false s1, decide_eq_true s2] at hp; cases hp
    · exfalso
      obtain ⟨fa, fb⟩ := lv j hj2 i hi'
      generalize nth H i = a at *
      generalize nxt H i = b at *
      generalize nth H j = c at *
      generalize nxt H j = d at *
      have e : (b.x - a.x) * crossN c d q = (b.x - q.x) * crossN c d a + (q.x - a.x) * crossN c d b + (c.x - d.x) * (-crossN a b q) := by simp only [crossN]; grind
      have p1 := Int.mul_nonneg (show 0 ≤ b.x - q.x by omega) fa
      have p2 := Int.mul_nonneg (show 0 ≤ q.x - a.x by omega) fb
      have p3 := Int.mul_nonneg (show 0 ≤ c.x - d.x by omega) (show 0 ≤ -crossN a b q by omega)
      have h0 : 0 ≤ crossN c d q := nonneg_of_mul (show 0 < b.x - a.x by omega) (by rw [e]; omega)
      have hz : crossN c d q = 0 := by omega
      have hbt := between1 (α := c.x - d.x) (β := c.x - q.x) (u := q.y - c.y) (v := d.y - c.y) (by omega) (by omega) (by omega) (by
        have : (c.x - d.x) * (q.y - c.y) - (c.x - q.x) * (d.y - c.y) = -crossN c d q := by simp only [crossN]; grind
        omega)
      have : onSeg c d q = true := (onSeg_iff c d q).2 ⟨hz, by omega, by omega, by omega, by omega⟩
      rw [show onSeg (c, d).1 (c, d).2 q = true from this] at hseg
      cases hseg

theorem Hull.hasE_iff (q : XY) : hasE q (edgesN H) false = true ↔ Reg H q := by
  rw [hasE_eq]
  cases hany : (edgesN H).any (fun e => onSeg e.1 e.2 q) with
  | true =>
    obtain ⟨e, he, h⟩ := List.any_eq_true.1 hany
    exact ⟨fun _ => hH.seg_reg he h, fun _ => rfl⟩
  | false =>
    have hno : ∀ e ∈ edgesN H, onSeg e.1 e.2 q = false := fun e he => any_false hany he
    have hpar : par (fun e => flipP e.1 e.2 q) (edgesN H) = par (dnE q) (edgesN H) := par_same (T := fun p => decide (p.x > q.x) && !decide (p.y > q.y)) fun e he => flip_rot (hno e he)
    rw [hpar, Bool.false_or, Bool.false_xor]
    exact ⟨hH.par_only hno, fun hq => hH.par_reg hq hno⟩

theorem Hull.area_pos (hc : Comp H) : 0 < areaN H := by
  have h3 := hH.three
  rw [areaN_eq hc]
  obtain ⟨o, ho⟩ : ∃ o, o = nth H 0 := ⟨_, rfl⟩
  have e1 : psum wedge (edgesN H) = psum (fun e => crossN o e.1 e.2) (edgesN H) := by
    have : psum (fun e => crossN o e.1 e.2) (edgesN H) = psum (fun e => wedge e + ((fun p : XY => o.y * p.x - o.x * p.y) e.2 - (fun p : XY => o.y * p.x - o.x * p.y) e.1)) (edgesN H) := psum_congr fun e _ => by
      simp only [crossN, wedge]; grind
    rw [this, psum_add, ring_sum (fun p : XY => o.y * p.x - o.x * p.y)]; omega
  rw [e1]
  refine psum_pos (x := (nth H 1, nxt H 1)) (fun e he => ?_) (edges_mem.2 ⟨1, by omega, rfl⟩) ?_
  · obtain ⟨i, hi, rfl⟩ := edges_mem.1 he
    have := hH.left i hi o (hH.sub _ (by rw [ho]; exact nth_mem (by omega)))
    show 0 ≤ crossN o (nth H i) (nxt H i)
    rw [← cross_rot]; exact this
  · have ht := hH.turn 0 (by omega)
    have en : nxt H 0 = nth H 1 := by rw [nxt_nth, Nat.mod_eq_of_lt (by omega)]
    rw [en, show (0 + 1) % H.length = 1 from Nat.mod_eq_of_lt (by omega), ← ho] at ht
    exact ht
theorem Hull.has_iff (hc : Comp H) (q : XY) : hasP H q = true ↔ Reg H q := by
  have h3 := hH.three
  have hck : checkP H = 0 := by
    have := hc.few
    have hp := hH.area_pos hc
    rw [checkP, if_neg (by omega), if_neg (by omega), if_neg (by rw [(compN_iff H).2 hc]; simp), if_neg (by omega)]
  unfold hasP
  rw [hck]
  constructor
  · intro h
    split at h
    · exact (hH.hasE_iff q).1 h
    · cases h
  · intro h
    have hin : inN q = true := by
      rw [inN_iff]
      have := hH.within h ⟨-600, 600, -600, 600⟩ fun p hp => by
        have := hc.all p hp
        unfold XY.In at this
        exact ⟨this.1, this.2.1, this.2.2.1, this.2.2.2⟩
      exact ⟨this.1, this.2.1, this.2.2.1, this.2.2.2⟩
    rw [if_pos ⟨rfl, hin⟩]
    exact (hH.hasE_iff q).2 h
end
end Go.Proofs.Yticandbdabgkeaa.Am
