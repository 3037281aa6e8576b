/- A ring of corners is unique; hulls of images. Plain law. -/
import Derived.Test.YticandbdabgkeaaAmP20
namespace Go.Proofs.Yticandbdabgkeaa.Am
open Go

theorem prev_ex {n i : Nat} (hi : i < n) : ∃ p, p < n ∧ (p + 1) % n = i := by
  rcases Nat.eq_zero_or_pos i with rfl | h0
  · exact ⟨n - 1, by omega, by rw [show n - 1 + 1 = n by omega, Nat.mod_self]⟩
  · exact ⟨i - 1, by omega, by rw [show i - 1 + 1 = i by omega, Nat.mod_eq_of_lt hi]⟩

/-- Two next corners behind the same corner are the same. -/
theorem same_next {b c d e d' e' : XY} (h1 : 0 < crossN b c d) (h2 : 0 < crossN c d e) (h2' : 0 < crossN c d' e')
    (a1 : 0 ≤ crossN b c d') (a2 : 0 ≤ crossN c d d') (a3 : 0 ≤ crossN d e d') (b2 : 0 ≤ crossN c d' d) (b3 : 0 ≤ crossN d' e' d) : d = d' := by
  have hz : crossN c d d' = 0 := by
    have : crossN c d' d = -crossN c d d' := by simp only [crossN]; grind
    omega
  have k1 : crossN b c d * (d'.x - c.x) = crossN b c d' * (d.x - c.x) := by
    have : crossN b c d * (d'.x - c.x) - crossN b c d' * (d.x - c.x) = (c.x - b.x) * (-crossN c d d') := by simp only [crossN]; grind
    rw [hz] at this; simp only [Int.neg_zero, Int.mul_zero] at this; omega
  have k2 : crossN b c d * (d'.y - c.y) = crossN b c d' * (d.y - c.y) := by
    have : crossN b c d * (d'.y - c.y) - crossN b c d' * (d.y - c.y) = (c.y - b.y) * (-crossN c d d') := by simp only [crossN]; grind
    rw [hz] at this; simp only [Int.neg_zero, Int.mul_zero] at this; omega
  have m1 : crossN b c d * crossN d e d' = (crossN b c d - crossN b c d') * crossN c d e := by
    have e1 : crossN b c d * crossN d e d' = crossN b c d * crossN d e c + ((e.x - d.x) * (crossN b c d * (d'.y - c.y)) - (e.y - d.y) * (crossN b c d * (d'.x - c.x))) := by simp only [crossN]; grind
    rw [e1, k1, k2]
    simp only [crossN]; grind
  have m2 : crossN b c d' * crossN d' e' d = (crossN b c d' - crossN b c d) * crossN c d' e' := by
    have e1 : crossN b c d' * crossN d' e' d = crossN b c d' * crossN d' e' c + ((e'.x - d'.x) * (crossN b c d' * (d.y - c.y)) - (e'.y - d'.y) * (crossN b c d' * (d.x - c.x))) := by simp only [crossN]; grind
    rw [e1, ← k1, ← k2]
    simp only [crossN]; grind
  have hge : crossN b c d' ≤ crossN b c d := by
    have := Int.mul_nonneg (Int.le_of_lt h1) a3
    rw [m1, Int.mul_comm] at this
    have := nonneg_of_mul h2 this
    omega
  have hle : crossN b c d ≤ crossN b c d' := by
    have := Int.mul_nonneg a1 b3
    rw [m2, Int.mul_comm] at this
    have := nonneg_of_mul h2' this
    omega
  have heq : crossN b c d' = crossN b c d := by omega
  rw [heq] at k1 k2
  have hne : crossN b c d ≠ 0 := by omega
  have x1 := Int.eq_of_mul_eq_mul_left hne k1
  have x2 := Int.eq_of_mul_eq_mul_left hne k2
  exact xy_ext (by omega) (by omega)

section
variable {s H s' H' : List XY} {m m' : Nat}
theorem Hull.next (hH : Hull s H m) (hH' : Hull s' H' m') (c1 : ∀ x ∈ H', Reg H x) (c2 : ∀ x ∈ H, Reg H' x) {i j : Nat} (hi : i < H.length) (hj : j < H'.length) (h : nth H i = nth H' j) : nxt H i = nxt H' j := by
  obtain ⟨p, hp, hpi⟩ := prev_ex hi
  have hb : nxt H p = nth H i := by rw [nxt_nth, hpi]
  have t1 := hH.turn p hp
  rw [hpi, hb] at t1
  have t2 := hH.turn i hi
  have t2' := hH'.turn j hj
  rw [← h] at t2'
  have hj1 : (j + 1) % H'.length < H'.length := Nat.mod_lt _ (by omega)
  have hi1 : (i + 1) % H.length < H.length := Nat.mod_lt _ (by omega)
  have r := c1 (nxt H' j) (nth_mem hj1)
  have r' := c2 (nxt H i) (nth_mem hi1)
  have a1 := r p hp
  rw [hb] at a1
  have b2 := r' j hj
  rw [← h] at b2
  exact same_next t1 t2 t2' a1 (r i hi) (r _ hi1) b2 (r' _ hj1)

theorem Hull.fwd_lt (hH : Hull s H m) : ∀ j i, i < j → j ≤ m → before (nth H i) (nth H j) = true
  | 0, i, h, _ => by omega
  | j + 1, i, h, hj => by
    have hm := hH.mid
    have e : nxt H j = nth H (j + 1) := by rw [nxt_nth, Nat.mod_eq_of_lt (by omega)]
    have h1 := hH.fwd j (by omega)
    rw [e] at h1
    rcases Nat.lt_or_eq_of_le (Nat.lt_succ_iff.1 h) with h2 | rfl
    · exact before_trans (hH.fwd_lt j i h2 (by omega)) h1
    · exact h1
theorem Hull.back_lt (hH : Hull s H m) : ∀ j i, m ≤ i → i < j → j < H.length → before (nth H j) (nth H i) = true
  | 0, i, _, h, _ => by omega
  | j + 1, i, hi, h, hj => by
    have e : nxt H j = nth H (j + 1) := by rw [nxt_nth, Nat.mod_eq_of_lt (by omega)]
    have h1 := hH.back j (by omega) (by omega)
    rw [e] at h1
    rcases Nat.lt_or_eq_of_le (Nat.lt_succ_iff.1 h) with h2 | rfl
    · exact before_trans h1 (hH.back_lt j i hi h2 (by omega))
    · exact h1
theorem Hull.self (hH : Hull s H m) : ∀ x ∈ H, Reg H x := fun x hx => hH.point (hH.sub x hx)
/-- The corners are all different. -/
theorem Hull.inj (hH : Hull s H m) {i j : Nat} (hij : i < j) (hj : j < H.length) : nth H i ≠ nth H j := by
  have hm := hH.mid
  intro h
  rcases Nat.lt_or_ge m j with h1 | h1
  · rcases Nat.lt_or_ge i m with h2 | h2
    · -- one on each way
      have hn := hH.next hH hH.self hH.self (show i < H.length by omega) hj h
      have f := hH.fwd i h2
      have b := hH.back j (by omega) hj
      rw [hn, h] at f
      rw [before_asymm f] at b
      cases b
    · have := hH.back_lt j i h2 hij hj
      rw [h, before_irr] at this
      cases this
  · have := hH.fwd_lt j i hij h1
    rw [h, before_irr] at this
    cases this
theorem Hull.nodup (hH : Hull s H m) : H.Nodup := by
  refine List.pairwise_iff_getElem.2 fun i j hi hj hij => ?_
  have := hH.inj hij hj
  rwa [nth_get (List.getElem?_eq_getElem hi), nth_get (List.getElem?_eq_getElem hj)] at this
theorem nodup_len : ∀ {a b : List XY}, a.Nodup → (∀ x ∈ a, x ∈ b) → a.length ≤ b.length
  | [], b, _, _ => Nat.zero_le _
  | x :: a, b, hn, hs => by
    obtain ⟨h1, h2⟩ := List.nodup_cons.1 hn
    have hx := hs x (by simp)
    have := nodup_len (b := b.erase x) h2 fun y hy => (List.mem_erase_of_ne (fun e => h1 (by rw [← e]; exact hy))).2 (hs y (by simp [hy]))
    rw [List.length_erase_of_mem hx] at this
    have hb : 0 < b.length := List.length_pos_of_mem hx
    simp only [List.length_cons]
    omega
theorem Hull.len (hH : Hull s H m) : H.length ≤ s.length := nodup_len hH.nodup hH.sub

/-- The least point in the order is the first corner. -/
theorem lex_cone {a b c q : XY} (h : 0 < crossN a b c) (h1 : 0 ≤ crossN a b q) (h2 : 0 ≤ crossN b c q) (ha : before b a = true) (hc : before b c = true) : q = b ∨ before b q = true := by
  have e1 : crossN a b c * (q.x - b.x) = crossN b c q * (a.x - b.x) + crossN a b q * (c.x - b.x) := by simp only [crossN]; grind
  have e2 : crossN a b c * (q.y - b.y) = crossN b c q * (a.y - b.y) + crossN a b q * (c.y - b.y) := by simp only [crossN]; grind
  have la := lexP_of ha
  have lc := lexP_of hc
  have ax : 0 ≤ a.x - b.x := by rcases la with h | ⟨h, _⟩ <;> omega
  have cx : 0 ≤ c.x - b.x := by rcases lc with h | ⟨h, _⟩ <;> omega
  have p1 := Int.mul_nonneg h2 ax
  have p2 := Int.mul_nonneg h1 cx
  have hx : 0 ≤ q.x - b.x := nonneg_of_mul h (by rw [e1]; omega)
  rcases Int.lt_or_le 0 (q.x - b.x) with hx1 | hx1
  · right; rw [before_iff]; omega
  · have hx0 : q.x - b.x = 0 := by omega
    rw [hx0, Int.mul_zero] at e1
    have z1 : crossN b c q * (a.x - b.x) = 0 := by omega
    have z2 : crossN a b q * (c.x - b.x) = 0 := by omega
    have q1 : 0 ≤ crossN b c q * (a.y - b.y) := by
      rcases la with hl | ⟨_, hl⟩
      · rcases Int.mul_eq_zero.1 z1 with h0 | h0
        · rw [h0]; omega
        · omega
      · exact Int.mul_nonneg h2 (Int.le_of_lt hl)
    have q2 : 0 ≤ crossN a b q * (c.y - b.y) := by
      rcases lc with hl | ⟨_, hl⟩
      · rcases Int.mul_eq_zero.1 z2 with h0 | h0
        · rw [h0]; omega
        · omega
      · exact Int.mul_nonneg h1 (Int.le_of_lt hl)
    have hy : 0 ≤ q.y - b.y := nonneg_of_mul h (by rw [e2]; omega)
    rcases Int.lt_or_le 0 (q.y - b.y) with hy1 | hy1
    · right; rw [before_iff]; omega
    · left; exact xy_ext (by omega) (by omega)
theorem Hull.least_first (hH : Hull s H m) {q : XY} (hq : Reg H q) : q = nth H 0 ∨ before (nth H 0) q = true := by
  have h3 := hH.three
  have hm := hH.mid
  have e : nxt H (H.length - 1) = nth H 0 := by rw [nxt_nth, show H.length - 1 + 1 = H.length by omega, Nat.mod_self]
  have ht := hH.turn (H.length - 1) (by omega)
  rw [show H.length - 1 + 1 = H.length by omega, Nat.mod_self, e] at ht
  have k1 := hq (H.length - 1) (by omega)
  rw [e] at k1
  have hb := hH.back (H.length - 1) (by omega) (by omega)
  rw [e] at hb
  exact lex_cone ht k1 (hq 0 (by omega)) hb (hH.fwd 0 (by omega))

theorem Hull.unique (hH : Hull s H m) (hH' : Hull s' H' m') (c1 : ∀ x ∈ H', Reg H x) (c2 : ∀ x ∈ H, Reg H' x) : H = H' := by
  have h3 := hH.three
  have h3' := hH'.three
  have h0 : nth H 0 = nth H' 0 := by
    rcases hH.least_first (c1 _ (nth_mem (show 0 < H'.length by omega))) with h | h
    · exact h.symm
    · rcases hH'.least_first (c2 _ (nth_mem (show 0 < H.length by omega))) with h' | h'
      · exact h'
      · rw [before_asymm h] at h'; cases h'
  have step : ∀ k, nth H (k % H.length) = nth H' (k % H'.length) := fun k => by
    induction k with
    | zero => rw [Nat.zero_mod, Nat.zero_mod]; exact h0
    | succ k ih =>
      have := hH.next hH' c1 c2 (Nat.mod_lt _ (by omega)) (Nat.mod_lt _ (by omega)) ih
      rw [nxt_nth, nxt_nth, Nat.mod_add_mod, Nat.mod_add_mod] at this
      exact this
  have len : H.length = H'.length := by
    rcases Nat.lt_trichotomy H.length H'.length with h | h | h
    · have := step H.length
      rw [Nat.mod_self, Nat.mod_eq_of_lt h, h0] at this
      exact absurd this (hH'.inj (by omega) h)
    · exact h
    · have := step H'.length
      rw [Nat.mod_self, Nat.mod_eq_of_lt h, ← h0] at this
      exact absurd this.symm (hH.inj (by omega) h)
  refine List.ext_getElem? fun i => ?_
  rcases Nat.lt_or_ge i H.length with h | h
  · have := step i
    rw [Nat.mod_eq_of_lt h, Nat.mod_eq_of_lt (by omega)] at this
    rw [nth_getE h, nth_getE (by omega), this]
  · rw [List.getElem?_eq_none h, List.getElem?_eq_none (by omega)]
end

theorem sortedN_same {a b : List XY} (h : ∀ z, z ∈ a ↔ z ∈ b) : sortedN a = sortedN b :=
  ord_unique (sortedN_ord a) (sortedN_ord b) fun z => by rw [sortedN_mem, sortedN_mem]; exact h z

/-- A map that keeps straight lines, of a polygon's size. -/
structure Lin (T : XY → XY) : Prop where
  lin : ∀ α β : Int, ∃ α' β' : Int, ∀ p, α * (T p).x + β * (T p).y = α' * p.x + β' * p.y
  zero : ∀ a b c, crossN (T a) (T b) (T c) = 0 ↔ crossN a b c = 0
  ran : ∀ p, p.In → (T p).In

theorem hull_comp {l : List XY} (h : hullN l ≠ []) : Comp (hullN l) := by
  rcases hullN_spec l with h0 | ⟨hc, m, hH⟩
  · exact absurd h0 h
  · refine ⟨?_, fun p hp => hc.all p ((sortedN_mem l p).1 (hH.sub p hp))⟩
    have := hH.len
    have h2 := sortedN_len l
    have := hc.few
    omega
theorem hullN_comp {l : List XY} (h : Comp l) : hullN l = hullS (sortedN l) := by rw [hullN, if_pos ((compN_iff l).2 h)]

/-- **The hull of an image is the hull of the corners' image.** -/
theorem hull_image {T : XY → XY} (hT : Lin T) {l a b : List XY} (hc : Comp l) (ha : ∀ z, z ∈ a ↔ ∃ p ∈ l, z = T p) (hla : a.length = l.length) (hb : ∀ z, z ∈ b ↔ ∃ p ∈ hullN l, z = T p) (hlb : b.length = (hullN l).length) : hullN a = hullN b := by
  have ca : Comp a := ⟨by rw [hla]; exact hc.few, fun z hz => by obtain ⟨p, hp, rfl⟩ := (ha z).1 hz; exact hT.ran p (hc.all p hp)⟩
  rw [hullN_comp ca]
  have line : ∀ {z1 z2 z3 : XY}, (∀ p q r, p ∈ l → q ∈ l → r ∈ l → crossN p q r = 0) → z1 ∈ a → z2 ∈ a → z3 ∈ a → crossN z1 z2 z3 = 0 := fun h h1 h2 h3 => by
    obtain ⟨p, hp, rfl⟩ := (ha _).1 h1
    obtain ⟨q, hq, rfl⟩ := (ha _).1 h2
    obtain ⟨r, hr, rfl⟩ := (ha _).1 h3
    exact (hT.zero p q r).2 (h p q r hp hq hr)
  rcases hull_spec (sortedN_ord l) with ⟨h0, hz⟩ | ⟨m, hH⟩
  · have e0 : hullN l = [] := by rw [hullN_comp hc]; exact h0
    have hb0 : b = [] := by
      rw [e0] at hlb
      exact List.eq_nil_of_length_eq_zero (by simpa using hlb)
    rw [hb0, show hullN [] = [] by decide]
    rcases hull_spec (sortedN_ord a) with ⟨h1, _⟩ | ⟨m1, hH1⟩
    · exact h1
    · exfalso
      have h3 := hH1.three
      have ht := hH1.turn 0 (by omega)
      rw [nxt_nth, nxt_nth] at ht
      have mem : ∀ i, i < (hullS (sortedN a)).length → nth (hullS (sortedN a)) i ∈ a := fun i hi => (sortedN_mem a _).1 (hH1.sub _ (nth_mem hi))
      rw [line (fun p q r hp hq hr => hz p q r ((sortedN_mem l p).2 hp) ((sortedN_mem l q).2 hq) ((sortedN_mem l r).2 hr)) (mem 0 (by omega)) (mem _ (Nat.mod_lt _ (by omega))) (mem _ (Nat.mod_lt _ (by omega)))] at ht
      omega
  · rw [← hullN_comp hc] at hH
    have hne : hullN l ≠ [] := fun e => by have := hH.three; rw [e] at this; simp at this
    have ch := hull_comp hne
    have cb : Comp b := ⟨by rw [hlb]; exact ch.few, fun z hz => by obtain ⟨p, hp, rfl⟩ := (hb z).1 hz; exact hT.ran p (ch.all p hp)⟩
    rw [hullN_comp cb]
    have h3 := hH.three
    have ht := hH.turn 0 (by omega)
    have bMem : ∀ i, i < (hullN l).length → T (nth (hullN l) i) ∈ b := fun i hi => (hb _).2 ⟨_, nth_mem hi, rfl⟩
    have hba : ∀ z ∈ b, z ∈ a := fun z hz => by
      obtain ⟨p, hp, rfl⟩ := (hb z).1 hz
      exact (ha _).2 ⟨p, (sortedN_mem l p).1 (hH.sub p hp), rfl⟩
    have bent : crossN (T (nth (hullN l) 0)) (T (nxt (hullN l) 0)) (T (nxt (hullN l) ((0 + 1) % (hullN l).length))) ≠ 0 := fun e => by
      have := (hT.zero _ _ _).1 e
      omega
    have b1 := bMem 0 (by omega)
    have b2 := bMem ((0 + 1) % (hullN l).length) (Nat.mod_lt _ (by omega))
    have b3 := bMem (((0 + 1) % (hullN l).length + 1) % (hullN l).length) (Nat.mod_lt _ (by omega))
    rcases hull_spec (sortedN_ord a) with ⟨_, hz⟩ | ⟨ma, hA⟩
    · exact absurd (hz _ _ _ ((sortedN_mem a _).2 (hba _ b1)) ((sortedN_mem a _).2 (hba _ b2)) ((sortedN_mem a _).2 (hba _ b3))) bent
    rcases hull_spec (sortedN_ord b) with ⟨_, hz⟩ | ⟨mb, hB⟩
    · exact absurd (hz _ _ _ ((sortedN_mem b _).2 b1) ((sortedN_mem b _).2 b2) ((sortedN_mem b _).2 b3)) bent
    refine hA.unique hB (fun x hx => ?_) fun x hx => ?_
    · exact hA.point ((sortedN_mem a x).2 (hba x ((sortedN_mem b x).1 (hB.sub x hx))))
    · intro i hi
      obtain ⟨p, hp, rfl⟩ := (ha x).1 ((sortedN_mem a x).1 (hA.sub x hx))
      have hreg : Reg (hullN l) p := hH.point ((sortedN_mem l p).2 hp)
      have hleft := hB.left i hi
      generalize nth (hullS (sortedN b)) i = A at hleft
      generalize nxt (hullS (sortedN b)) i = B at hleft
      have hval : ∀ q, crossN A B q = (-(B.y - A.y)) * q.x + (B.x - A.x) * q.y - ((-(B.y - A.y)) * A.x + (B.x - A.x) * A.y) := fun q => by simp only [crossN]; grind
      obtain ⟨α', β', hl⟩ := hT.lin (-(B.y - A.y)) (B.x - A.x)
      obtain ⟨k, hk, _, hle⟩ := hH.least hreg α' β'
      have h1 := hleft (T (nth (hullN l) k)) ((sortedN_mem b _).2 (bMem k hk))
      rw [hval, hl] at h1 ⊢
      omega
end Go.Proofs.Yticandbdabgkeaa.Am
