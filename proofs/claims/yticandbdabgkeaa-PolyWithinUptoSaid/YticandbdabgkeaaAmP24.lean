/- The program's chord is the reference's. Plain law, and the statement on chords as a run. -/
import Derived.Test.YticandbdabgkeaaAmP20
import Derived.Test.YticandbdabgkeaaAmP16
namespace Go.Proofs.Yticandbdabgkeaa.Am
open Go
set_option maxRecDepth 100000

/-! ### Bounds -/
theorem grow_foldl : ∀ (l : List XY) (r : Rc), ((l.foldl grow r).xa ≤ r.xa ∧ r.xb ≤ (l.foldl grow r).xb ∧ (l.foldl grow r).ya ≤ r.ya ∧ r.yb ≤ (l.foldl grow r).yb) ∧
    (∀ p ∈ l, (l.foldl grow r).xa ≤ p.x ∧ p.x ≤ (l.foldl grow r).xb ∧ (l.foldl grow r).ya ≤ p.y ∧ p.y ≤ (l.foldl grow r).yb) ∧
    ((l.foldl grow r).ya = r.ya ∨ ∃ p ∈ l, p.y = (l.foldl grow r).ya) ∧ ((l.foldl grow r).yb = r.yb ∨ ∃ p ∈ l, p.y = (l.foldl grow r).yb)
  | [], r => ⟨⟨Int.le_refl _, Int.le_refl _, Int.le_refl _, Int.le_refl _⟩, by simp, .inl rfl, .inl rfl⟩
  | p :: l, r => by
    obtain ⟨h1, h2, h3, h4⟩ := grow_foldl l (grow r p)
    rw [List.foldl_cons]
    simp only [grow] at h1 h3 h4 ⊢
    refine ⟨by clear h3 h4; omega, fun q hq => ?_, ?_, ?_⟩
    · clear h3 h4
      rcases List.mem_cons.1 hq with rfl | hq
      · omega
      · exact h2 q hq
    · clear h4
      rcases h3 with h3 | ⟨q, hq, e⟩
      · rcases Int.le_total r.ya p.y with h | h
        · left; rw [h3]; omega
        · right; exact ⟨p, by simp, by rw [h3]; omega⟩
      · exact .inr ⟨q, by simp [hq], e⟩
    · clear h3
      rcases h4 with h4 | ⟨q, hq, e⟩
      · rcases Int.le_total p.y r.yb with h | h
        · left; rw [h4]; omega
        · right; exact ⟨p, by simp, by rw [h4]; omega⟩
      · exact .inr ⟨q, by simp [hq], e⟩
theorem bounds_spec {H : List XY} (hne : H ≠ []) : (∀ p ∈ H, (boundsN H).xa ≤ p.x ∧ p.x ≤ (boundsN H).xb ∧ (boundsN H).ya ≤ p.y ∧ p.y ≤ (boundsN H).yb) ∧
    (∃ p ∈ H, p.y = (boundsN H).ya) ∧ (∃ p ∈ H, p.y = (boundsN H).yb) := by
  match H, hne with
  | p :: l, _ =>
    obtain ⟨h1, h2, h3, h4⟩ := grow_foldl l ⟨p.x, p.x, p.y, p.y⟩
    refine ⟨fun q hq => ?_, ?_, ?_⟩
    · rcases List.mem_cons.1 hq with rfl | hq
      · exact ⟨h1.1, h1.2.1, h1.2.2.1, h1.2.2.2⟩
      · exact h2 q hq
    · rcases h3 with h3 | ⟨q, hq, e⟩
      · exact ⟨p, by simp, h3.symm⟩
      · exact ⟨q, by simp [hq], e⟩
    · rcases h4 with h4 | ⟨q, hq, e⟩
      · exact ⟨p, by simp, h4.symm⟩
      · exact ⟨q, by simp [hq], e⟩

/-! ### The program's span at a height -/
def EdLe (s t : XY) (y x : Int) : Prop := ∃ a b : Int, 0 ≤ a ∧ 0 ≤ b ∧ 0 < a + b ∧ a * s.y + b * t.y = (a + b) * y ∧ a * s.x + b * t.x ≤ (a + b) * x
def EdGe (s t : XY) (y x : Int) : Prop := ∃ a b : Int, 0 ≤ a ∧ 0 ≤ b ∧ 0 < a + b ∧ a * s.y + b * t.y = (a + b) * y ∧ (a + b) * x ≤ a * s.x + b * t.x
theorem EdLe.swap {s t : XY} {y x : Int} (h : EdLe s t y x) : EdLe t s y x := by
  obtain ⟨a, b, h1, h2, h3, h4, h5⟩ := h
  exact ⟨b, a, h2, h1, by omega, by rw [Int.add_comm, h4, Int.add_comm a b], by rw [Int.add_comm (b * t.x), Int.add_comm b a]; exact h5⟩
theorem EdGe.swap {s t : XY} {y x : Int} (h : EdGe s t y x) : EdGe t s y x := by
  obtain ⟨a, b, h1, h2, h3, h4, h5⟩ := h
  exact ⟨b, a, h2, h1, by omega, by rw [Int.add_comm, h4, Int.add_comm a b], by rw [Int.add_comm (b * t.x), Int.add_comm b a]; exact h5⟩
theorem EdLe.mono {s t : XY} {y x x' : Int} (h : EdLe s t y x) (hx : x ≤ x') : EdLe s t y x' := by
  obtain ⟨a, b, h1, h2, h3, h4, h5⟩ := h
  have := Int.mul_le_mul_of_nonneg_left hx (Int.le_of_lt h3)
  exact ⟨a, b, h1, h2, h3, h4, by omega⟩
theorem EdGe.mono {s t : XY} {y x x' : Int} (h : EdGe s t y x) (hx : x' ≤ x) : EdGe s t y x' := by
  obtain ⟨a, b, h1, h2, h3, h4, h5⟩ := h
  have := Int.mul_le_mul_of_nonneg_left hx (Int.le_of_lt h3)
  exact ⟨a, b, h1, h2, h3, h4, by omega⟩

theorem stepO_spec (y : Int) (s t : XY) (p : Int × Int) : (stepO y s t p).1 ≤ p.1 ∧ p.2 ≤ (stepO y s t p).2 ∧ ((stepO y s t p).1 = p.1 ∨ EdLe s t y (stepO y s t p).1) ∧ ((stepO y s t p).2 = p.2 ∨ EdGe s t y (stepO y s t p).2) := by
  unfold stepO
  split
  · exact ⟨Int.le_refl _, Int.le_refl _, .inl rfl, .inl rfl⟩
  · rename_i hy
    split
    · rename_i he
      have hs : s.y = y := by omega
      have ht : t.y = y := by omega
      have l1 : EdLe s t y s.x := ⟨1, 0, by omega, by omega, by omega, by rw [hs]; omega, by omega⟩
      have l2 : EdLe s t y t.x := ⟨0, 1, by omega, by omega, by omega, by rw [ht]; omega, by omega⟩
      have g1 : EdGe s t y s.x := ⟨1, 0, by omega, by omega, by omega, by rw [hs]; omega, by omega⟩
      have g2 : EdGe s t y t.x := ⟨0, 1, by omega, by omega, by omega, by rw [ht]; omega, by omega⟩
      refine ⟨by simp only; omega, by simp only; omega, ?_, ?_⟩
      · rcases (show min (min p.1 s.x) t.x = p.1 ∨ min (min p.1 s.x) t.x = s.x ∨ min (min p.1 s.x) t.x = t.x by omega) with h | h | h
        · exact .inl h
        · right; show EdLe s t y (min (min p.1 s.x) t.x); rw [h]; exact l1
        · right; show EdLe s t y (min (min p.1 s.x) t.x); rw [h]; exact l2
      · rcases (show max (max p.2 s.x) t.x = p.2 ∨ max (max p.2 s.x) t.x = s.x ∨ max (max p.2 s.x) t.x = t.x by omega) with h | h | h
        · exact .inl h
        · right; show EdGe s t y (max (max p.2 s.x) t.x); rw [h]; exact g1
        · right; show EdGe s t y (max (max p.2 s.x) t.x); rw [h]; exact g2
    · rename_i he
      have hd : 0 < t.y - s.y := by omega
      generalize hn : s.x * (t.y - s.y) + (t.x - s.x) * (y - s.y) = n
      have e1 : (t.y - y) * s.y + (y - s.y) * t.y = ((t.y - y) + (y - s.y)) * y := by grind
      have e2 : (t.y - y) * s.x + (y - s.y) * t.x = n := by rw [← hn]; grind
      have e3 : (t.y - y) + (y - s.y) = t.y - s.y := by omega
      have k1 := Int.ediv_mul_le (-n) (b := t.y - s.y) (by omega)
      have k2 := Int.ediv_mul_le n (b := t.y - s.y) (by omega)
      refine ⟨by simp only; omega, by simp only; omega, ?_, ?_⟩
      · rcases (show min p.1 (-(-n / (t.y - s.y))) = p.1 ∨ min p.1 (-(-n / (t.y - s.y))) = -(-n / (t.y - s.y)) by omega) with h | h
        · exact .inl h
        · right
          show EdLe s t y (min p.1 (-(-n / (t.y - s.y))))
          rw [h]
          refine ⟨t.y - y, y - s.y, by omega, by omega, by omega, e1, ?_⟩
          rw [e2, e3, Int.mul_neg, Int.mul_comm]
          omega
      · rcases (show max p.2 (n / (t.y - s.y)) = p.2 ∨ max p.2 (n / (t.y - s.y)) = n / (t.y - s.y) by omega) with h | h
        · exact .inl h
        · right
          show EdGe s t y (max p.2 (n / (t.y - s.y)))
          rw [h]
          refine ⟨t.y - y, y - s.y, by omega, by omega, by omega, e1, ?_⟩
          rw [e2, e3, Int.mul_comm]
          omega
theorem stepE_spec (y : Int) (p : Int × Int) (e : XY × XY) : (stepE y p e).1 ≤ p.1 ∧ p.2 ≤ (stepE y p e).2 ∧ ((stepE y p e).1 = p.1 ∨ EdLe e.1 e.2 y (stepE y p e).1) ∧ ((stepE y p e).2 = p.2 ∨ EdGe e.1 e.2 y (stepE y p e).2) := by
  unfold stepE
  split
  · obtain ⟨h1, h2, h3, h4⟩ := stepO_spec y e.2 e.1 p
    exact ⟨h1, h2, h3.imp_right EdLe.swap, h4.imp_right EdGe.swap⟩
  · exact stepO_spec y e.1 e.2 p
theorem accP_att (y : Int) : ∀ (es : List (XY × XY)) (p : Int × Int), (accP y es p).1 ≤ p.1 ∧ p.2 ≤ (accP y es p).2 ∧ ((accP y es p).1 = p.1 ∨ ∃ e ∈ es, EdLe e.1 e.2 y (accP y es p).1) ∧ ((accP y es p).2 = p.2 ∨ ∃ e ∈ es, EdGe e.1 e.2 y (accP y es p).2)
  | [], p => ⟨Int.le_refl _, Int.le_refl _, .inl rfl, .inl rfl⟩
  | e :: es, p => by
    obtain ⟨h1, h2, h3, h4⟩ := accP_att y es (stepE y p e)
    obtain ⟨k1, k2, k3, k4⟩ := stepE_spec y p e
    rw [show accP y (e :: es) p = accP y es (stepE y p e) from rfl]
    refine ⟨by omega, by omega, ?_, ?_⟩
    · rcases h3 with h3 | ⟨e', he', h⟩
      · rw [h3]; exact k3.imp_right fun h => ⟨e, by simp, h⟩
      · exact .inr ⟨e', by simp [he'], h⟩
    · rcases h4 with h4 | ⟨e', he', h⟩
      · rw [h4]; exact k4.imp_right fun h => ⟨e, by simp, h⟩
      · exact .inr ⟨e', by simp [he'], h⟩

/-- An edge that goes up bounds to the right, one that goes down to the left. -/
theorem step_up {y x : Int} {p : Int × Int} {e : XY × XY} (h1 : e.1.y ≤ y) (h2 : y ≤ e.2.y) (h : e.1.y < e.2.y) (hc : 0 ≤ crossN e.1 e.2 ⟨x, y⟩) : x ≤ (stepE y p e).2 := by
  unfold stepE
  rw [if_neg (by omega)]
  unfold stepO
  rw [if_neg (by omega), if_neg (by omega)]
  have e1 : crossN e.1 e.2 ⟨x, y⟩ = (e.1.x * (e.2.y - e.1.y) + (e.2.x - e.1.x) * (y - e.1.y)) - x * (e.2.y - e.1.y) := by simp only [crossN]; grind
  have := (Int.le_ediv_iff_mul_le (a := x) (b := e.1.x * (e.2.y - e.1.y) + (e.2.x - e.1.x) * (y - e.1.y)) (show 0 < e.2.y - e.1.y by omega)).2 (by omega)
  simp only
  omega
theorem step_down {y x : Int} {p : Int × Int} {e : XY × XY} (h1 : y ≤ e.1.y) (h2 : e.2.y ≤ y) (h : e.2.y < e.1.y) (hc : 0 ≤ crossN e.1 e.2 ⟨x, y⟩) : (stepE y p e).1 ≤ x := by
  unfold stepE
  rw [if_pos (by omega)]
  unfold stepO
  rw [if_neg (by omega), if_neg (by omega)]
  have e1 : crossN e.1 e.2 ⟨x, y⟩ = x * (e.1.y - e.2.y) - (e.2.x * (e.1.y - e.2.y) + (e.1.x - e.2.x) * (y - e.2.y)) := by simp only [crossN]; grind
  have e2 : -x * (e.1.y - e.2.y) = -(x * (e.1.y - e.2.y)) := Int.neg_mul _ _
  have := (Int.le_ediv_iff_mul_le (a := -x) (b := -(e.2.x * (e.1.y - e.2.y) + (e.1.x - e.2.x) * (y - e.2.y))) (show 0 < e.1.y - e.2.y by omega)).2 (by omega)
  simp only
  omega
theorem accP_up {y x : Int} : ∀ {es : List (XY × XY)} {p : Int × Int} {e : XY × XY}, e ∈ es → (∀ p, x ≤ (stepE y p e).2) → x ≤ (accP y es p).2
  | e' :: es, p, e, he, h => by
    rw [show accP y (e' :: es) p = accP y es (stepE y p e') from rfl]
    rcases List.mem_cons.1 he with rfl | he
    · exact Int.le_trans (h p) (accP_att y es _).2.1
    · exact accP_up he h
theorem accP_down {y x : Int} : ∀ {es : List (XY × XY)} {p : Int × Int} {e : XY × XY}, e ∈ es → (∀ p, (stepE y p e).1 ≤ x) → (accP y es p).1 ≤ x
  | e' :: es, p, e, he, h => by
    rw [show accP y (e' :: es) p = accP y es (stepE y p e') from rfl]
    rcases List.mem_cons.1 he with rfl | he
    · exact Int.le_trans (accP_att y es _).1 (h p)
    · exact accP_down he h

/-- Among corners of different heights. -/
theorem Hull.heights {s H : List XY} {m : Nat} (hH : Hull s H m) : (boundsN H).ya < (boundsN H).yb := by
  have h3 := hH.three
  obtain ⟨hb, _, _⟩ := bounds_spec (H := H) (fun e => by rw [e] at h3; simp at h3)
  have h0 := hb _ (nth_mem (show 0 < H.length by omega))
  have h1 := hb _ (nxt_mem (show 0 < H.length by omega))
  have h2 := hb _ (nxt_mem (H := H) (i := (0 + 1) % H.length) (Nat.mod_lt _ (by omega)))
  have ht := hH.turn 0 (by omega)
  rcases Int.lt_or_le (boundsN H).ya (boundsN H).yb with h | h
  · exact h
  · exfalso
    generalize nth H 0 = a at *
    generalize nxt H 0 = b at *
    generalize nxt H ((0 + 1) % H.length) = c at *
    have e1 : b.y - a.y = 0 := by omega
    have e2 : c.y - a.y = 0 := by omega
    rw [cross_vec, e1, e2] at ht
    simp at ht
theorem accP_reg {s H : List XY} {m : Nat} (hH : Hull s H m) {y : Int} (h1 : (boundsN H).ya ≤ y) (h2 : y ≤ (boundsN H).yb) (x : Int) :
    ((accP y (edgesN H) ((boundsN H).xb + 1, (boundsN H).xa - 1)).1 ≤ x ∧ x ≤ (accP y (edgesN H) ((boundsN H).xb + 1, (boundsN H).xa - 1)).2) ↔ Reg H ⟨x, y⟩ := by
  have h3 := hH.three
  have hlt := hH.heights
  obtain ⟨hb, ⟨pa, ha, ea⟩, pb, hpb, eb⟩ := bounds_spec (H := H) (fun e => by rw [e] at h3; simp at h3)
  obtain ⟨-, -, k3, k4⟩ := accP_att y (edgesN H) ((boundsN H).xb + 1, (boundsN H).xa - 1)
  generalize hA : accP y (edgesN H) ((boundsN H).xb + 1, (boundsN H).xa - 1) = A at *
  have hab : (boundsN H).xa ≤ (boundsN H).xb := by have := hb pa ha; omega
  have leX : ∀ {e : XY × XY} {v : Int}, e ∈ edgesN H → EdLe e.1 e.2 y v → (boundsN H).xa ≤ v ∧ PtLe H v y := fun {e v} he hl => by
    obtain ⟨i, hi, rfl⟩ := edges_mem.1 he
    obtain ⟨a, b, g1, g2, g3, g4, g5⟩ := hl
    refine ⟨?_, nth H i, nxt H i, a, b, nth_mem hi, nxt_mem hi, g1, g2, g3, g4, g5⟩
    have q1 := Int.mul_le_mul_of_nonneg_left (hb _ (nth_mem hi)).1 g1
    have q2 := Int.mul_le_mul_of_nonneg_left (hb _ (nxt_mem hi)).1 g2
    have q3 : (a + b) * (boundsN H).xa = a * (boundsN H).xa + b * (boundsN H).xa := Int.add_mul _ _ _
    simp only at g5
    exact Int.le_of_mul_le_mul_left (show (a + b) * (boundsN H).xa ≤ (a + b) * v by omega) g3
  have geX : ∀ {e : XY × XY} {v : Int}, e ∈ edgesN H → EdGe e.1 e.2 y v → v ≤ (boundsN H).xb ∧ PtGe H v y := fun {e v} he hl => by
    obtain ⟨i, hi, rfl⟩ := edges_mem.1 he
    obtain ⟨a, b, g1, g2, g3, g4, g5⟩ := hl
    refine ⟨?_, nth H i, nxt H i, a, b, nth_mem hi, nxt_mem hi, g1, g2, g3, g4, g5⟩
    have q1 := Int.mul_le_mul_of_nonneg_left (hb _ (nth_mem hi)).2.1 g1
    have q2 := Int.mul_le_mul_of_nonneg_left (hb _ (nxt_mem hi)).2.1 g2
    have q3 : (a + b) * (boundsN H).xb = a * (boundsN H).xb + b * (boundsN H).xb := Int.add_mul _ _ _
    simp only at g5
    exact Int.le_of_mul_le_mul_left (show (a + b) * v ≤ (a + b) * (boundsN H).xb by omega) g3
  constructor
  · rintro ⟨x1, x2⟩
    rcases k3 with k3 | ⟨e1, he1, l1⟩
    · exfalso
      rcases k4 with k4 | ⟨e2, he2, l2⟩
      · rw [k3] at x1; rw [k4] at x2; simp only at x1 x2; omega
      · have := (geX he2 l2).1
        rw [k3] at x1; simp only at x1; omega
    · rcases k4 with k4 | ⟨e2, he2, l2⟩
      · exfalso
        have := (leX he1 l1).1
        rw [k4] at x2; simp only at x2; omega
      · exact reg_between hH (leX he1 (l1.mono x1)).2 (geX he2 (l2.mono x2)).2
  · intro hr
    obtain ⟨i, hi, ei⟩ : ∃ i, i < H.length ∧ nth H i = pa := by
      obtain ⟨i, hi, e⟩ := List.getElem_of_mem ha
      exact ⟨i, hi, by rw [nth_get (List.getElem?_eq_getElem hi), e]⟩
    obtain ⟨j, hj, ej⟩ : ∃ i, i < H.length ∧ nth H i = pb := by
      obtain ⟨i, hi, e⟩ := List.getElem_of_mem hpb
      exact ⟨i, hi, by rw [nth_get (List.getElem?_eq_getElem hi), e]⟩
    obtain ⟨u, hu, u1, u2, u3⟩ := up_edge (y := y) hi hj (by rw [ei, ea]; exact h1) (by rw [ej, eb]; exact h2) (by rw [ei, ej, ea, eb]; exact hlt)
    obtain ⟨d, hd, d1, d2, d3⟩ := down_edge (y := y) hi hj (by rw [ei, ea]; exact h1) (by rw [ej, eb]; exact h2) (by rw [ei, ej, ea, eb]; exact hlt)
    rw [← hA]
    exact ⟨accP_down (edges_mem.2 ⟨d, hd, rfl⟩) fun p => step_down d1 d2 d3 (hr d hd), accP_up (edges_mem.2 ⟨u, hu, rfl⟩) fun p => step_up u1 u2 u3 (hr u hu)⟩

theorem span_eq {a b : Int × Int} (h : ∀ x, (a.1 ≤ x ∧ x ≤ a.2) ↔ (b.1 ≤ x ∧ x ≤ b.2)) (hn : a.1 ≤ a.2) : a = b := by
  have h1 := (h a.1).1 ⟨Int.le_refl _, hn⟩
  have h2 := (h a.2).1 ⟨hn, Int.le_refl _⟩
  have h3 := (h b.1).2 ⟨Int.le_refl _, by omega⟩
  have h4 := (h b.2).2 ⟨by omega, Int.le_refl _⟩
  exact Prod.ext (by omega) (by omega)

theorem chord_eq (l : List XY) (low high : Int) : chordP l low high = chordR l low high := by
  unfold chordP chordR
  rw [hullP_eq]
  rcases hullN_spec l with h0 | ⟨hc, m, hH⟩
  · rw [h0]; simp
  have h3 := hH.three
  generalize hHe : hullN l = H at *
  have hin : ∀ p ∈ H, p.In := fun p hp => hc.all p ((sortedN_mem l p).1 (hH.sub p hp))
  obtain ⟨hb, ⟨pa, ha, ea⟩, pb, hpb, eb⟩ := bounds_spec (H := H) (fun e => by rw [e] at h3; simp at h3)
  have ina := hin pa ha
  have inb := hin pb hpb
  unfold XY.In at ina inb
  have hlt := hH.heights
  have regIn : ∀ x y, Reg H ⟨x, y⟩ → -600 ≤ x ∧ x ≤ 600 ∧ (boundsN H).ya ≤ y ∧ y ≤ (boundsN H).yb := fun x y hr => by
    have k1 := hH.within hr (boundsN H) hb
    have k2 := hH.within hr ⟨-600, 600, -600, 600⟩ fun p hp => by
      have := hin p hp
      unfold XY.In at this
      exact ⟨this.1, this.2.1, this.2.2.1, this.2.2.2⟩
    simp only at k1 k2
    omega
  have rSpec : ∀ y x, ((accR y (edgesN H) (-600) 600).1 ≤ x ∧ x ≤ (accR y (edgesN H) (-600) 600).2) ↔ Reg H ⟨x, y⟩ := fun y x => by
    rw [accR_reg]
    constructor
    · exact fun h => h.2.2
    · intro h
      have := regIn x y h
      exact ⟨by omega, by omega, h⟩
  by_cases hg : H.length = 0 ∨ low ≥ high
  · rw [if_pos (hg.imp_right .inl), if_pos (hg.imp_right .inl)]
  by_cases hy : low < (boundsN H).ya ∨ high > (boundsN H).yb
  · rw [if_pos (.inr (.inr hy))]
    by_cases hr : H.length = 0 ∨ low ≥ high ∨ low < -600 ∨ high > 600
    · rw [if_pos hr]
    · rw [if_neg hr, if_pos]
      rcases hy with hy | hy
      · left
        rcases Int.lt_or_le (accR low (edgesN H) (-600) 600).2 (accR low (edgesN H) (-600) 600).1 with h | h
        · exact h
        · have := regIn _ _ ((rSpec low _).1 ⟨Int.le_refl _, h⟩)
          omega
      · right
        rcases Int.lt_or_le (accR high (edgesN H) (-600) 600).2 (accR high (edgesN H) (-600) 600).1 with h | h
        · exact h
        · have := regIn _ _ ((rSpec high _).1 ⟨Int.le_refl _, h⟩)
          omega
  · have e1 := fun x => (accP_reg hH (y := low) (by omega) (by omega) x).trans (rSpec low x).symm
    have e2 := fun x => (accP_reg hH (y := high) (by omega) (by omega) x).trans (rSpec high x).symm
    rw [if_neg (by omega), if_neg (by omega)]
    generalize accP low (edgesN H) ((boundsN H).xb + 1, (boundsN H).xa - 1) = A at *
    generalize accP high (edgesN H) ((boundsN H).xb + 1, (boundsN H).xa - 1) = B at *
    generalize accR low (edgesN H) (-600) 600 = A' at *
    generalize accR high (edgesN H) (-600) 600 = B' at *
    by_cases hA : A.1 ≤ A.2
    · by_cases hB : B.1 ≤ B.2
      · rw [span_eq e1 hA, span_eq e2 hB] at *
        rw [if_neg (by omega)]
      · have hB' : B'.1 > B'.2 := by
          rcases Int.lt_or_le B'.2 B'.1 with h | h
          · exact h
          · have := (e2 B'.1).2 ⟨Int.le_refl _, h⟩
            omega
        rw [if_pos (.inr hB'), spanOf, if_neg (by omega)]
    · have hA' : A'.1 > A'.2 := by
        rcases Int.lt_or_le A'.2 A'.1 with h | h
        · exact h
        · have := (e1 A'.1).2 ⟨Int.le_refl _, h⟩
          omega
      rw [if_pos (.inl hA'), spanOf, if_neg (by omega)]

theorem polychords_pure (l : List XY) (low high : Int) : Pure Try.prog G0 6 [.sl 2 (l.map eP), .i low, .i high] (.bool true) := by
  refine pure_of mixed Try.func6 rfl rfl (Nat.le_of_ble_eq_true rfl) ?_
  conv => whnf
  repeat (refine And.intro ?_ ?_; (first | (with_reducible show okR _ _ _ _ = true; kernel_rfl) | (with_reducible show addC _ _ _ = _; kernel_rfl) | rfl | trivial | kernel_rfl | omega | exact Nat.le_of_ble_eq_true rfl | exact lt_len0 rfl | exact lt_len1 rfl); conv => whnf)
  refine callP_of (few_pure l) ?_
  conv => whnf
  repeat (refine And.intro ?_ ?_; (first | (with_reducible show okR _ _ _ _ = true; kernel_rfl) | (with_reducible show addC _ _ _ = _; kernel_rfl) | rfl | trivial | kernel_rfl | omega | exact Nat.le_of_ble_eq_true rfl | exact lt_len0 rfl | exact lt_len1 rfl); conv => whnf)
  refine ifB_intro (fun h => ?_) (fun h => ?_) <;> try dsimp only at h
  · conv => whnf
    repeat (refine And.intro ?_ ?_; (first | (with_reducible show okR _ _ _ _ = true; kernel_rfl) | (with_reducible show addC _ _ _ = _; kernel_rfl) | rfl | trivial | kernel_rfl | omega | exact Nat.le_of_ble_eq_true rfl | exact lt_len0 rfl | exact lt_len1 rfl); conv => whnf)
    refine callP_of (awake_pure) ?_
    conv => whnf
    repeat (refine And.intro ?_ ?_; (first | (with_reducible show okR _ _ _ _ = true; kernel_rfl) | (with_reducible show addC _ _ _ = _; kernel_rfl) | rfl | trivial | kernel_rfl | omega | exact Nat.le_of_ble_eq_true rfl | exact lt_len0 rfl | exact lt_len1 rfl); conv => whnf)
  have hl : l.length ≤ 1000000 := by
    have : l.length ≤ 100 := by simpa using h
    omega
  have hp := polychord_pure l hl low high
  rw [chord_eq] at hp
  conv => whnf
  repeat (refine And.intro ?_ ?_; (first | (with_reducible show okR _ _ _ _ = true; kernel_rfl) | (with_reducible show addC _ _ _ = _; kernel_rfl) | rfl | trivial | kernel_rfl | omega | exact Nat.le_of_ble_eq_true rfl | exact lt_len0 rfl | exact lt_len1 rfl); conv => whnf)
  refine callP_of (hp) ?_
  conv => whnf
  repeat (refine And.intro ?_ ?_; (first | (with_reducible show okR _ _ _ _ = true; kernel_rfl) | (with_reducible show addC _ _ _ = _; kernel_rfl) | rfl | trivial | kernel_rfl | omega | exact Nat.le_of_ble_eq_true rfl | exact lt_len0 rfl | exact lt_len1 rfl); conv => whnf)
  refine callP_of (refchord_pure l hl low high) ?_
  conv => whnf
  repeat (refine And.intro ?_ ?_; (first | (with_reducible show okR _ _ _ _ = true; kernel_rfl) | (with_reducible show addC _ _ _ = _; kernel_rfl) | rfl | trivial | kernel_rfl | omega | exact Nat.le_of_ble_eq_true rfl | exact lt_len0 rfl | exact lt_len1 rfl); conv => whnf)
  refine ifB_intro (fun h3 => ?_) (fun h3 => ?_) <;> try dsimp only at h3
  · conv => whnf
    repeat (refine And.intro ?_ ?_; (first | (with_reducible show okR _ _ _ _ = true; kernel_rfl) | (with_reducible show addC _ _ _ = _; kernel_rfl) | rfl | trivial | kernel_rfl | omega | exact Nat.le_of_ble_eq_true rfl | exact lt_len0 rfl | exact lt_len1 rfl); conv => whnf)
    refine callP_of (awake_pure) ?_
    conv => whnf
    repeat (refine And.intro ?_ ?_; (first | (with_reducible show okR _ _ _ _ = true; kernel_rfl) | (with_reducible show addC _ _ _ = _; kernel_rfl) | rfl | trivial | kernel_rfl | omega | exact Nat.le_of_ble_eq_true rfl | exact lt_len0 rfl | exact lt_len1 rfl); conv => whnf)
  · simp at h3
end Go.Proofs.Yticandbdabgkeaa.Am
