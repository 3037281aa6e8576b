/- Half planes: the chains of a hull have all points to their left. Plain law. A hull: its corners in a ring, every point to the left of every edge, each corner a true one. Plain law. The hull of points as a ring of corners. Plain law. What lies within a ring of corners. Plain law. -/
import Derived.Test.YticandbdabgkeaaAmP16
import Derived.Test.YticandbdabgkeaaAmP12
namespace Go.Proofs.Yticandbdabgkeaa.Am
open Go

theorem pos_of_mul {k z : Int} (hk : 0 < k) (h : 0 < k * z) : 0 < z := by
  rcases Int.lt_or_le 0 z with h1 | h1
  · exact h1
  · have := Int.mul_nonneg (Int.le_of_lt hk) (show 0 ≤ -z by omega)
    rw [Int.mul_neg] at this
    omega
theorem nonneg_of_mul {k z : Int} (hk : 0 < k) (h : 0 ≤ k * z) : 0 ≤ z := by
  rcases Int.lt_or_le z 0 with h1 | h1
  · have := Int.mul_pos hk (show 0 < -z by omega)
    rw [Int.mul_neg] at this
    omega
  · exact h1

/-- Directions to the right, or straight up. -/
def LexP (x y : Int) : Prop := 0 < x ∨ (x = 0 ∧ 0 < y)
theorem lexP_of {a b : XY} (h : before a b = true) : LexP (b.x - a.x) (b.y - a.y) := by
  rw [before_iff] at h
  unfold LexP
  omega

theorem ang_lt {ux uy vx vy wx wy : Int} (hu : LexP ux uy) (hv : LexP vx vy) (hw : LexP wx wy) (h1 : 0 < ux * vy - uy * vx) (h2 : 0 < vx * wy - vy * wx) : 0 < ux * wy - uy * wx := by
  have hid : vx * (ux * wy - uy * wx) = ux * (vx * wy - vy * wx) + wx * (ux * vy - uy * vx) := by grind
  rcases hv with hv | ⟨hv, hv'⟩
  · have hux : 0 < ux := by
      rcases hu with hu | ⟨hu, hu'⟩
      · exact hu
      · subst hu
        have := Int.mul_pos hu' hv
        simp only [Int.zero_mul] at h1
        omega
    have a1 := Int.mul_pos hux h2
    have a2 : 0 ≤ wx * (ux * vy - uy * vx) := Int.mul_nonneg (by rcases hw with hw | ⟨hw, _⟩ <;> omega) (Int.le_of_lt h1)
    exact pos_of_mul hv (by rw [hid]; omega)
  · subst hv
    have : 0 ≤ vy * wx := Int.mul_nonneg (Int.le_of_lt hv') (by rcases hw with hw | ⟨hw, _⟩ <;> omega)
    simp only [Int.zero_mul] at h2
    omega
theorem ang_le {ux uy vx vy wx wy : Int} (hu : LexP ux uy) (hv : LexP vx vy) (hw : LexP wx wy) (h1 : 0 ≤ ux * vy - uy * vx) (h2 : 0 ≤ vx * wy - vy * wx) : 0 ≤ ux * wy - uy * wx := by
  have hid : vx * (ux * wy - uy * wx) = ux * (vx * wy - vy * wx) + wx * (ux * vy - uy * vx) := by grind
  have hux : 0 ≤ ux := by rcases hu with hu | ⟨hu, _⟩ <;> omega
  have hwx : 0 ≤ wx := by rcases hw with hw | ⟨hw, _⟩ <;> omega
  rcases hv with hv | ⟨hv, hv'⟩
  · have a1 := Int.mul_nonneg hux h2
    have a2 := Int.mul_nonneg hwx h1
    exact nonneg_of_mul hv (by rw [hid]; omega)
  · subst hv
    have hw0 : wx = 0 := by
      rcases Int.lt_or_le 0 wx with h | h
      · have := Int.mul_pos hv' h
        simp only [Int.zero_mul] at h2
        omega
      · omega
    subst hw0
    have hwy : 0 < wy := by rcases hw with hw | ⟨_, hw⟩ <;> omega
    have := Int.mul_nonneg hux (Int.le_of_lt hwy)
    simp only [Int.mul_zero]
    omega

theorem cross_vec (a b c : XY) : crossN a b c = (b.x - a.x) * (c.y - a.y) - (b.y - a.y) * (c.x - a.x) := rfl
theorem cross_rot (a b c : XY) : crossN b c a = crossN a b c := by simp only [crossN]; grind
theorem cross_swap (a b c : XY) : crossN b a c = -crossN a b c := by simp only [crossN]; grind
theorem cross_self (a b : XY) : crossN a b b = 0 := by simp only [crossN]; grind
theorem cross_self1 (a b : XY) : crossN a b a = 0 := by simp only [crossN]; grind
/-- A bend, and a further bend: a bend over both. -/
theorem bend_far {a b c d : XY} (hab : before a b = true) (hbc : before b c = true) (hcd : before c d = true) (h1 : 0 < crossN a b c) (h2 : 0 < crossN b c d) : 0 < crossN a b d := by
  have e1 : crossN a b c = (b.x - a.x) * (c.y - b.y) - (b.y - a.y) * (c.x - b.x) := by simp only [crossN]; grind
  have e2 : crossN b c d = (c.x - b.x) * (d.y - c.y) - (c.y - b.y) * (d.x - c.x) := by simp only [crossN]; grind
  have := ang_lt (lexP_of hab) (lexP_of hbc) (lexP_of hcd) (e1 ▸ h1) (e2 ▸ h2)
  have e3 : crossN a b d = ((b.x - a.x) * (c.y - b.y) - (b.y - a.y) * (c.x - b.x)) + ((b.x - a.x) * (d.y - c.y) - (b.y - a.y) * (d.x - c.x)) := by simp only [crossN]; grind
  rw [e3, ← e1]
  omega
/-- Behind a corner that was cut off. -/
theorem above_cut {a b p q : XY} (hab : before a b = true) (hap : before a p = true) (haq : before a q = true) (h1 : crossN a b q ≤ 0) (h2 : 0 ≤ crossN a b p) : 0 ≤ crossN a q p := by
  refine ang_le (lexP_of haq) (lexP_of hab) (lexP_of hap) ?_ h2
  have e : crossN a b q = -((q.x - a.x) * (b.y - a.y) - (q.y - a.y) * (b.x - a.x)) := by simp only [crossN]; grind
  omega
/-- Ahead of a bend. -/
theorem above_bend {a t p q : XY} (hat : before a t = true) (hpt : before p t = true) (htq : before t q = true) (h1 : 0 < crossN a t q) (h2 : 0 ≤ crossN a t p) : 0 ≤ crossN t q p := by
  have e1 : crossN a t q = (t.x - a.x) * (q.y - t.y) - (t.y - a.y) * (q.x - t.x) := by simp only [crossN]; grind
  have e2 : crossN a t p = (t.x - p.x) * (t.y - a.y) - (t.y - p.y) * (t.x - a.x) := by simp only [crossN]; grind
  have := ang_le (lexP_of hpt) (lexP_of hat) (lexP_of htq) (e2 ▸ h2) (Int.le_of_lt (e1 ▸ h1))
  have e3 : crossN t q p = (t.x - p.x) * (q.y - t.y) - (t.y - p.y) * (q.x - t.x) := by simp only [crossN]; grind
  rw [e3]; exact this

/-! ### The stack of a chain -/
/-- Strictly downwards, each bend to the left, every point to the left of every edge. -/
def Bent : List XY → Prop
  | c :: b :: a :: r => 0 < crossN a b c ∧ Bent (b :: a :: r)
  | _ => True
def Left (p : XY) : List XY → Prop
  | b :: a :: r => 0 ≤ crossN a b p ∧ Left p (a :: r)
  | _ => True
def Down (l : List XY) : Prop := l.Pairwise fun a b => before b a = true

theorem bent_tail {a : XY} {r : List XY} (h : Bent (a :: r)) : Bent r := by
  match r, h with
  | [], _ => trivial
  | [_], _ => trivial
  | _ :: _ :: _, h => exact h.2
theorem left_tail {p a : XY} {r : List XY} (h : Left p (a :: r)) : Left p r := by
  match r, h with
  | [], _ => trivial
  | _ :: _, h => exact h.2
theorem bent_push {q : XY} {st : List XY} (hb : Bent st) (hs : ∀ t t2 r, st = t :: t2 :: r → 0 < crossN t2 t q) : Bent (q :: st) := by
  match st, hb, hs with
  | [], _, _ => trivial
  | [_], _, _ => trivial
  | t :: t2 :: r, hb, hs => exact ⟨hs t t2 r rfl, hb⟩
/-- A point behind a bend of the top edge is to the left of all edges. -/
theorem left_new {q : XY} : ∀ {st : List XY}, Bent st → Down st → (∀ t r, st = t :: r → before t q = true) → (∀ t t2 r, st = t :: t2 :: r → 0 < crossN t2 t q) → Left q st
  | [], _, _, _, _ => trivial
  | [_], _, _, _, _ => trivial
  | t :: t2 :: [], _, _, _, hs => ⟨Int.le_of_lt (hs t t2 [] rfl), trivial⟩
  | t :: t2 :: t3 :: r, hb, hd, ht, hs => by
    obtain ⟨d1, d2⟩ := List.pairwise_cons.1 hd
    obtain ⟨d3, d4⟩ := List.pairwise_cons.1 d2
    have htq := ht t _ rfl
    have h2t := d1 t2 (by simp)
    have h32 := d3 t3 (by simp)
    refine ⟨Int.le_of_lt (hs t t2 _ rfl), left_new (bent_tail hb) d2 (fun u r' e => ?_) fun u u2 r' e => ?_⟩
    · obtain ⟨rfl, _⟩ := List.cons.inj e
      exact before_trans h2t htq
    · obtain ⟨rfl, e'⟩ := List.cons.inj e
      obtain ⟨rfl, _⟩ := List.cons.inj e'
      exact bend_far h32 h2t htq hb.1 (hs t t2 _ rfl)

/-- What popping leaves: the end of the stack; the top edge bends to the new point; if something was popped, the last one popped did not bend. -/
theorem pop_spec (q : XY) : ∀ (st : List XY), st ≠ [] → ∃ pre, st = pre ++ pop q st ∧ pop q st ≠ [] ∧ (∀ t t2 r, pop q st = t :: t2 :: r → 0 < crossN t2 t q) ∧
    (pre = [] ∨ ∃ pre' b t r, pre = pre' ++ [b] ∧ pop q st = t :: r ∧ crossN t b q ≤ 0)
  | [], h => absurd rfl h
  | [a], _ => ⟨[], rfl, by simp [pop], by intro t t2 r h; simp [pop] at h, .inl rfl⟩
  | b :: a :: r, _ => by
    by_cases hc : crossN a b q ≤ 0
    · obtain ⟨pre, h1, h2, h3, h4⟩ := pop_spec q (a :: r) (by simp)
      rw [pop_cons hc]
      refine ⟨b :: pre, by rw [List.cons_append, ← h1], h2, h3, .inr ?_⟩
      rcases h4 with rfl | ⟨pre', b', t, r', rfl, h5, h6⟩
      · exact ⟨[], b, a, r, rfl, h1.symm, hc⟩
      · exact ⟨b :: pre', b', t, r', by simp, h5, h6⟩
    · rw [pop_stop hc]
      refine ⟨[], rfl, by simp, fun t t2 r' e => ?_, .inl rfl⟩
      obtain ⟨rfl, e'⟩ := List.cons.inj e
      obtain ⟨rfl, _⟩ := List.cons.inj e'
      omega

theorem left_suffix {p : XY} : ∀ (pre : List XY) {st : List XY}, Left p (pre ++ st) → Left p st
  | [], _, h => h
  | _ :: pre, _, h => left_suffix pre (left_tail h)
theorem bent_suffix : ∀ (pre : List XY) {st : List XY}, Bent (pre ++ st) → Bent st
  | [], _, h => h
  | _ :: pre, _, h => bent_suffix pre (bent_tail h)
theorem left_at {p b t : XY} {r : List XY} : ∀ (pre : List XY), Left p (pre ++ b :: t :: r) → 0 ≤ crossN t b p
  | [], h => h.1
  | _ :: pre, h => left_at pre (left_tail h)

/-- What holds of the stack behind points in order. -/
structure Chain (P st : List XY) : Prop where
  bent : Bent st
  down : Down st
  left : ∀ p ∈ P, Left p st
  top : ∀ t r, st = t :: r → t ∈ P ∧ ∀ p ∈ P, p = t ∨ before p t = true
  bot : ∀ pre a, st = pre ++ [a] → ∀ p ∈ P, p = a ∨ before a p = true
  sub : ∀ x ∈ st, x ∈ P
  ne : P ≠ [] → st ≠ []

theorem Chain.step {P st : List XY} {q : XY} (h : Chain P st) (hne : P ≠ []) (hq : ∀ p ∈ P, before p q = true) : Chain (P ++ [q]) (q :: pop q st) := by
  have hst := h.ne hne
  obtain ⟨pre, e, hne', htop, hcut⟩ := pop_spec q st hst
  obtain ⟨st', hst'⟩ : ∃ st', pop q st = st' := ⟨_, rfl⟩
  rw [hst'] at e hne' htop hcut ⊢
  have hsub : ∀ x ∈ st', x ∈ P := fun x hx => h.sub x (by rw [e]; simp [hx])
  have hdown : Down st' := by
    have := h.down
    rw [e] at this
    exact (List.pairwise_append.1 this).2.1
  have hbent : Bent st' := bent_suffix pre (e ▸ h.bent)
  have htopq : ∀ t r, st' = t :: r → before t q = true := fun t r et => hq t (hsub t (by rw [et]; simp))
  have hleftq : Left q st' := left_new hbent hdown htopq htop
  obtain ⟨t, r, et⟩ : ∃ t r, st' = t :: r := by
    match st', hne' with
    | t :: r, _ => exact ⟨t, r, rfl⟩
  have htP : t ∈ P := hsub t (by rw [et]; simp)
  have htq := htopq t r et
  have hbot : ∀ pre a, q :: st' = pre ++ [a] → ∀ p ∈ P ++ [q], p = a ∨ before a p = true := fun pr a ea p hp => by
    have ha : ∃ pr', st' = pr' ++ [a] := by
      match pr, ea with
      | [], ea => simp [et] at ea
      | _ :: pr', ea => exact ⟨pr', (List.cons.inj ea).2⟩
    obtain ⟨pr', ea'⟩ := ha
    have haP : a ∈ P := hsub a (by rw [ea']; simp)
    rcases List.mem_append.1 hp with hp | hp
    · exact h.bot (pre ++ pr') a (by rw [e, ea']; simp) p hp
    · simp only [List.mem_singleton] at hp
      subst hp
      exact .inr (hq a haP)
  refine ⟨bent_push hbent htop, ?_, fun p hp => ?_, fun u r' eu => ?_, hbot, fun x hx => ?_, fun _ => by simp⟩
  · exact List.pairwise_cons.2 ⟨fun x hx => hq x (hsub x hx), hdown⟩
  · rcases List.mem_append.1 hp with hp | hp
    · have hl : Left p st' := left_suffix pre (e ▸ h.left p hp)
      rw [et] at hl ⊢
      refine ⟨?_, hl⟩
      by_cases hpt : p = t
      · subst hpt; rw [cross_self1]; omega
      by_cases hlt : before t p = true
      · -- behind the top: something was popped
        rcases hcut with rfl | ⟨pre', b, t', r', rfl, et', hcr⟩
        · have := (h.top t r (by rw [e, et]; rfl)).2 p hp
          rcases this with h' | h'
          · exact absurd h' hpt
          · rw [before_asymm hlt] at h'; cases h'
        · rw [et] at et'
          obtain ⟨rfl, rfl⟩ := List.cons.inj et'
          have hlb : 0 ≤ crossN t b p := left_at pre' (by have := h.left p hp; rw [e, et] at this; simpa using this)
          have hbt : before t b = true := by
            have := h.down
            rw [e, et] at this
            exact (List.pairwise_append.1 this).2.2 b (by simp) t (by simp)
          exact above_cut hbt hlt htq hcr hlb
      · have hpb : before p t = true := not_before_of (by simpa using hlt) (fun e => hpt e.symm)
        match r, et, hl with
        | [], et, _ =>
          have := h.bot pre t (by rw [e, et]) p hp
          rcases this with h' | h'
          · exact absurd h' hpt
          · rw [before_asymm hpb] at h'; cases h'
        | t2 :: r2, et, hl =>
          have h2t : before t2 t = true := by
            rw [et] at hdown
            exact (List.pairwise_cons.1 hdown).1 t2 (by simp)
          exact above_bend h2t hpb htq (htop t t2 r2 et) hl.1
    · simp only [List.mem_singleton] at hp
      subst hp
      rw [et] at hleftq ⊢
      exact ⟨by rw [cross_self]; omega, hleftq⟩
  · obtain ⟨rfl, _⟩ := List.cons.inj eu
    refine ⟨by simp, fun p hp => ?_⟩
    rcases List.mem_append.1 hp with hp | hp
    · exact .inr (hq p hp)
    · simp only [List.mem_singleton] at hp; exact .inl hp
  · rcases List.mem_cons.1 hx with rfl | hx
    · simp
    · exact List.mem_append.2 (.inl (hsub x hx))

theorem chain_foldl : ∀ (l P st : List XY), Chain P st → (P ≠ [] ∨ st = []) → Ord (P ++ l) → Chain (P ++ l) (l.foldl (fun st q => q :: pop q st) st)
  | [], P, st, h, _, _ => by simpa using h
  | q :: l, P, st, h, hne, ho => by
    have ho' : Ord ((P ++ [q]) ++ l) := by simpa using ho
    have hq : ∀ p ∈ P, before p q = true := fun p hp => (List.pairwise_append.1 ho).2.2 p hp q (by simp)
    have hstep : Chain (P ++ [q]) (q :: pop q st) := by
      by_cases hP : P = []
      · subst hP
        have : st = [] := hne.resolve_left (by simp)
        subst this
        refine ⟨trivial, List.pairwise_singleton _ _, fun p _ => trivial, fun t r e => ?_, fun pre a e p hp => ?_, fun x hx => ?_, fun _ => by simp⟩
        · simp [pop] at e; obtain ⟨rfl, _⟩ := e; simp
        · have : a = q := by
            match pre, e with
            | [], e => simp [pop] at e; exact e.symm
            | _ :: pre', e => simp [pop] at e
          subst this
          exact .inl (by simpa using hp)
        · simpa [pop] using hx
      · exact h.step hP hq
    have := chain_foldl l (P ++ [q]) _ hstep (.inl (by simp)) ho'
    simpa using this
theorem chain_spec {s : List XY} (h : Ord s) : Chain s (chainR s) := by
  have := chain_foldl s [] [] ⟨trivial, List.Pairwise.nil, fun p hp => by simp at hp, fun t r e => by simp at e, fun pre a e => by simp at e, fun x hx => by simp at hx, fun h => absurd rfl h⟩ (.inr rfl) (by simpa using h)
  simpa [chainR] using this
end Go.Proofs.Yticandbdabgkeaa.Am

namespace Go.Proofs.Yticandbdabgkeaa.Am
open Go

theorem nth_cons0 (a : XY) (l : List XY) : nth (a :: l) 0 = a := rfl
theorem nth_consS (a : XY) (l : List XY) (i : Nat) : nth (a :: l) (i + 1) = nth l i := rfl
theorem nth_rev {l : List XY} {i : Nat} (h : i < l.length) : nth l.reverse i = nth l (l.length - 1 - i) := by
  have h1 := nth_getE (l := l.reverse) (i := i) (by simpa using h)
  rw [List.getElem?_reverse h] at h1
  exact (nth_get h1).symm
theorem nth_app1 {l m : List XY} {i : Nat} (h : i < l.length) : nth (l ++ m) i = nth l i := by
  refine nth_get ?_
  rw [List.getElem?_append_left h]; exact nth_getE h
theorem nth_app2 {l m : List XY} {j : Nat} (h : j < m.length) : nth (l ++ m) (l.length + j) = nth m j := by
  refine nth_get ?_
  rw [List.getElem?_append_right (by omega), show l.length + j - l.length = j by omega]; exact nth_getE h
theorem nth_dropLast {l : List XY} {i : Nat} (h : i + 1 < l.length) : nth l.dropLast i = nth l i := by
  refine nth_get ?_
  rw [List.getElem?_dropLast, if_pos (by omega)]; exact nth_getE (by omega)
theorem nth_map (f : XY → XY) {l : List XY} {i : Nat} (h : i < l.length) : nth (l.map f) i = f (nth l i) := by
  refine nth_get ?_
  rw [List.getElem?_map, nth_getE h]; rfl

theorem left_idx {p : XY} : ∀ {st : List XY}, Left p st → ∀ i, i + 1 < st.length → 0 ≤ crossN (nth st (i + 1)) (nth st i) p
  | [], _, i, h => by simp at h
  | [_], _, i, h => by simp at h
  | b :: a :: r, hl, 0, _ => hl.1
  | b :: a :: r, hl, i + 1, h => left_idx (st := a :: r) hl.2 i (by simpa using h)
theorem bent_idx : ∀ {st : List XY}, Bent st → ∀ i, i + 2 < st.length → 0 < crossN (nth st (i + 2)) (nth st (i + 1)) (nth st i)
  | [], _, i, h => by simp at h
  | [_], _, i, h => by simp at h
  | [_, _], _, i, h => by simp only [List.length_cons, List.length_nil] at h; omega
  | c :: b :: a :: r, hl, 0, _ => hl.1
  | c :: b :: a :: r, hl, i + 1, h => bent_idx (st := b :: a :: r) hl.2 i (by simpa using h)
theorem down_idx : ∀ {st : List XY}, Down st → ∀ i j, i < j → j < st.length → before (nth st j) (nth st i) = true
  | [], _, i, j, _, h => by simp at h
  | a :: r, hd, 0, j + 1, _, h => (List.pairwise_cons.1 hd).1 _ (nth_mem (by simpa using h))
  | a :: r, hd, i + 1, j + 1, hij, h => down_idx (List.pairwise_cons.1 hd).2 i j (by omega) (by simpa using h)
  | _ :: _, _, i, 0, hij, _ => by omega

/-- A chain as it goes on. -/
structure Arc (s C : List XY) : Prop where
  left : ∀ i, i + 1 < C.length → ∀ p ∈ s, 0 ≤ crossN (nth C i) (nth C (i + 1)) p
  bent : ∀ i, i + 2 < C.length → 0 < crossN (nth C i) (nth C (i + 1)) (nth C (i + 2))
  sub : ∀ x ∈ C, x ∈ s

theorem arc_of {s st : List XY} (h : Chain s st) : Arc s st.reverse ∧ (∀ i j, i < j → j < st.length → before (nth st.reverse i) (nth st.reverse j) = true) := by
  have hl : st.reverse.length = st.length := List.length_reverse
  refine ⟨⟨fun i hi p hp => ?_, fun i hi => ?_, fun x hx => h.sub x (by simpa using hx)⟩, fun i j hij hj => ?_⟩
  · rw [hl] at hi
    rw [nth_rev (by omega), nth_rev (by omega)]
    have := left_idx (h.left p hp) (st.length - 1 - (i + 1)) (by omega)
    rwa [show st.length - 1 - (i + 1) + 1 = st.length - 1 - i by omega] at this
  · rw [hl] at hi
    rw [nth_rev (by omega), nth_rev (by omega), nth_rev (by omega)]
    have := bent_idx h.bent (st.length - 1 - (i + 2)) (by omega)
    rwa [show st.length - 1 - (i + 2) + 2 = st.length - 1 - i by omega, show st.length - 1 - (i + 2) + 1 = st.length - 1 - (i + 1) by omega] at this
  · rw [nth_rev (by omega), nth_rev (by omega)]
    exact down_idx h.down _ _ (by omega) (by omega)

def negP (p : XY) : XY := ⟨-p.x, -p.y⟩
theorem negP_negP (p : XY) : negP (negP p) = p := by cases p; simp [negP]
theorem cross_neg (a b c : XY) : crossN (negP a) (negP b) (negP c) = crossN a b c := by simp only [crossN, negP]; grind
theorem before_neg (a b : XY) : before (negP a) (negP b) = before b a := by
  rw [Bool.eq_iff_iff, before_iff, before_iff]
  simp only [negP]
  omega
theorem pop_neg (q : XY) : ∀ l : List XY, pop (negP q) (l.map negP) = (pop q l).map negP
  | [] => rfl
  | [a] => rfl
  | b :: a :: r => by
    show pop (negP q) (negP b :: negP a :: r.map negP) = _
    by_cases hc : crossN a b q ≤ 0
    · rw [pop_cons hc, pop_cons (by rw [cross_neg]; exact hc)]
      exact pop_neg q (a :: r)
    · rw [pop_stop hc, pop_stop (by rw [cross_neg]; exact hc)]
      rfl
theorem foldl_neg : ∀ (l st : List XY), (l.map negP).foldl (fun st q => q :: pop q st) (st.map negP) = (l.foldl (fun st q => q :: pop q st) st).map negP
  | [], st => rfl
  | q :: l, st => by
    rw [List.map_cons, List.foldl_cons, List.foldl_cons, pop_neg]
    exact foldl_neg l (q :: pop q st)
theorem chainR_neg (l : List XY) : chainR (l.map negP) = (chainR l).map negP := by
  have := foldl_neg l []
  simpa [chainR] using this
theorem ord_neg {s : List XY} (h : Ord s) : Ord (s.reverse.map negP) := by
  unfold Ord at *
  rw [List.pairwise_map, List.pairwise_reverse]
  exact h.imp fun hab => by rw [before_neg]; exact hab

theorem lower_arc {s : List XY} (h : Ord s) : Arc s (chainN s) ∧ (∀ i j, i < j → j < (chainN s).length → before (nth (chainN s) i) (nth (chainN s) j) = true) := by
  obtain ⟨h1, h2⟩ := arc_of (chain_spec h)
  refine ⟨h1, fun i j hij hj => h2 i j hij ?_⟩
  simpa [chainN] using hj
theorem upper_arc {s : List XY} (h : Ord s) : Arc s (chainN s.reverse) ∧ (∀ i j, i < j → j < (chainN s.reverse).length → before (nth (chainN s.reverse) j) (nth (chainN s.reverse) i) = true) := by
  obtain ⟨h1, h2⟩ := arc_of (chain_spec (ord_neg h))
  rw [chainR_neg] at h1 h2
  have e : ((chainR s.reverse).map negP).reverse = (chainN s.reverse).map negP := by rw [chainN, List.map_reverse]
  rw [e] at h1 h2
  have hlen : (chainN s.reverse).length = (chainR s.reverse).length := by rw [chainN, List.length_reverse]
  have hm : ((chainN s.reverse).map negP).length = (chainN s.reverse).length := List.length_map _
  refine ⟨⟨fun i hi p hp => ?_, fun i hi => ?_, fun x hx => ?_⟩, fun i j hij hj => ?_⟩
  · have := h1.left i (by rw [hm]; exact hi) (negP p) (by simp only [List.mem_map, List.mem_reverse]; exact ⟨p, hp, rfl⟩)
    rwa [nth_map _ (by omega), nth_map _ (by omega), cross_neg] at this
  · have := h1.bent i (by rw [hm]; exact hi)
    rwa [nth_map _ (by omega), nth_map _ (by omega), nth_map _ (by omega), cross_neg] at this
  · have := h1.sub (negP x) (List.mem_map.2 ⟨x, hx, rfl⟩)
    simp only [List.mem_map, List.mem_reverse] at this
    obtain ⟨y, hy, e⟩ := this
    have : y = x := by rw [← negP_negP y, e, negP_negP]
    exact this ▸ hy
  · have := h2 i j hij (by rw [List.length_map, ← hlen]; exact hj)
    rwa [nth_map _ (by omega), nth_map _ (by omega), before_neg] at this

/-- The first and the last of a chain. -/
theorem chain_last {s : List XY} (hne : s ≠ []) : ∃ r, chainR s = s.getLast hne :: r := by
  obtain ⟨l, x, rfl⟩ : ∃ r x, s = r ++ [x] := ⟨s.dropLast, s.getLast hne, (List.dropLast_concat_getLast hne).symm⟩
  rw [chainR, List.foldl_append]
  exact ⟨_, by simp; rfl⟩
theorem pop_bot (q : XY) : ∀ (st : List XY) (a : XY), ∃ pre, pop q (st ++ [a]) = pre ++ [a]
  | [], a => ⟨[], rfl⟩
  | [b], a => by
    by_cases hc : crossN a b q ≤ 0
    · exact ⟨[], by show pop q (b :: a :: []) = _; rw [pop_cons hc]; rfl⟩
    · exact ⟨[b], by show pop q (b :: a :: []) = _; rw [pop_stop hc]; rfl⟩
  | b :: c :: r, a => by
    by_cases hc : crossN c b q ≤ 0
    · obtain ⟨pre, h⟩ := pop_bot q (c :: r) a
      exact ⟨pre, by show pop q (b :: c :: (r ++ [a])) = _; rw [pop_cons hc]; exact h⟩
    · exact ⟨b :: c :: r, by show pop q (b :: c :: (r ++ [a])) = _; rw [pop_stop hc]; rfl⟩
theorem foldl_bot : ∀ (l st : List XY) (a : XY), ∃ pre, l.foldl (fun st q => q :: pop q st) (st ++ [a]) = pre ++ [a]
  | [], st, a => ⟨st, rfl⟩
  | q :: l, st, a => by
    obtain ⟨pre, h⟩ := pop_bot q st a
    rw [List.foldl_cons, h]
    exact foldl_bot l (q :: pre) a
theorem chain_first (a : XY) (s : List XY) : ∃ pre, chainR (a :: s) = pre ++ [a] := by
  have := foldl_bot s [] a
  simpa [chainR, pop] using this
theorem chainN_ends {s : List XY} (h : s ≠ []) : nth (chainN s) 0 = nth s 0 ∧ nth (chainN s) ((chainN s).length - 1) = nth s (s.length - 1) := by
  obtain ⟨a, s', rfl⟩ : ∃ a s', s = a :: s' := by
    match s, h with
    | a :: s', _ => exact ⟨a, s', rfl⟩
  obtain ⟨pre, e1⟩ := chain_first a s'
  obtain ⟨r, e2⟩ := chain_last h
  constructor
  · rw [chainN, e1, List.reverse_append]; rfl
  · have e3 : chainN (a :: s') = r.reverse ++ [(a :: s').getLast h] := by rw [chainN, e2, List.reverse_cons]
    rw [e3]
    have := nth_app2 (l := r.reverse) (m := [(a :: s').getLast h]) (j := 0) (by simp)
    rw [show (r.reverse ++ [(a :: s').getLast h]).length - 1 = r.reverse.length + 0 by simp, this]
    refine (nth_get ?_).symm
    rw [← List.getLast?_eq_getElem?, List.getLast?_eq_some_getLast h]
    rfl
end Go.Proofs.Yticandbdabgkeaa.Am

namespace Go.Proofs.Yticandbdabgkeaa.Am
open Go

/-- Three points on a line through two. -/
theorem line_three {f l a b c : XY} (hfl : before f l = true) (ha : crossN f l a = 0) (hb : crossN f l b = 0) (hc : crossN f l c = 0) : crossN a b c = 0 := by
  have h1 : (l.x - f.x) * crossN a b c = (b.x - a.x) * (crossN f l c - crossN f l a) - (c.x - a.x) * (crossN f l b - crossN f l a) := by simp only [crossN]; grind
  have h2 : (l.y - f.y) * crossN a b c = (b.y - a.y) * (crossN f l c - crossN f l a) - (c.y - a.y) * (crossN f l b - crossN f l a) := by simp only [crossN]; grind
  rw [ha, hb, hc] at h1 h2
  simp only [Int.sub_self, Int.mul_zero] at h1 h2
  rcases lexP_of hfl with h | ⟨_, h⟩
  · rcases Int.mul_eq_zero.1 h1 with h0 | h0
    · omega
    · exact h0
  · rcases Int.mul_eq_zero.1 h2 with h0 | h0
    · omega
    · exact h0

/-- At a right end: if the turn is straight, everything lies on one line. -/
theorem right_end {a z u p : XY} (haz : before a z = true) (huz : before u z = true) (hpz : p = z ∨ before p z = true) (h0 : crossN a z u = 0) (h1 : 0 ≤ crossN a z p) (h2 : 0 ≤ crossN z u p) : crossN a z p = 0 := by
  rcases hpz with rfl | hpz
  · exact cross_self a p
  have e0 : crossN a z u = -((z.x - a.x) * (z.y - u.y) - (z.y - a.y) * (z.x - u.x)) := by simp only [crossN]; grind
  have e1 : crossN a z p = -((z.x - a.x) * (z.y - p.y) - (z.y - a.y) * (z.x - p.x)) := by simp only [crossN]; grind
  have e2 : crossN z u p = (z.x - u.x) * (z.y - p.y) - (z.y - u.y) * (z.x - p.x) := by simp only [crossN]; grind
  have := ang_le (lexP_of haz) (lexP_of huz) (lexP_of hpz) (by omega) (by omega)
  omega
/-- At a left end. -/
theorem left_end {a z u p : XY} (hza : before z a = true) (hzu : before z u = true) (hzp : p = z ∨ before z p = true) (h0 : crossN a z u = 0) (h1 : 0 ≤ crossN a z p) (h2 : 0 ≤ crossN z u p) : crossN a z p = 0 := by
  rcases hzp with rfl | hzp
  · exact cross_self a p
  have e0 : crossN a z u = -((a.x - z.x) * (u.y - z.y) - (a.y - z.y) * (u.x - z.x)) := by simp only [crossN]; grind
  have e1 : crossN a z p = -((a.x - z.x) * (p.y - z.y) - (a.y - z.y) * (p.x - z.x)) := by simp only [crossN]; grind
  have e2 : crossN z u p = (u.x - z.x) * (p.y - z.y) - (u.y - z.y) * (p.x - z.x) := rfl
  have := ang_le (lexP_of hza) (lexP_of hzu) (lexP_of hzp) (by omega) (by omega)
  omega

/-- A ring of corners, every point of s to the left of every edge; up to the corner m rightwards, from there on back. -/
structure Hull (s H : List XY) (m : Nat) : Prop where
  three : 3 ≤ H.length
  sub : ∀ x ∈ H, x ∈ s
  left : ∀ i, i < H.length → ∀ p ∈ s, 0 ≤ crossN (nth H i) (nxt H i) p
  turn : ∀ i, i < H.length → 0 < crossN (nth H i) (nxt H i) (nxt H ((i + 1) % H.length))
  first : ∀ p ∈ s, p = nth H 0 ∨ before (nth H 0) p = true
  last : ∀ p ∈ s, p = nth H m ∨ before p (nth H m) = true
  mid : 0 < m ∧ m < H.length
  fwd : ∀ i, i < m → before (nth H i) (nxt H i) = true
  back : ∀ i, m ≤ i → i < H.length → before (nxt H i) (nth H i) = true

theorem ord_ends {s : List XY} (h : Ord s) : (∀ p ∈ s, p = nth s 0 ∨ before (nth s 0) p = true) ∧ (∀ p ∈ s, p = nth s (s.length - 1) ∨ before p (nth s (s.length - 1)) = true) := by
  have hidx : ∀ i j, i < j → j < s.length → before (nth s i) (nth s j) = true := fun i j hij hj => by
    have := List.pairwise_iff_getElem.1 h i j (by omega) hj hij
    rwa [← nth_get (List.getElem?_eq_getElem (show i < s.length by omega)), ← nth_get (List.getElem?_eq_getElem hj)] at this
  have hget : ∀ p ∈ s, ∃ i, i < s.length ∧ p = nth s i := fun p hp => by
    obtain ⟨i, hi, e⟩ := List.getElem_of_mem hp
    exact ⟨i, hi, by rw [nth_get (List.getElem?_eq_getElem hi), e]⟩
  constructor
  · intro p hp
    obtain ⟨i, hi, rfl⟩ := hget p hp
    rcases Nat.eq_zero_or_pos i with rfl | h0
    · exact .inl rfl
    · exact .inr (hidx 0 i h0 hi)
  · intro p hp
    obtain ⟨i, hi, rfl⟩ := hget p hp
    rcases Nat.lt_or_ge i (s.length - 1) with h0 | h0
    · exact .inr (hidx i _ h0 (by omega))
    · rw [show i = s.length - 1 by omega]; exact .inl rfl

/-- The ring that two arcs make. -/
theorem ring_nth {L U : List XY} (hL : 2 ≤ L.length) (hU : 2 ≤ U.length) (h1 : nth L (L.length - 1) = nth U 0) (h2 : nth U (U.length - 1) = nth L 0) :
    (L.dropLast ++ U.dropLast).length = (L.length - 1) + (U.length - 1) ∧
    (∀ i, i < L.length → nth (L.dropLast ++ U.dropLast) i = nth L i) ∧
    (∀ j, j + 1 < U.length → nth (L.dropLast ++ U.dropLast) ((L.length - 1) + j) = nth U j) ∧
    (∀ i, i + 1 < L.length → nxt (L.dropLast ++ U.dropLast) i = nth L (i + 1)) ∧
    (∀ j, j + 1 < U.length → nxt (L.dropLast ++ U.dropLast) ((L.length - 1) + j) = nth U (j + 1)) := by
  have hn : (L.dropLast ++ U.dropLast).length = (L.length - 1) + (U.length - 1) := by simp
  have a2 : ∀ j, j + 1 < U.length → nth (L.dropLast ++ U.dropLast) ((L.length - 1) + j) = nth U j := fun j hj => by
    have := nth_app2 (l := L.dropLast) (m := U.dropLast) (j := j) (by simp; omega)
    rw [List.length_dropLast, nth_dropLast hj] at this
    exact this
  have a1 : ∀ i, i < L.length → nth (L.dropLast ++ U.dropLast) i = nth L i := fun i hi => by
    rcases Nat.lt_or_ge (i + 1) L.length with h | h
    · rw [nth_app1 (by simp; omega), nth_dropLast h]
    · have e : i = (L.length - 1) + 0 := by omega
      rw [e, a2 0 (by omega), Nat.add_zero, h1]
  refine ⟨hn, a1, a2, fun i hi => ?_, fun j hj => ?_⟩
  · rw [nxt, hn, Nat.mod_eq_of_lt (by omega), a1 _ (by omega)]
  · rw [nxt, hn]
    rcases Nat.lt_or_ge (j + 2) U.length with h | h
    · rw [Nat.mod_eq_of_lt (by omega), show L.length - 1 + j + 1 = (L.length - 1) + (j + 1) by omega, a2 _ (by omega)]
    · have e : L.length - 1 + j + 1 = (L.length - 1) + (U.length - 1) := by omega
      rw [e, Nat.mod_self, a1 0 (by omega), ← h2, show j + 1 = U.length - 1 by omega]

theorem hull_spec {s : List XY} (h : Ord s) : (hullS s = [] ∧ ∀ a b c, a ∈ s → b ∈ s → c ∈ s → crossN a b c = 0) ∨ ∃ m, Hull s (hullS s) m := by
  by_cases hs2 : s.length < 2
  · refine .inl ⟨?_, fun a b c ha hb hc => ?_⟩
    · have e1 := chainN_len s
      have e2 := chainN_len s.reverse
      rw [List.length_reverse] at e2
      rw [hullS, if_pos (by omega)]
    · match s, hs2, ha, hb, hc with
      | [x], _, ha, hb, hc =>
        simp only [List.mem_singleton] at ha hb hc
        subst ha hb hc
        exact cross_self _ _
      | _ :: _ :: _, hs2, _, _, _ => simp at hs2; omega
  have hne : s ≠ [] := fun e => by rw [e] at hs2; simp at hs2
  have hrne : s.reverse ≠ [] := by simpa using hne
  obtain ⟨aL, oL⟩ := lower_arc h
  obtain ⟨aU, oU⟩ := upper_arc h
  have l2 := chainN_two s (by omega)
  have u2 := chainN_two s.reverse (by rw [List.length_reverse]; omega)
  obtain ⟨fL, lL⟩ := chainN_ends hne
  obtain ⟨fU, lU⟩ := chainN_ends hrne
  rw [nth_rev (l := s) (i := 0) (by omega), show s.length - 1 - 0 = s.length - 1 by omega] at fU
  rw [List.length_reverse, nth_rev (l := s) (i := s.length - 1) (by omega), show s.length - 1 - (s.length - 1) = 0 by omega] at lU
  obtain ⟨en1, en2⟩ := ord_ends h
  rw [hullS]
  generalize hL : chainN s = L at *
  generalize hU : chainN s.reverse = U at *
  -- the ends as corners
  have hfm : nth s 0 ∈ s := nth_mem (by omega)
  have hlm : nth s (s.length - 1) ∈ s := nth_mem (by omega)
  have hfl : before (nth s 0) (nth s (s.length - 1)) = true := by
    have := oL 0 (L.length - 1) (by omega) (by omega)
    rwa [fL, lL] at this
  by_cases h5 : L.length + U.length < 5
  · rw [if_pos h5]
    refine .inl ⟨rfl, fun a b c ha hb hc => ?_⟩
    have hz : ∀ p ∈ s, crossN (nth s 0) (nth s (s.length - 1)) p = 0 := fun p hp => by
      have k1 := aL.left 0 (by omega) p hp
      have k2 := aU.left 0 (by omega) p hp
      rw [show 0 + 1 = L.length - 1 by omega, fL, lL] at k1
      rw [show 0 + 1 = U.length - 1 by omega, fU, lU, cross_swap] at k2
      omega
    exact line_three hfl (hz a ha) (hz b hb) (hz c hc)
  rw [if_neg h5]
  obtain ⟨hn, a1, a2, a3, a4⟩ := ring_nth l2 u2 (lL.trans fU.symm) (lU.trans fL.symm)
  generalize hH : L.dropLast ++ U.dropLast = H at *
  have hmem : ∀ i, i < L.length → nth L i ∈ s := fun i hi => aL.sub _ (nth_mem hi)
  have hmemU : ∀ i, i < U.length → nth U i ∈ s := fun i hi => aU.sub _ (nth_mem hi)
  -- somewhere there is a true corner
  have bend : ∃ a b c, a ∈ s ∧ b ∈ s ∧ c ∈ s ∧ 0 < crossN a b c := by
    rcases Nat.lt_or_ge 2 L.length with h3 | h3
    · exact ⟨_, _, _, hmem 0 (by omega), hmem 1 (by omega), hmem 2 (by omega), aL.bent 0 (by omega)⟩
    · exact ⟨_, _, _, hmemU 0 (by omega), hmemU 1 (by omega), hmemU 2 (by omega), aU.bent 0 (by omega)⟩
  refine .inr ⟨L.length - 1, by omega, fun x hx => ?_, fun i hi p hp => ?_, fun i hi => ?_, ?_, ?_, by omega, fun i hi => ?_, fun i h1 h2 => ?_⟩
  · rw [← hH] at hx
    rcases List.mem_append.1 hx with hx | hx
    · exact aL.sub x ((List.dropLast_sublist _).subset hx)
    · exact aU.sub x ((List.dropLast_sublist _).subset hx)
  · rcases Nat.lt_or_ge (i + 1) L.length with h1 | h1
    · rw [a1 i (by omega), a3 i h1]; exact aL.left i h1 p hp
    · obtain ⟨j, rfl⟩ : ∃ j, i = (L.length - 1) + j := ⟨i - (L.length - 1), by omega⟩
      rw [a2 j (by omega), a4 j (by omega)]; exact aU.left j (by omega) p hp
  · rcases Nat.lt_or_ge (i + 2) L.length with h1 | h1
    · rw [a1 i (by omega), a3 i (by omega), hn, Nat.mod_eq_of_lt (by omega), a3 (i + 1) (by omega)]
      exact aL.bent i h1
    · rcases Nat.lt_or_ge (i + 1) L.length with h2 | h2
      · -- the right end
        have ei : i + 1 = (L.length - 1) + 0 := by omega
        rw [a1 i (by omega), a3 i h2, hn, Nat.mod_eq_of_lt (by omega), ei, a4 0 (by omega), Nat.add_zero]
        have e1 : L.length - 1 = i + 1 := by omega
        rw [e1]
        have hz : nth L (i + 1) = nth s (s.length - 1) := by rw [← e1]; exact lL
        have hU0 : nth U 0 = nth L (i + 1) := by rw [hz]; exact fU
        have k0 := aL.left i h2 _ (hmemU 1 (by omega))
        rcases Int.lt_or_le 0 (crossN (nth L i) (nth L (i + 1)) (nth U (0 + 1))) with hlt | hle
        · exact hlt
        · exfalso
          obtain ⟨a, b, c, ha, hb, hc, hb0⟩ := bend
          have oz : before (nth U 1) (nth L (i + 1)) = true := by
            have := oU 0 1 (by omega) (by omega)
            rwa [hU0] at this
          have all : ∀ p ∈ s, crossN (nth L i) (nth L (i + 1)) p = 0 := fun p hp => by
            have k2 := aU.left 0 (by omega) p hp
            rw [hU0] at k2
            have hpz : p = nth L (i + 1) ∨ before p (nth L (i + 1)) = true := by rw [hz]; exact en2 p hp
            exact right_end (oL i (i + 1) (by omega) (by omega)) oz hpz (Int.le_antisymm hle k0) (aL.left i h2 p hp) k2
          have := line_three (oL i (i + 1) (by omega) (by omega)) (all a ha) (all b hb) (all c hc)
          omega
      · obtain ⟨j, rfl⟩ : ∃ j, i = (L.length - 1) + j := ⟨i - (L.length - 1), by omega⟩
        rcases Nat.lt_or_ge (j + 2) U.length with h3 | h3
        · rw [a2 j (by omega), a4 j (by omega), hn, Nat.mod_eq_of_lt (by omega), show L.length - 1 + j + 1 = (L.length - 1) + (j + 1) by omega, a4 (j + 1) (by omega)]
          exact aU.bent j h3
        · -- the left end
          have ej : j + 1 = U.length - 1 := by omega
          rw [a2 j (by omega), a4 j (by omega), hn, show L.length - 1 + j + 1 = (L.length - 1) + (U.length - 1) by omega, Nat.mod_self, a3 0 (by omega), ej, lU]
          have k0 := aU.left j (by omega) _ (hmem 1 (by omega))
          rw [ej, lU] at k0
          rcases Int.lt_or_le 0 (crossN (nth U j) (nth s 0) (nth L (0 + 1))) with hlt | hle
          · exact hlt
          · exfalso
            obtain ⟨a, b, c, ha, hb, hc, hb0⟩ := bend
            have oz : before (nth s 0) (nth U j) = true := by
              have := oU j (U.length - 1) (by omega) (by omega)
              rwa [lU] at this
            have ou : before (nth s 0) (nth L 1) = true := by
              have := oL 0 1 (by omega) (by omega)
              rwa [fL] at this
            have all : ∀ p ∈ s, crossN (nth s 0) (nth U j) p = 0 := fun p hp => by
              have k1 := aU.left j (by omega) p hp
              rw [ej, lU] at k1
              have k2 := aL.left 0 (by omega) p hp
              rw [fL] at k2
              have := left_end oz ou (en1 p hp) (Int.le_antisymm hle k0) k1 k2
              rw [cross_swap, this]; rfl
            have := line_three oz (all a ha) (all b hb) (all c hc)
            omega
  · rw [a1 0 (by omega), fL]; exact en1
  · rw [a1 _ (by omega), lL]; exact en2
  · rw [a1 i (by omega), a3 i (by omega)]; exact oL i (i + 1) (by omega) (by omega)
  · obtain ⟨j, rfl⟩ : ∃ j, i = (L.length - 1) + j := ⟨i - (L.length - 1), by omega⟩
    rw [a2 j (by omega), a4 j (by omega)]; exact oU j (j + 1) (by omega) (by omega)
end Go.Proofs.Yticandbdabgkeaa.Am

namespace Go.Proofs.Yticandbdabgkeaa.Am
open Go

/-- To the left of every edge. -/
def Reg (H : List XY) (q : XY) : Prop := ∀ i, i < H.length → 0 ≤ crossN (nth H i) (nxt H i) q

theorem cyc_all {n : Nat} {Q : Nat → Prop} {i0 : Nat} (h0 : i0 < n) (hQ : Q i0) (hs : ∀ i, i < n → Q i → Q ((i + 1) % n)) : ∀ i, i < n → Q i := by
  have hn : 0 < n := by omega
  have key : ∀ k, Q ((i0 + k) % n) := fun k => by
    induction k with
    | zero => rw [Nat.add_zero, Nat.mod_eq_of_lt h0]; exact hQ
    | succ k ih =>
      have := hs _ (Nat.mod_lt _ hn) ih
      rwa [Nat.mod_add_mod] at this
  intro i hi
  have := key (i + n - i0)
  rw [show i0 + (i + n - i0) = i + n by omega, Nat.add_mod_right, Nat.mod_eq_of_lt hi] at this
  exact this
theorem exists_min (f : Nat → Int) : ∀ n, 0 < n → ∃ i, i < n ∧ ∀ j, j < n → f i ≤ f j
  | 0, h => by omega
  | 1, _ => ⟨0, by omega, fun j hj => by rw [show j = 0 by omega]; exact Int.le_refl _⟩
  | n + 2, _ => by
    obtain ⟨i, hi, h⟩ := exists_min f (n + 1) (by omega)
    rcases Int.le_total (f i) (f (n + 1)) with h1 | h1
    · refine ⟨i, by omega, fun j hj => ?_⟩
      rcases Nat.lt_or_eq_of_le (Nat.lt_succ_iff.1 hj) with h2 | rfl
      · exact h j h2
      · exact h1
    · refine ⟨n + 1, by omega, fun j hj => ?_⟩
      rcases Nat.lt_or_eq_of_le (Nat.lt_succ_iff.1 hj) with h2 | rfl
      · exact Int.le_trans h1 (h j h2)
      · exact Int.le_refl _

/-- In the cone of a corner. -/
theorem cone {a b c q : XY} {α β : Int} (h : 0 < crossN a b c) (h1 : 0 ≤ crossN a b q) (h2 : 0 ≤ crossN b c q) (ha : α * b.x + β * b.y ≤ α * a.x + β * a.y) (hc : α * b.x + β * b.y ≤ α * c.x + β * c.y) :
    α * b.x + β * b.y ≤ α * q.x + β * q.y := by
  have hid : crossN a b c * ((α * q.x + β * q.y) - (α * b.x + β * b.y)) = crossN b c q * ((α * a.x + β * a.y) - (α * b.x + β * b.y)) + crossN a b q * ((α * c.x + β * c.y) - (α * b.x + β * b.y)) := by
    simp only [crossN]; grind
  have e1 := Int.mul_nonneg h2 (show 0 ≤ (α * a.x + β * a.y) - (α * b.x + β * b.y) by omega)
  have e2 := Int.mul_nonneg h1 (show 0 ≤ (α * c.x + β * c.y) - (α * b.x + β * b.y) by omega)
  have := nonneg_of_mul h (show 0 ≤ crossN a b c * ((α * q.x + β * q.y) - (α * b.x + β * b.y)) by rw [hid]; omega)
  omega

theorem nxt_nth {H : List XY} {i : Nat} : nxt H i = nth H ((i + 1) % H.length) := rfl
section
variable {s H : List XY} {m : Nat} (hH : Hull s H m)
include hH
/-- A linear function is nowhere smaller than at the corners. -/
theorem Hull.least {q : XY} (hq : Reg H q) (α β : Int) : ∃ i, i < H.length ∧ (∀ j, j < H.length → α * (nth H i).x + β * (nth H i).y ≤ α * (nth H j).x + β * (nth H j).y) ∧ α * (nth H i).x + β * (nth H i).y ≤ α * q.x + β * q.y := by
  have h3 := hH.three
  obtain ⟨i, hi, hmin⟩ := exists_min (fun i => α * (nth H i).x + β * (nth H i).y) H.length (by omega)
  refine ⟨i, hi, hmin, ?_⟩
  obtain ⟨p, hp, hpi⟩ : ∃ p, p < H.length ∧ (p + 1) % H.length = i := by
    rcases Nat.eq_zero_or_pos i with rfl | h0
    · exact ⟨H.length - 1, by omega, by rw [show H.length - 1 + 1 = H.length by omega, Nat.mod_self]⟩
    · exact ⟨i - 1, by omega, by rw [show i - 1 + 1 = i by omega, Nat.mod_eq_of_lt hi]⟩
  have hb : nxt H p = nth H i := by rw [nxt_nth, hpi]
  have ht := hH.turn p hp
  have k1 := hq p hp
  have k2 := hq i hi
  rw [hpi, hb] at ht
  rw [hb] at k1
  exact cone ht k1 k2 (hmin p hp) (hmin _ (Nat.mod_lt _ (by omega)))
theorem Hull.corner (i : Nat) (hi : i < H.length) : Reg H (nth H i) := fun j hj => hH.left j hj _ (hH.sub _ (nth_mem hi))
theorem Hull.point {p : XY} (hp : p ∈ s) : Reg H p := fun j hj => hH.left j hj _ hp
/-- Within the bounds of the corners. -/
theorem Hull.within {q : XY} (hq : Reg H q) (r : Rc) (hr : ∀ p ∈ H, r.xa ≤ p.x ∧ p.x ≤ r.xb ∧ r.ya ≤ p.y ∧ p.y ≤ r.yb) : r.xa ≤ q.x ∧ q.x ≤ r.xb ∧ r.ya ≤ q.y ∧ q.y ≤ r.yb := by
  obtain ⟨i1, h1, _, k1⟩ := hH.least hq 1 0
  obtain ⟨i2, h2, _, k2⟩ := hH.least hq (-1) 0
  obtain ⟨i3, h3, _, k3⟩ := hH.least hq 0 1
  obtain ⟨i4, h4, _, k4⟩ := hH.least hq 0 (-1)
  have b1 := hr _ (nth_mem h1)
  have b2 := hr _ (nth_mem h2)
  have b3 := hr _ (nth_mem h3)
  have b4 := hr _ (nth_mem h4)
  omega
end

/-- A point of the segment between two corners, at the height y: to the left of x. -/
def PtLe (H : List XY) (x y : Int) : Prop := ∃ s t : XY, ∃ a b : Int, s ∈ H ∧ t ∈ H ∧ 0 ≤ a ∧ 0 ≤ b ∧ 0 < a + b ∧ a * s.y + b * t.y = (a + b) * y ∧ a * s.x + b * t.x ≤ (a + b) * x
def PtGe (H : List XY) (x y : Int) : Prop := ∃ s t : XY, ∃ a b : Int, s ∈ H ∧ t ∈ H ∧ 0 ≤ a ∧ 0 ≤ b ∧ 0 < a + b ∧ a * s.y + b * t.y = (a + b) * y ∧ (a + b) * x ≤ a * s.x + b * t.x

theorem reg_between {s H : List XY} {m : Nat} (hH : Hull s H m) {x y : Int} (h1 : PtLe H x y) (h2 : PtGe H x y) : Reg H ⟨x, y⟩ := by
  intro i hi
  have hc : ∀ p ∈ H, 0 ≤ crossN (nth H i) (nxt H i) p := fun p hp => hH.left i hi p (hH.sub p hp)
  generalize nth H i = A at hc
  generalize nxt H i = B at hc
  rcases Int.le_total B.y A.y with hd | hd
  · obtain ⟨s, t, a, b, hs, ht, ha, hb, hab, hy, hx⟩ := h1
    have e1 := Int.mul_nonneg ha (hc s hs)
    have e2 := Int.mul_nonneg hb (hc t ht)
    have e3 := Int.mul_nonneg (show 0 ≤ A.y - B.y by omega) (show 0 ≤ (a + b) * x - (a * s.x + b * t.x) by omega)
    refine nonneg_of_mul hab ?_
    have hid : (a + b) * crossN A B ⟨x, y⟩ = a * crossN A B s + b * crossN A B t + (A.y - B.y) * ((a + b) * x - (a * s.x + b * t.x)) + (B.x - A.x) * ((a + b) * y - (a * s.y + b * t.y)) := by simp only [crossN]; grind
    rw [hid, hy, Int.sub_self, Int.mul_zero]
    omega
  · obtain ⟨s, t, a, b, hs, ht, ha, hb, hab, hy, hx⟩ := h2
    have e1 := Int.mul_nonneg ha (hc s hs)
    have e2 := Int.mul_nonneg hb (hc t ht)
    have e3 := Int.mul_nonneg (show 0 ≤ B.y - A.y by omega) (show 0 ≤ (a * s.x + b * t.x) - (a + b) * x by omega)
    refine nonneg_of_mul hab ?_
    have hid : (a + b) * crossN A B ⟨x, y⟩ = a * crossN A B s + b * crossN A B t + (B.y - A.y) * ((a * s.x + b * t.x) - (a + b) * x) + (B.x - A.x) * ((a + b) * y - (a * s.y + b * t.y)) := by simp only [crossN]; grind
    rw [hid, hy, Int.sub_self, Int.mul_zero]
    omega

/-- An edge that goes up past a height, and one that goes down. -/
theorem up_edge {H : List XY} {y : Int} {i0 j0 : Nat} (hi : i0 < H.length) (hj : j0 < H.length) (h1 : (nth H i0).y ≤ y) (h2 : y ≤ (nth H j0).y) (hlt : (nth H i0).y < (nth H j0).y) :
    ∃ i, i < H.length ∧ (nth H i).y ≤ y ∧ y ≤ (nxt H i).y ∧ (nth H i).y < (nxt H i).y := by
  rcases Classical.em (∃ i, i < H.length ∧ (nth H i).y ≤ y ∧ y ≤ (nxt H i).y ∧ (nth H i).y < (nxt H i).y) with h | h
  · exact h
  exfalso
  have hle := cyc_all (Q := fun i => (nth H i).y ≤ y) hi h1 fun i hi hQ => by
    rcases Int.lt_or_le y (nxt H i).y with hh | hh
    · exact absurd ⟨i, hi, hQ, by omega, by omega⟩ h
    · exact hh
  have e : (nth H j0).y = y := by have := hle j0 hj; omega
  have hlt' := cyc_all (Q := fun i => (nth H i).y < y) hi (by omega) fun i hi hQ => by
    rcases Int.lt_or_le (nxt H i).y y with hh | hh
    · exact hh
    · exact absurd ⟨i, hi, by omega, hh, by omega⟩ h
  have := hlt' j0 hj
  omega
theorem down_edge {H : List XY} {y : Int} {i0 j0 : Nat} (hi : i0 < H.length) (hj : j0 < H.length) (h1 : (nth H i0).y ≤ y) (h2 : y ≤ (nth H j0).y) (hlt : (nth H i0).y < (nth H j0).y) :
    ∃ i, i < H.length ∧ y ≤ (nth H i).y ∧ (nxt H i).y ≤ y ∧ (nxt H i).y < (nth H i).y := by
  rcases Classical.em (∃ i, i < H.length ∧ y ≤ (nth H i).y ∧ (nxt H i).y ≤ y ∧ (nxt H i).y < (nth H i).y) with h | h
  · exact h
  exfalso
  have hle := cyc_all (Q := fun i => y ≤ (nth H i).y) hj h2 fun i hi hQ => by
    rcases Int.lt_or_le (nxt H i).y y with hh | hh
    · exact absurd ⟨i, hi, hQ, by omega, by omega⟩ h
    · exact hh
  have e : (nth H i0).y = y := by have := hle i0 hi; omega
  have hlt' := cyc_all (Q := fun i => y < (nth H i).y) hj (by omega) fun i hi hQ => by
    rcases Int.lt_or_le y (nxt H i).y with hh | hh
    · exact hh
    · exact absurd ⟨i, hi, by omega, hh, by omega⟩ h
  have := hlt' i0 hi
  omega

/-! ### The reference's span at a height -/
theorem up_iff {a b : XY} {x y : Int} (h : 0 < b.y - a.y) : 0 ≤ crossN a b ⟨x, y⟩ ↔ x ≤ a.x + (b.x - a.x) * (y - a.y) / (b.y - a.y) := by
  have h1 := Int.le_ediv_iff_mul_le (a := x - a.x) (b := (b.x - a.x) * (y - a.y)) h
  have e : (x - a.x) * (b.y - a.y) = (b.y - a.y) * (x - a.x) := Int.mul_comm _ _
  have e2 : crossN a b ⟨x, y⟩ = (b.x - a.x) * (y - a.y) - (b.y - a.y) * (x - a.x) := rfl
  rw [e2]
  constructor
  · intro hh
    have := h1.2 (by omega)
    omega
  · intro hh
    have := h1.1 (by omega)
    omega
theorem down_iff {a b : XY} {x y : Int} (h : b.y - a.y < 0) : 0 ≤ crossN a b ⟨x, y⟩ ↔ a.x - (b.x - a.x) * (y - a.y) / (-(b.y - a.y)) ≤ x := by
  have h1 := Int.le_ediv_iff_mul_le (a := a.x - x) (b := (b.x - a.x) * (y - a.y)) (c := -(b.y - a.y)) (by omega)
  have e : (a.x - x) * (-(b.y - a.y)) = (b.y - a.y) * (x - a.x) := by grind
  have e2 : crossN a b ⟨x, y⟩ = (b.x - a.x) * (y - a.y) - (b.y - a.y) * (x - a.x) := rfl
  rw [e2]
  constructor
  · intro hh
    have := h1.2 (by omega)
    omega
  · intro hh
    have := h1.1 (by omega)
    omega
theorem accR_spec (y x : Int) : ∀ (es : List (XY × XY)) (lo hi : Int), ((accR y es lo hi).1 ≤ x ∧ x ≤ (accR y es lo hi).2) ↔ (lo ≤ x ∧ x ≤ hi ∧ ∀ e ∈ es, 0 ≤ crossN e.1 e.2 ⟨x, y⟩)
  | [], lo, hi => by simp [accR]
  | e :: r, lo, hi => by
    rw [accR]
    split
    · rename_i hd
      rw [accR_spec y x r, List.forall_mem_cons, up_iff hd]
      constructor
      · rintro ⟨h1, h2, h3⟩
        exact ⟨by omega, by omega, by omega, h3⟩
      · rintro ⟨h1, h2, h3, h4⟩
        exact ⟨by omega, by omega, h4⟩
    · split
      · rename_i hd
        rw [accR_spec y x r, List.forall_mem_cons, down_iff hd]
        constructor
        · rintro ⟨h1, h2, h3⟩
          exact ⟨by omega, by omega, by omega, h3⟩
        · rintro ⟨h1, h2, h3, h4⟩
          exact ⟨by omega, by omega, h4⟩
      · rename_i hd1 hd2
        have hz : e.2.y - e.1.y = 0 := by omega
        have e2 : crossN e.1 e.2 ⟨x, y⟩ = (e.2.x - e.1.x) * (y - e.1.y) := by
          show (e.2.x - e.1.x) * (y - e.1.y) - (e.2.y - e.1.y) * (x - e.1.x) = _
          rw [hz]; omega
        split
        · rename_i hn
          constructor
          · intro h; simp only at h; omega
          · rintro ⟨_, _, h⟩
            have := h e (by simp)
            omega
        · rw [accR_spec y x r, List.forall_mem_cons, e2]
          constructor
          · rintro ⟨h1, h2, h3⟩
            exact ⟨by omega, by omega, by omega, h3⟩
          · rintro ⟨h1, h2, h3, h4⟩
            exact ⟨by omega, by omega, h4⟩
theorem edges_mem {H : List XY} {e : XY × XY} : e ∈ edgesN H ↔ ∃ i, i < H.length ∧ e = (nth H i, nxt H i) := by
  simp only [edgesN, List.mem_map, List.mem_range]
  constructor
  · rintro ⟨i, h1, h2⟩; exact ⟨i, h1, h2.symm⟩
  · rintro ⟨i, h1, h2⟩; exact ⟨i, h1, h2.symm⟩
theorem accR_reg {H : List XY} (y x lo hi : Int) : ((accR y (edgesN H) lo hi).1 ≤ x ∧ x ≤ (accR y (edgesN H) lo hi).2) ↔ (lo ≤ x ∧ x ≤ hi ∧ Reg H ⟨x, y⟩) := by
  rw [accR_spec]
  constructor
  · rintro ⟨h1, h2, h3⟩
    exact ⟨h1, h2, fun i hi => h3 (nth H i, nxt H i) (edges_mem.2 ⟨i, hi, rfl⟩)⟩
  · rintro ⟨h1, h2, h3⟩
    refine ⟨h1, h2, fun e he => ?_⟩
    obtain ⟨i, hi, rfl⟩ := edges_mem.1 he
    exact h3 i hi
theorem nxt_mem {H : List XY} {i : Nat} (hi : i < H.length) : nxt H i ∈ H := nth_mem (Nat.mod_lt _ (by omega))
theorem hullN_spec (l : List XY) : hullN l = [] ∨ (Comp l ∧ ∃ m, Hull (sortedN l) (hullN l) m) := by
  unfold hullN
  split
  · rename_i hc
    rcases hull_spec (sortedN_ord l) with ⟨h, _⟩ | ⟨m, h⟩
    · exact .inl h
    · exact .inr ⟨(compN_iff l).1 hc, m, h⟩
  · exact .inl rfl
end Go.Proofs.Yticandbdabgkeaa.Am
