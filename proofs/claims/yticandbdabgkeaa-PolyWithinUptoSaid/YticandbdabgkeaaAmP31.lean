/- The statement on a chord's rectangle, as a run. No condition: lemmas. -/
import Derived.Test.YticandbdabgkeaaAmP29
import Derived.Test.YticandbdabgkeaaAmP24
namespace Go.Proofs.Yticandbdabgkeaa.Am
open Go
set_option maxRecDepth 100000

def insideN (H : List XY) (a b low high : Int) : Bool := hasP H ⟨a, low⟩ && (hasP H ⟨a, high⟩ && (hasP H ⟨b, low⟩ && hasP H ⟨b, high⟩))
theorem inside_pure (H : List XY) (hl : H.length ≤ 1000000) (a b low high : Int) : Pure Try.prog G0 33 [.sl 2 (H.map eP), .i a, .i b, .i low, .i high] (.bool (insideN H a b low high)) := by
  have h1 := has_pure H hl ⟨a, low⟩
  have h2 := has_pure H hl ⟨a, high⟩
  have h3 := has_pure H hl ⟨b, low⟩
  have h4 := has_pure H hl ⟨b, high⟩
  unfold insideN
  generalize hasP H ⟨a, low⟩ = r1 at *
  generalize hasP H ⟨a, high⟩ = r2 at *
  generalize hasP H ⟨b, low⟩ = r3 at *
  generalize hasP H ⟨b, high⟩ = r4 at *
  cases r1 with
  | false =>
    refine pure_of mixed Try.func33 rfl rfl (Nat.le_of_ble_eq_true rfl) ?_
    conv => whnf
    repeat (refine And.intro ?_ ?_; (first | (with_reducible show okR _ _ _ _ = true; kernel_rfl) | (with_reducible show addC _ _ _ = _; kernel_rfl) | rfl | trivial | kernel_rfl | omega | exact Nat.le_of_ble_eq_true rfl | exact lt_len0 rfl | exact lt_len1 rfl); conv => whnf)
    refine callP_of (pt_pure a low) ?_
    conv => whnf
    repeat (refine And.intro ?_ ?_; (first | (with_reducible show okR _ _ _ _ = true; kernel_rfl) | (with_reducible show addC _ _ _ = _; kernel_rfl) | rfl | trivial | kernel_rfl | omega | exact Nat.le_of_ble_eq_true rfl | exact lt_len0 rfl | exact lt_len1 rfl); conv => whnf)
    refine callP_of (h1) ?_
    conv => whnf
    repeat (refine And.intro ?_ ?_; (first | (with_reducible show okR _ _ _ _ = true; kernel_rfl) | (with_reducible show addC _ _ _ = _; kernel_rfl) | rfl | trivial | kernel_rfl | omega | exact Nat.le_of_ble_eq_true rfl | exact lt_len0 rfl | exact lt_len1 rfl); conv => whnf)
    exact rfl
  | true =>
    cases r2 with
    | false =>
      refine pure_of mixed Try.func33 rfl rfl (Nat.le_of_ble_eq_true rfl) ?_
      conv => whnf
      repeat (refine And.intro ?_ ?_; (first | (with_reducible show okR _ _ _ _ = true; kernel_rfl) | (with_reducible show addC _ _ _ = _; kernel_rfl) | rfl | trivial | kernel_rfl | omega | exact Nat.le_of_ble_eq_true rfl | exact lt_len0 rfl | exact lt_len1 rfl); conv => whnf)
      refine callP_of (pt_pure a low) ?_
      conv => whnf
      repeat (refine And.intro ?_ ?_; (first | (with_reducible show okR _ _ _ _ = true; kernel_rfl) | (with_reducible show addC _ _ _ = _; kernel_rfl) | rfl | trivial | kernel_rfl | omega | exact Nat.le_of_ble_eq_true rfl | exact lt_len0 rfl | exact lt_len1 rfl); conv => whnf)
      refine callP_of (h1) ?_
      conv => whnf
      repeat (refine And.intro ?_ ?_; (first | (with_reducible show okR _ _ _ _ = true; kernel_rfl) | (with_reducible show addC _ _ _ = _; kernel_rfl) | rfl | trivial | kernel_rfl | omega | exact Nat.le_of_ble_eq_true rfl | exact lt_len0 rfl | exact lt_len1 rfl); conv => whnf)
      refine callP_of (pt_pure a high) ?_
      conv => whnf
      repeat (refine And.intro ?_ ?_; (first | (with_reducible show okR _ _ _ _ = true; kernel_rfl) | (with_reducible show addC _ _ _ = _; kernel_rfl) | rfl | trivial | kernel_rfl | omega | exact Nat.le_of_ble_eq_true rfl | exact lt_len0 rfl | exact lt_len1 rfl); conv => whnf)
      refine callP_of (h2) ?_
      conv => whnf
      repeat (refine And.intro ?_ ?_; (first | (with_reducible show okR _ _ _ _ = true; kernel_rfl) | (with_reducible show addC _ _ _ = _; kernel_rfl) | rfl | trivial | kernel_rfl | omega | exact Nat.le_of_ble_eq_true rfl | exact lt_len0 rfl | exact lt_len1 rfl); conv => whnf)
      exact rfl
    | true =>
      cases r3 with
      | false =>
        refine pure_of mixed Try.func33 rfl rfl (Nat.le_of_ble_eq_true rfl) ?_
        conv => whnf
        repeat (refine And.intro ?_ ?_; (first | (with_reducible show okR _ _ _ _ = true; kernel_rfl) | (with_reducible show addC _ _ _ = _; kernel_rfl) | rfl | trivial | kernel_rfl | omega | exact Nat.le_of_ble_eq_true rfl | exact lt_len0 rfl | exact lt_len1 rfl); conv => whnf)
        refine callP_of (pt_pure a low) ?_
        conv => whnf
        repeat (refine And.intro ?_ ?_; (first | (with_reducible show okR _ _ _ _ = true; kernel_rfl) | (with_reducible show addC _ _ _ = _; kernel_rfl) | rfl | trivial | kernel_rfl | omega | exact Nat.le_of_ble_eq_true rfl | exact lt_len0 rfl | exact lt_len1 rfl); conv => whnf)
        refine callP_of (h1) ?_
        conv => whnf
        repeat (refine And.intro ?_ ?_; (first | (with_reducible show okR _ _ _ _ = true; kernel_rfl) | (with_reducible show addC _ _ _ = _; kernel_rfl) | rfl | trivial | kernel_rfl | omega | exact Nat.le_of_ble_eq_true rfl | exact lt_len0 rfl | exact lt_len1 rfl); conv => whnf)
        refine callP_of (pt_pure a high) ?_
        conv => whnf
        repeat (refine And.intro ?_ ?_; (first | (with_reducible show okR _ _ _ _ = true; kernel_rfl) | (with_reducible show addC _ _ _ = _; kernel_rfl) | rfl | trivial | kernel_rfl | omega | exact Nat.le_of_ble_eq_true rfl | exact lt_len0 rfl | exact lt_len1 rfl); conv => whnf)
        refine callP_of (h2) ?_
        conv => whnf
        repeat (refine And.intro ?_ ?_; (first | (with_reducible show okR _ _ _ _ = true; kernel_rfl) | (with_reducible show addC _ _ _ = _; kernel_rfl) | rfl | trivial | kernel_rfl | omega | exact Nat.le_of_ble_eq_true rfl | exact lt_len0 rfl | exact lt_len1 rfl); conv => whnf)
        refine callP_of (pt_pure b low) ?_
        conv => whnf
        repeat (refine And.intro ?_ ?_; (first | (with_reducible show okR _ _ _ _ = true; kernel_rfl) | (with_reducible show addC _ _ _ = _; kernel_rfl) | rfl | trivial | kernel_rfl | omega | exact Nat.le_of_ble_eq_true rfl | exact lt_len0 rfl | exact lt_len1 rfl); conv => whnf)
        refine callP_of (h3) ?_
        conv => whnf
        repeat (refine And.intro ?_ ?_; (first | (with_reducible show okR _ _ _ _ = true; kernel_rfl) | (with_reducible show addC _ _ _ = _; kernel_rfl) | rfl | trivial | kernel_rfl | omega | exact Nat.le_of_ble_eq_true rfl | exact lt_len0 rfl | exact lt_len1 rfl); conv => whnf)
        exact rfl
      | true =>
        refine pure_of mixed Try.func33 rfl rfl (Nat.le_of_ble_eq_true rfl) ?_
        conv => whnf
        repeat (refine And.intro ?_ ?_; (first | (with_reducible show okR _ _ _ _ = true; kernel_rfl) | (with_reducible show addC _ _ _ = _; kernel_rfl) | rfl | trivial | kernel_rfl | omega | exact Nat.le_of_ble_eq_true rfl | exact lt_len0 rfl | exact lt_len1 rfl); conv => whnf)
        refine callP_of (pt_pure a low) ?_
        conv => whnf
        repeat (refine And.intro ?_ ?_; (first | (with_reducible show okR _ _ _ _ = true; kernel_rfl) | (with_reducible show addC _ _ _ = _; kernel_rfl) | rfl | trivial | kernel_rfl | omega | exact Nat.le_of_ble_eq_true rfl | exact lt_len0 rfl | exact lt_len1 rfl); conv => whnf)
        refine callP_of (h1) ?_
        conv => whnf
        repeat (refine And.intro ?_ ?_; (first | (with_reducible show okR _ _ _ _ = true; kernel_rfl) | (with_reducible show addC _ _ _ = _; kernel_rfl) | rfl | trivial | kernel_rfl | omega | exact Nat.le_of_ble_eq_true rfl | exact lt_len0 rfl | exact lt_len1 rfl); conv => whnf)
        refine callP_of (pt_pure a high) ?_
        conv => whnf
        repeat (refine And.intro ?_ ?_; (first | (with_reducible show okR _ _ _ _ = true; kernel_rfl) | (with_reducible show addC _ _ _ = _; kernel_rfl) | rfl | trivial | kernel_rfl | omega | exact Nat.le_of_ble_eq_true rfl | exact lt_len0 rfl | exact lt_len1 rfl); conv => whnf)
        refine callP_of (h2) ?_
        conv => whnf
        repeat (refine And.intro ?_ ?_; (first | (with_reducible show okR _ _ _ _ = true; kernel_rfl) | (with_reducible show addC _ _ _ = _; kernel_rfl) | rfl | trivial | kernel_rfl | omega | exact Nat.le_of_ble_eq_true rfl | exact lt_len0 rfl | exact lt_len1 rfl); conv => whnf)
        refine callP_of (pt_pure b low) ?_
        conv => whnf
        repeat (refine And.intro ?_ ?_; (first | (with_reducible show okR _ _ _ _ = true; kernel_rfl) | (with_reducible show addC _ _ _ = _; kernel_rfl) | rfl | trivial | kernel_rfl | omega | exact Nat.le_of_ble_eq_true rfl | exact lt_len0 rfl | exact lt_len1 rfl); conv => whnf)
        refine callP_of (h3) ?_
        conv => whnf
        repeat (refine And.intro ?_ ?_; (first | (with_reducible show okR _ _ _ _ = true; kernel_rfl) | (with_reducible show addC _ _ _ = _; kernel_rfl) | rfl | trivial | kernel_rfl | omega | exact Nat.le_of_ble_eq_true rfl | exact lt_len0 rfl | exact lt_len1 rfl); conv => whnf)
        refine callP_of (pt_pure b high) ?_
        conv => whnf
        repeat (refine And.intro ?_ ?_; (first | (with_reducible show okR _ _ _ _ = true; kernel_rfl) | (with_reducible show addC _ _ _ = _; kernel_rfl) | rfl | trivial | kernel_rfl | omega | exact Nat.le_of_ble_eq_true rfl | exact lt_len0 rfl | exact lt_len1 rfl); conv => whnf)
        refine callP_of (h4) ?_
        conv => whnf
        repeat (refine And.intro ?_ ?_; (first | (with_reducible show okR _ _ _ _ = true; kernel_rfl) | (with_reducible show addC _ _ _ = _; kernel_rfl) | rfl | trivial | kernel_rfl | omega | exact Nat.le_of_ble_eq_true rfl | exact lt_len0 rfl | exact lt_len1 rfl); conv => whnf)
        exact rfl

theorem inside_iff {H : List XY} (h : ∀ q, hasP H q = true ↔ Reg H q) (a b low high : Int) : insideN H a b low high = true ↔ (Reg H ⟨a, low⟩ ∧ Reg H ⟨a, high⟩ ∧ Reg H ⟨b, low⟩ ∧ Reg H ⟨b, high⟩) := by
  simp only [insideN, Bool.and_eq_true, h]

/-- What a chord says. -/
theorem chord_facts (l : List XY) (low high : Int) : (chordR l low high = (0, 0) ∧ (hullN l = [] ∨ low ≥ high ∨ ∀ x, insideN (hullN l) x (x + 1) low high = false)) ∨
    ((chordR l low high).1 < (chordR l low high).2 ∧ -600 ≤ (chordR l low high).1 ∧ (chordR l low high).2 ≤ 600 ∧ low < high ∧ insideN (hullN l) (chordR l low high).1 (chordR l low high).2 low high = true ∧
      insideN (hullN l) ((chordR l low high).1 - 1) (chordR l low high).2 low high = false ∧ insideN (hullN l) (chordR l low high).1 ((chordR l low high).2 + 1) low high = false) := by
  rcases hullN_spec l with h0 | ⟨hc, m, hH⟩
  · left
    refine ⟨?_, .inl h0⟩
    rw [chordR, h0]; simp
  have h3 := hH.three
  have hne : hullN l ≠ [] := fun e => by rw [e] at h3; simp at h3
  have hcH := hull_comp hne
  have hiff := hH.has_iff hcH
  unfold chordR
  generalize hullN l = H at *
  have rSpec : ∀ y x, ((accR y (edgesN H) (-600) 600).1 ≤ x ∧ x ≤ (accR y (edgesN H) (-600) 600).2) ↔ (-600 ≤ x ∧ x ≤ 600 ∧ Reg H ⟨x, y⟩) := fun y x => accR_reg y x _ _
  have regIn : ∀ x y, Reg H ⟨x, y⟩ → -600 ≤ x ∧ x ≤ 600 ∧ -600 ≤ y ∧ y ≤ 600 := fun x y hr => by
    have := hH.within hr ⟨-600, 600, -600, 600⟩ fun p hp => by
      have := hcH.all p hp
      unfold XY.In at this
      exact ⟨this.1, this.2.1, this.2.2.1, this.2.2.2⟩
    exact this
  have no : ∀ a b, ¬ (Reg H ⟨a, low⟩ ∧ Reg H ⟨a, high⟩ ∧ Reg H ⟨b, low⟩ ∧ Reg H ⟨b, high⟩) → insideN H a b low high = false := fun a b h => by
    cases hh : insideN H a b low high with
    | false => rfl
    | true => exact absurd ((inside_iff hiff a b low high).1 hh) h
  have e1 := rSpec low
  have e2 := rSpec high
  by_cases hg : H.length = 0 ∨ low ≥ high ∨ low < -600 ∨ high > 600
  · rw [if_pos hg]
    left
    refine ⟨rfl, .inr ?_⟩
    by_cases hlh : low ≥ high
    · exact .inl hlh
    · right
      intro x
      refine no _ _ fun ⟨r1, r2, _, _⟩ => ?_
      have := regIn _ _ r1
      have := regIn _ _ r2
      omega
  rw [if_neg hg]
  generalize accR low (edgesN H) (-600) 600 = A at *
  generalize accR high (edgesN H) (-600) 600 = B at *
  have hx : ∀ x, Reg H ⟨x, low⟩ → Reg H ⟨x, high⟩ → A.1 ≤ x ∧ x ≤ A.2 ∧ B.1 ≤ x ∧ x ≤ B.2 := fun x r1 r2 => by
    have b1 := regIn _ _ r1
    have k1 := (e1 x).2 ⟨b1.1, b1.2.1, r1⟩
    have k2 := (e2 x).2 ⟨b1.1, b1.2.1, r2⟩
    exact ⟨k1.1, k1.2, k2.1, k2.2⟩
  by_cases hempty : A.1 > A.2 ∨ B.1 > B.2
  · rw [if_pos hempty]
    left
    refine ⟨rfl, .inr (.inr fun x => no _ _ fun ⟨r1, r2, _, _⟩ => ?_)⟩
    have := hx x r1 r2
    omega
  rw [if_neg hempty]
  unfold spanOf
  by_cases hlt : max A.1 B.1 < min A.2 B.2
  · rw [if_pos hlt]
    right
    simp only
    have ra := (e1 (max A.1 B.1)).1 (by omega)
    have rb := (e2 (max A.1 B.1)).1 (by omega)
    have rc := (e1 (min A.2 B.2)).1 (by omega)
    have rd := (e2 (min A.2 B.2)).1 (by omega)
    refine ⟨hlt, ra.1, rc.2.1, by omega, (inside_iff hiff _ _ _ _).2 ⟨ra.2.2, rb.2.2, rc.2.2, rd.2.2⟩, no _ _ fun ⟨r1, r2, _, _⟩ => ?_, no _ _ fun ⟨_, _, r1, r2⟩ => ?_⟩
    · have := hx _ r1 r2
      omega
    · have := hx _ r1 r2
      omega
  · rw [if_neg hlt]
    left
    refine ⟨rfl, .inr (.inr fun x => no _ _ fun ⟨r1, r2, r3, r4⟩ => ?_)⟩
    have := hx x r1 r2
    have := hx (x + 1) r3 r4
    omega

theorem chordC (l : List XY) (hl : l.length ≤ 1000000) (low high : Int) : Pure Try.prog G0 26 [.sl 2 (l.map eP), .i low, .i high] (.agg (eSp (chordR l low high))) := by
  have h := polychord_pure l hl low high
  rwa [chord_eq] at h
theorem hullC (l : List XY) (hl : l.length ≤ 1000000) : Pure Try.prog G0 24 [.sl 2 (l.map eP)] (.sl 2 ((hullN l).map eP)) := by
  have h := hull_pure l hl
  rwa [hullP_eq] at h

set_option maxHeartbeats 8000000 in
theorem polychordlaw_pure (l : List XY) (low high x : Int) : Pure Try.prog G0 9 [.sl 2 (l.map eP), .agg [.i low, .i high], .i x] (.bool true) := by
  refine stop_pure Try.func9 rfl rfl (Nat.le_of_ble_eq_true rfl) ?_
  refine stop_seq mixed ?_
  conv => whnf
  repeat (refine And.intro ?_ ?_; (first | (with_reducible show okR _ _ _ _ = true; kernel_rfl) | (with_reducible show addC _ _ _ = _; kernel_rfl) | rfl | trivial | kernel_rfl | omega | exact Nat.le_of_ble_eq_true rfl | exact lt_len0 rfl | exact lt_len1 rfl); conv => whnf)
  refine stop_seq mixed ?_
  conv => whnf
  repeat (refine And.intro ?_ ?_; (first | (with_reducible show okR _ _ _ _ = true; kernel_rfl) | (with_reducible show addC _ _ _ = _; kernel_rfl) | rfl | trivial | kernel_rfl | omega | exact Nat.le_of_ble_eq_true rfl | exact lt_len0 rfl | exact lt_len1 rfl); conv => whnf)
  refine stop_to (fun _ => [(0, .sl 2 (l.map eP)), (2, .i x), (7, .i low), (8, .i high)]) (fun _ => []) (weakTo_cov ?_ ?_) fun s ct => ?_
  · conv => whnf
    repeat (refine And.intro ?_ ?_; (first | exact rfl | exact Or.inl rfl | exact congrArg (SV.int .i64) (by first | rfl | omega | (simp; done) | (simp; omega))); conv => whnf)
    exact trivial
  · conv => whnf
    repeat (refine And.intro ?_ ?_; (first | exact rfl | exact Or.inl rfl | exact congrArg (SV.int .i64) (by first | rfl | omega | (simp; done) | (simp; omega))); conv => whnf)
    exact trivial
  refine stop_seq mixed ?_
  conv => whnf
  repeat (refine And.intro ?_ ?_; (first | (with_reducible show okR _ _ _ _ = true; kernel_rfl) | (with_reducible show addC _ _ _ = _; kernel_rfl) | rfl | trivial | kernel_rfl | omega | exact Nat.le_of_ble_eq_true rfl | exact lt_len0 rfl | exact lt_len1 rfl); conv => whnf)
  refine ifD (fun h1 => ?_) (fun h1 => ?_) <;> try dsimp only at h1
  · conv => whnf
    repeat (refine And.intro ?_ ?_; (first | (with_reducible show okR _ _ _ _ = true; kernel_rfl) | (with_reducible show addC _ _ _ = _; kernel_rfl) | rfl | trivial | kernel_rfl | omega | exact Nat.le_of_ble_eq_true rfl | exact lt_len0 rfl | exact lt_len1 rfl); conv => whnf)
    refine callP_of (awake_pure) ?_
    conv => whnf
    repeat (refine And.intro ?_ ?_; (first | (with_reducible show okR _ _ _ _ = true; kernel_rfl) | (with_reducible show addC _ _ _ = _; kernel_rfl) | rfl | trivial | kernel_rfl | omega | exact Nat.le_of_ble_eq_true rfl | exact lt_len0 rfl | exact lt_len1 rfl); conv => whnf)
  rw [List.length_map] at h1
  conv => whnf
  repeat (refine And.intro ?_ ?_; (first | (with_reducible show okR _ _ _ _ = true; kernel_rfl) | (with_reducible show addC _ _ _ = _; kernel_rfl) | rfl | trivial | kernel_rfl | omega | exact Nat.le_of_ble_eq_true rfl | exact lt_len0 rfl | exact lt_len1 rfl); conv => whnf)
  refine callP_of (refranged_pure l (by omega)) ?_
  conv => whnf
  repeat (refine And.intro ?_ ?_; (first | (with_reducible show okR _ _ _ _ = true; kernel_rfl) | (with_reducible show addC _ _ _ = _; kernel_rfl) | rfl | trivial | kernel_rfl | omega | exact Nat.le_of_ble_eq_true rfl | exact lt_len0 rfl | exact lt_len1 rfl); conv => whnf)
  refine ifB_intro (fun h2 => ?_) (fun h2 => ?_) <;> try dsimp only at h2
  · conv => whnf
    repeat (refine And.intro ?_ ?_; (first | (with_reducible show okR _ _ _ _ = true; kernel_rfl) | (with_reducible show addC _ _ _ = _; kernel_rfl) | rfl | trivial | kernel_rfl | omega | exact Nat.le_of_ble_eq_true rfl | exact lt_len0 rfl | exact lt_len1 rfl); conv => whnf)
    refine callP_of (awake_pure) ?_
    conv => whnf
    repeat (refine And.intro ?_ ?_; (first | (with_reducible show okR _ _ _ _ = true; kernel_rfl) | (with_reducible show addC _ _ _ = _; kernel_rfl) | rfl | trivial | kernel_rfl | omega | exact Nat.le_of_ble_eq_true rfl | exact lt_len0 rfl | exact lt_len1 rfl); conv => whnf)
  have hc : Comp l := ⟨by omega, fun p hp => (inN_iff p).1 (by have : l.all inN = true := by simpa using h2
                                                               exact List.all_eq_true.1 this p hp)⟩
  have hl : l.length ≤ 1000000 := by omega
  conv => whnf
  repeat (refine And.intro ?_ ?_; (first | (with_reducible show okR _ _ _ _ = true; kernel_rfl) | (with_reducible show addC _ _ _ = _; kernel_rfl) | rfl | trivial | kernel_rfl | omega | exact Nat.le_of_ble_eq_true rfl | exact lt_len0 rfl | exact lt_len1 rfl); conv => whnf)
  refine ifD (fun h3 => ?_) (fun h3 => ?_) <;> try dsimp only at h3
  · conv => whnf
    repeat (refine And.intro ?_ ?_; (first | (with_reducible show okR _ _ _ _ = true; kernel_rfl) | (with_reducible show addC _ _ _ = _; kernel_rfl) | rfl | trivial | kernel_rfl | omega | exact Nat.le_of_ble_eq_true rfl | exact lt_len0 rfl | exact lt_len1 rfl); conv => whnf)
    refine callP_of (awake_pure) ?_
    conv => whnf
    repeat (refine And.intro ?_ ?_; (first | (with_reducible show okR _ _ _ _ = true; kernel_rfl) | (with_reducible show addC _ _ _ = _; kernel_rfl) | rfl | trivial | kernel_rfl | omega | exact Nat.le_of_ble_eq_true rfl | exact lt_len0 rfl | exact lt_len1 rfl); conv => whnf)
  conv => whnf
  repeat (refine And.intro ?_ ?_; (first | (with_reducible show okR _ _ _ _ = true; kernel_rfl) | (with_reducible show addC _ _ _ = _; kernel_rfl) | rfl | trivial | kernel_rfl | omega | exact Nat.le_of_ble_eq_true rfl | exact lt_len0 rfl | exact lt_len1 rfl); conv => whnf)
  refine ifD (fun h4 => ?_) (fun h4 => ?_) <;> try dsimp only at h4
  · conv => whnf
    repeat (refine And.intro ?_ ?_; (first | (with_reducible show okR _ _ _ _ = true; kernel_rfl) | (with_reducible show addC _ _ _ = _; kernel_rfl) | rfl | trivial | kernel_rfl | omega | exact Nat.le_of_ble_eq_true rfl | exact lt_len0 rfl | exact lt_len1 rfl); conv => whnf)
    refine callP_of (awake_pure) ?_
    conv => whnf
    repeat (refine And.intro ?_ ?_; (first | (with_reducible show okR _ _ _ _ = true; kernel_rfl) | (with_reducible show addC _ _ _ = _; kernel_rfl) | rfl | trivial | kernel_rfl | omega | exact Nat.le_of_ble_eq_true rfl | exact lt_len0 rfl | exact lt_len1 rfl); conv => whnf)
  conv => whnf
  repeat (refine And.intro ?_ ?_; (first | (with_reducible show okR _ _ _ _ = true; kernel_rfl) | (with_reducible show addC _ _ _ = _; kernel_rfl) | rfl | trivial | kernel_rfl | omega | exact Nat.le_of_ble_eq_true rfl | exact lt_len0 rfl | exact lt_len1 rfl); conv => whnf)
  refine stop_seq mixed ?_
  conv => whnf
  repeat (refine And.intro ?_ ?_; (first | (with_reducible show okR _ _ _ _ = true; kernel_rfl) | (with_reducible show addC _ _ _ = _; kernel_rfl) | rfl | trivial | kernel_rfl | omega | exact Nat.le_of_ble_eq_true rfl | exact lt_len0 rfl | exact lt_len1 rfl); conv => whnf)
  refine callP_of (hullC l hl) ?_
  conv => whnf
  repeat (refine And.intro ?_ ?_; (first | (with_reducible show okR _ _ _ _ = true; kernel_rfl) | (with_reducible show addC _ _ _ = _; kernel_rfl) | rfl | trivial | kernel_rfl | omega | exact Nat.le_of_ble_eq_true rfl | exact lt_len0 rfl | exact lt_len1 rfl); conv => whnf)
  refine stop_seq mixed ?_
  conv => whnf
  repeat (refine And.intro ?_ ?_; (first | (with_reducible show okR _ _ _ _ = true; kernel_rfl) | (with_reducible show addC _ _ _ = _; kernel_rfl) | rfl | trivial | kernel_rfl | omega | exact Nat.le_of_ble_eq_true rfl | exact lt_len0 rfl | exact lt_len1 rfl); conv => whnf)
  refine callP_of (chordC l hl low high) ?_
  conv => whnf
  repeat (refine And.intro ?_ ?_; (first | (with_reducible show okR _ _ _ _ = true; kernel_rfl) | (with_reducible show addC _ _ _ = _; kernel_rfl) | rfl | trivial | kernel_rfl | omega | exact Nat.le_of_ble_eq_true rfl | exact lt_len0 rfl | exact lt_len1 rfl); conv => whnf)
  have hf := chord_facts l low high
  have hlenH := hullN_len2 l
  have hin := fun a b => inside_pure (hullN l) hlenH a b low high
  generalize chordR l low high = C at *
  refine stop_to (fun s => [(0, .sl 2 (l.map eP)), (2, .i x), (7, .i low), (8, .i high), (9, .sl 2 ((hullN l).map eP)), (10, .lptr 10 (s 10) 0 0)]) (fun s => [(10, ⟨s 10, 0, 2, [[.i C.1, .i C.2]]⟩)]) (weakTo_cov ?_ ?_) fun s ct => ?_
  · conv => whnf
    repeat (refine And.intro ?_ ?_; (first | exact rfl | exact Or.inl rfl | exact congrArg (SV.int .i64) (by first | rfl | omega | (simp; done) | (simp; omega))); conv => whnf)
    exact trivial
  · conv => whnf
    repeat (refine And.intro ?_ ?_; (first | exact rfl | exact Or.inl rfl | exact congrArg (SV.int .i64) (by first | rfl | omega | (simp; done) | (simp; omega))); conv => whnf)
    exact trivial
  generalize hullN l = H at *
  refine stop_seq mixed ?_
  conv => whnf
  repeat (refine And.intro ?_ ?_; (first | (with_reducible show okR _ _ _ _ = true; kernel_rfl) | (with_reducible show addC _ _ _ = _; kernel_rfl) | rfl | trivial | kernel_rfl | omega | exact Nat.le_of_ble_eq_true rfl | exact lt_len0 rfl | exact lt_len1 rfl); conv => whnf)
  refine ifB_intro (fun h5 => ?_) (fun h5 => ?_) <;> try dsimp only at h5
  · have h5 : C.1 = 0 ∧ C.2 = 0 := by simpa using h5
    have hno := (hf.resolve_right fun h => by omega).2
    conv => whnf
    repeat (refine And.intro ?_ ?_; (first | (with_reducible show okR _ _ _ _ = true; kernel_rfl) | (with_reducible show addC _ _ _ = _; kernel_rfl) | rfl | trivial | kernel_rfl | omega | exact Nat.le_of_ble_eq_true rfl | exact lt_len0 rfl | exact lt_len1 rfl); conv => whnf)
    refine ifD (fun g1 => ?_) (fun g1 => ?_) <;> try dsimp only at g1
    · conv => whnf
      repeat (refine And.intro ?_ ?_; (first | (with_reducible show okR _ _ _ _ = true; kernel_rfl) | (with_reducible show addC _ _ _ = _; kernel_rfl) | rfl | trivial | kernel_rfl | omega | exact Nat.le_of_ble_eq_true rfl | exact lt_len0 rfl | exact lt_len1 rfl); conv => whnf)
      refine callP_of (awake_pure) ?_
      conv => whnf
      repeat (refine And.intro ?_ ?_; (first | (with_reducible show okR _ _ _ _ = true; kernel_rfl) | (with_reducible show addC _ _ _ = _; kernel_rfl) | rfl | trivial | kernel_rfl | omega | exact Nat.le_of_ble_eq_true rfl | exact lt_len0 rfl | exact lt_len1 rfl); conv => whnf)
    · have hne : H ≠ [] := fun e => by rw [e] at g1; simp at g1
      conv => whnf
      repeat (refine And.intro ?_ ?_; (first | (with_reducible show okR _ _ _ _ = true; kernel_rfl) | (with_reducible show addC _ _ _ = _; kernel_rfl) | rfl | trivial | kernel_rfl | omega | exact Nat.le_of_ble_eq_true rfl | exact lt_len0 rfl | exact lt_len1 rfl); conv => whnf)
      refine ifD (fun g2 => ?_) (fun g2 => ?_) <;> try dsimp only at g2
      · conv => whnf
        repeat (refine And.intro ?_ ?_; (first | (with_reducible show okR _ _ _ _ = true; kernel_rfl) | (with_reducible show addC _ _ _ = _; kernel_rfl) | rfl | trivial | kernel_rfl | omega | exact Nat.le_of_ble_eq_true rfl | exact lt_len0 rfl | exact lt_len1 rfl); conv => whnf)
        refine callP_of (awake_pure) ?_
        conv => whnf
        repeat (refine And.intro ?_ ?_; (first | (with_reducible show okR _ _ _ _ = true; kernel_rfl) | (with_reducible show addC _ _ _ = _; kernel_rfl) | rfl | trivial | kernel_rfl | omega | exact Nat.le_of_ble_eq_true rfl | exact lt_len0 rfl | exact lt_len1 rfl); conv => whnf)
      · have hx := hin x (x + 1)
        rw [(hno.resolve_left hne).resolve_left (by omega) x] at hx
        conv => whnf
        repeat (refine And.intro ?_ ?_; (first | (with_reducible show okR _ _ _ _ = true; kernel_rfl) | (with_reducible show addC _ _ _ = _; kernel_rfl) | rfl | trivial | kernel_rfl | omega | exact Nat.le_of_ble_eq_true rfl | exact lt_len0 rfl | exact lt_len1 rfl); conv => whnf)
        refine inI (by omega) (by omega) ?_
        conv => whnf
        repeat (refine And.intro ?_ ?_; (first | (with_reducible show okR _ _ _ _ = true; kernel_rfl) | (with_reducible show addC _ _ _ = _; kernel_rfl) | rfl | trivial | kernel_rfl | omega | exact Nat.le_of_ble_eq_true rfl | exact lt_len0 rfl | exact lt_len1 rfl); conv => whnf)
        refine callP_of (hx) ?_
        conv => whnf
        repeat (refine And.intro ?_ ?_; (first | (with_reducible show okR _ _ _ _ = true; kernel_rfl) | (with_reducible show addC _ _ _ = _; kernel_rfl) | rfl | trivial | kernel_rfl | omega | exact Nat.le_of_ble_eq_true rfl | exact lt_len0 rfl | exact lt_len1 rfl); conv => whnf)
        refine callP_of (awake_pure) ?_
        conv => whnf
        repeat (refine And.intro ?_ ?_; (first | (with_reducible show okR _ _ _ _ = true; kernel_rfl) | (with_reducible show addC _ _ _ = _; kernel_rfl) | rfl | trivial | kernel_rfl | omega | exact Nat.le_of_ble_eq_true rfl | exact lt_len0 rfl | exact lt_len1 rfl); conv => whnf)
  · have h5 : ¬ (C.1 = 0 ∧ C.2 = 0) := fun h => by simp [h.1, h.2] at h5
    obtain ⟨f1, f2, f3, f4, f5, f6, f7⟩ := hf.resolve_left fun h => h5 (by rw [h.1]; exact ⟨rfl, rfl⟩)
    have i1 := hin C.1 C.2
    rw [f5] at i1
    have i2 := hin (C.1 - 1) C.2
    rw [f6] at i2
    have i3 := hin C.1 (C.2 + 1)
    rw [f7] at i3
    conv => whnf
    repeat (refine And.intro ?_ ?_; (first | (with_reducible show okR _ _ _ _ = true; kernel_rfl) | (with_reducible show addC _ _ _ = _; kernel_rfl) | rfl | trivial | kernel_rfl | omega | exact Nat.le_of_ble_eq_true rfl | exact lt_len0 rfl | exact lt_len1 rfl); conv => whnf)
    refine stop_go mixed ?_
    conv => whnf
    repeat (refine And.intro ?_ ?_; (first | (with_reducible show okR _ _ _ _ = true; kernel_rfl) | (with_reducible show addC _ _ _ = _; kernel_rfl) | rfl | trivial | kernel_rfl | omega | exact Nat.le_of_ble_eq_true rfl | exact lt_len0 rfl | exact lt_len1 rfl); conv => whnf)
    refine ifD (fun g1 => ?_) (fun g1 => ?_) <;> try dsimp only at g1
    rotate_left
    · exact absurd f1 g1
    conv => whnf
    repeat (refine And.intro ?_ ?_; (first | (with_reducible show okR _ _ _ _ = true; kernel_rfl) | (with_reducible show addC _ _ _ = _; kernel_rfl) | rfl | trivial | kernel_rfl | omega | exact Nat.le_of_ble_eq_true rfl | exact lt_len0 rfl | exact lt_len1 rfl); conv => whnf)
    refine ifD (fun g2 => ?_) (fun g2 => ?_) <;> try dsimp only at g2
    rotate_left
    · exact absurd f4 g2
    conv => whnf
    repeat (refine And.intro ?_ ?_; (first | (with_reducible show okR _ _ _ _ = true; kernel_rfl) | (with_reducible show addC _ _ _ = _; kernel_rfl) | rfl | trivial | kernel_rfl | omega | exact Nat.le_of_ble_eq_true rfl | exact lt_len0 rfl | exact lt_len1 rfl); conv => whnf)
    refine callP_of (i1) ?_
    conv => whnf
    repeat (refine And.intro ?_ ?_; (first | (with_reducible show okR _ _ _ _ = true; kernel_rfl) | (with_reducible show addC _ _ _ = _; kernel_rfl) | rfl | trivial | kernel_rfl | omega | exact Nat.le_of_ble_eq_true rfl | exact lt_len0 rfl | exact lt_len1 rfl); conv => whnf)
    refine inI (by omega) (by omega) ?_
    conv => whnf
    repeat (refine And.intro ?_ ?_; (first | (with_reducible show okR _ _ _ _ = true; kernel_rfl) | (with_reducible show addC _ _ _ = _; kernel_rfl) | rfl | trivial | kernel_rfl | omega | exact Nat.le_of_ble_eq_true rfl | exact lt_len0 rfl | exact lt_len1 rfl); conv => whnf)
    refine callP_of (i2) ?_
    conv => whnf
    repeat (refine And.intro ?_ ?_; (first | (with_reducible show okR _ _ _ _ = true; kernel_rfl) | (with_reducible show addC _ _ _ = _; kernel_rfl) | rfl | trivial | kernel_rfl | omega | exact Nat.le_of_ble_eq_true rfl | exact lt_len0 rfl | exact lt_len1 rfl); conv => whnf)
    refine inI (by omega) (by omega) ?_
    conv => whnf
    repeat (refine And.intro ?_ ?_; (first | (with_reducible show okR _ _ _ _ = true; kernel_rfl) | (with_reducible show addC _ _ _ = _; kernel_rfl) | rfl | trivial | kernel_rfl | omega | exact Nat.le_of_ble_eq_true rfl | exact lt_len0 rfl | exact lt_len1 rfl); conv => whnf)
    refine callP_of (i3) ?_
    conv => whnf
    repeat (refine And.intro ?_ ?_; (first | (with_reducible show okR _ _ _ _ = true; kernel_rfl) | (with_reducible show addC _ _ _ = _; kernel_rfl) | rfl | trivial | kernel_rfl | omega | exact Nat.le_of_ble_eq_true rfl | exact lt_len0 rfl | exact lt_len1 rfl); conv => whnf)
    refine callP_of (awake_pure) ?_
    conv => whnf
    repeat (refine And.intro ?_ ?_; (first | (with_reducible show okR _ _ _ _ = true; kernel_rfl) | (with_reducible show addC _ _ _ = _; kernel_rfl) | rfl | trivial | kernel_rfl | omega | exact Nat.le_of_ble_eq_true rfl | exact lt_len0 rfl | exact lt_len1 rfl); conv => whnf)
end Go.Proofs.Yticandbdabgkeaa.Am
