/- The statement on chords within chords, as a run. No condition: lemmas. -/
import Derived.Test.YticandbdabgkeaaAmP31
namespace Go.Proofs.Yticandbdabgkeaa.Am
open Go
set_option maxRecDepth 100000

theorem reg_mid {H : List XY} {x a b y : Int} (h1 : Reg H ⟨x, a⟩) (h2 : Reg H ⟨x, b⟩) (ha : a ≤ y) (hb : y ≤ b) : Reg H ⟨x, y⟩ := by
  rcases Int.lt_or_le a b with h | h
  · intro i hi
    refine comb_left (a := ⟨x, a⟩) (b := ⟨x, b⟩) ⟨b - y, y - a, by omega, by omega, by omega, ?_, ?_⟩ (h1 i hi) (h2 i hi)
    · show (b - y + (y - a)) * x = (b - y) * x + (y - a) * x
      grind
    · show (b - y + (y - a)) * y = (b - y) * a + (y - a) * b
      grind
  · rw [show y = a by omega]; exact h1
/-- More points, a wider region. -/
theorem reg_more {l m : List XY} {k : Nat} (hc : Comp (l ++ m)) (hH : Hull (sortedN l) (hullN l) k) : ∃ k', Hull (sortedN (l ++ m)) (hullN (l ++ m)) k' ∧ ∀ q, Reg (hullN l) q → Reg (hullN (l ++ m)) q := by
  have h3 := hH.three
  have mem : ∀ x ∈ hullN l, x ∈ sortedN (l ++ m) := fun x hx => (sortedN_mem _ x).2 (List.mem_append.2 (.inl ((sortedN_mem l x).1 (hH.sub x hx))))
  rw [hullN_comp hc]
  rcases hull_spec (sortedN_ord (l ++ m)) with ⟨_, hz⟩ | ⟨k', hA⟩
  · exfalso
    have ht := hH.turn 0 (by omega)
    rw [hz _ _ _ (mem _ (nth_mem (by omega))) (mem _ (nxt_mem (by omega))) (mem _ (nxt_mem (Nat.mod_lt _ (by omega))))] at ht
    omega
  · refine ⟨k', hA, fun q hq i hi => ?_⟩
    have hleft := hA.left i hi
    generalize nth (hullS (sortedN (l ++ m))) i = A at hleft
    generalize nxt (hullS (sortedN (l ++ m))) i = B at hleft
    have hval : ∀ q, crossN A B q = (-(B.y - A.y)) * q.x + (B.x - A.x) * q.y - ((-(B.y - A.y)) * A.x + (B.x - A.x) * A.y) := fun q => by simp only [crossN]; grind
    obtain ⟨j, hj, _, hle⟩ := hH.least hq (-(B.y - A.y)) (B.x - A.x)
    have h1 := hleft _ (mem _ (nth_mem hj))
    rw [hval] at h1 ⊢
    omega
theorem chord_has {l : List XY} {k : Nat} (hH : Hull (sortedN l) (hullN l) k) {low high a b : Int} (hlh : low < high) (hab : a < b) (r1 : Reg (hullN l) ⟨a, low⟩) (r2 : Reg (hullN l) ⟨a, high⟩) (r3 : Reg (hullN l) ⟨b, low⟩) (r4 : Reg (hullN l) ⟨b, high⟩) :
    (chordR l low high).1 ≤ a ∧ b ≤ (chordR l low high).2 := by
  have h3 := hH.three
  have hne : hullN l ≠ [] := fun e => by rw [e] at h3; simp at h3
  have hcH := hull_comp hne
  unfold chordR
  generalize hullN l = H at *
  have regIn : ∀ x y, Reg H ⟨x, y⟩ → -600 ≤ x ∧ x ≤ 600 ∧ -600 ≤ y ∧ y ≤ 600 := fun x y hr => by
    have := hH.within hr ⟨-600, 600, -600, 600⟩ fun p hp => by
      have := hcH.all p hp
      unfold XY.In at this
      exact ⟨this.1, this.2.1, this.2.2.1, this.2.2.2⟩
    exact this
  have b1 := regIn _ _ r1
  have b2 := regIn _ _ r2
  have b3 := regIn _ _ r3
  have e1 := (accR_reg low a (-600) 600).2 ⟨b1.1, b1.2.1, r1⟩
  have e2 := (accR_reg high a (-600) 600).2 ⟨b1.1, b1.2.1, r2⟩
  have e3 := (accR_reg low b (-600) 600).2 ⟨b3.1, b3.2.1, r3⟩
  have e4 := (accR_reg high b (-600) 600).2 ⟨b3.1, b3.2.1, r4⟩
  rw [if_neg (by omega)]
  generalize accR low (edgesN H) (-600) 600 = A at *
  generalize accR high (edgesN H) (-600) 600 = B at *
  rw [if_neg (by omega), spanOf, if_pos (by omega)]
  simp only
  omega
/-- What is claimed of three chords. -/
theorem within_facts {l m : List XY} (hc : Comp (l ++ m)) {y0 y1 y2 y3 : Int} (h1 : y0 ≤ y1) (h2 : y1 < y2) (h3 : y2 ≤ y3) (hlt : (chordR l y0 y3).1 < (chordR l y0 y3).2) :
    (chordR l y1 y2).1 ≤ (chordR l y0 y3).1 ∧ (chordR l y0 y3).2 ≤ (chordR l y1 y2).2 ∧ (chordR (l ++ m) y0 y3).1 ≤ (chordR l y0 y3).1 ∧ (chordR l y0 y3).2 ≤ (chordR (l ++ m) y0 y3).2 := by
  rcases chord_facts l y0 y3 with ⟨h0, _⟩ | ⟨_, _, _, hl, hin, _, _⟩
  · rw [h0] at hlt; simp at hlt
  · rcases hullN_spec l with he | ⟨_, k, hH⟩
    · exfalso
      have : chordR l y0 y3 = (0, 0) := by rw [chordR, he]; simp
      rw [this] at hlt; simp at hlt
    · have hne : hullN l ≠ [] := fun e => by have := hH.three; rw [e] at this; simp at this
      obtain ⟨r1, r2, r3, r4⟩ := (inside_iff (hH.has_iff (hull_comp hne)) _ _ _ _).1 hin
      obtain ⟨k', hA, hsub⟩ := reg_more hc hH
      have t := chord_has hH h2 hlt (reg_mid r1 r2 h1 (by omega)) (reg_mid r1 r2 (by omega) h3) (reg_mid r3 r4 h1 (by omega)) (reg_mid r3 r4 (by omega) h3)
      have u := chord_has hA hl hlt (hsub _ r1) (hsub _ r2) (hsub _ r3) (hsub _ r4)
      exact ⟨t.1, t.2, u.1, u.2⟩

set_option maxHeartbeats 8000000 in
theorem polywithin_pure (l m : List XY) (hl : l.length ≤ 1048576) (hm : m.length ≤ 1048576) (y0 y1 y2 y3 : Int) : Pure Try.prog G0 10 [.sl 2 (l.map eP), .sl 2 (m.map eP), .agg [.i y0, .i y1, .i y2, .i y3]] (.bool true) := by
  refine stop_pure Try.func10 rfl rfl (Nat.le_of_ble_eq_true rfl) ?_
  refine stop_seq mixed ?_
  conv => whnf
  repeat (refine And.intro ?_ ?_; (first | (with_reducible show okR _ _ _ _ = true; kernel_rfl) | (with_reducible show addC _ _ _ = _; kernel_rfl) | rfl | trivial | kernel_rfl | omega | exact Nat.le_of_ble_eq_true rfl | exact lt_len0 rfl | exact lt_len1 rfl); conv => whnf)
  refine stop_to (fun s => [(0, .sl 2 (l.map eP)), (1, .sl 2 (m.map eP)), (5, .lptr 5 (s 5) 0 0)]) (fun s => [(5, ⟨s 5, 0, 4, [[.i y0, .i y1, .i y2, .i y3]]⟩)]) (weakTo_cov ?_ ?_) fun s ct => ?_
  · conv => whnf
    repeat (refine And.intro ?_ ?_; (first | exact rfl | exact Or.inl rfl | exact congrArg (SV.int .i64) (by first | rfl | omega | (simp; done) | (simp; omega))); conv => whnf)
    exact trivial
  · conv => whnf
    repeat (refine And.intro ?_ ?_; (first | exact rfl | exact Or.inl rfl | exact congrArg (SV.int .i64) (by first | rfl | omega | (simp; done) | (simp; omega))); conv => whnf)
    exact trivial
  refine stop_seq mixed ?_
  conv => whnf
  repeat (refine And.intro ?_ ?_; (first | (with_reducible show okR _ _ _ _ = true; kernel_rfl) | (with_reducible show addC _ _ _ = _; kernel_rfl) | rfl | trivial | kernel_rfl | omega | exact Nat.le_of_ble_eq_true rfl | exact lt_len0 rfl | exact lt_len1 rfl); conv => whnf)
  refine And.intro (bytes_le (b := 16) rfl ?_) ?_
  · first | omega | (simp; done) | (simp; omega)
  conv => whnf
  repeat (refine And.intro ?_ ?_; (first | (with_reducible show okR _ _ _ _ = true; kernel_rfl) | (with_reducible show addC _ _ _ = _; kernel_rfl) | rfl | trivial | kernel_rfl | omega | exact Nat.le_of_ble_eq_true rfl | exact lt_len0 rfl | exact lt_len1 rfl); conv => whnf)
  refine And.intro (bytes_le (b := 16) rfl ?_) ?_
  · first | omega | (simp; done) | (simp; omega)
  conv => whnf
  repeat (refine And.intro ?_ ?_; (first | (with_reducible show okR _ _ _ _ = true; kernel_rfl) | (with_reducible show addC _ _ _ = _; kernel_rfl) | rfl | trivial | kernel_rfl | omega | exact Nat.le_of_ble_eq_true rfl | exact lt_len0 rfl | exact lt_len1 rfl); conv => whnf)
  refine stop_weak (weak_frz_slot 7 11 rfl rfl) ?_
  refine stop_to (fun s => [(0, .sl 2 (l.map eP)), (5, .lptr 5 (s 5) 0 0), (7, .sl 2 ((l ++ m).map eP))]) (fun s => [(5, ⟨s 5, 0, 4, [[.i y0, .i y1, .i y2, .i y3]]⟩)]) (weakTo_cov ?_ ?_) fun s ct => ?_
  · conv => whnf
    repeat (refine And.intro ?_ ?_; (first | exact rfl | exact Or.inl rfl | exact congrArg (SV.int .i64) (by first | rfl | omega | (simp; done) | (simp; omega)) | exact congrArg (SV.int .i64) (.inl (congrArg (SV.sl 2) (List.map_append (f := eP) (l₁ := l) (l₂ := m)).symm)) | exact congrArg (fun l => some (Ob.mk _ 1 _ l)) (.inl (congrArg (SV.sl 2) (List.map_append (f := eP) (l₁ := l) (l₂ := m)).symm)) | exact (.inl (congrArg (SV.sl 2) (List.map_append (f := eP) (l₁ := l) (l₂ := m)).symm))); conv => whnf)
    exact trivial
  · conv => whnf
    repeat (refine And.intro ?_ ?_; (first | exact rfl | exact Or.inl rfl | exact congrArg (SV.int .i64) (by first | rfl | omega | (simp; done) | (simp; omega))); conv => whnf)
    exact trivial
  refine stop_seq mixed ?_
  conv => whnf
  repeat (refine And.intro ?_ ?_; (first | (with_reducible show okR _ _ _ _ = true; kernel_rfl) | (with_reducible show addC _ _ _ = _; kernel_rfl) | rfl | trivial | kernel_rfl | omega | exact Nat.le_of_ble_eq_true rfl | exact lt_len0 rfl | exact lt_len1 rfl); conv => whnf)
  refine ifD (fun h1 => ?_) (fun h1 => ?_) <;> try dsimp only at h1
  · conv => whnf
    repeat (refine And.intro ?_ ?_; (first | (with_reducible show okR _ _ _ _ = true; kernel_rfl) | (with_reducible show addC _ _ _ = _; kernel_rfl) | rfl | trivial | kernel_rfl | omega | exact Nat.le_of_ble_eq_true rfl | exact lt_len0 rfl | exact lt_len1 rfl); conv => whnf)
    refine callP_of (awake_pure) ?_
    conv => whnf
    repeat (refine And.intro ?_ ?_; (first | (with_reducible show okR _ _ _ _ = true; kernel_rfl) | (with_reducible show addC _ _ _ = _; kernel_rfl) | rfl | trivial | kernel_rfl | omega | exact Nat.le_of_ble_eq_true rfl | exact lt_len0 rfl | exact lt_len1 rfl); conv => whnf)
  rw [List.length_map] at h1
  conv => whnf
  repeat (refine And.intro ?_ ?_; (first | (with_reducible show okR _ _ _ _ = true; kernel_rfl) | (with_reducible show addC _ _ _ = _; kernel_rfl) | rfl | trivial | kernel_rfl | omega | exact Nat.le_of_ble_eq_true rfl | exact lt_len0 rfl | exact lt_len1 rfl); conv => whnf)
  refine callP_of (refranged_pure (l ++ m) (by omega)) ?_
  conv => whnf
  repeat (refine And.intro ?_ ?_; (first | (with_reducible show okR _ _ _ _ = true; kernel_rfl) | (with_reducible show addC _ _ _ = _; kernel_rfl) | rfl | trivial | kernel_rfl | omega | exact Nat.le_of_ble_eq_true rfl | exact lt_len0 rfl | exact lt_len1 rfl); conv => whnf)
  refine ifB_intro (fun h2 => ?_) (fun h2 => ?_) <;> try dsimp only at h2
  · conv => whnf
    repeat (refine And.intro ?_ ?_; (first | (with_reducible show okR _ _ _ _ = true; kernel_rfl) | (with_reducible show addC _ _ _ = _; kernel_rfl) | rfl | trivial | kernel_rfl | omega | exact Nat.le_of_ble_eq_true rfl | exact lt_len0 rfl | exact lt_len1 rfl); conv => whnf)
    refine callP_of (awake_pure) ?_
    conv => whnf
    repeat (refine And.intro ?_ ?_; (first | (with_reducible show okR _ _ _ _ = true; kernel_rfl) | (with_reducible show addC _ _ _ = _; kernel_rfl) | rfl | trivial | kernel_rfl | omega | exact Nat.le_of_ble_eq_true rfl | exact lt_len0 rfl | exact lt_len1 rfl); conv => whnf)
  have hc : Comp (l ++ m) := ⟨by omega, fun p hp => (inN_iff p).1 (by have : (l ++ m).all inN = true := by simpa using h2
                                                                      exact List.all_eq_true.1 this p hp)⟩
  conv => whnf
  repeat (refine And.intro ?_ ?_; (first | (with_reducible show okR _ _ _ _ = true; kernel_rfl) | (with_reducible show addC _ _ _ = _; kernel_rfl) | rfl | trivial | kernel_rfl | omega | exact Nat.le_of_ble_eq_true rfl | exact lt_len0 rfl | exact lt_len1 rfl); conv => whnf)
  refine ifD (fun h3 => ?_) (fun h3 => ?_) <;> try dsimp only at h3
  · conv => whnf
    repeat (refine And.intro ?_ ?_; (first | (with_reducible show okR _ _ _ _ = true; kernel_rfl) | (with_reducible show addC _ _ _ = _; kernel_rfl) | rfl | trivial | kernel_rfl | omega | exact Nat.le_of_ble_eq_true rfl | exact lt_len0 rfl | exact lt_len1 rfl); conv => whnf)
    refine callP_of (awake_pure) ?_
    conv => whnf
    repeat (refine And.intro ?_ ?_; (first | (with_reducible show okR _ _ _ _ = true; kernel_rfl) | (with_reducible show addC _ _ _ = _; kernel_rfl) | rfl | trivial | kernel_rfl | omega | exact Nat.le_of_ble_eq_true rfl | exact lt_len0 rfl | exact lt_len1 rfl); conv => whnf)
  conv => whnf
  repeat (refine And.intro ?_ ?_; (first | (with_reducible show okR _ _ _ _ = true; kernel_rfl) | (with_reducible show addC _ _ _ = _; kernel_rfl) | rfl | trivial | kernel_rfl | omega | exact Nat.le_of_ble_eq_true rfl | exact lt_len0 rfl | exact lt_len1 rfl); conv => whnf)
  refine ifD (fun h4 => ?_) (fun h4 => ?_) <;> try dsimp only at h4
  · conv => whnf
    repeat (refine And.intro ?_ ?_; (first | (with_reducible show okR _ _ _ _ = true; kernel_rfl) | (with_reducible show addC _ _ _ = _; kernel_rfl) | rfl | trivial | kernel_rfl | omega | exact Nat.le_of_ble_eq_true rfl | exact lt_len0 rfl | exact lt_len1 rfl); conv => whnf)
    refine callP_of (awake_pure) ?_
    conv => whnf
    repeat (refine And.intro ?_ ?_; (first | (with_reducible show okR _ _ _ _ = true; kernel_rfl) | (with_reducible show addC _ _ _ = _; kernel_rfl) | rfl | trivial | kernel_rfl | omega | exact Nat.le_of_ble_eq_true rfl | exact lt_len0 rfl | exact lt_len1 rfl); conv => whnf)
  conv => whnf
  repeat (refine And.intro ?_ ?_; (first | (with_reducible show okR _ _ _ _ = true; kernel_rfl) | (with_reducible show addC _ _ _ = _; kernel_rfl) | rfl | trivial | kernel_rfl | omega | exact Nat.le_of_ble_eq_true rfl | exact lt_len0 rfl | exact lt_len1 rfl); conv => whnf)
  refine ifD (fun h5 => ?_) (fun h5 => ?_) <;> try dsimp only at h5
  · conv => whnf
    repeat (refine And.intro ?_ ?_; (first | (with_reducible show okR _ _ _ _ = true; kernel_rfl) | (with_reducible show addC _ _ _ = _; kernel_rfl) | rfl | trivial | kernel_rfl | omega | exact Nat.le_of_ble_eq_true rfl | exact lt_len0 rfl | exact lt_len1 rfl); conv => whnf)
    refine callP_of (awake_pure) ?_
    conv => whnf
    repeat (refine And.intro ?_ ?_; (first | (with_reducible show okR _ _ _ _ = true; kernel_rfl) | (with_reducible show addC _ _ _ = _; kernel_rfl) | rfl | trivial | kernel_rfl | omega | exact Nat.le_of_ble_eq_true rfl | exact lt_len0 rfl | exact lt_len1 rfl); conv => whnf)
  conv => whnf
  repeat (refine And.intro ?_ ?_; (first | (with_reducible show okR _ _ _ _ = true; kernel_rfl) | (with_reducible show addC _ _ _ = _; kernel_rfl) | rfl | trivial | kernel_rfl | omega | exact Nat.le_of_ble_eq_true rfl | exact lt_len0 rfl | exact lt_len1 rfl); conv => whnf)
  have hw := within_facts hc (y0 := y0) (y1 := y1) (y2 := y2) (y3 := y3) (by omega) (by omega) (by omega)
  have hll : l.length ≤ 1000000 := by rw [List.length_append] at h1; omega
  have c1 := chordC l hll y0 y3
  have c2 := chordC l hll y1 y2
  have c3 := chordC (l ++ m) (by omega) y0 y3
  have hs := chord_facts l y0 y3
  have hs0 : ¬ (chordR l y0 y3).1 < (chordR l y0 y3).2 → chordR l y0 y3 = (0, 0) := fun h => (hs.resolve_right fun k => h k.1).1
  clear hs
  generalize chordR l y0 y3 = S at *
  generalize chordR l y1 y2 = T at *
  generalize chordR (l ++ m) y0 y3 = U at *
  refine stop_to (fun s => [(0, .sl 2 (l.map eP)), (5, .lptr 5 (s 5) 0 0), (7, .sl 2 ((l ++ m).map eP))]) (fun s => [(5, ⟨s 5, 0, 4, [[.i y0, .i y1, .i y2, .i y3]]⟩)]) (weakTo_cov ?_ ?_) fun s ct => ?_
  · conv => whnf
    repeat (refine And.intro ?_ ?_; (first | exact rfl | exact Or.inl rfl | exact congrArg (SV.int .i64) (by first | rfl | omega | (simp; done) | (simp; omega))); conv => whnf)
    exact trivial
  · conv => whnf
    repeat (refine And.intro ?_ ?_; (first | exact rfl | exact Or.inl rfl | exact congrArg (SV.int .i64) (by first | rfl | omega | (simp; done) | (simp; omega))); conv => whnf)
    exact trivial
  refine stop_seq mixed ?_
  conv => whnf
  repeat (refine And.intro ?_ ?_; (first | (with_reducible show okR _ _ _ _ = true; kernel_rfl) | (with_reducible show addC _ _ _ = _; kernel_rfl) | rfl | trivial | kernel_rfl | omega | exact Nat.le_of_ble_eq_true rfl | exact lt_len0 rfl | exact lt_len1 rfl); conv => whnf)
  refine callP_of (c1) ?_
  conv => whnf
  repeat (refine And.intro ?_ ?_; (first | (with_reducible show okR _ _ _ _ = true; kernel_rfl) | (with_reducible show addC _ _ _ = _; kernel_rfl) | rfl | trivial | kernel_rfl | omega | exact Nat.le_of_ble_eq_true rfl | exact lt_len0 rfl | exact lt_len1 rfl); conv => whnf)
  refine callP_of (c2) ?_
  conv => whnf
  repeat (refine And.intro ?_ ?_; (first | (with_reducible show okR _ _ _ _ = true; kernel_rfl) | (with_reducible show addC _ _ _ = _; kernel_rfl) | rfl | trivial | kernel_rfl | omega | exact Nat.le_of_ble_eq_true rfl | exact lt_len0 rfl | exact lt_len1 rfl); conv => whnf)
  refine callP_of (c3) ?_
  conv => whnf
  repeat (refine And.intro ?_ ?_; (first | (with_reducible show okR _ _ _ _ = true; kernel_rfl) | (with_reducible show addC _ _ _ = _; kernel_rfl) | rfl | trivial | kernel_rfl | omega | exact Nat.le_of_ble_eq_true rfl | exact lt_len0 rfl | exact lt_len1 rfl); conv => whnf)
  refine stop_to (fun s => [(8, .lptr 8 (s 8) 0 0), (9, .lptr 9 (s 9) 0 0), (10, .lptr 10 (s 10) 0 0)]) (fun s => [(8, ⟨s 8, 0, 2, [[.i S.1, .i S.2]]⟩), (9, ⟨s 9, 0, 2, [[.i T.1, .i T.2]]⟩), (10, ⟨s 10, 0, 2, [[.i U.1, .i U.2]]⟩)]) (weakTo_cov ?_ ?_) fun s ct => ?_
  · conv => whnf
    repeat (refine And.intro ?_ ?_; (first | exact rfl | exact Or.inl rfl | exact congrArg (SV.int .i64) (by first | rfl | omega | (simp; done) | (simp; omega))); conv => whnf)
    exact trivial
  · conv => whnf
    repeat (refine And.intro ?_ ?_; (first | exact rfl | exact Or.inl rfl | exact congrArg (SV.int .i64) (by first | rfl | omega | (simp; done) | (simp; omega))); conv => whnf)
    exact trivial
  refine stop_seq mixed ?_
  conv => whnf
  repeat (refine And.intro ?_ ?_; (first | (with_reducible show okR _ _ _ _ = true; kernel_rfl) | (with_reducible show addC _ _ _ = _; kernel_rfl) | rfl | trivial | kernel_rfl | omega | exact Nat.le_of_ble_eq_true rfl | exact lt_len0 rfl | exact lt_len1 rfl); conv => whnf)
  refine ifD (fun h6 => ?_) (fun h6 => ?_) <;> try dsimp only at h6
  · have h0 := hs0 (by omega)
    have e1 : S.1 = 0 := by rw [h0]
    have e2 : S.2 = 0 := by rw [h0]
    conv => whnf
    repeat (refine And.intro ?_ ?_; (first | (with_reducible show okR _ _ _ _ = true; kernel_rfl) | (with_reducible show addC _ _ _ = _; kernel_rfl) | rfl | trivial | kernel_rfl | omega | exact Nat.le_of_ble_eq_true rfl | exact lt_len0 rfl | exact lt_len1 rfl); conv => whnf)
    refine ifB_intro (fun h7 => ?_) (fun h7 => ?_) <;> try dsimp only at h7
    · conv => whnf
      repeat (refine And.intro ?_ ?_; (first | (with_reducible show okR _ _ _ _ = true; kernel_rfl) | (with_reducible show addC _ _ _ = _; kernel_rfl) | rfl | trivial | kernel_rfl | omega | exact Nat.le_of_ble_eq_true rfl | exact lt_len0 rfl | exact lt_len1 rfl); conv => whnf)
      refine callP_of (awake_pure) ?_
      conv => whnf
      repeat (refine And.intro ?_ ?_; (first | (with_reducible show okR _ _ _ _ = true; kernel_rfl) | (with_reducible show addC _ _ _ = _; kernel_rfl) | rfl | trivial | kernel_rfl | omega | exact Nat.le_of_ble_eq_true rfl | exact lt_len0 rfl | exact lt_len1 rfl); conv => whnf)
    · simp [e1, e2] at h7
  obtain ⟨w1, w2, w3, w4⟩ := hw (by omega)
  conv => whnf
  repeat (refine And.intro ?_ ?_; (first | (with_reducible show okR _ _ _ _ = true; kernel_rfl) | (with_reducible show addC _ _ _ = _; kernel_rfl) | rfl | trivial | kernel_rfl | omega | exact Nat.le_of_ble_eq_true rfl | exact lt_len0 rfl | exact lt_len1 rfl); conv => whnf)
  refine stop_go mixed ?_
  conv => whnf
  repeat (refine And.intro ?_ ?_; (first | (with_reducible show okR _ _ _ _ = true; kernel_rfl) | (with_reducible show addC _ _ _ = _; kernel_rfl) | rfl | trivial | kernel_rfl | omega | exact Nat.le_of_ble_eq_true rfl | exact lt_len0 rfl | exact lt_len1 rfl); conv => whnf)
  refine ifD (fun g1 => ?_) (fun g1 => ?_) <;> try dsimp only at g1
  rotate_left
  · exact absurd w1 g1
  conv => whnf
  repeat (refine And.intro ?_ ?_; (first | (with_reducible show okR _ _ _ _ = true; kernel_rfl) | (with_reducible show addC _ _ _ = _; kernel_rfl) | rfl | trivial | kernel_rfl | omega | exact Nat.le_of_ble_eq_true rfl | exact lt_len0 rfl | exact lt_len1 rfl); conv => whnf)
  refine ifD (fun g2 => ?_) (fun g2 => ?_) <;> try dsimp only at g2
  rotate_left
  · exact absurd w2 g2
  conv => whnf
  repeat (refine And.intro ?_ ?_; (first | (with_reducible show okR _ _ _ _ = true; kernel_rfl) | (with_reducible show addC _ _ _ = _; kernel_rfl) | rfl | trivial | kernel_rfl | omega | exact Nat.le_of_ble_eq_true rfl | exact lt_len0 rfl | exact lt_len1 rfl); conv => whnf)
  refine ifD (fun g3 => ?_) (fun g3 => ?_) <;> try dsimp only at g3
  rotate_left
  · exact absurd w3 g3
  conv => whnf
  repeat (refine And.intro ?_ ?_; (first | (with_reducible show okR _ _ _ _ = true; kernel_rfl) | (with_reducible show addC _ _ _ = _; kernel_rfl) | rfl | trivial | kernel_rfl | omega | exact Nat.le_of_ble_eq_true rfl | exact lt_len0 rfl | exact lt_len1 rfl); conv => whnf)
  refine ifD (fun g4 => ?_) (fun g4 => ?_) <;> try dsimp only at g4
  rotate_left
  · exact absurd w4 g4
  conv => whnf
  repeat (refine And.intro ?_ ?_; (first | (with_reducible show okR _ _ _ _ = true; kernel_rfl) | (with_reducible show addC _ _ _ = _; kernel_rfl) | rfl | trivial | kernel_rfl | omega | exact Nat.le_of_ble_eq_true rfl | exact lt_len0 rfl | exact lt_len1 rfl); conv => whnf)
  refine callP_of (awake_pure) ?_
  conv => whnf
  repeat (refine And.intro ?_ ?_; (first | (with_reducible show okR _ _ _ _ = true; kernel_rfl) | (with_reducible show addC _ _ _ = _; kernel_rfl) | rfl | trivial | kernel_rfl | omega | exact Nat.le_of_ble_eq_true rfl | exact lt_len0 rfl | exact lt_len1 rfl); conv => whnf)
end Go.Proofs.Yticandbdabgkeaa.Am
