/- The contract of the reference's check of a ring. No condition: lemmas. -/
import Derived.Test.YtilepdoijdeohaaDoorAmR1
namespace Go.Proofs.YtilepdoijdeohaaDoor.Am
open Go
set_option maxRecDepth 100000

theorem ranged_one (p : XY) : rangedN [p] = !(farN p.x || farN p.y) := by simp [rangedN]

theorem refcheck_pure (r : Rg) : Pure Tryd.prog G0 14 [eRg r] (.i (checkN r)) := by
  refine pure_of mixed Tryd.func14 rfl rfl (Nat.le_of_ble_eq_true rfl) ?_
  conv => whnf
  repeat (refine And.intro ?_ ?_; (first | (with_reducible show okR _ _ _ _ = true; kernel_rfl) | (with_reducible show addC _ _ _ = _; kernel_rfl) | rfl | trivial | kernel_rfl | omega | exact Nat.le_of_ble_eq_true rfl | exact lt_len0 rfl | exact lt_len1 rfl); conv => whnf)
  refine ifD (fun h1 => ?_) (fun h1 => ?_) <;> try dsimp only at h1
  · conv => whnf
    repeat (refine And.intro ?_ ?_; (first | (with_reducible show okR _ _ _ _ = true; kernel_rfl) | (with_reducible show addC _ _ _ = _; kernel_rfl) | rfl | trivial | kernel_rfl | omega | exact Nat.le_of_ble_eq_true rfl | exact lt_len0 rfl | exact lt_len1 rfl); conv => whnf)
    rw [List.length_map] at h1
    rw [checkN, if_pos (by omega)]
  conv => whnf
  repeat (refine And.intro ?_ ?_; (first | (with_reducible show okR _ _ _ _ = true; kernel_rfl) | (with_reducible show addC _ _ _ = _; kernel_rfl) | rfl | trivial | kernel_rfl | omega | exact Nat.le_of_ble_eq_true rfl | exact lt_len0 rfl | exact lt_len1 rfl); conv => whnf)
  rw [List.length_map] at h1
  refine ifD (fun h2 => ?_) (fun h2 => ?_) <;> try dsimp only at h2
  · conv => whnf
    repeat (refine And.intro ?_ ?_; (first | (with_reducible show okR _ _ _ _ = true; kernel_rfl) | (with_reducible show addC _ _ _ = _; kernel_rfl) | rfl | trivial | kernel_rfl | omega | exact Nat.le_of_ble_eq_true rfl | exact lt_len0 rfl | exact lt_len1 rfl); conv => whnf)
    rw [List.length_map] at h2
    rw [checkN, if_neg (by omega), if_pos (by omega)]
  conv => whnf
  repeat (refine And.intro ?_ ?_; (first | (with_reducible show okR _ _ _ _ = true; kernel_rfl) | (with_reducible show addC _ _ _ = _; kernel_rfl) | rfl | trivial | kernel_rfl | omega | exact Nat.le_of_ble_eq_true rfl | exact lt_len0 rfl | exact lt_len1 rfl); conv => whnf)
  rw [List.length_map] at h2
  refine ifD (fun h3 => ?_) (fun h3 => ?_) <;> try dsimp only at h3
  · conv => whnf
    repeat (refine And.intro ?_ ?_; (first | (with_reducible show okR _ _ _ _ = true; kernel_rfl) | (with_reducible show addC _ _ _ = _; kernel_rfl) | rfl | trivial | kernel_rfl | omega | exact Nat.le_of_ble_eq_true rfl | exact lt_len0 rfl | exact lt_len1 rfl); conv => whnf)
    rw [checkN, if_neg (by omega), if_neg (by omega), if_pos (by omega)]
  conv => whnf
  repeat (refine And.intro ?_ ?_; (first | (with_reducible show okR _ _ _ _ = true; kernel_rfl) | (with_reducible show addC _ _ _ = _; kernel_rfl) | rfl | trivial | kernel_rfl | omega | exact Nat.le_of_ble_eq_true rfl | exact lt_len0 rfl | exact lt_len1 rfl); conv => whnf)
  refine ifD (fun h4 => ?_) (fun h4 => ?_) <;> try dsimp only at h4
  · conv => whnf
    repeat (refine And.intro ?_ ?_; (first | (with_reducible show okR _ _ _ _ = true; kernel_rfl) | (with_reducible show addC _ _ _ = _; kernel_rfl) | rfl | trivial | kernel_rfl | omega | exact Nat.le_of_ble_eq_true rfl | exact lt_len0 rfl | exact lt_len1 rfl); conv => whnf)
    rw [checkN, if_neg (by omega), if_neg (by omega), if_pos (by omega)]
  conv => whnf
  repeat (refine And.intro ?_ ?_; (first | (with_reducible show okR _ _ _ _ = true; kernel_rfl) | (with_reducible show addC _ _ _ = _; kernel_rfl) | rfl | trivial | kernel_rfl | omega | exact Nat.le_of_ble_eq_true rfl | exact lt_len0 rfl | exact lt_len1 rfl); conv => whnf)
  have hc : checkN r = rdsErr r.l := by rw [checkN, if_neg (by omega), if_neg (by omega), if_neg (by omega)]
  refine loop_rule mixed (ι := Nat) (fun k s => [(1, .lptr 1 (s 1) 0 0), (3, .i k)]) (fun _ s => [(1, ⟨s 1, 0, 2, [[.i r.z, .sl 3 (r.l.map eRd)]]⟩)]) (fun k => k ≤ r.l.length ∧ rdsErr r.l = rdsErr (r.l.drop k)) (fun k => r.l.length - k) 0 ⟨by omega, rfl⟩ (weakTo_cov ?_ ?_) fun k hk s ct => ?_
  · conv => whnf
    repeat (refine And.intro ?_ ?_; (first | exact rfl | exact Or.inl rfl | exact congrArg (SV.int .i64) (by first | rfl | omega | (simp; done) | (simp; omega))); conv => whnf)
    exact trivial
  · conv => whnf
    repeat (refine And.intro ?_ ?_; (first | exact rfl | exact Or.inl rfl | exact congrArg (SV.int .i64) (by first | rfl | omega | (simp; done) | (simp; omega))); conv => whnf)
    exact trivial
  obtain ⟨hk, he⟩ := hk
  conv => whnf
  repeat (refine And.intro ?_ ?_; (first | (with_reducible show okR _ _ _ _ = true; kernel_rfl) | (with_reducible show addC _ _ _ = _; kernel_rfl) | rfl | trivial | kernel_rfl | omega | exact Nat.le_of_ble_eq_true rfl | exact lt_len0 rfl | exact lt_len1 rfl); conv => whnf)
  refine ifD (fun h5 => ?_) (fun h5 => ?_) <;> try dsimp only at h5
  · conv => whnf
    repeat (refine And.intro ?_ ?_; (first | (with_reducible show okR _ _ _ _ = true; kernel_rfl) | (with_reducible show addC _ _ _ = _; kernel_rfl) | rfl | trivial | kernel_rfl | omega | exact Nat.le_of_ble_eq_true rfl | exact lt_len0 rfl | exact lt_len1 rfl); conv => whnf)
    rw [List.length_map] at h5
    obtain ⟨x, hx⟩ := get_lt (l := r.l) (k := k) (by omega)
    rw [drop_cons hx] at he
    have next : rdErr x = 0 → rdsErr r.l = rdsErr (r.l.drop (k + 1)) := fun h0 => by rw [he, rdsErr, if_pos h0]
    have bad : rdErr x ≠ 0 → checkN r = rdErr x := fun h0 => by rw [hc, he, rdsErr, if_neg h0]
    refine ⟨_, get_map hx, ?_⟩
    conv => whnf
    repeat (refine And.intro ?_ ?_; (first | (with_reducible show okR _ _ _ _ = true; kernel_rfl) | (with_reducible show addC _ _ _ = _; kernel_rfl) | rfl | trivial | kernel_rfl | omega | exact Nat.le_of_ble_eq_true rfl | exact lt_len0 rfl | exact lt_len1 rfl); conv => whnf)
    obtain ⟨⟨px, py⟩, ok⟩ := x
    cases ok with
    | true =>
      conv => whnf
      repeat (refine And.intro ?_ ?_; (first | (with_reducible show okR _ _ _ _ = true; kernel_rfl) | (with_reducible show addC _ _ _ = _; kernel_rfl) | rfl | trivial | kernel_rfl | omega | exact Nat.le_of_ble_eq_true rfl | exact lt_len0 rfl | exact lt_len1 rfl); conv => whnf)
      refine callP_of (ranged_pure [⟨px, py⟩] (by simp)) ?_
      conv => whnf
      repeat (refine And.intro ?_ ?_; (first | (with_reducible show okR _ _ _ _ = true; kernel_rfl) | (with_reducible show addC _ _ _ = _; kernel_rfl) | rfl | trivial | kernel_rfl | omega | exact Nat.le_of_ble_eq_true rfl | exact lt_len0 rfl | exact lt_len1 rfl); conv => whnf)
      refine ifB_intro (fun hr => ?_) (fun hr => ?_) <;> try dsimp only at hr
      · conv => whnf
        repeat (refine And.intro ?_ ?_; (first | (with_reducible show okR _ _ _ _ = true; kernel_rfl) | (with_reducible show addC _ _ _ = _; kernel_rfl) | rfl | trivial | kernel_rfl | omega | exact Nat.le_of_ble_eq_true rfl | exact lt_len0 rfl | exact lt_len1 rfl); conv => whnf)
        have e : rdErr ⟨⟨px, py⟩, true⟩ = 9 := by
          rw [ranged_one] at hr
          have hr : (farN px || farN py) = true := by simpa using hr
          show (if (farN px || farN py) = true then (9 : Int) else 0) = 9
          rw [if_pos hr]
        rw [bad (by omega), e]
      conv => whnf
      repeat (refine And.intro ?_ ?_; (first | (with_reducible show okR _ _ _ _ = true; kernel_rfl) | (with_reducible show addC _ _ _ = _; kernel_rfl) | rfl | trivial | kernel_rfl | omega | exact Nat.le_of_ble_eq_true rfl | exact lt_len0 rfl | exact lt_len1 rfl); conv => whnf)
      have e : rdErr ⟨⟨px, py⟩, true⟩ = 0 := by
        rw [ranged_one] at hr
        have hr : ¬ (farN px || farN py) = true := by simpa using hr
        show (if (farN px || farN py) = true then (9 : Int) else 0) = 0
        rw [if_neg hr]
      refine inI (by omega) (by omega) ?_
      conv => whnf
      repeat (refine And.intro ?_ ?_; (first | (with_reducible show okR _ _ _ _ = true; kernel_rfl) | (with_reducible show addC _ _ _ = _; kernel_rfl) | rfl | trivial | kernel_rfl | omega | exact Nat.le_of_ble_eq_true rfl | exact lt_len0 rfl | exact lt_len1 rfl); conv => whnf)
      refine ⟨k + 1, ⟨by omega, next e⟩, by omega, weakTo_cov ?_ ?_⟩
      · conv => whnf
        repeat (refine And.intro ?_ ?_; (first | exact rfl | exact Or.inl rfl | exact congrArg (SV.int .i64) (by first | rfl | omega | (simp; done) | (simp; omega))); conv => whnf)
        exact trivial
      · conv => whnf
        repeat (refine And.intro ?_ ?_; (first | exact rfl | exact Or.inl rfl | exact congrArg (SV.int .i64) (by first | rfl | omega | (simp; done) | (simp; omega))); conv => whnf)
        exact trivial
    | false =>
      conv => whnf
      repeat (refine And.intro ?_ ?_; (first | (with_reducible show okR _ _ _ _ = true; kernel_rfl) | (with_reducible show addC _ _ _ = _; kernel_rfl) | rfl | trivial | kernel_rfl | omega | exact Nat.le_of_ble_eq_true rfl | exact lt_len0 rfl | exact lt_len1 rfl); conv => whnf)
      refine ifB_intro (fun hz => ?_) (fun hz => ?_) <;> try dsimp only at hz
      · conv => whnf
        repeat (refine And.intro ?_ ?_; (first | (with_reducible show okR _ _ _ _ = true; kernel_rfl) | (with_reducible show addC _ _ _ = _; kernel_rfl) | rfl | trivial | kernel_rfl | omega | exact Nat.le_of_ble_eq_true rfl | exact lt_len0 rfl | exact lt_len1 rfl); conv => whnf)
        have hz' : ¬ px = 0 ∨ ¬ py = 0 := by simpa using hz
        have e : rdErr ⟨⟨px, py⟩, false⟩ = 19 := by
          show (if px = 0 ∧ py = 0 then (0 : Int) else 19) = 19
          rw [if_neg (by omega)]
        rw [bad (by omega), e]
      conv => whnf
      repeat (refine And.intro ?_ ?_; (first | (with_reducible show okR _ _ _ _ = true; kernel_rfl) | (with_reducible show addC _ _ _ = _; kernel_rfl) | rfl | trivial | kernel_rfl | omega | exact Nat.le_of_ble_eq_true rfl | exact lt_len0 rfl | exact lt_len1 rfl); conv => whnf)
      have hz' : px = 0 ∧ py = 0 := by simpa using hz
      refine inI (by omega) (by omega) ?_
      conv => whnf
      repeat (refine And.intro ?_ ?_; (first | (with_reducible show okR _ _ _ _ = true; kernel_rfl) | (with_reducible show addC _ _ _ = _; kernel_rfl) | rfl | trivial | kernel_rfl | omega | exact Nat.le_of_ble_eq_true rfl | exact lt_len0 rfl | exact lt_len1 rfl); conv => whnf)
      refine ⟨k + 1, ⟨by omega, next (by simp [rdErr, hz'])⟩, by omega, weakTo_cov ?_ ?_⟩
      · conv => whnf
        repeat (refine And.intro ?_ ?_; (first | exact rfl | exact Or.inl rfl | exact congrArg (SV.int .i64) (by first | rfl | omega | (simp; done) | (simp; omega))); conv => whnf)
        exact trivial
      · conv => whnf
        repeat (refine And.intro ?_ ?_; (first | exact rfl | exact Or.inl rfl | exact congrArg (SV.int .i64) (by first | rfl | omega | (simp; done) | (simp; omega))); conv => whnf)
        exact trivial
  · conv => whnf
    repeat (refine And.intro ?_ ?_; (first | (with_reducible show okR _ _ _ _ = true; kernel_rfl) | (with_reducible show addC _ _ _ = _; kernel_rfl) | rfl | trivial | kernel_rfl | omega | exact Nat.le_of_ble_eq_true rfl | exact lt_len0 rfl | exact lt_len1 rfl); conv => whnf)
    rw [List.length_map] at h5
    rw [hc, he, List.drop_eq_nil_of_le (by omega)]
    rfl
end Go.Proofs.YtilepdoijdeohaaDoor.Am
