/- The statement on repaired rings, as a run. No condition: definitions and lemmas. -/
import Derived.Test.YtilepdoijdeohaaDoorAmR28
namespace Go.Proofs.YtilepdoijdeohaaDoor.Am
open Go
set_option maxRecDepth 100000

theorem check_zero {r : Rg} (ho : Okay r) : Pure Tryd.prog G0 13 [eRg r] (.i 0) := by
  have h := check_pure r
  rw [check_okay.2 ho] at h
  exact h
theorem repair_bad (r : Rg) (most : Int) (h0 : checkN r ≠ 0) : Pure Tryd.prog G0 22 [eRg r, .i most] (.tup [.sl 2 [], .i (checkN r)]) := by
  refine pure_of mixed Tryd.func22 rfl rfl (Nat.le_of_ble_eq_true rfl) ?_
  conv => whnf
  repeat (refine And.intro ?_ ?_; (first | (with_reducible show okR _ _ _ _ = true; kernel_rfl) | (with_reducible show addC _ _ _ = _; kernel_rfl) | rfl | trivial | kernel_rfl | omega | exact Nat.le_of_ble_eq_true rfl | exact lt_len0 rfl | exact lt_len1 rfl); conv => whnf)
  refine callP_of (check_pure r) ?_
  conv => whnf
  repeat (refine And.intro ?_ ?_; (first | (with_reducible show okR _ _ _ _ = true; kernel_rfl) | (with_reducible show addC _ _ _ = _; kernel_rfl) | rfl | trivial | kernel_rfl | omega | exact Nat.le_of_ble_eq_true rfl | exact lt_len0 rfl | exact lt_len1 rfl); conv => whnf)
  refine ifD (fun h1 => ?_) (fun h1 => ?_) <;> try dsimp only at h1
  · conv => whnf
    repeat (refine And.intro ?_ ?_; (first | (with_reducible show okR _ _ _ _ = true; kernel_rfl) | (with_reducible show addC _ _ _ = _; kernel_rfl) | rfl | trivial | kernel_rfl | omega | exact Nat.le_of_ble_eq_true rfl | exact lt_len0 rfl | exact lt_len1 rfl); conv => whnf)
    exact trivial
  · exact (h1 h0).elim

theorem fills_bad (r : Rg) (most : Int) (h0 : checkN r ≠ 0) : Pure Tryd.prog G0 7 [eRg r, .i most] (.bool true) := by
  refine pure_of mixed Tryd.func7 rfl rfl (Nat.le_of_ble_eq_true rfl) ?_
  conv => whnf
  repeat (refine And.intro ?_ ?_; (first | (with_reducible show okR _ _ _ _ = true; kernel_rfl) | (with_reducible show addC _ _ _ = _; kernel_rfl) | rfl | trivial | kernel_rfl | omega | exact Nat.le_of_ble_eq_true rfl | exact lt_len0 rfl | exact lt_len1 rfl); conv => whnf)
  refine callP_of (check_pure r) ?_
  conv => whnf
  repeat (refine And.intro ?_ ?_; (first | (with_reducible show okR _ _ _ _ = true; kernel_rfl) | (with_reducible show addC _ _ _ = _; kernel_rfl) | rfl | trivial | kernel_rfl | omega | exact Nat.le_of_ble_eq_true rfl | exact lt_len0 rfl | exact lt_len1 rfl); conv => whnf)
  refine ifD (fun h1 => ?_) (fun h1 => ?_) <;> try dsimp only at h1
  · conv => whnf
    repeat (refine And.intro ?_ ?_; (first | (with_reducible show okR _ _ _ _ = true; kernel_rfl) | (with_reducible show addC _ _ _ = _; kernel_rfl) | rfl | trivial | kernel_rfl | omega | exact Nat.le_of_ble_eq_true rfl | exact lt_len0 rfl | exact lt_len1 rfl); conv => whnf)
    refine callP_of (repair_bad r most h0) ?_
    conv => whnf
    repeat (refine And.intro ?_ ?_; (first | (with_reducible show okR _ _ _ _ = true; kernel_rfl) | (with_reducible show addC _ _ _ = _; kernel_rfl) | rfl | trivial | kernel_rfl | omega | exact Nat.le_of_ble_eq_true rfl | exact lt_len0 rfl | exact lt_len1 rfl); conv => whnf)
    refine ifD (fun h2 => ?_) (fun h2 => ?_) <;> try dsimp only at h2
    · conv => whnf
      repeat (refine And.intro ?_ ?_; (first | (with_reducible show okR _ _ _ _ = true; kernel_rfl) | (with_reducible show addC _ _ _ = _; kernel_rfl) | rfl | trivial | kernel_rfl | omega | exact Nat.le_of_ble_eq_true rfl | exact lt_len0 rfl | exact lt_len1 rfl); conv => whnf)
      refine callP_of (check_pure r) ?_
      conv => whnf
      repeat (refine And.intro ?_ ?_; (first | (with_reducible show okR _ _ _ _ = true; kernel_rfl) | (with_reducible show addC _ _ _ = _; kernel_rfl) | rfl | trivial | kernel_rfl | omega | exact Nat.le_of_ble_eq_true rfl | exact lt_len0 rfl | exact lt_len1 rfl); conv => whnf)
      refine ifD (fun h3 => ?_) (fun h3 => ?_) <;> try dsimp only at h3
      · conv => whnf
        repeat (refine And.intro ?_ ?_; (first | (with_reducible show okR _ _ _ _ = true; kernel_rfl) | (with_reducible show addC _ _ _ = _; kernel_rfl) | rfl | trivial | kernel_rfl | omega | exact Nat.le_of_ble_eq_true rfl | exact lt_len0 rfl | exact lt_len1 rfl); conv => whnf)
        refine callP_of (awake_pure) ?_
        conv => whnf
        repeat (refine And.intro ?_ ?_; (first | (with_reducible show okR _ _ _ _ = true; kernel_rfl) | (with_reducible show addC _ _ _ = _; kernel_rfl) | rfl | trivial | kernel_rfl | omega | exact Nat.le_of_ble_eq_true rfl | exact lt_len0 rfl | exact lt_len1 rfl); conv => whnf)
      · exact absurd rfl h3
    · exact absurd h0 h2
  · exact absurd h0 h1

/-- The bounds of the first readings that are not gaps. -/
def bndN (l : List Rd) : Nat → Bool × XY × XY
  | 0 => (false, ⟨0, 0⟩, ⟨0, 0⟩)
  | k + 1 =>
    if (rdAt l k).ok = true then
      let lo := if (bndN l k).1 = true then (bndN l k).2.1 else (rdAt l k).p
      let hi := if (bndN l k).1 = true then (bndN l k).2.2 else (rdAt l k).p
      (true, ⟨min lo.x (rdAt l k).p.x, min lo.y (rdAt l k).p.y⟩, ⟨max hi.x (rdAt l k).p.x, max hi.y (rdAt l k).p.y⟩)
    else bndN l k
theorem bnd_within (l : List Rd) : ∀ k i, i < k → (rdAt l i).ok = true → (bndN l k).1 = true ∧ ((bndN l k).2.1.x ≤ (rdAt l i).p.x ∧ (rdAt l i).p.x ≤ (bndN l k).2.2.x) ∧ (bndN l k).2.1.y ≤ (rdAt l i).p.y ∧ (rdAt l i).p.y ≤ (bndN l k).2.2.y
  | k + 1, i, hi, hok => by
    unfold bndN
    by_cases hk : (rdAt l k).ok = true
    · rw [if_pos hk]
      refine ⟨rfl, ?_⟩
      by_cases e : i = k
      · subst e
        simp only
        omega
      · obtain ⟨h1, h2, h3⟩ := bnd_within l k i (by omega) hok
        rw [h1]
        simp only [if_true]
        omega
    · rw [if_neg hk]
      have e : i ≠ k := fun e => hk (e ▸ hok)
      exact bnd_within l k i (by omega) hok

theorem fills_good (r : Rg) (most : Int) (ho : Okay r) : Pure Tryd.prog G0 7 [eRg r, .i most] (.bool true) := by
  have hl := ho.high
  have hck := check_zero ho
  have hrep := repair_pure r most (by omega)
  have hiff := repair_ok ho most
  have herr := repair_err ho most
  have hps : repairErr r most ≠ 0 → repairN r most = [] := fun h => by rw [repairN, if_pos h]
  have hpe : repairErr r most = 0 → repairN r most = (List.range r.l.length).map (fillN r.l) := fun h => repair_eq h
  have hc := okCount_gaps r.l
  have hgl := gapsOf_le r.l
  have hml0 : (r.l.map eRd).length = r.l.length := List.length_map ..
  generalize repairErr r most = er at *
  generalize repairN r most = ps at *
  refine pure_of mixed Tryd.func7 rfl rfl (Nat.le_of_ble_eq_true rfl) ?_
  conv => whnf
  repeat (refine And.intro ?_ ?_; (first | (with_reducible show okR _ _ _ _ = true; kernel_rfl) | (with_reducible show addC _ _ _ = _; kernel_rfl) | rfl | trivial | kernel_rfl | omega | exact Nat.le_of_ble_eq_true rfl | exact lt_len0 rfl | exact lt_len1 rfl); conv => whnf)
  refine callP_of (hck) ?_
  conv => whnf
  repeat (refine And.intro ?_ ?_; (first | (with_reducible show okR _ _ _ _ = true; kernel_rfl) | (with_reducible show addC _ _ _ = _; kernel_rfl) | rfl | trivial | kernel_rfl | omega | exact Nat.le_of_ble_eq_true rfl | exact lt_len0 rfl | exact lt_len1 rfl); conv => whnf)
  refine ifD (fun h1 => ?_) (fun h1 => ?_) <;> try dsimp only at h1
  · exfalso; simp at h1; omega
  conv => whnf
  repeat (refine And.intro ?_ ?_; (first | (with_reducible show okR _ _ _ _ = true; kernel_rfl) | (with_reducible show addC _ _ _ = _; kernel_rfl) | rfl | trivial | kernel_rfl | omega | exact Nat.le_of_ble_eq_true rfl | exact lt_len0 rfl | exact lt_len1 rfl); conv => whnf)
  refine callP_of (hrep) ?_
  conv => whnf
  repeat (refine And.intro ?_ ?_; (first | (with_reducible show okR _ _ _ _ = true; kernel_rfl) | (with_reducible show addC _ _ _ = _; kernel_rfl) | rfl | trivial | kernel_rfl | omega | exact Nat.le_of_ble_eq_true rfl | exact lt_len0 rfl | exact lt_len1 rfl); conv => whnf)
  refine callP_of (gaps_pure r (by omega)) ?_
  conv => whnf
  repeat (refine And.intro ?_ ?_; (first | (with_reducible show okR _ _ _ _ = true; kernel_rfl) | (with_reducible show addC _ _ _ = _; kernel_rfl) | rfl | trivial | kernel_rfl | omega | exact Nat.le_of_ble_eq_true rfl | exact lt_len0 rfl | exact lt_len1 rfl); conv => whnf)
  refine inI (by omega) (by omega) ?_
  conv => whnf
  repeat (refine And.intro ?_ ?_; (first | (with_reducible show okR _ _ _ _ = true; kernel_rfl) | (with_reducible show addC _ _ _ = _; kernel_rfl) | rfl | trivial | kernel_rfl | omega | exact Nat.le_of_ble_eq_true rfl | exact lt_len0 rfl | exact lt_len1 rfl); conv => whnf)
  refine ifD (fun h2 => ?_) (fun h2 => ?_)
  conv => whnf
  repeat (refine And.intro ?_ ?_; (first | (with_reducible show okR _ _ _ _ = true; kernel_rfl) | (with_reducible show addC _ _ _ = _; kernel_rfl) | rfl | trivial | kernel_rfl | omega | exact Nat.le_of_ble_eq_true rfl | exact lt_len0 rfl | exact lt_len1 rfl); conv => whnf)
  refine ifD (fun h3 => ?_) (fun h3 => ?_)
  all_goals
    try dsimp only at h2
    try dsimp only at h3
    conv => whnf
    repeat (refine And.intro ?_ ?_; (first | (with_reducible show okR _ _ _ _ = true; kernel_rfl) | (with_reducible show addC _ _ _ = _; kernel_rfl) | rfl | trivial | kernel_rfl | omega | exact Nat.le_of_ble_eq_true rfl | exact lt_len0 rfl | exact lt_len1 rfl); conv => whnf)
    refine ifB_intro (fun h4 => ?_) (fun h4 => ?_)
    · exfalso
      first
        | (have e : er = 0 := hiff.2 ⟨by omega, .inl (by omega)⟩; simp [e] at h4; done)
        | (have e : er = 0 ↔ (mostTo r.l r.l.length : Int) ≤ most := ⟨fun h => by have := hiff.1 h; omega, fun h => hiff.2 ⟨by omega, .inr h⟩⟩; simp [e] at h4; done)
        | (have e : er ≠ 0 := fun h => by (have := hiff.1 h; omega)
           simp [e] at h4; done)
    clear h4
    conv => whnf
    repeat (refine And.intro ?_ ?_; (first | (with_reducible show okR _ _ _ _ = true; kernel_rfl) | (with_reducible show addC _ _ _ = _; kernel_rfl) | rfl | trivial | kernel_rfl | omega | exact Nat.le_of_ble_eq_true rfl | exact lt_len0 rfl | exact lt_len1 rfl); conv => whnf)
    refine ifD (fun h5 => ?_) (fun h5 => ?_) <;> try dsimp only at h5
    · have hp := hps h5
      subst hp
      conv => whnf
      repeat (refine And.intro ?_ ?_; (first | (with_reducible show okR _ _ _ _ = true; kernel_rfl) | (with_reducible show addC _ _ _ = _; kernel_rfl) | rfl | trivial | kernel_rfl | omega | exact Nat.le_of_ble_eq_true rfl | exact lt_len0 rfl | exact lt_len1 rfl); conv => whnf)
      refine ifD (fun h6 => ?_) (fun h6 => ?_) <;> try dsimp only at h6
      · conv => whnf
        repeat (refine And.intro ?_ ?_; (first | (with_reducible show okR _ _ _ _ = true; kernel_rfl) | (with_reducible show addC _ _ _ = _; kernel_rfl) | rfl | trivial | kernel_rfl | omega | exact Nat.le_of_ble_eq_true rfl | exact lt_len0 rfl | exact lt_len1 rfl); conv => whnf)
        refine callP_of (awake_pure) ?_
        conv => whnf
        repeat (refine And.intro ?_ ?_; (first | (with_reducible show okR _ _ _ _ = true; kernel_rfl) | (with_reducible show addC _ _ _ = _; kernel_rfl) | rfl | trivial | kernel_rfl | omega | exact Nat.le_of_ble_eq_true rfl | exact lt_len0 rfl | exact lt_len1 rfl); conv => whnf)
      · exfalso; omega
    have h5 : er = 0 := by omega
    have hp := hpe h5
    have h3c := (hiff.1 h5).1
    clear hps hpe
    conv => whnf
    repeat (refine And.intro ?_ ?_; (first | (with_reducible show okR _ _ _ _ = true; kernel_rfl) | (with_reducible show addC _ _ _ = _; kernel_rfl) | rfl | trivial | kernel_rfl | omega | exact Nat.le_of_ble_eq_true rfl | exact lt_len0 rfl | exact lt_len1 rfl); conv => whnf)
    refine ifD (fun h7 => ?_) (fun h7 => ?_) <;> try dsimp only at h7
    · exfalso; rw [hp] at h7; simp at h7
    clear h7 h2
    try clear h3
    conv => whnf
    repeat (refine And.intro ?_ ?_; (first | (with_reducible show okR _ _ _ _ = true; kernel_rfl) | (with_reducible show addC _ _ _ = _; kernel_rfl) | rfl | trivial | kernel_rfl | omega | exact Nat.le_of_ble_eq_true rfl | exact lt_len0 rfl | exact lt_len1 rfl); conv => whnf)
    refine loop_weak (weak_nil_box 14 113 3 1 rfl rfl (by decide)) ?_
    refine loop_rule mixed (ι := Nat) (fun k s => [(2, .lptr 2 (s 2) 0 0), (7, .sl 2 (ps.map eP)), (11, .lptr 11 (s 11) 0 0), (12, .lptr 12 (s 12) 0 0), (13, .bool (bndN r.l k).1), (14, .lptr 14 (s 14) 0 0), (15, .i k)]) (fun k s => [(2, ⟨s 2, 0, 2, [[.i r.z, .sl 3 (r.l.map eRd)]]⟩), (11, ⟨s 11, 0, 2, [eP (bndN r.l k).2.1]⟩), (12, ⟨s 12, 0, 2, [eP (bndN r.l k).2.2]⟩), (14, ⟨s 14, 0, 2, [[.i r.z, .lrow 113 (s 113)]]⟩), (113, ⟨s 113, 1, 3, ((List.range k).map fun i => (⟨fillN r.l i, true⟩ : Rd)).map eRd⟩)]) (fun k => k ≤ r.l.length) (fun k => r.l.length - k) 0 (by omega) (weakTo_cov ?_ ?_) fun k hk s ct => ?_
    · conv => whnf
      repeat (refine And.intro ?_ ?_; (first | exact rfl | exact Or.inl rfl | exact congrArg (SV.int .i64) (by first | rfl | omega | (simp; done) | (simp; omega))); conv => whnf)
      exact trivial
    · conv => whnf
      repeat (refine And.intro ?_ ?_; (first | exact rfl | exact Or.inl rfl | exact congrArg (SV.int .i64) (by first | rfl | omega | (simp; done) | (simp; omega))); conv => whnf)
      exact trivial
    conv => whnf
    repeat (refine And.intro ?_ ?_; (first | (with_reducible show okR _ _ _ _ = true; kernel_rfl) | (with_reducible show addC _ _ _ = _; kernel_rfl) | rfl | trivial | kernel_rfl | omega | exact Nat.le_of_ble_eq_true rfl | exact lt_len0 rfl | exact lt_len1 rfl); conv => whnf)
    refine ifD (fun h8 => ?_) (fun h8 => ?_) <;> try dsimp only at h8
    · have hk' : k < r.l.length := by rw [hp] at h8; simp at h8; omega
      have hx := rdAt_get hk'
      have hpk : ps[k]? = some (fillN r.l k) := by rw [hp, List.getElem?_map, List.getElem?_range hk']; rfl
      have hfk : (rdAt r.l k).ok = true → fillN r.l k = (rdAt r.l k).p := fun h => by rw [fillN, if_pos h]
      have hB1 : bndN r.l (k + 1) = if (rdAt r.l k).ok = true then (true, ⟨min (if (bndN r.l k).1 = true then (bndN r.l k).2.1 else (rdAt r.l k).p).x (rdAt r.l k).p.x, min (if (bndN r.l k).1 = true then (bndN r.l k).2.1 else (rdAt r.l k).p).y (rdAt r.l k).p.y⟩, ⟨max (if (bndN r.l k).1 = true then (bndN r.l k).2.2 else (rdAt r.l k).p).x (rdAt r.l k).p.x, max (if (bndN r.l k).1 = true then (bndN r.l k).2.2 else (rdAt r.l k).p).y (rdAt r.l k).p.y⟩) else bndN r.l k := rfl
      have hrow : ((List.range (k + 1)).map fun i => (⟨fillN r.l i, true⟩ : Rd)).map eRd = ((List.range k).map fun i => (⟨fillN r.l i, true⟩ : Rd)).map eRd ++ [eRd ⟨fillN r.l k, true⟩] := by
        rw [List.range_succ, List.map_append, List.map_append]; rfl
      generalize rdAt r.l k = x at *
      obtain ⟨⟨px, py⟩, ok⟩ := x
      conv => whnf
      repeat (refine And.intro ?_ ?_; (first | (with_reducible show okR _ _ _ _ = true; kernel_rfl) | (with_reducible show addC _ _ _ = _; kernel_rfl) | rfl | trivial | kernel_rfl | omega | exact Nat.le_of_ble_eq_true rfl | exact lt_len0 rfl | exact lt_len1 rfl); conv => whnf)
      refine ⟨_, get_map hpk, ?_⟩
      conv => whnf
      repeat (refine And.intro ?_ ?_; (first | (with_reducible show okR _ _ _ _ = true; kernel_rfl) | (with_reducible show addC _ _ _ = _; kernel_rfl) | rfl | trivial | kernel_rfl | omega | exact Nat.le_of_ble_eq_true rfl | exact lt_len0 rfl | exact lt_len1 rfl); conv => whnf)
      refine And.intro (show ((((List.range k).map fun i => (⟨fillN r.l i, true⟩ : Rd)).map eRd).length + 1) * 24 ≤ 140737488355328 from by simp; omega) ?_
      conv => whnf
      repeat (refine And.intro ?_ ?_; (first | (with_reducible show okR _ _ _ _ = true; kernel_rfl) | (with_reducible show addC _ _ _ = _; kernel_rfl) | rfl | trivial | kernel_rfl | omega | exact Nat.le_of_ble_eq_true rfl | exact lt_len0 rfl | exact lt_len1 rfl); conv => whnf)
      refine ⟨_, get_map hx, ?_⟩
      conv => whnf
      repeat (refine And.intro ?_ ?_; (first | (with_reducible show okR _ _ _ _ = true; kernel_rfl) | (with_reducible show addC _ _ _ = _; kernel_rfl) | rfl | trivial | kernel_rfl | omega | exact Nat.le_of_ble_eq_true rfl | exact lt_len0 rfl | exact lt_len1 rfl); conv => whnf)
      refine ⟨_, get_map hx, ?_⟩
      conv => whnf
      repeat (refine And.intro ?_ ?_; (first | (with_reducible show okR _ _ _ _ = true; kernel_rfl) | (with_reducible show addC _ _ _ = _; kernel_rfl) | rfl | trivial | kernel_rfl | omega | exact Nat.le_of_ble_eq_true rfl | exact lt_len0 rfl | exact lt_len1 rfl); conv => whnf)
      cases ok with
      | false =>
        have hB : bndN r.l (k + 1) = bndN r.l k := hB1
        conv => whnf
        repeat (refine And.intro ?_ ?_; (first | (with_reducible show okR _ _ _ _ = true; kernel_rfl) | (with_reducible show addC _ _ _ = _; kernel_rfl) | rfl | trivial | kernel_rfl | omega | exact Nat.le_of_ble_eq_true rfl | exact lt_len0 rfl | exact lt_len1 rfl); conv => whnf)
        refine inI (by omega) (by omega) ?_
        conv => whnf
        repeat (refine And.intro ?_ ?_; (first | (with_reducible show okR _ _ _ _ = true; kernel_rfl) | (with_reducible show addC _ _ _ = _; kernel_rfl) | rfl | trivial | kernel_rfl | omega | exact Nat.le_of_ble_eq_true rfl | exact lt_len0 rfl | exact lt_len1 rfl); conv => whnf)
        refine ⟨k + 1, by omega, by omega, weakTo_cov ?_ ?_⟩
        · conv => whnf
          repeat (refine And.intro ?_ ?_; (first | exact rfl | exact Or.inl rfl | exact Or.inl (congrArg (fun B : Bool × XY × XY => SV.bool B.1) hB.symm) | exact Or.inl (congrArg (SV.int .i64) (by omega)) | exact congrArg (fun B : Bool × XY × XY => SV.bool B.1) hB.symm | exact congrArg (SV.int .i64) (by omega)); conv => whnf)
          exact trivial
        · conv => whnf
          repeat (refine And.intro ?_ ?_; (first | exact congrArg (fun B : Bool × XY × XY => some (Ob.mk _ 0 _ [eP B.2.1])) hB.symm | exact congrArg (fun B : Bool × XY × XY => some (Ob.mk _ 0 _ [eP B.2.2])) hB.symm | exact congrArg (fun l => some (Ob.mk _ 1 3 l)) hrow.symm | exact rfl); conv => whnf)
          exact trivial
      | true =>
        have ef : fillN r.l k = ⟨px, py⟩ := hfk rfl
        rw [ef] at hpk
        conv => whnf
        repeat (refine And.intro ?_ ?_; (first | (with_reducible show okR _ _ _ _ = true; kernel_rfl) | (with_reducible show addC _ _ _ = _; kernel_rfl) | rfl | trivial | kernel_rfl | omega | exact Nat.le_of_ble_eq_true rfl | exact lt_len0 rfl | exact lt_len1 rfl); conv => whnf)
        refine ⟨_, get_map hpk, ?_⟩
        conv => whnf
        repeat (refine And.intro ?_ ?_; (first | (with_reducible show okR _ _ _ _ = true; kernel_rfl) | (with_reducible show addC _ _ _ = _; kernel_rfl) | rfl | trivial | kernel_rfl | omega | exact Nat.le_of_ble_eq_true rfl | exact lt_len0 rfl | exact lt_len1 rfl); conv => whnf)
        refine ifB_intro (fun h9 => ?_) (fun h9 => ?_) <;> try dsimp only at h9
        · exfalso; simp at h9
        conv => whnf
        repeat (refine And.intro ?_ ?_; (first | (with_reducible show okR _ _ _ _ = true; kernel_rfl) | (with_reducible show addC _ _ _ = _; kernel_rfl) | rfl | trivial | kernel_rfl | omega | exact Nat.le_of_ble_eq_true rfl | exact lt_len0 rfl | exact lt_len1 rfl); conv => whnf)
        refine ifB_intro (fun h10 => ?_) (fun h10 => ?_) <;> try dsimp only at h10
        · have h10 : (bndN r.l k).1 = false := by simpa using h10
          have hB : bndN r.l (k + 1) = (true, ⟨min px px, min py py⟩, ⟨max px px, max py py⟩) := by
            rw [hB1]
            simp only [h10, Bool.false_eq_true, if_false, if_true]
          conv => whnf
          repeat (refine And.intro ?_ ?_; (first | (with_reducible show okR _ _ _ _ = true; kernel_rfl) | (with_reducible show addC _ _ _ = _; kernel_rfl) | rfl | trivial | kernel_rfl | omega | exact Nat.le_of_ble_eq_true rfl | exact lt_len0 rfl | exact lt_len1 rfl); conv => whnf)
          refine inI (by omega) (by omega) ?_
          conv => whnf
          repeat (refine And.intro ?_ ?_; (first | (with_reducible show okR _ _ _ _ = true; kernel_rfl) | (with_reducible show addC _ _ _ = _; kernel_rfl) | rfl | trivial | kernel_rfl | omega | exact Nat.le_of_ble_eq_true rfl | exact lt_len0 rfl | exact lt_len1 rfl); conv => whnf)
          refine ⟨k + 1, by omega, by omega, weakTo_cov ?_ ?_⟩
          · conv => whnf
            repeat (refine And.intro ?_ ?_; (first | exact rfl | exact Or.inl rfl | exact Or.inl (congrArg (fun B : Bool × XY × XY => SV.bool B.1) hB.symm) | exact Or.inl (congrArg (SV.int .i64) (by omega)) | exact congrArg (fun B : Bool × XY × XY => SV.bool B.1) hB.symm | exact congrArg (SV.int .i64) (by omega)); conv => whnf)
            exact trivial
          · conv => whnf
            repeat (refine And.intro ?_ ?_; (first | exact congrArg (fun B : Bool × XY × XY => some (Ob.mk _ 0 _ [eP B.2.1])) hB.symm | exact congrArg (fun B : Bool × XY × XY => some (Ob.mk _ 0 _ [eP B.2.2])) hB.symm | exact congrArg (fun l => some (Ob.mk _ 1 3 l)) hrow.symm | exact rfl); conv => whnf)
            exact trivial
        · have h10 : (bndN r.l k).1 = true := by simpa using h10
          have hB : bndN r.l (k + 1) = (true, ⟨min (bndN r.l k).2.1.x px, min (bndN r.l k).2.1.y py⟩, ⟨max (bndN r.l k).2.2.x px, max (bndN r.l k).2.2.y py⟩) := by
            rw [hB1]
            simp only [h10, if_true]
          conv => whnf
          repeat (refine And.intro ?_ ?_; (first | (with_reducible show okR _ _ _ _ = true; kernel_rfl) | (with_reducible show addC _ _ _ = _; kernel_rfl) | rfl | trivial | kernel_rfl | omega | exact Nat.le_of_ble_eq_true rfl | exact lt_len0 rfl | exact lt_len1 rfl); conv => whnf)
          refine inI (by omega) (by omega) ?_
          conv => whnf
          repeat (refine And.intro ?_ ?_; (first | (with_reducible show okR _ _ _ _ = true; kernel_rfl) | (with_reducible show addC _ _ _ = _; kernel_rfl) | rfl | trivial | kernel_rfl | omega | exact Nat.le_of_ble_eq_true rfl | exact lt_len0 rfl | exact lt_len1 rfl); conv => whnf)
          refine ⟨k + 1, by omega, by omega, weakTo_cov ?_ ?_⟩
          · conv => whnf
            repeat (refine And.intro ?_ ?_; (first | exact rfl | exact Or.inl rfl | exact Or.inl (congrArg (fun B : Bool × XY × XY => SV.bool B.1) hB.symm) | exact Or.inl ((congrArg SV.bool h10).trans (congrArg (fun B : Bool × XY × XY => SV.bool B.1) hB.symm)) | exact Or.inl (congrArg (SV.int .i64) (by omega)) | exact (congrArg SV.bool h10).trans (congrArg (fun B : Bool × XY × XY => SV.bool B.1) hB.symm) | exact congrArg (fun B : Bool × XY × XY => SV.bool B.1) hB.symm | exact congrArg (SV.int .i64) (by omega)); conv => whnf)
            exact trivial
          · conv => whnf
            repeat (refine And.intro ?_ ?_; (first | exact congrArg (fun B : Bool × XY × XY => some (Ob.mk _ 0 _ [eP B.2.1])) hB.symm | exact congrArg (fun B : Bool × XY × XY => some (Ob.mk _ 0 _ [eP B.2.2])) hB.symm | exact congrArg (fun l => some (Ob.mk _ 1 3 l)) hrow.symm | exact rfl); conv => whnf)
            exact trivial
    have hk : k = r.l.length := by rw [hp] at h8; simp at h8; omega
    subst hk
    have hwith : ∀ {i : Nat}, i < r.l.length → ((bndN r.l r.l.length).2.1.x ≤ (fillN r.l i).x ∧ (fillN r.l i).x ≤ (bndN r.l r.l.length).2.2.x) ∧ (bndN r.l r.l.length).2.1.y ≤ (fillN r.l i).y ∧ (fillN r.l i).y ≤ (bndN r.l r.l.length).2.2.y := fun hi =>
      fill_within (by omega) (fun i hi hok => (bnd_within r.l r.l.length i hi hok).2) hi
    have hget : ∀ {i : Nat}, i < r.l.length → ps[i]? = some (fillN r.l i) := fun {i} hi => by rw [hp, List.getElem?_map, List.getElem?_range hi]; rfl
    have hplen : ps.length = r.l.length := by rw [hp]; simp
    have hfull := repair_pure (fullN r) 0 (by rw [fullN_length]; omega)
    have hf1 := (repair_full ho h3c).1
    rw [(repair_full ho h3c).2, ← hp] at hfull
    have hmore := repair_pure r 32 (by omega)
    have hm1 := repair_more ho h3c
    rw [repair_eq hm1, ← hp] at hmore
    generalize repairErr (fullN r) 0 = e1 at *
    generalize repairErr r 32 = e2 at *
    generalize (bndN r.l r.l.length).2.1 = lo at *
    generalize (bndN r.l r.l.length).2.2 = hi at *
    clear h8 hk hp
    conv => whnf
    repeat (refine And.intro ?_ ?_; (first | (with_reducible show okR _ _ _ _ = true; kernel_rfl) | (with_reducible show addC _ _ _ = _; kernel_rfl) | rfl | trivial | kernel_rfl | omega | exact Nat.le_of_ble_eq_true rfl | exact lt_len0 rfl | exact lt_len1 rfl); conv => whnf)
    refine loop_rule mixed (ι := Nat) (fun k s => [(2, .lptr 2 (s 2) 0 0), (7, .sl 2 (ps.map eP)), (11, .lptr 11 (s 11) 0 0), (12, .lptr 12 (s 12) 0 0), (14, .lptr 14 (s 14) 0 0), (17, .i k)]) (fun _ s => [(2, ⟨s 2, 0, 2, [[.i r.z, .sl 3 (r.l.map eRd)]]⟩), (11, ⟨s 11, 0, 2, [eP lo]⟩), (12, ⟨s 12, 0, 2, [eP hi]⟩), (14, ⟨s 14, 0, 2, [[.i r.z, .lrow 113 (s 113)]]⟩), (113, ⟨s 113, 1, 3, (fullN r).l.map eRd⟩)]) (fun k => k ≤ r.l.length) (fun k => r.l.length - k) 0 (by omega) (weakTo_cov ?_ ?_) fun k hk s ct => ?_
    · conv => whnf
      repeat (refine And.intro ?_ ?_; (first | exact rfl | exact Or.inl rfl | exact congrArg (SV.int .i64) (by first | rfl | omega | (simp; done) | (simp; omega))); conv => whnf)
      exact trivial
    · conv => whnf
      repeat (refine And.intro ?_ ?_; (first | exact rfl | exact Or.inl rfl | exact congrArg (SV.int .i64) (by first | rfl | omega | (simp; done) | (simp; omega))); conv => whnf)
      exact trivial
    conv => whnf
    repeat (refine And.intro ?_ ?_; (first | (with_reducible show okR _ _ _ _ = true; kernel_rfl) | (with_reducible show addC _ _ _ = _; kernel_rfl) | rfl | trivial | kernel_rfl | omega | exact Nat.le_of_ble_eq_true rfl | exact lt_len0 rfl | exact lt_len1 rfl); conv => whnf)
    refine ifD (fun h11 => ?_) (fun h11 => ?_) <;> try dsimp only at h11
    · have hk' : k < r.l.length := by simp at h11; omega
      have hpk := hget hk'
      have hw := hwith hk'
      generalize fillN r.l k = f at *
      conv => whnf
      repeat (refine And.intro ?_ ?_; (first | (with_reducible show okR _ _ _ _ = true; kernel_rfl) | (with_reducible show addC _ _ _ = _; kernel_rfl) | rfl | trivial | kernel_rfl | omega | exact Nat.le_of_ble_eq_true rfl | exact lt_len0 rfl | exact lt_len1 rfl); conv => whnf)
      refine ⟨_, get_map hpk, ?_⟩
      conv => whnf
      repeat (refine And.intro ?_ ?_; (first | (with_reducible show okR _ _ _ _ = true; kernel_rfl) | (with_reducible show addC _ _ _ = _; kernel_rfl) | rfl | trivial | kernel_rfl | omega | exact Nat.le_of_ble_eq_true rfl | exact lt_len0 rfl | exact lt_len1 rfl); conv => whnf)
      refine ifD (fun q1 => ?_) (fun q1 => ?_) <;> try dsimp only at q1
      · exfalso; omega
      conv => whnf
      repeat (refine And.intro ?_ ?_; (first | (with_reducible show okR _ _ _ _ = true; kernel_rfl) | (with_reducible show addC _ _ _ = _; kernel_rfl) | rfl | trivial | kernel_rfl | omega | exact Nat.le_of_ble_eq_true rfl | exact lt_len0 rfl | exact lt_len1 rfl); conv => whnf)
      refine ⟨_, get_map hpk, ?_⟩
      conv => whnf
      repeat (refine And.intro ?_ ?_; (first | (with_reducible show okR _ _ _ _ = true; kernel_rfl) | (with_reducible show addC _ _ _ = _; kernel_rfl) | rfl | trivial | kernel_rfl | omega | exact Nat.le_of_ble_eq_true rfl | exact lt_len0 rfl | exact lt_len1 rfl); conv => whnf)
      refine ifD (fun q2 => ?_) (fun q2 => ?_) <;> try dsimp only at q2
      · exfalso; omega
      conv => whnf
      repeat (refine And.intro ?_ ?_; (first | (with_reducible show okR _ _ _ _ = true; kernel_rfl) | (with_reducible show addC _ _ _ = _; kernel_rfl) | rfl | trivial | kernel_rfl | omega | exact Nat.le_of_ble_eq_true rfl | exact lt_len0 rfl | exact lt_len1 rfl); conv => whnf)
      refine ⟨_, get_map hpk, ?_⟩
      conv => whnf
      repeat (refine And.intro ?_ ?_; (first | (with_reducible show okR _ _ _ _ = true; kernel_rfl) | (with_reducible show addC _ _ _ = _; kernel_rfl) | rfl | trivial | kernel_rfl | omega | exact Nat.le_of_ble_eq_true rfl | exact lt_len0 rfl | exact lt_len1 rfl); conv => whnf)
      refine ifD (fun q3 => ?_) (fun q3 => ?_) <;> try dsimp only at q3
      · exfalso; omega
      conv => whnf
      repeat (refine And.intro ?_ ?_; (first | (with_reducible show okR _ _ _ _ = true; kernel_rfl) | (with_reducible show addC _ _ _ = _; kernel_rfl) | rfl | trivial | kernel_rfl | omega | exact Nat.le_of_ble_eq_true rfl | exact lt_len0 rfl | exact lt_len1 rfl); conv => whnf)
      refine ⟨_, get_map hpk, ?_⟩
      conv => whnf
      repeat (refine And.intro ?_ ?_; (first | (with_reducible show okR _ _ _ _ = true; kernel_rfl) | (with_reducible show addC _ _ _ = _; kernel_rfl) | rfl | trivial | kernel_rfl | omega | exact Nat.le_of_ble_eq_true rfl | exact lt_len0 rfl | exact lt_len1 rfl); conv => whnf)
      refine ifD (fun q4 => ?_) (fun q4 => ?_) <;> try dsimp only at q4
      · exfalso; omega
      conv => whnf
      repeat (refine And.intro ?_ ?_; (first | (with_reducible show okR _ _ _ _ = true; kernel_rfl) | (with_reducible show addC _ _ _ = _; kernel_rfl) | rfl | trivial | kernel_rfl | omega | exact Nat.le_of_ble_eq_true rfl | exact lt_len0 rfl | exact lt_len1 rfl); conv => whnf)
      refine inI (by omega) (by omega) ?_
      conv => whnf
      repeat (refine And.intro ?_ ?_; (first | (with_reducible show okR _ _ _ _ = true; kernel_rfl) | (with_reducible show addC _ _ _ = _; kernel_rfl) | rfl | trivial | kernel_rfl | omega | exact Nat.le_of_ble_eq_true rfl | exact lt_len0 rfl | exact lt_len1 rfl); conv => whnf)
      refine ⟨k + 1, by omega, by omega, weakTo_cov ?_ ?_⟩
      · conv => whnf
        repeat (refine And.intro ?_ ?_; (first | exact rfl | exact Or.inl rfl | exact congrArg (SV.int .i64) (by first | rfl | omega | (simp; done) | (simp; omega))); conv => whnf)
        exact trivial
      · conv => whnf
        repeat (refine And.intro ?_ ?_; (first | exact rfl | exact Or.inl rfl | exact congrArg (SV.int .i64) (by first | rfl | omega | (simp; done) | (simp; omega))); conv => whnf)
        exact trivial
    conv => whnf
    repeat (refine And.intro ?_ ?_; (first | (with_reducible show okR _ _ _ _ = true; kernel_rfl) | (with_reducible show addC _ _ _ = _; kernel_rfl) | rfl | trivial | kernel_rfl | omega | exact Nat.le_of_ble_eq_true rfl | exact lt_len0 rfl | exact lt_len1 rfl); conv => whnf)
    refine callP_of (hfull) ?_
    conv => whnf
    repeat (refine And.intro ?_ ?_; (first | (with_reducible show okR _ _ _ _ = true; kernel_rfl) | (with_reducible show addC _ _ _ = _; kernel_rfl) | rfl | trivial | kernel_rfl | omega | exact Nat.le_of_ble_eq_true rfl | exact lt_len0 rfl | exact lt_len1 rfl); conv => whnf)
    refine callP_of (hmore) ?_
    conv => whnf
    repeat (refine And.intro ?_ ?_; (first | (with_reducible show okR _ _ _ _ = true; kernel_rfl) | (with_reducible show addC _ _ _ = _; kernel_rfl) | rfl | trivial | kernel_rfl | omega | exact Nat.le_of_ble_eq_true rfl | exact lt_len0 rfl | exact lt_len1 rfl); conv => whnf)
    refine ifD (fun h12 => ?_) (fun h12 => ?_) <;> try dsimp only at h12
    · exact absurd hf1 h12
    conv => whnf
    repeat (refine And.intro ?_ ?_; (first | (with_reducible show okR _ _ _ _ = true; kernel_rfl) | (with_reducible show addC _ _ _ = _; kernel_rfl) | rfl | trivial | kernel_rfl | omega | exact Nat.le_of_ble_eq_true rfl | exact lt_len0 rfl | exact lt_len1 rfl); conv => whnf)
    refine ifD (fun h13 => ?_) (fun h13 => ?_) <;> try dsimp only at h13
    · exact absurd hm1 h13
    conv => whnf
    repeat (refine And.intro ?_ ?_; (first | (with_reducible show okR _ _ _ _ = true; kernel_rfl) | (with_reducible show addC _ _ _ = _; kernel_rfl) | rfl | trivial | kernel_rfl | omega | exact Nat.le_of_ble_eq_true rfl | exact lt_len0 rfl | exact lt_len1 rfl); conv => whnf)
    refine ifD (fun h14 => ?_) (fun h14 => ?_) <;> try dsimp only at h14
    · exact absurd rfl h14
    conv => whnf
    repeat (refine And.intro ?_ ?_; (first | (with_reducible show okR _ _ _ _ = true; kernel_rfl) | (with_reducible show addC _ _ _ = _; kernel_rfl) | rfl | trivial | kernel_rfl | omega | exact Nat.le_of_ble_eq_true rfl | exact lt_len0 rfl | exact lt_len1 rfl); conv => whnf)
    refine ifD (fun h15 => ?_) (fun h15 => ?_) <;> try dsimp only at h15
    · exact absurd rfl h15
    conv => whnf
    repeat (refine And.intro ?_ ?_; (first | (with_reducible show okR _ _ _ _ = true; kernel_rfl) | (with_reducible show addC _ _ _ = _; kernel_rfl) | rfl | trivial | kernel_rfl | omega | exact Nat.le_of_ble_eq_true rfl | exact lt_len0 rfl | exact lt_len1 rfl); conv => whnf)
    refine loop_rule mixed (ι := Nat) (fun k _ => [(7, .sl 2 (ps.map eP)), (18, .sl 2 (ps.map eP)), (20, .sl 2 (ps.map eP)), (22, .i k)]) (fun _ _ => []) (fun k => k ≤ r.l.length) (fun k => r.l.length - k) 0 (by omega) (weakTo_cov ?_ ?_) fun k hk s ct => ?_
    · conv => whnf
      repeat (refine And.intro ?_ ?_; (first | exact rfl | exact Or.inl rfl | exact congrArg (SV.int .i64) (by first | rfl | omega | (simp; done) | (simp; omega))); conv => whnf)
      exact trivial
    · conv => whnf
      repeat (refine And.intro ?_ ?_; (first | exact rfl | exact Or.inl rfl | exact congrArg (SV.int .i64) (by first | rfl | omega | (simp; done) | (simp; omega))); conv => whnf)
      exact trivial
    conv => whnf
    repeat (refine And.intro ?_ ?_; (first | (with_reducible show okR _ _ _ _ = true; kernel_rfl) | (with_reducible show addC _ _ _ = _; kernel_rfl) | rfl | trivial | kernel_rfl | omega | exact Nat.le_of_ble_eq_true rfl | exact lt_len0 rfl | exact lt_len1 rfl); conv => whnf)
    refine ifD (fun h16 => ?_) (fun h16 => ?_) <;> try dsimp only at h16
    · have hk' : k < r.l.length := by simp at h16; omega
      have hpk := hget hk'
      generalize fillN r.l k = f at *
      conv => whnf
      repeat (refine And.intro ?_ ?_; (first | (with_reducible show okR _ _ _ _ = true; kernel_rfl) | (with_reducible show addC _ _ _ = _; kernel_rfl) | rfl | trivial | kernel_rfl | omega | exact Nat.le_of_ble_eq_true rfl | exact lt_len0 rfl | exact lt_len1 rfl); conv => whnf)
      refine ⟨_, get_map hpk, ?_⟩
      conv => whnf
      repeat (refine And.intro ?_ ?_; (first | (with_reducible show okR _ _ _ _ = true; kernel_rfl) | (with_reducible show addC _ _ _ = _; kernel_rfl) | rfl | trivial | kernel_rfl | omega | exact Nat.le_of_ble_eq_true rfl | exact lt_len0 rfl | exact lt_len1 rfl); conv => whnf)
      refine ⟨_, get_map hpk, ?_⟩
      conv => whnf
      repeat (refine And.intro ?_ ?_; (first | (with_reducible show okR _ _ _ _ = true; kernel_rfl) | (with_reducible show addC _ _ _ = _; kernel_rfl) | rfl | trivial | kernel_rfl | omega | exact Nat.le_of_ble_eq_true rfl | exact lt_len0 rfl | exact lt_len1 rfl); conv => whnf)
      refine ifB_intro (fun h17 => ?_) (fun h17 => ?_) <;> try dsimp only at h17
      · exfalso; simp at h17
      conv => whnf
      repeat (refine And.intro ?_ ?_; (first | (with_reducible show okR _ _ _ _ = true; kernel_rfl) | (with_reducible show addC _ _ _ = _; kernel_rfl) | rfl | trivial | kernel_rfl | omega | exact Nat.le_of_ble_eq_true rfl | exact lt_len0 rfl | exact lt_len1 rfl); conv => whnf)
      refine ⟨_, get_map hpk, ?_⟩
      conv => whnf
      repeat (refine And.intro ?_ ?_; (first | (with_reducible show okR _ _ _ _ = true; kernel_rfl) | (with_reducible show addC _ _ _ = _; kernel_rfl) | rfl | trivial | kernel_rfl | omega | exact Nat.le_of_ble_eq_true rfl | exact lt_len0 rfl | exact lt_len1 rfl); conv => whnf)
      refine ⟨_, get_map hpk, ?_⟩
      conv => whnf
      repeat (refine And.intro ?_ ?_; (first | (with_reducible show okR _ _ _ _ = true; kernel_rfl) | (with_reducible show addC _ _ _ = _; kernel_rfl) | rfl | trivial | kernel_rfl | omega | exact Nat.le_of_ble_eq_true rfl | exact lt_len0 rfl | exact lt_len1 rfl); conv => whnf)
      refine ifB_intro (fun h18 => ?_) (fun h18 => ?_) <;> try dsimp only at h18
      · exfalso; simp at h18
      conv => whnf
      repeat (refine And.intro ?_ ?_; (first | (with_reducible show okR _ _ _ _ = true; kernel_rfl) | (with_reducible show addC _ _ _ = _; kernel_rfl) | rfl | trivial | kernel_rfl | omega | exact Nat.le_of_ble_eq_true rfl | exact lt_len0 rfl | exact lt_len1 rfl); conv => whnf)
      refine inI (by omega) (by omega) ?_
      conv => whnf
      repeat (refine And.intro ?_ ?_; (first | (with_reducible show okR _ _ _ _ = true; kernel_rfl) | (with_reducible show addC _ _ _ = _; kernel_rfl) | rfl | trivial | kernel_rfl | omega | exact Nat.le_of_ble_eq_true rfl | exact lt_len0 rfl | exact lt_len1 rfl); conv => whnf)
      refine ⟨k + 1, by omega, by omega, weakTo_cov ?_ ?_⟩
      · conv => whnf
        repeat (refine And.intro ?_ ?_; (first | exact rfl | exact Or.inl rfl | exact congrArg (SV.int .i64) (by first | rfl | omega | (simp; done) | (simp; omega))); conv => whnf)
        exact trivial
      · conv => whnf
        repeat (refine And.intro ?_ ?_; (first | exact rfl | exact Or.inl rfl | exact congrArg (SV.int .i64) (by first | rfl | omega | (simp; done) | (simp; omega))); conv => whnf)
        exact trivial
    conv => whnf
    repeat (refine And.intro ?_ ?_; (first | (with_reducible show okR _ _ _ _ = true; kernel_rfl) | (with_reducible show addC _ _ _ = _; kernel_rfl) | rfl | trivial | kernel_rfl | omega | exact Nat.le_of_ble_eq_true rfl | exact lt_len0 rfl | exact lt_len1 rfl); conv => whnf)
    refine callP_of (awake_pure) ?_
    conv => whnf
    repeat (refine And.intro ?_ ?_; (first | (with_reducible show okR _ _ _ _ = true; kernel_rfl) | (with_reducible show addC _ _ _ = _; kernel_rfl) | rfl | trivial | kernel_rfl | omega | exact Nat.le_of_ble_eq_true rfl | exact lt_len0 rfl | exact lt_len1 rfl); conv => whnf)

theorem fills_pure (r : Rg) (most : Int) : Pure Tryd.prog G0 7 [eRg r, .i most] (.bool true) := by
  by_cases h : checkN r = 0
  · exact fills_good r most (check_okay.1 h)
  · exact fills_bad r most h
end Go.Proofs.YtilepdoijdeohaaDoor.Am
