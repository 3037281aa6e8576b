/- The contracts of cloning and joining points. No condition: definitions and lemmas. -/
import Derived.Test.YticandbdabgkeaaAmP7
namespace Go.Proofs.Yticandbdabgkeaa.Am
open Go
set_option maxRecDepth 100000

theorem clone_fresh (x : XY) (l : List XY) (hl : (x :: l).length ≤ 1000000) : FreshC Try.prog G0 40 [.sl 2 ((x :: l).map eP)] 2 ((x :: l).map eP) (.lrow 0 0) := by
  have hll : (x :: l).length = l.length + 1 := rfl
  refine fresh_intro mixed Try.func40 rfl rfl (Nat.le_of_ble_eq_true rfl) ?_
  conv => whnf
  repeat (refine And.intro ?_ ?_; (first | (with_reducible show okR _ _ _ _ = true; kernel_rfl) | (with_reducible show addC _ _ _ = _; kernel_rfl) | rfl | trivial | kernel_rfl | omega | exact Nat.le_of_ble_eq_true rfl | exact lt_len0 rfl | exact lt_len1 rfl); conv => whnf)
  refine And.intro (by simp) ?_
  conv => whnf
  repeat (refine And.intro ?_ ?_; (first | (with_reducible show okR _ _ _ _ = true; kernel_rfl) | (with_reducible show addC _ _ _ = _; kernel_rfl) | rfl | trivial | kernel_rfl | omega | exact Nat.le_of_ble_eq_true rfl | exact lt_len0 rfl | exact lt_len1 rfl); conv => whnf)
  refine And.intro (bytes_le (b := 16) rfl ?_) ?_
  · first | omega | (simp; done) | (simp; omega)
  conv => whnf
  repeat (refine And.intro ?_ ?_; (first | (with_reducible show okR _ _ _ _ = true; kernel_rfl) | (with_reducible show addC _ _ _ = _; kernel_rfl) | rfl | trivial | kernel_rfl | omega | exact Nat.le_of_ble_eq_true rfl | exact lt_len0 rfl | exact lt_len1 rfl); conv => whnf)
  exact List.nil_append _

theorem clone_empty : Pure Try.prog G0 40 [.sl 2 []] (.sl 2 []) := by
  refine pure_of mixed Try.func40 rfl rfl (Nat.le_of_ble_eq_true rfl) ?_
  conv => whnf
  repeat (refine And.intro ?_ ?_; (first | (with_reducible show okR _ _ _ _ = true; kernel_rfl) | (with_reducible show addC _ _ _ = _; kernel_rfl) | rfl | trivial | kernel_rfl | omega | exact Nat.le_of_ble_eq_true rfl | exact lt_len0 rfl | exact lt_len1 rfl); conv => whnf)
  trivial

theorem grow_fresh (n : Int) (h1 : 1 ≤ n) (h2 : n ≤ 1000000) : FreshC Try.prog G0 63 [.nils, .i n] 2 (zeroRow n.toNat) (.lsl 0 0 0 0) := by
  refine fresh_intro mixed Try.func63 rfl rfl (Nat.le_of_ble_eq_true rfl) ?_
  conv => whnf
  refine ifD (fun h3 => ?_) (fun h3 => ?_) <;> try dsimp only at h3
  · omega
  conv => whnf
  repeat (refine And.intro ?_ ?_; (first | (with_reducible show okR _ _ _ _ = true; kernel_rfl) | (with_reducible show addC _ _ _ = _; kernel_rfl) | rfl | trivial | kernel_rfl | omega | exact Nat.le_of_ble_eq_true rfl | exact lt_len0 rfl | exact lt_len1 rfl); conv => whnf)
  refine inI (by omega) (by omega) ?_
  conv => whnf
  repeat (refine And.intro ?_ ?_; (first | (with_reducible show okR _ _ _ _ = true; kernel_rfl) | (with_reducible show addC _ _ _ = _; kernel_rfl) | rfl | trivial | kernel_rfl | omega | exact Nat.le_of_ble_eq_true rfl | exact lt_len0 rfl | exact lt_len1 rfl); conv => whnf)
  refine inI (by omega) (by omega) ?_
  conv => whnf
  repeat (refine And.intro ?_ ?_; (first | (with_reducible show okR _ _ _ _ = true; kernel_rfl) | (with_reducible show addC _ _ _ = _; kernel_rfl) | rfl | trivial | kernel_rfl | omega | exact Nat.le_of_ble_eq_true rfl | exact lt_len0 rfl | exact lt_len1 rfl); conv => whnf)
  refine ifD (fun h4 => ?_) (fun h4 => ?_) <;> try dsimp only at h4
  · conv => whnf
    repeat (refine And.intro ?_ ?_; (first | (with_reducible show okR _ _ _ _ = true; kernel_rfl) | (with_reducible show addC _ _ _ = _; kernel_rfl) | rfl | trivial | kernel_rfl | omega | exact Nat.le_of_ble_eq_true rfl | exact lt_len0 rfl | exact lt_len1 rfl); conv => whnf)
    show List.replicate (n - (0 - 0)).toNat [SV.i 0, SV.i 0] = _
    rw [show n - (0 - 0) = n by omega]
    rfl
  · omega

theorem concat_pure (a b : List XY) (h1 : 1 ≤ a.length + b.length) (h2 : a.length + b.length ≤ 1000000) :
    Pure Try.prog G0 48 [.sl 1 [[.sl 2 (a.map eP)], [.sl 2 (b.map eP)]]] (.sl 2 ((a ++ b).map eP)) := by
  have hla : (a.map eP).length = a.length := List.length_map ..
  have hlb : (b.map eP).length = b.length := List.length_map ..
  refine pure_of mixed Try.func48 rfl rfl (Nat.le_of_ble_eq_true rfl) ?_
  conv => whnf
  repeat (refine And.intro ?_ ?_; (first | (with_reducible show okR _ _ _ _ = true; kernel_rfl) | (with_reducible show addC _ _ _ = _; kernel_rfl) | rfl | trivial | kernel_rfl | omega | exact Nat.le_of_ble_eq_true rfl | exact lt_len0 rfl | exact lt_len1 rfl); conv => whnf)
  refine loop_rule mixed (ι := Nat) (fun k s => [(0, .sl 1 [[.sl 2 (a.map eP)], [.sl 2 (b.map eP)]]), (3, .i (match k with | 0 => 0 | 1 => (a.length : Int) | _ => (a.length : Int) + b.length)), (9, .sl 1 [[.sl 2 (a.map eP)], [.sl 2 (b.map eP)]]), (10, .i 2), (11, .i k)]) (fun k s => []) (fun k => k ≤ 2) (fun k => 2 - k) 0 (by omega) (weakTo_cov ?_ ?_) fun k hk s ct => ?_
  · conv => whnf
    repeat (refine And.intro ?_ ?_; (first | exact rfl | exact Or.inl rfl | exact congrArg (SV.int .i64) (by first | rfl | omega | (simp; done) | (simp; omega))); conv => whnf)
    exact trivial
  · conv => whnf
    repeat (refine And.intro ?_ ?_; (first | exact rfl | exact Or.inl rfl | exact congrArg (SV.int .i64) (by first | rfl | omega | (simp; done) | (simp; omega))); conv => whnf)
    exact trivial
  match k, hk with
  | 0, _ =>
    conv => whnf
    repeat (refine And.intro ?_ ?_; (first | (with_reducible show okR _ _ _ _ = true; kernel_rfl) | (with_reducible show addC _ _ _ = _; kernel_rfl) | rfl | trivial | kernel_rfl | omega | exact Nat.le_of_ble_eq_true rfl | exact lt_len0 rfl | exact lt_len1 rfl); conv => whnf)
    refine ⟨_, rfl, ?_⟩
    conv => whnf
    repeat (refine And.intro ?_ ?_; (first | (with_reducible show okR _ _ _ _ = true; kernel_rfl) | (with_reducible show addC _ _ _ = _; kernel_rfl) | rfl | trivial | kernel_rfl | omega | exact Nat.le_of_ble_eq_true rfl | exact lt_len0 rfl | exact lt_len1 rfl); conv => whnf)
    refine inI (n := (0 : Int) + (a.map eP).length) (by omega) (by omega) ?_
    conv => whnf
    repeat (refine And.intro ?_ ?_; (first | (with_reducible show okR _ _ _ _ = true; kernel_rfl) | (with_reducible show addC _ _ _ = _; kernel_rfl) | rfl | trivial | kernel_rfl | omega | exact Nat.le_of_ble_eq_true rfl | exact lt_len0 rfl | exact lt_len1 rfl); conv => whnf)
    refine inI (by omega) (by omega) ?_
    conv => whnf
    repeat (refine And.intro ?_ ?_; (first | (with_reducible show okR _ _ _ _ = true; kernel_rfl) | (with_reducible show addC _ _ _ = _; kernel_rfl) | rfl | trivial | kernel_rfl | omega | exact Nat.le_of_ble_eq_true rfl | exact lt_len0 rfl | exact lt_len1 rfl); conv => whnf)
    refine ⟨1, by omega, by omega, weakTo_cov ?_ ?_⟩
    · conv => whnf
      repeat (refine And.intro ?_ ?_; (first | exact rfl | exact Or.inl rfl | exact congrArg (SV.int .i64) (by first | rfl | omega | (simp; done) | (simp; omega)) | exact congrArg (SV.int .i64) ((by show (0 : Int) + ((a.map eP).length : Int) = (a.length : Int); omega)) | exact congrArg (fun l => some (Ob.mk _ 1 _ l)) ((by show (0 : Int) + ((a.map eP).length : Int) = (a.length : Int); omega)) | exact ((by show (0 : Int) + ((a.map eP).length : Int) = (a.length : Int); omega))); conv => whnf)
      exact trivial
    · conv => whnf
      repeat (refine And.intro ?_ ?_; (first | exact rfl | exact Or.inl rfl | exact congrArg (SV.int .i64) (by first | rfl | omega | (simp; done) | (simp; omega))); conv => whnf)
      exact trivial
  | 1, _ =>
    conv => whnf
    repeat (refine And.intro ?_ ?_; (first | (with_reducible show okR _ _ _ _ = true; kernel_rfl) | (with_reducible show addC _ _ _ = _; kernel_rfl) | rfl | trivial | kernel_rfl | omega | exact Nat.le_of_ble_eq_true rfl | exact lt_len0 rfl | exact lt_len1 rfl); conv => whnf)
    refine ⟨_, rfl, ?_⟩
    conv => whnf
    repeat (refine And.intro ?_ ?_; (first | (with_reducible show okR _ _ _ _ = true; kernel_rfl) | (with_reducible show addC _ _ _ = _; kernel_rfl) | rfl | trivial | kernel_rfl | omega | exact Nat.le_of_ble_eq_true rfl | exact lt_len0 rfl | exact lt_len1 rfl); conv => whnf)
    refine inI (n := (a.length : Int) + (b.map eP).length) (by omega) (by omega) ?_
    conv => whnf
    repeat (refine And.intro ?_ ?_; (first | (with_reducible show okR _ _ _ _ = true; kernel_rfl) | (with_reducible show addC _ _ _ = _; kernel_rfl) | rfl | trivial | kernel_rfl | omega | exact Nat.le_of_ble_eq_true rfl | exact lt_len0 rfl | exact lt_len1 rfl); conv => whnf)
    refine inI (by omega) (by omega) ?_
    conv => whnf
    repeat (refine And.intro ?_ ?_; (first | (with_reducible show okR _ _ _ _ = true; kernel_rfl) | (with_reducible show addC _ _ _ = _; kernel_rfl) | rfl | trivial | kernel_rfl | omega | exact Nat.le_of_ble_eq_true rfl | exact lt_len0 rfl | exact lt_len1 rfl); conv => whnf)
    refine ⟨2, by omega, by omega, weakTo_cov ?_ ?_⟩
    · conv => whnf
      repeat (refine And.intro ?_ ?_; (first | exact rfl | exact Or.inl rfl | exact congrArg (SV.int .i64) (by first | rfl | omega | (simp; done) | (simp; omega)) | exact congrArg (SV.int .i64) ((by show (a.length : Int) + ((b.map eP).length : Int) = (a.length : Int) + b.length; omega)) | exact congrArg (fun l => some (Ob.mk _ 1 _ l)) ((by show (a.length : Int) + ((b.map eP).length : Int) = (a.length : Int) + b.length; omega)) | exact ((by show (a.length : Int) + ((b.map eP).length : Int) = (a.length : Int) + b.length; omega))); conv => whnf)
      exact trivial
    · conv => whnf
      repeat (refine And.intro ?_ ?_; (first | exact rfl | exact Or.inl rfl | exact congrArg (SV.int .i64) (by first | rfl | omega | (simp; done) | (simp; omega))); conv => whnf)
      exact trivial
  | 2, _ =>
    conv => whnf
    repeat (refine And.intro ?_ ?_; (first | (with_reducible show okR _ _ _ _ = true; kernel_rfl) | (with_reducible show addC _ _ _ = _; kernel_rfl) | rfl | trivial | kernel_rfl | omega | exact Nat.le_of_ble_eq_true rfl | exact lt_len0 rfl | exact lt_len1 rfl); conv => whnf)
    refine callF_of (grow_fresh ((a.length : Int) + b.length) (by omega) (by omega)) ?_
    conv => whnf
    repeat (refine And.intro ?_ ?_; (first | (with_reducible show okR _ _ _ _ = true; kernel_rfl) | (with_reducible show addC _ _ _ = _; kernel_rfl) | rfl | trivial | kernel_rfl | omega | exact Nat.le_of_ble_eq_true rfl | exact lt_len0 rfl | exact lt_len1 rfl); conv => whnf)
    refine loop_rule mixed (ι := Nat) (fun k s => [(6, .lsl 24 (s 24) 0 (match k with | 0 => 0 | 1 => a.length | _ => a.length + b.length)), (25, .sl 1 [[.sl 2 (a.map eP)], [.sl 2 (b.map eP)]]), (26, .i 2), (27, .i k)])
      (fun k s => [(24, ⟨s 24, 1, 2, match k with | 0 => zeroRow ((a.length : Int) + b.length).toNat | 1 => a.map eP | _ => a.map eP ++ b.map eP⟩)]) (fun k => k ≤ 2) (fun k => 2 - k) 0 (by omega) (weakTo_cov ?_ ?_) fun k hk s ct => ?_
    · conv => whnf
      refine And.intro (.inl rfl) ?_
      conv => whnf
      repeat (refine And.intro ?_ ?_; (first | exact rfl | exact Or.inl rfl | exact congrArg (SV.int .i64) (by first | rfl | omega | (simp; done) | (simp; omega))); conv => whnf)
      exact trivial
    · conv => whnf
      repeat (refine And.intro ?_ ?_; (first | exact rfl | exact Or.inl rfl | exact congrArg (SV.int .i64) (by first | rfl | omega | (simp; done) | (simp; omega))); conv => whnf)
      exact trivial
    match k, hk with
    | 0, _ =>
      conv => whnf
      repeat (refine And.intro ?_ ?_; (first | (with_reducible show okR _ _ _ _ = true; kernel_rfl) | (with_reducible show addC _ _ _ = _; kernel_rfl) | rfl | trivial | kernel_rfl | omega | exact Nat.le_of_ble_eq_true rfl | exact lt_len0 rfl | exact lt_len1 rfl); conv => whnf)
      refine ⟨_, rfl, ?_⟩
      conv => whnf
      repeat (refine And.intro ?_ ?_; (first | (with_reducible show okR _ _ _ _ = true; kernel_rfl) | (with_reducible show addC _ _ _ = _; kernel_rfl) | rfl | trivial | kernel_rfl | omega | exact Nat.le_of_ble_eq_true rfl | exact lt_len0 rfl | exact lt_len1 rfl); conv => whnf)
      refine And.intro (bytes_le (b := 16) (n := 0 + (a.map eP).length) rfl (by omega)) ?_
      conv => whnf
      repeat (refine And.intro ?_ ?_; (first | (with_reducible show okR _ _ _ _ = true; kernel_rfl) | (with_reducible show addC _ _ _ = _; kernel_rfl) | rfl | trivial | kernel_rfl | omega | exact Nat.le_of_ble_eq_true rfl | exact lt_len0 rfl | exact lt_len1 rfl); conv => whnf)
      refine inI (by omega) (by omega) ?_
      conv => whnf
      repeat (refine And.intro ?_ ?_; (first | (with_reducible show okR _ _ _ _ = true; kernel_rfl) | (with_reducible show addC _ _ _ = _; kernel_rfl) | rfl | trivial | kernel_rfl | omega | exact Nat.le_of_ble_eq_true rfl | exact lt_len0 rfl | exact lt_len1 rfl); conv => whnf)
      refine ⟨1, by omega, by omega, weakTo_cov ?_ ?_⟩
      · conv => whnf
        refine And.intro (.inr ?_) ?_
        · conv => whnf
          repeat (refine And.intro rfl ?_; conv => whnf)
          show a.length = (([] : List (List SV)) ++ a.map eP).length
          simp
        · conv => whnf
          repeat (refine And.intro ?_ ?_; (first | exact rfl | exact Or.inl rfl | exact congrArg (SV.int .i64) (by first | rfl | omega | (simp; done) | (simp; omega))); conv => whnf)
          exact trivial
      · conv => whnf
        repeat (refine And.intro ?_ ?_; (first | exact rfl | exact Or.inl rfl | exact congrArg (SV.int .i64) (by first | rfl | omega | (simp; done) | (simp; omega))); conv => whnf)
        exact trivial
    | 1, _ =>
      conv => whnf
      repeat (refine And.intro ?_ ?_; (first | (with_reducible show okR _ _ _ _ = true; kernel_rfl) | (with_reducible show addC _ _ _ = _; kernel_rfl) | rfl | trivial | kernel_rfl | omega | exact Nat.le_of_ble_eq_true rfl | exact lt_len0 rfl | exact lt_len1 rfl); conv => whnf)
      refine ⟨_, rfl, ?_⟩
      conv => whnf
      repeat (refine And.intro ?_ ?_; (first | (with_reducible show okR _ _ _ _ = true; kernel_rfl) | (with_reducible show addC _ _ _ = _; kernel_rfl) | rfl | trivial | kernel_rfl | omega | exact Nat.le_of_ble_eq_true rfl | exact lt_len0 rfl | exact lt_len1 rfl); conv => whnf)
      refine And.intro (show a.length ≤ (a.map eP).length from by first | omega | (simp; done) | (simp; omega)) ?_
      conv => whnf
      repeat (refine And.intro ?_ ?_; (first | (with_reducible show okR _ _ _ _ = true; kernel_rfl) | (with_reducible show addC _ _ _ = _; kernel_rfl) | rfl | trivial | kernel_rfl | omega | exact Nat.le_of_ble_eq_true rfl | exact lt_len0 rfl | exact lt_len1 rfl); conv => whnf)
      refine And.intro (bytes_le (b := 16) (n := a.length + (b.map eP).length) rfl (by omega)) ?_
      conv => whnf
      repeat (refine And.intro ?_ ?_; (first | (with_reducible show okR _ _ _ _ = true; kernel_rfl) | (with_reducible show addC _ _ _ = _; kernel_rfl) | rfl | trivial | kernel_rfl | omega | exact Nat.le_of_ble_eq_true rfl | exact lt_len0 rfl | exact lt_len1 rfl); conv => whnf)
      refine inI (by omega) (by omega) ?_
      conv => whnf
      repeat (refine And.intro ?_ ?_; (first | (with_reducible show okR _ _ _ _ = true; kernel_rfl) | (with_reducible show addC _ _ _ = _; kernel_rfl) | rfl | trivial | kernel_rfl | omega | exact Nat.le_of_ble_eq_true rfl | exact lt_len0 rfl | exact lt_len1 rfl); conv => whnf)
      refine ⟨2, by omega, by omega, weakTo_cov ?_ ?_⟩
      · conv => whnf
        refine And.intro (.inr ?_) ?_
        · conv => whnf
          repeat (refine And.intro rfl ?_; conv => whnf)
          show a.length + b.length = ((a.map eP).take a.length ++ b.map eP).length
          simp
        · conv => whnf
          repeat (refine And.intro ?_ ?_; (first | exact rfl | exact Or.inl rfl | exact congrArg (SV.int .i64) (by first | rfl | omega | (simp; done) | (simp; omega))); conv => whnf)
          exact trivial
      · conv => whnf
        refine And.intro ?_ trivial
        show some (Ob.mk _ 1 2 ((a.map eP).take a.length ++ b.map eP)) = _
        rw [List.take_of_length_le (l := a.map eP) (by omega)]
        rfl
    | 2, _ =>
      conv => whnf
      repeat (refine And.intro ?_ ?_; (first | (with_reducible show okR _ _ _ _ = true; kernel_rfl) | (with_reducible show addC _ _ _ = _; kernel_rfl) | rfl | trivial | kernel_rfl | omega | exact Nat.le_of_ble_eq_true rfl | exact lt_len0 rfl | exact lt_len1 rfl); conv => whnf)
      refine And.intro (show 0 + (a.length + b.length) ≤ (a.map eP ++ b.map eP).length from by first | omega | (simp; done) | (simp; omega)) ?_
      conv => whnf
      repeat (refine And.intro ?_ ?_; (first | (with_reducible show okR _ _ _ _ = true; kernel_rfl) | (with_reducible show addC _ _ _ = _; kernel_rfl) | rfl | trivial | kernel_rfl | omega | exact Nat.le_of_ble_eq_true rfl | exact lt_len0 rfl | exact lt_len1 rfl); conv => whnf)
      show (((a.map eP ++ b.map eP).drop 0).take (a.length + b.length)) = (a ++ b).map eP
      rw [List.drop_zero, List.take_of_length_le (by simp), List.map_append]

/-! ### The hull -/
/-- The program's way to the points in order. -/
def orderN (l : List XY) : List XY := compactN (sortS l)
def hullP (l : List XY) : List XY :=
  if compN l = true then
    if (orderN l).length < 3 then [] else
      if ((chainN (orderN l)).dropLast ++ (chainN (orderN l).reverse).dropLast).length < 3 then [] else (chainN (orderN l)).dropLast ++ (chainN (orderN l).reverse).dropLast
  else []

theorem sortS_len (l : List XY) : (sortS l).length = l.length := List.length_mergeSort l
theorem sortS_mem (l : List XY) (x : XY) : x ∈ sortS l ↔ x ∈ l := List.mem_mergeSort
theorem cmpTo_sub (l : List XY) : ∀ k, k ≤ l.length → ∀ x ∈ cmpTo l k, x ∈ l
  | 0, _, x, h => by simp [cmpTo] at h
  | k + 1, hk, x, h => by
    rw [cmpTo] at h
    split at h
    · rcases List.mem_append.1 h with h | h
      · exact cmpTo_sub l k (by omega) x h
      · simp at h; rw [h]; exact nth_mem (by omega)
    · exact cmpTo_sub l k (by omega) x h
theorem orderN_sub (l : List XY) : ∀ x ∈ orderN l, x ∈ l := fun x h => (sortS_mem l x).1 (cmpTo_sub _ _ (Nat.le_refl _) x h)
theorem orderN_len (l : List XY) : (orderN l).length ≤ l.length := by
  have := cmpTo_len (sortS l) (sortS l).length
  have e := sortS_len l
  rw [orderN, compactN]
  omega

theorem scal_points (l : List XY) : allB (allB scalB) (l.map eP) = true := by
  induction l with
  | nil => rfl
  | cons x l ih => exact ih

theorem sort_empty : Pure Try.prog G0 41 [.sl 2 [], .fn 42 []] (.tup []) := by
  refine ⟨⟨_, Try.func41, rfl, rfl⟩, fun D F w vs hmem hlen hargs => ?_⟩
  obtain ⟨v, u, rfl⟩ : ∃ v u, vs = [v, u] := by
    match vs, hlen with
    | [a, b], _ => exact ⟨a, b, rfl⟩
  have hr : PRel D (.sl 2 []) v := hargs 0 _ v rfl rfl
  obtain ⟨A, cap, rfl⟩ : ∃ A cap, v = .slice A 0 cap := by
    cases hr
    exact ⟨_, _, rfl⟩
  refine (AnyF.slices_SortFunc_none sortP A cap u w).mono ?_
  rintro e w' ⟨rfl, rfl⟩
  exact ⟨D, _, Rom.le.refl D, hmem, rfl, [], rfl, rfl, fun i s v hi => by simp at hi⟩

theorem compact_empty : Pure Try.prog G0 45 [.sl 2 []] (.sl 2 []) := by
  refine pure_of mixed Try.func45 rfl rfl (Nat.le_of_ble_eq_true rfl) ?_
  conv => whnf
  repeat (refine And.intro ?_ ?_; (first | (with_reducible show okR _ _ _ _ = true; kernel_rfl) | (with_reducible show addC _ _ _ = _; kernel_rfl) | rfl | trivial | kernel_rfl | omega | exact Nat.le_of_ble_eq_true rfl | exact lt_len0 rfl | exact lt_len1 rfl); conv => whnf)

theorem RowC.part {P : Program} {G : Nat → List SV} {f : FuncId} {args : List SV} {z : Nat} {xs ys : List (List SV)} (h : RowC P G f args z xs (.lrow 0 0) ys) : RowC P G f args z xs (.lsl 0 0 0 ys.length) ys := by
  refine ⟨h.1, fun D F w p vs hm hl h0 ha => (h.2 D F w p vs hm hl h0 ha).mono fun e w' ⟨D', v, g1, g2, g3, g4⟩ => ⟨D', v, g1, g2, g3, ?_⟩⟩
  refine ⟨g4.1, g4.2.1, fun b hb hst => ?_⟩
  have hrow := g4.2.2 b hb hst
  rw [Env.one_ob] at hb
  cases hb
  rw [Env.one_β] at hrow ⊢
  unfold RowAt at hrow
  unfold SlAt
  cases p with
  | none =>
    obtain ⟨h1, h2⟩ := hrow
    have h1 : ys = [] := h1
    subst h1
    exact ⟨rfl, rfl, h2⟩
  | some q =>
    obtain ⟨cap, h1, h2, h3⟩ := hrow
    exact ⟨some ⟨q.1, 0, none⟩, cap, h1, h3, by simpa using h2, .inr (by simp)⟩

theorem compact_row (l : List XY) (hl : l.length ≤ 1000000) :
    RowC Try.prog G0 45 [] 2 (l.map eP) (.lsl 0 0 0 (compactN l).length) ((compactN l).map eP ++ zeroRow (l.length - (compactN l).length)) := by
  by_cases hc : compactN l = l
  · have h := (compact_same l hl hc).part
    rw [hc]
    have e : zeroRow (l.length - l.length) = [] := by rw [Nat.sub_self]; rfl
    rw [e, List.append_nil]
    rwa [List.length_map] at h
  · exact compact_less l hl hc

theorem hull_empty : Pure Try.prog G0 24 [.sl 2 []] (.sl 2 []) := by
  refine pure_of mixed Try.func24 rfl rfl (Nat.le_of_ble_eq_true rfl) ?_
  conv => whnf
  repeat (refine And.intro ?_ ?_; (first | (with_reducible show okR _ _ _ _ = true; kernel_rfl) | (with_reducible show addC _ _ _ = _; kernel_rfl) | rfl | trivial | kernel_rfl | omega | exact Nat.le_of_ble_eq_true rfl | exact lt_len0 rfl | exact lt_len1 rfl); conv => whnf)
  refine callP_of (polycomp_pure [] (by decide)) ?_
  conv => whnf
  repeat (refine And.intro ?_ ?_; (first | (with_reducible show okR _ _ _ _ = true; kernel_rfl) | (with_reducible show addC _ _ _ = _; kernel_rfl) | rfl | trivial | kernel_rfl | omega | exact Nat.le_of_ble_eq_true rfl | exact lt_len0 rfl | exact lt_len1 rfl); conv => whnf)
  refine callP_of (clone_empty) ?_
  conv => whnf
  repeat (refine And.intro ?_ ?_; (first | (with_reducible show okR _ _ _ _ = true; kernel_rfl) | (with_reducible show addC _ _ _ = _; kernel_rfl) | rfl | trivial | kernel_rfl | omega | exact Nat.le_of_ble_eq_true rfl | exact lt_len0 rfl | exact lt_len1 rfl); conv => whnf)
  refine callP_of (sort_empty) ?_
  conv => whnf
  repeat (refine And.intro ?_ ?_; (first | (with_reducible show okR _ _ _ _ = true; kernel_rfl) | (with_reducible show addC _ _ _ = _; kernel_rfl) | rfl | trivial | kernel_rfl | omega | exact Nat.le_of_ble_eq_true rfl | exact lt_len0 rfl | exact lt_len1 rfl); conv => whnf)
  refine callP_of (compact_empty) ?_
  conv => whnf
  repeat (refine And.intro ?_ ?_; (first | (with_reducible show okR _ _ _ _ = true; kernel_rfl) | (with_reducible show addC _ _ _ = _; kernel_rfl) | rfl | trivial | kernel_rfl | omega | exact Nat.le_of_ble_eq_true rfl | exact lt_len0 rfl | exact lt_len1 rfl); conv => whnf)

theorem chainN_two (l : List XY) (h : 2 ≤ l.length) : 2 ≤ (chainN l).length := by
  obtain ⟨x, hx⟩ := get_lt (l := l) (k := l.length - 1) (by omega)
  have e := chainR_snoc hx
  rw [show l.length - 1 + 1 = l.length by omega, List.take_length] at e
  rw [chainN, List.length_reverse, e, List.length_cons]
  have hne : chainR (l.take (l.length - 1)) ≠ [] := chainR_ne (fun h0 => by have := congrArg List.length h0; simp at this; omega)
  have : ∀ m : List XY, m ≠ [] → pop x m ≠ [] := fun m => by
    induction m with
    | nil => exact fun h => absurd rfl h
    | cons b r ih =>
      intro _
      cases r with
      | nil => simp [pop]
      | cons a r =>
        by_cases hc : crossN a b x ≤ 0
        · rw [pop_cons hc]; exact ih (by simp)
        · rw [pop_stop hc]; simp
  have := List.length_pos_iff.2 (this _ hne)
  omega

theorem hull_pure (l : List XY) (hl : l.length ≤ 1000000) : Pure Try.prog G0 24 [.sl 2 (l.map eP)] (.sl 2 ((hullP l).map eP)) := by
  cases hl0 : l with
  | nil =>
    rw [show hullP [] = [] by unfold hullP; rw [if_pos (by decide), if_pos (by simp [orderN, sortS, compactN, cmpTo])]]
    exact hull_empty
  | cons x0 l0 =>
  rw [← hl0]
  have hne : l ≠ [] := by rw [hl0]; simp
  refine stop_pure Try.func24 rfl rfl (Nat.le_of_ble_eq_true rfl) ?_
  refine stop_seq mixed ?_
  conv => whnf
  repeat (refine And.intro ?_ ?_; (first | (with_reducible show okR _ _ _ _ = true; kernel_rfl) | (with_reducible show addC _ _ _ = _; kernel_rfl) | rfl | trivial | kernel_rfl | omega | exact Nat.le_of_ble_eq_true rfl | exact lt_len0 rfl | exact lt_len1 rfl); conv => whnf)
  refine stop_seq mixed ?_
  conv => whnf
  repeat (refine And.intro ?_ ?_; (first | (with_reducible show okR _ _ _ _ = true; kernel_rfl) | (with_reducible show addC _ _ _ = _; kernel_rfl) | rfl | trivial | kernel_rfl | omega | exact Nat.le_of_ble_eq_true rfl | exact lt_len0 rfl | exact lt_len1 rfl); conv => whnf)
  refine callP_of (polycomp_pure l (by omega)) ?_
  conv => whnf
  repeat (refine And.intro ?_ ?_; (first | (with_reducible show okR _ _ _ _ = true; kernel_rfl) | (with_reducible show addC _ _ _ = _; kernel_rfl) | rfl | trivial | kernel_rfl | omega | exact Nat.le_of_ble_eq_true rfl | exact lt_len0 rfl | exact lt_len1 rfl); conv => whnf)
  refine ifB_intro (fun hc => ?_) (fun hc => ?_) <;> try dsimp only at hc
  · conv => whnf
    repeat (refine And.intro ?_ ?_; (first | (with_reducible show okR _ _ _ _ = true; kernel_rfl) | (with_reducible show addC _ _ _ = _; kernel_rfl) | rfl | trivial | kernel_rfl | omega | exact Nat.le_of_ble_eq_true rfl | exact lt_len0 rfl | exact lt_len1 rfl); conv => whnf)
    rw [hullP, if_neg (by simpa using hc)]
    rfl
  have hc : compN l = true := by simpa using hc
  have hC := (compN_iff l).1 hc
  have hfew := hC.few
  conv => whnf
  repeat (refine And.intro ?_ ?_; (first | (with_reducible show okR _ _ _ _ = true; kernel_rfl) | (with_reducible show addC _ _ _ = _; kernel_rfl) | rfl | trivial | kernel_rfl | omega | exact Nat.le_of_ble_eq_true rfl | exact lt_len0 rfl | exact lt_len1 rfl); conv => whnf)
  refine stop_seq mixed ?_
  conv => whnf
  repeat (refine And.intro ?_ ?_; (first | (with_reducible show okR _ _ _ _ = true; kernel_rfl) | (with_reducible show addC _ _ _ = _; kernel_rfl) | rfl | trivial | kernel_rfl | omega | exact Nat.le_of_ble_eq_true rfl | exact lt_len0 rfl | exact lt_len1 rfl); conv => whnf)
  have hcl : FreshC Try.prog G0 40 [.sl 2 (l.map eP)] 2 (l.map eP) (.lrow 0 0) := by
    rw [hl0]; exact clone_fresh x0 l0 (by rw [← hl0]; exact hl)
  refine callF_of (hcl) ?_
  conv => whnf
  repeat (refine And.intro ?_ ?_; (first | (with_reducible show okR _ _ _ _ = true; kernel_rfl) | (with_reducible show addC _ _ _ = _; kernel_rfl) | rfl | trivial | kernel_rfl | omega | exact Nat.le_of_ble_eq_true rfl | exact lt_len0 rfl | exact lt_len1 rfl); conv => whnf)
  refine stop_seq mixed ?_
  conv => whnf
  repeat (refine And.intro ?_ ?_; (first | (with_reducible show okR _ _ _ _ = true; kernel_rfl) | (with_reducible show addC _ _ _ = _; kernel_rfl) | rfl | trivial | kernel_rfl | omega | exact Nat.le_of_ble_eq_true rfl | exact lt_len0 rfl | exact lt_len1 rfl); conv => whnf)
  refine callR_of rfl (sortfunc_row l hne hl) (by simp [sortS_len]) rfl ?_
  conv => whnf
  repeat (refine And.intro ?_ ?_; (first | (with_reducible show okR _ _ _ _ = true; kernel_rfl) | (with_reducible show addC _ _ _ = _; kernel_rfl) | rfl | trivial | kernel_rfl | omega | exact Nat.le_of_ble_eq_true rfl | exact lt_len0 rfl | exact lt_len1 rfl); conv => whnf)
  have hsl := sortS_len l
  have hcl2 := orderN_len l
  have hcm : ((orderN l).map eP).length = (orderN l).length := List.length_map ..
  refine stop_seq mixed ?_
  conv => whnf
  repeat (refine And.intro ?_ ?_; (first | (with_reducible show okR _ _ _ _ = true; kernel_rfl) | (with_reducible show addC _ _ _ = _; kernel_rfl) | rfl | trivial | kernel_rfl | omega | exact Nat.le_of_ble_eq_true rfl | exact lt_len0 rfl | exact lt_len1 rfl); conv => whnf)
  refine callR_of rfl (compact_row (sortS l) (by omega)) (by simp only [List.length_map, List.length_append, zeroRow, List.length_replicate]; have := orderN_len l; unfold orderN at this; omega) rfl ?_
  conv => whnf
  repeat (refine And.intro ?_ ?_; (first | (with_reducible show okR _ _ _ _ = true; kernel_rfl) | (with_reducible show addC _ _ _ = _; kernel_rfl) | rfl | trivial | kernel_rfl | omega | exact Nat.le_of_ble_eq_true rfl | exact lt_len0 rfl | exact lt_len1 rfl); conv => whnf)
  refine stop_weak (weak_trunc 3 11 rfl rfl (by simp)) ?_
  refine stop_to (fun s => [(3, .lrow 11 (s 11))]) (fun s => [(11, ⟨s 11, 1, 2, (orderN l).map eP⟩)]) (weakTo_cov ?_ ?_) fun s ct => ?_
  · conv => whnf
    repeat (refine And.intro ?_ ?_; (first | exact rfl | exact Or.inl rfl | exact congrArg (SV.int .i64) (by first | rfl | omega | (simp; done) | (simp; omega))); conv => whnf)
    exact trivial
  · conv => whnf
    refine And.intro ?_ trivial
    show some (Ob.mk _ 1 2 (((orderN l).map eP ++ zeroRow _).take (orderN l).length)) = _
    rw [List.take_left' hcm]
    rfl
  have hoin : ∀ p ∈ orderN l, p.In := fun p hp => hC.all p (orderN_sub l p hp)
  have hh : hullP l = if (orderN l).length < 3 then [] else if ((chainN (orderN l)).dropLast ++ (chainN (orderN l).reverse).dropLast).length < 3 then [] else (chainN (orderN l)).dropLast ++ (chainN (orderN l).reverse).dropLast := by rw [hullP, if_pos hc]
  rw [hh]
  generalize orderN l = o at *
  refine stop_seq mixed ?_
  conv => whnf
  repeat (refine And.intro ?_ ?_; (first | (with_reducible show okR _ _ _ _ = true; kernel_rfl) | (with_reducible show addC _ _ _ = _; kernel_rfl) | rfl | trivial | kernel_rfl | omega | exact Nat.le_of_ble_eq_true rfl | exact lt_len0 rfl | exact lt_len1 rfl); conv => whnf)
  refine ifD (p := ((o.map eP).length : Int) < 3) (fun h3 => ?_) (fun h3 => ?_)
  · conv => whnf
    repeat (refine And.intro ?_ ?_; (first | (with_reducible show okR _ _ _ _ = true; kernel_rfl) | (with_reducible show addC _ _ _ = _; kernel_rfl) | rfl | trivial | kernel_rfl | omega | exact Nat.le_of_ble_eq_true rfl | exact lt_len0 rfl | exact lt_len1 rfl); conv => whnf)
    rw [if_pos (by omega)]
    rfl
  rw [if_neg (by omega)]
  have hone : o ≠ [] := fun e => by subst e; simp at h3
  have p1 := chainN_pos hone
  have p2 := chainN_pos (l := o.reverse) (by simpa using hone)
  have c1 := chainN_len o
  have c2 := chainN_len o.reverse
  rw [List.length_reverse] at c2
  conv => whnf
  repeat (refine And.intro ?_ ?_; (first | (with_reducible show okR _ _ _ _ = true; kernel_rfl) | (with_reducible show addC _ _ _ = _; kernel_rfl) | rfl | trivial | kernel_rfl | omega | exact Nat.le_of_ble_eq_true rfl | exact lt_len0 rfl | exact lt_len1 rfl); conv => whnf)
  refine stop_seq mixed ?_
  conv => whnf
  repeat (refine And.intro ?_ ?_; (first | (with_reducible show okR _ _ _ _ = true; kernel_rfl) | (with_reducible show addC _ _ _ = _; kernel_rfl) | rfl | trivial | kernel_rfl | omega | exact Nat.le_of_ble_eq_true rfl | exact lt_len0 rfl | exact lt_len1 rfl); conv => whnf)
  refine callBF_of (scal_points _) (chain_fresh o (by omega) hoin) ?_
  conv => whnf
  repeat (refine And.intro ?_ ?_; (first | (with_reducible show okR _ _ _ _ = true; kernel_rfl) | (with_reducible show addC _ _ _ = _; kernel_rfl) | rfl | trivial | kernel_rfl | omega | exact Nat.le_of_ble_eq_true rfl | exact lt_len0 rfl | exact lt_len1 rfl); conv => whnf)
  refine stop_seq mixed ?_
  conv => whnf
  repeat (refine And.intro ?_ ?_; (first | (with_reducible show okR _ _ _ _ = true; kernel_rfl) | (with_reducible show addC _ _ _ = _; kernel_rfl) | rfl | trivial | kernel_rfl | omega | exact Nat.le_of_ble_eq_true rfl | exact lt_len0 rfl | exact lt_len1 rfl); conv => whnf)
  refine callR_of rfl (reverse_row o (by omega)) (by simp) rfl ?_
  conv => whnf
  repeat (refine And.intro ?_ ?_; (first | (with_reducible show okR _ _ _ _ = true; kernel_rfl) | (with_reducible show addC _ _ _ = _; kernel_rfl) | rfl | trivial | kernel_rfl | omega | exact Nat.le_of_ble_eq_true rfl | exact lt_len0 rfl | exact lt_len1 rfl); conv => whnf)
  refine stop_seq mixed ?_
  conv => whnf
  repeat (refine And.intro ?_ ?_; (first | (with_reducible show okR _ _ _ _ = true; kernel_rfl) | (with_reducible show addC _ _ _ = _; kernel_rfl) | rfl | trivial | kernel_rfl | omega | exact Nat.le_of_ble_eq_true rfl | exact lt_len0 rfl | exact lt_len1 rfl); conv => whnf)
  refine callBF_of (scal_points _) (chain_fresh o.reverse (by simp; omega) (fun p hp => hoin p (by simpa using hp))) ?_
  conv => whnf
  repeat (refine And.intro ?_ ?_; (first | (with_reducible show okR _ _ _ _ = true; kernel_rfl) | (with_reducible show addC _ _ _ = _; kernel_rfl) | rfl | trivial | kernel_rfl | omega | exact Nat.le_of_ble_eq_true rfl | exact lt_len0 rfl | exact lt_len1 rfl); conv => whnf)
  refine stop_to (fun s => [(4, .lrow 20 (s 20)), (5, .lrow 24 (s 24))]) (fun s => [(20, ⟨s 20, 1, 2, (chainN o).map eP⟩), (24, ⟨s 24, 1, 2, (chainN o.reverse).map eP⟩)]) (weakTo_cov ?_ ?_) fun s ct => ?_
  · conv => whnf
    repeat (refine And.intro ?_ ?_; (first | exact rfl | exact Or.inl rfl | exact congrArg (SV.int .i64) (by first | rfl | omega | (simp; done) | (simp; omega))); conv => whnf)
    exact trivial
  · conv => whnf
    repeat (refine And.intro ?_ ?_; (first | exact rfl | exact Or.inl rfl | exact congrArg (SV.int .i64) (by first | rfl | omega | (simp; done) | (simp; omega))); conv => whnf)
    exact trivial
  have e1 : ((chainN o).map eP).length = (chainN o).length := List.length_map ..
  have e2 : ((chainN o.reverse).map eP).length = (chainN o.reverse).length := List.length_map ..
  have eD : ∀ L : List XY, 1 ≤ L.length → ((L.map eP).drop 0).take (((L.map eP).length : Int) - 1).toNat = L.dropLast.map eP := fun L hL => by
    rw [List.drop_zero, List.length_map, List.dropLast_eq_take, List.map_take, show ((L.length : Int) - 1).toNat = L.length - 1 by omega]
  have hcc : Pure Try.prog G0 48 [.sl 1 [[.sl 2 ((((chainN o).map eP).drop 0).take ((((chainN o).map eP).length : Int) - 1).toNat)], [.sl 2 ((((chainN o.reverse).map eP).drop 0).take ((((chainN o.reverse).map eP).length : Int) - 1).toNat)]]] (.sl 2 (((chainN o).dropLast ++ (chainN o.reverse).dropLast).map eP)) := by
    rw [eD _ p1, eD _ p2]
    refine concat_pure _ _ ?_ ?_
    · rw [List.length_dropLast, List.length_dropLast]
      have q1 := chainN_two o (by omega)
      omega
    · rw [List.length_dropLast, List.length_dropLast]; omega
  refine stop_seq mixed ?_
  conv => whnf
  repeat (refine And.intro ?_ ?_; (first | (with_reducible show okR _ _ _ _ = true; kernel_rfl) | (with_reducible show addC _ _ _ = _; kernel_rfl) | rfl | trivial | kernel_rfl | omega | exact Nat.le_of_ble_eq_true rfl | exact lt_len0 rfl | exact lt_len1 rfl); conv => whnf)
  refine inI (n := (((chainN o).map eP).length : Int) - 1) (by omega) (by omega) ?_
  conv => whnf
  repeat (refine And.intro ?_ ?_; (first | (with_reducible show okR _ _ _ _ = true; kernel_rfl) | (with_reducible show addC _ _ _ = _; kernel_rfl) | rfl | trivial | kernel_rfl | omega | exact Nat.le_of_ble_eq_true rfl | exact lt_len0 rfl | exact lt_len1 rfl); conv => whnf)
  refine And.intro (show 0 ≤ (((chainN o).map eP).length : Int) - 1 from by first | omega | (simp; done) | (simp; omega)) ?_
  conv => whnf
  repeat (refine And.intro ?_ ?_; (first | (with_reducible show okR _ _ _ _ = true; kernel_rfl) | (with_reducible show addC _ _ _ = _; kernel_rfl) | rfl | trivial | kernel_rfl | omega | exact Nat.le_of_ble_eq_true rfl | exact lt_len0 rfl | exact lt_len1 rfl); conv => whnf)
  refine And.intro (show (((chainN o).map eP).length : Int) - 1 ≤ (((chainN o).map eP).length : Int) from by first | omega | (simp; done) | (simp; omega)) ?_
  conv => whnf
  repeat (refine And.intro ?_ ?_; (first | (with_reducible show okR _ _ _ _ = true; kernel_rfl) | (with_reducible show addC _ _ _ = _; kernel_rfl) | rfl | trivial | kernel_rfl | omega | exact Nat.le_of_ble_eq_true rfl | exact lt_len0 rfl | exact lt_len1 rfl); conv => whnf)
  refine inI (n := (((chainN o.reverse).map eP).length : Int) - 1) (by omega) (by omega) ?_
  conv => whnf
  repeat (refine And.intro ?_ ?_; (first | (with_reducible show okR _ _ _ _ = true; kernel_rfl) | (with_reducible show addC _ _ _ = _; kernel_rfl) | rfl | trivial | kernel_rfl | omega | exact Nat.le_of_ble_eq_true rfl | exact lt_len0 rfl | exact lt_len1 rfl); conv => whnf)
  refine And.intro (show 0 ≤ (((chainN o.reverse).map eP).length : Int) - 1 from by first | omega | (simp; done) | (simp; omega)) ?_
  conv => whnf
  repeat (refine And.intro ?_ ?_; (first | (with_reducible show okR _ _ _ _ = true; kernel_rfl) | (with_reducible show addC _ _ _ = _; kernel_rfl) | rfl | trivial | kernel_rfl | omega | exact Nat.le_of_ble_eq_true rfl | exact lt_len0 rfl | exact lt_len1 rfl); conv => whnf)
  refine And.intro (show (((chainN o.reverse).map eP).length : Int) - 1 ≤ (((chainN o.reverse).map eP).length : Int) from by first | omega | (simp; done) | (simp; omega)) ?_
  conv => whnf
  repeat (refine And.intro ?_ ?_; (first | (with_reducible show okR _ _ _ _ = true; kernel_rfl) | (with_reducible show addC _ _ _ = _; kernel_rfl) | rfl | trivial | kernel_rfl | omega | exact Nat.le_of_ble_eq_true rfl | exact lt_len0 rfl | exact lt_len1 rfl); conv => whnf)
  refine And.intro (show 0 + ((((chainN o).map eP).length : Int) - 1).toNat ≤ ((chainN o).map eP).length from by first | omega | (simp; done) | (simp; omega)) ?_
  conv => whnf
  repeat (refine And.intro ?_ ?_; (first | (with_reducible show okR _ _ _ _ = true; kernel_rfl) | (with_reducible show addC _ _ _ = _; kernel_rfl) | rfl | trivial | kernel_rfl | omega | exact Nat.le_of_ble_eq_true rfl | exact lt_len0 rfl | exact lt_len1 rfl); conv => whnf)
  refine And.intro (show 0 + ((((chainN o.reverse).map eP).length : Int) - 1).toNat ≤ ((chainN o.reverse).map eP).length from by first | omega | (simp; done) | (simp; omega)) ?_
  conv => whnf
  repeat (refine And.intro ?_ ?_; (first | (with_reducible show okR _ _ _ _ = true; kernel_rfl) | (with_reducible show addC _ _ _ = _; kernel_rfl) | rfl | trivial | kernel_rfl | omega | exact Nat.le_of_ble_eq_true rfl | exact lt_len0 rfl | exact lt_len1 rfl); conv => whnf)
  refine callP_le hcc ?_
  conv => whnf
  refine And.intro rfl ?_
  conv => whnf
  refine And.intro (leAL_refl _) ?_
  conv => whnf
  repeat (refine And.intro ?_ ?_; (first | (with_reducible show okR _ _ _ _ = true; kernel_rfl) | (with_reducible show addC _ _ _ = _; kernel_rfl) | rfl | trivial | kernel_rfl | omega | exact Nat.le_of_ble_eq_true rfl | exact lt_len0 rfl | exact lt_len1 rfl); conv => whnf)
  refine stop_go mixed ?_
  conv => whnf
  repeat (refine And.intro ?_ ?_; (first | (with_reducible show okR _ _ _ _ = true; kernel_rfl) | (with_reducible show addC _ _ _ = _; kernel_rfl) | rfl | trivial | kernel_rfl | omega | exact Nat.le_of_ble_eq_true rfl | exact lt_len0 rfl | exact lt_len1 rfl); conv => whnf)
  refine ifD (p := ((((chainN o).dropLast ++ (chainN o.reverse).dropLast).map eP).length : Int) < 3) (fun h4 => ?_) (fun h4 => ?_)
  · conv => whnf
    repeat (refine And.intro ?_ ?_; (first | (with_reducible show okR _ _ _ _ = true; kernel_rfl) | (with_reducible show addC _ _ _ = _; kernel_rfl) | rfl | trivial | kernel_rfl | omega | exact Nat.le_of_ble_eq_true rfl | exact lt_len0 rfl | exact lt_len1 rfl); conv => whnf)
    rw [List.length_map] at h4
    rw [if_pos (by omega)]
    rfl
  · conv => whnf
    repeat (refine And.intro ?_ ?_; (first | (with_reducible show okR _ _ _ _ = true; kernel_rfl) | (with_reducible show addC _ _ _ = _; kernel_rfl) | rfl | trivial | kernel_rfl | omega | exact Nat.le_of_ble_eq_true rfl | exact lt_len0 rfl | exact lt_len1 rfl); conv => whnf)
    rw [List.length_map] at h4
    rw [if_neg (by omega)]
end Go.Proofs.Yticandbdabgkeaa.Am
