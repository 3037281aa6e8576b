/- The contracts of what the hull calls of Go's library, for points: comparing, compacting, reversing, joining. No condition: definitions and lemmas. -/
import Derived.Test.YticandbdabgkeaaAmP4
namespace Go.Proofs.Yticandbdabgkeaa.Am
open Go
set_option maxRecDepth 100000

theorem isNaN_pure (n : Int) : Pure Try.prog G0 62 [.i n] (.bool false) := by
  refine pure_of mixed Try.func62 rfl rfl (Nat.le_of_ble_eq_true rfl) ?_
  conv => whnf
  simp

def cmpI (a b : Int) : Int := if a < b then -1 else if b < a then 1 else 0
theorem compare_pure (a b : Int) : Pure Try.prog G0 44 [.i a, .i b] (.i (cmpI a b)) := by
  refine pure_of mixed Try.func44 rfl rfl (Nat.le_of_ble_eq_true rfl) ?_
  conv => whnf
  repeat (refine And.intro ?_ ?_; (first | (with_reducible show okR _ _ _ _ = true; kernel_rfl) | (with_reducible show addC _ _ _ = _; kernel_rfl) | rfl | trivial | kernel_rfl | omega | exact Nat.le_of_ble_eq_true rfl | exact lt_len0 rfl | exact lt_len1 rfl); conv => whnf)
  refine callP_of (isNaN_pure a) ?_
  conv => whnf
  repeat (refine And.intro ?_ ?_; (first | (with_reducible show okR _ _ _ _ = true; kernel_rfl) | (with_reducible show addC _ _ _ = _; kernel_rfl) | rfl | trivial | kernel_rfl | omega | exact Nat.le_of_ble_eq_true rfl | exact lt_len0 rfl | exact lt_len1 rfl); conv => whnf)
  refine callP_of (isNaN_pure b) ?_
  conv => whnf
  repeat (refine And.intro ?_ ?_; (first | (with_reducible show okR _ _ _ _ = true; kernel_rfl) | (with_reducible show addC _ _ _ = _; kernel_rfl) | rfl | trivial | kernel_rfl | omega | exact Nat.le_of_ble_eq_true rfl | exact lt_len0 rfl | exact lt_len1 rfl); conv => whnf)
  refine ifD (fun h1 => ?_) (fun h1 => ?_) <;> try dsimp only at h1
  · conv => whnf
    repeat (refine And.intro ?_ ?_; (first | (with_reducible show okR _ _ _ _ = true; kernel_rfl) | (with_reducible show addC _ _ _ = _; kernel_rfl) | rfl | trivial | kernel_rfl | omega | exact Nat.le_of_ble_eq_true rfl | exact lt_len0 rfl | exact lt_len1 rfl); conv => whnf)
    rw [cmpI, if_pos h1]
  conv => whnf
  repeat (refine And.intro ?_ ?_; (first | (with_reducible show okR _ _ _ _ = true; kernel_rfl) | (with_reducible show addC _ _ _ = _; kernel_rfl) | rfl | trivial | kernel_rfl | omega | exact Nat.le_of_ble_eq_true rfl | exact lt_len0 rfl | exact lt_len1 rfl); conv => whnf)
  refine ifD (fun h2 => ?_) (fun h2 => ?_) <;> try dsimp only at h2
  · conv => whnf
    repeat (refine And.intro ?_ ?_; (first | (with_reducible show okR _ _ _ _ = true; kernel_rfl) | (with_reducible show addC _ _ _ = _; kernel_rfl) | rfl | trivial | kernel_rfl | omega | exact Nat.le_of_ble_eq_true rfl | exact lt_len0 rfl | exact lt_len1 rfl); conv => whnf)
    rw [cmpI, if_neg h1, if_pos h2]
  · conv => whnf
    repeat (refine And.intro ?_ ?_; (first | (with_reducible show okR _ _ _ _ = true; kernel_rfl) | (with_reducible show addC _ _ _ = _; kernel_rfl) | rfl | trivial | kernel_rfl | omega | exact Nat.le_of_ble_eq_true rfl | exact lt_len0 rfl | exact lt_len1 rfl); conv => whnf)
    rw [cmpI, if_neg h1, if_neg h2]

theorem or_pure (a b : Int) : Pure Try.prog G0 43 [.sl 1 [[.i a], [.i b]]] (.i (if a = 0 then b else a)) := by
  refine pure_of mixed Try.func43 rfl rfl (Nat.le_of_ble_eq_true rfl) ?_
  conv => whnf
  repeat (refine And.intro ?_ ?_; (first | (with_reducible show okR _ _ _ _ = true; kernel_rfl) | (with_reducible show addC _ _ _ = _; kernel_rfl) | rfl | trivial | kernel_rfl | omega | exact Nat.le_of_ble_eq_true rfl | exact lt_len0 rfl | exact lt_len1 rfl); conv => whnf)
  refine loop_rule mixed (ι := Nat) (fun k s => [(3, .i 0), (6, .sl 1 [[.i a], [.i b]]), (7, .i 2), (8, .i k)]) (fun k s => []) (fun k => k ≤ 2 ∧ (0 < k → a = 0) ∧ (1 < k → b = 0)) (fun k => 2 - k) 0 ⟨by omega, by omega, by omega⟩ (weakTo_cov ?_ ?_) fun k hk s ct => ?_
  · conv => whnf
    repeat (refine And.intro ?_ ?_; (first | exact rfl | exact Or.inl rfl | exact congrArg (SV.int .i64) (by first | rfl | omega | (simp; done) | (simp; omega))); conv => whnf)
    exact trivial
  · conv => whnf
    repeat (refine And.intro ?_ ?_; (first | exact rfl | exact Or.inl rfl | exact congrArg (SV.int .i64) (by first | rfl | omega | (simp; done) | (simp; omega))); conv => whnf)
    exact trivial
  obtain ⟨hk, ha, hb⟩ := hk
  conv => whnf
  repeat (refine And.intro ?_ ?_; (first | (with_reducible show okR _ _ _ _ = true; kernel_rfl) | (with_reducible show addC _ _ _ = _; kernel_rfl) | rfl | trivial | kernel_rfl | omega | exact Nat.le_of_ble_eq_true rfl | exact lt_len0 rfl | exact lt_len1 rfl); conv => whnf)
  refine ifD (fun h1 => ?_) (fun h1 => ?_) <;> try dsimp only at h1
  · have hx : ∃ c, ([[.i a], [.i b]] : List (List SV))[(k : Int).toNat]? = some [.i c] ∧ ((k = 0 ∧ c = a) ∨ (k = 1 ∧ c = b)) := by
      match k, h1 with
      | 0, _ => exact ⟨a, rfl, .inl ⟨rfl, rfl⟩⟩
      | 1, _ => exact ⟨b, rfl, .inr ⟨rfl, rfl⟩⟩
      | k + 2, h1 => omega
    obtain ⟨c, hx, hc⟩ := hx
    conv => whnf
    repeat (refine And.intro ?_ ?_; (first | (with_reducible show okR _ _ _ _ = true; kernel_rfl) | (with_reducible show addC _ _ _ = _; kernel_rfl) | rfl | trivial | kernel_rfl | omega | exact Nat.le_of_ble_eq_true rfl | exact lt_len0 rfl | exact lt_len1 rfl); conv => whnf)
    refine ⟨_, hx, ?_⟩
    conv => whnf
    repeat (refine And.intro ?_ ?_; (first | (with_reducible show okR _ _ _ _ = true; kernel_rfl) | (with_reducible show addC _ _ _ = _; kernel_rfl) | rfl | trivial | kernel_rfl | omega | exact Nat.le_of_ble_eq_true rfl | exact lt_len0 rfl | exact lt_len1 rfl); conv => whnf)
    refine ifD (fun h2 => ?_) (fun h2 => ?_) <;> try dsimp only at h2
    · conv => whnf
      repeat (refine And.intro ?_ ?_; (first | (with_reducible show okR _ _ _ _ = true; kernel_rfl) | (with_reducible show addC _ _ _ = _; kernel_rfl) | rfl | trivial | kernel_rfl | omega | exact Nat.le_of_ble_eq_true rfl | exact lt_len0 rfl | exact lt_len1 rfl); conv => whnf)
      rcases hc with ⟨rfl, rfl⟩ | ⟨rfl, rfl⟩
      · rw [if_neg h2]
      · rw [if_pos (ha (by omega))]
    · conv => whnf
      repeat (refine And.intro ?_ ?_; (first | (with_reducible show okR _ _ _ _ = true; kernel_rfl) | (with_reducible show addC _ _ _ = _; kernel_rfl) | rfl | trivial | kernel_rfl | omega | exact Nat.le_of_ble_eq_true rfl | exact lt_len0 rfl | exact lt_len1 rfl); conv => whnf)
      refine inI (by omega) (by omega) ?_
      conv => whnf
      repeat (refine And.intro ?_ ?_; (first | (with_reducible show okR _ _ _ _ = true; kernel_rfl) | (with_reducible show addC _ _ _ = _; kernel_rfl) | rfl | trivial | kernel_rfl | omega | exact Nat.le_of_ble_eq_true rfl | exact lt_len0 rfl | exact lt_len1 rfl); conv => whnf)
      refine ⟨k + 1, ⟨by omega, fun _ => ?_, fun h => ?_⟩, by omega, weakTo_cov ?_ ?_⟩
      · rcases hc with ⟨rfl, rfl⟩ | ⟨rfl, rfl⟩
        · omega
        · exact ha (by omega)
      · rcases hc with ⟨rfl, rfl⟩ | ⟨rfl, rfl⟩ <;> omega
      · conv => whnf
        repeat (refine And.intro ?_ ?_; (first | exact rfl | exact Or.inl rfl | exact congrArg (SV.int .i64) (by first | rfl | omega | (simp; done) | (simp; omega))); conv => whnf)
        exact trivial
      · conv => whnf
        repeat (refine And.intro ?_ ?_; (first | exact rfl | exact Or.inl rfl | exact congrArg (SV.int .i64) (by first | rfl | omega | (simp; done) | (simp; omega))); conv => whnf)
        exact trivial
  · have hk : k = 2 := by omega
    subst hk
    conv => whnf
    repeat (refine And.intro ?_ ?_; (first | (with_reducible show okR _ _ _ _ = true; kernel_rfl) | (with_reducible show addC _ _ _ = _; kernel_rfl) | rfl | trivial | kernel_rfl | omega | exact Nat.le_of_ble_eq_true rfl | exact lt_len0 rfl | exact lt_len1 rfl); conv => whnf)
    rw [if_pos (ha (by omega)), hb (by omega)]

def cmpP (a b : XY) : Int := if cmpI a.x b.x = 0 then cmpI a.y b.y else cmpI a.x b.x
theorem cmpP_lt (a b : XY) : decide (cmpP a b < 0) = before a b := by
  rw [Bool.eq_iff_iff]
  simp only [decide_eq_true_eq, before, Bool.or_eq_true, Bool.and_eq_true, cmpP, cmpI]
  by_cases h1 : a.x < b.x <;> by_cases h2 : b.x < a.x <;> by_cases h3 : a.y < b.y <;> by_cases h4 : b.y < a.y <;> simp [h1, h2, h3, h4] <;> omega

theorem hullcmp_pure (a b : XY) : Pure Try.prog G0 42 [.agg (eP a), .agg (eP b)] (.i (cmpP a b)) := by
  refine pure_of mixed Try.func42 rfl rfl (Nat.le_of_ble_eq_true rfl) ?_
  conv => whnf
  repeat (refine And.intro ?_ ?_; (first | (with_reducible show okR _ _ _ _ = true; kernel_rfl) | (with_reducible show addC _ _ _ = _; kernel_rfl) | rfl | trivial | kernel_rfl | omega | exact Nat.le_of_ble_eq_true rfl | exact lt_len0 rfl | exact lt_len1 rfl); conv => whnf)
  refine callP_of (compare_pure a.x b.x) ?_
  conv => whnf
  repeat (refine And.intro ?_ ?_; (first | (with_reducible show okR _ _ _ _ = true; kernel_rfl) | (with_reducible show addC _ _ _ = _; kernel_rfl) | rfl | trivial | kernel_rfl | omega | exact Nat.le_of_ble_eq_true rfl | exact lt_len0 rfl | exact lt_len1 rfl); conv => whnf)
  refine callP_of (compare_pure a.y b.y) ?_
  conv => whnf
  repeat (refine And.intro ?_ ?_; (first | (with_reducible show okR _ _ _ _ = true; kernel_rfl) | (with_reducible show addC _ _ _ = _; kernel_rfl) | rfl | trivial | kernel_rfl | omega | exact Nat.le_of_ble_eq_true rfl | exact lt_len0 rfl | exact lt_len1 rfl); conv => whnf)
  refine callP_of (or_pure (cmpI a.x b.x) (cmpI a.y b.y)) ?_
  conv => whnf
  repeat (refine And.intro ?_ ?_; (first | (with_reducible show okR _ _ _ _ = true; kernel_rfl) | (with_reducible show addC _ _ _ = _; kernel_rfl) | rfl | trivial | kernel_rfl | omega | exact Nat.le_of_ble_eq_true rfl | exact lt_len0 rfl | exact lt_len1 rfl); conv => whnf)
  rfl

/-! ### Reversing -/
/-- The first ones and the last ones exchanged. -/
def swapN (l : List XY) (k : Nat) : List XY := (List.range l.length).map fun i => if i < k ∨ l.length ≤ i + k then nth l (l.length - 1 - i) else nth l i
theorem swapN_len (l : List XY) (k : Nat) : (swapN l k).length = l.length := by simp [swapN]
theorem swapN_get {l : List XY} {k i : Nat} (h : i < l.length) : (swapN l k)[i]? = some (if i < k ∨ l.length ≤ i + k then nth l (l.length - 1 - i) else nth l i) := by
  rw [swapN, List.getElem?_map, List.getElem?_range h]; rfl
theorem nth_getE {l : List XY} {i : Nat} (h : i < l.length) : l[i]? = some (nth l i) := by
  rw [nth_get (List.getElem?_eq_getElem h)]; exact List.getElem?_eq_getElem h
theorem swapN_zero (l : List XY) : swapN l 0 = l := by
  refine List.ext_getElem? fun i => ?_
  by_cases h : i < l.length
  · rw [swapN_get h, if_neg (by omega), nth_getE h]
  · rw [List.getElem?_eq_none (by rw [swapN_len]; omega), List.getElem?_eq_none (by omega)]
theorem swapN_full (l : List XY) (k : Nat) (h : l.length ≤ 2 * k + 1) : swapN l k = l.reverse := by
  refine List.ext_getElem? fun i => ?_
  by_cases hi : i < l.length
  · rw [swapN_get hi, List.getElem?_reverse hi, nth_getE (by omega)]
    split
    · rfl
    · rw [show l.length - 1 - i = i by omega]
  · rw [List.getElem?_eq_none (by rw [swapN_len]; omega), List.getElem?_eq_none (by simp; omega)]
theorem swapN_succ {l : List XY} {k : Nat} (h : 2 * k + 1 < l.length) : ((swapN l k).set k (nth l (l.length - 1 - k))).set (l.length - 1 - k) (nth l k) = swapN l (k + 1) := by
  refine List.ext_getElem? fun i => ?_
  by_cases hi : i < l.length
  · rw [swapN_get hi, List.getElem?_set, List.getElem?_set, swapN_get hi]
    simp only [List.length_set, swapN_len]
    by_cases h1 : l.length - 1 - k = i
    · rw [if_pos h1, if_pos (by omega), if_pos (by omega)]
      rw [show l.length - 1 - i = k by omega]
    · rw [if_neg h1]
      by_cases h2 : k = i
      · rw [if_pos h2, if_pos (by omega), if_pos (by omega), h2]
      · rw [if_neg h2]
        by_cases h3 : i < k ∨ l.length ≤ i + k
        · rw [if_pos h3, if_pos (by omega)]
        · rw [if_neg h3, if_neg (by omega)]
  · rw [List.getElem?_eq_none (by simp [swapN_len]; omega), List.getElem?_eq_none (by rw [swapN_len]; omega)]

theorem reverse_row (l : List XY) (hl : l.length ≤ 1000000) : RowC Try.prog G0 47 [] 2 (l.map eP) (.tup []) (l.reverse.map eP) := by
  have hml : (l.map eP).length = l.length := List.length_map ..
  refine row_intro mixed Try.func47 rfl rfl (Nat.le_of_ble_eq_true rfl) ?_
  conv => whnf
  repeat (refine And.intro ?_ ?_; (first | (with_reducible show okR _ _ _ _ = true; kernel_rfl) | (with_reducible show addC _ _ _ = _; kernel_rfl) | rfl | trivial | kernel_rfl | omega | exact Nat.le_of_ble_eq_true rfl | exact lt_len0 rfl | exact lt_len1 rfl); conv => whnf)
  refine inI (n := ((l.map eP).length : Int) - 1) (by omega) (by omega) ?_
  conv => whnf
  repeat (refine And.intro ?_ ?_; (first | (with_reducible show okR _ _ _ _ = true; kernel_rfl) | (with_reducible show addC _ _ _ = _; kernel_rfl) | rfl | trivial | kernel_rfl | omega | exact Nat.le_of_ble_eq_true rfl | exact lt_len0 rfl | exact lt_len1 rfl); conv => whnf)
  refine loop_rule mixed (ι := Nat) (fun k s => [(0, .lrow 0 0), (2, .i k), (3, .i ((l.length : Int) - 1 - k))]) (fun k s => [(0, ⟨0, 1, 2, (swapN l k).map eP⟩)]) (fun k => 2 * k ≤ l.length + 1) (fun k => l.length + 1 - k) 0 (by omega) (weakTo_cov ?_ ?_) fun k hk s ct => ?_
  · conv => whnf
    repeat (refine And.intro ?_ ?_; (first | exact rfl | exact Or.inl rfl | exact congrArg (SV.int .i64) (by first | rfl | omega | (simp; done) | (simp; omega)) | exact congrArg (SV.int .i64) ((by simp)) | exact congrArg (fun l => some (Ob.mk _ 1 _ l)) ((by simp)) | exact ((by simp))); conv => whnf)
    exact trivial
  · conv => whnf
    refine And.intro ?_ trivial
    rw [swapN_zero]
    rfl
  conv => whnf
  repeat (refine And.intro ?_ ?_; (first | (with_reducible show okR _ _ _ _ = true; kernel_rfl) | (with_reducible show addC _ _ _ = _; kernel_rfl) | rfl | trivial | kernel_rfl | omega | exact Nat.le_of_ble_eq_true rfl | exact lt_len0 rfl | exact lt_len1 rfl); conv => whnf)
  refine ifD (fun h1 => ?_) (fun h1 => ?_) <;> try dsimp only at h1
  · have hs := swapN_succ (l := l) (k := k) (by omega)
    have hml2 : ((swapN l k).map eP).length = l.length := by rw [List.length_map, swapN_len]
    have g1 : ((swapN l k).map eP)[((l.length : Int) - 1 - k).toNat]? = some (eP (nth l (l.length - 1 - k))) := by
      rw [show ((l.length : Int) - 1 - k).toNat = l.length - 1 - k by omega]
      refine get_map ?_
      rw [swapN_get (by omega)]
      split
      · rw [show l.length - 1 - (l.length - 1 - k) = l.length - 1 - k by omega]
      · rfl
    have g2 : ((swapN l k).map eP)[(k : Int).toNat]? = some (eP (nth l k)) := by
      refine get_map ?_
      rw [Int.toNat_natCast, swapN_get (by omega)]
      split
      · rw [show l.length - 1 - k = k by omega]
      · rfl
    conv => whnf
    repeat (refine And.intro ?_ ?_; (first | (with_reducible show okR _ _ _ _ = true; kernel_rfl) | (with_reducible show addC _ _ _ = _; kernel_rfl) | rfl | trivial | kernel_rfl | omega | exact Nat.le_of_ble_eq_true rfl | exact lt_len0 rfl | exact lt_len1 rfl); conv => whnf)
    refine ⟨_, g1, ?_⟩
    conv => whnf
    repeat (refine And.intro ?_ ?_; (first | (with_reducible show okR _ _ _ _ = true; kernel_rfl) | (with_reducible show addC _ _ _ = _; kernel_rfl) | rfl | trivial | kernel_rfl | omega | exact Nat.le_of_ble_eq_true rfl | exact lt_len0 rfl | exact lt_len1 rfl); conv => whnf)
    refine ⟨_, g2, ?_⟩
    conv => whnf
    repeat (refine And.intro ?_ ?_; (first | (with_reducible show okR _ _ _ _ = true; kernel_rfl) | (with_reducible show addC _ _ _ = _; kernel_rfl) | rfl | trivial | kernel_rfl | omega | exact Nat.le_of_ble_eq_true rfl | exact lt_len0 rfl | exact lt_len1 rfl); conv => whnf)
    refine ⟨_, g2, ?_⟩
    conv => whnf
    repeat (refine And.intro ?_ ?_; (first | (with_reducible show okR _ _ _ _ = true; kernel_rfl) | (with_reducible show addC _ _ _ = _; kernel_rfl) | rfl | trivial | kernel_rfl | omega | exact Nat.le_of_ble_eq_true rfl | exact lt_len0 rfl | exact lt_len1 rfl); conv => whnf)
    refine And.intro (show ((l.length : Int) - 1 - k) < ((((swapN l k).map eP).set (k : Int).toNat (eP (nth l (l.length - 1 - k)))).length : Nat) from by rw [List.length_set]; omega) ?_
    conv => whnf
    repeat (refine And.intro ?_ ?_; (first | (with_reducible show okR _ _ _ _ = true; kernel_rfl) | (with_reducible show addC _ _ _ = _; kernel_rfl) | rfl | trivial | kernel_rfl | omega | exact Nat.le_of_ble_eq_true rfl | exact lt_len0 rfl | exact lt_len1 rfl); conv => whnf)
    have g3 : (((swapN l k).map eP).set (k : Int).toNat (eP (nth l (l.length - 1 - k))))[((l.length : Int) - 1 - k).toNat]? = some (eP (nth l (l.length - 1 - k))) := by
      rw [List.getElem?_set_ne (by omega)]; exact g1
    refine ⟨_, g3, ?_⟩
    conv => whnf
    repeat (refine And.intro ?_ ?_; (first | (with_reducible show okR _ _ _ _ = true; kernel_rfl) | (with_reducible show addC _ _ _ = _; kernel_rfl) | rfl | trivial | kernel_rfl | omega | exact Nat.le_of_ble_eq_true rfl | exact lt_len0 rfl | exact lt_len1 rfl); conv => whnf)
    refine inI (by omega) (by omega) ?_
    conv => whnf
    repeat (refine And.intro ?_ ?_; (first | (with_reducible show okR _ _ _ _ = true; kernel_rfl) | (with_reducible show addC _ _ _ = _; kernel_rfl) | rfl | trivial | kernel_rfl | omega | exact Nat.le_of_ble_eq_true rfl | exact lt_len0 rfl | exact lt_len1 rfl); conv => whnf)
    refine inI (by omega) (by omega) ?_
    conv => whnf
    repeat (refine And.intro ?_ ?_; (first | (with_reducible show okR _ _ _ _ = true; kernel_rfl) | (with_reducible show addC _ _ _ = _; kernel_rfl) | rfl | trivial | kernel_rfl | omega | exact Nat.le_of_ble_eq_true rfl | exact lt_len0 rfl | exact lt_len1 rfl); conv => whnf)
    refine ⟨k + 1, by omega, by omega, weakTo_cov ?_ ?_⟩
    · conv => whnf
      repeat (refine And.intro ?_ ?_; (first | exact rfl | exact Or.inl rfl | exact congrArg (SV.int .i64) (by first | rfl | omega | (simp; done) | (simp; omega)) | exact congrArg (SV.int .i64) ((by omega)) | exact congrArg (fun l => some (Ob.mk _ 1 _ l)) ((by omega)) | exact ((by omega))); conv => whnf)
      exact trivial
    · conv => whnf
      refine And.intro ?_ trivial
      rw [← hs, List.map_set, List.map_set, show ((l.length : Int) - 1 - k).toNat = l.length - 1 - k by omega, Int.toNat_natCast]
      rfl
  · rw [swapN_full l k (by omega)]
    conv => whnf
    repeat (refine And.intro ?_ ?_; (first | (with_reducible show okR _ _ _ _ = true; kernel_rfl) | (with_reducible show addC _ _ _ = _; kernel_rfl) | rfl | trivial | kernel_rfl | omega | exact Nat.le_of_ble_eq_true rfl | exact lt_len0 rfl | exact lt_len1 rfl); conv => whnf)

/-! ### Compacting -/
/-- Of the first ones, those that differ from the one before. -/
def cmpTo (l : List XY) : Nat → List XY
  | 0 => []
  | k + 1 => if k = 0 ∨ nth l k ≠ nth l (k - 1) then cmpTo l k ++ [nth l k] else cmpTo l k
def compactN (l : List XY) : List XY := cmpTo l l.length
def zeroRow (n : Nat) : List (List SV) := List.replicate n [.i 0, .i 0]

theorem cmpTo_len (l : List XY) : ∀ k, (cmpTo l k).length ≤ k
  | 0 => by simp [cmpTo]
  | k + 1 => by
    have := cmpTo_len l k
    rw [cmpTo]
    split
    · simp; omega
    · omega

theorem take_nth {l : List XY} {k : Nat} (h : k < l.length) : l.take (k + 1) = l.take k ++ [nth l k] := take_snoc (nth_getE h)

theorem eq_of_beq {a b : XY} (h : (decide (a.x = b.x) && decide (a.y = b.y)) = true) : a = b := by
  obtain ⟨a1, a2⟩ := a
  obtain ⟨b1, b2⟩ := b
  simp at h
  rw [h.1, h.2]
theorem ne_of_beq {a b : XY} (h : (decide (a.x = b.x) && decide (a.y = b.y)) = false) : a ≠ b := by
  rintro rfl
  simp at h

theorem compact_same (l : List XY) (hl : l.length ≤ 1000000) (hc : compactN l = l) : RowC Try.prog G0 45 [] 2 (l.map eP) (.lrow 0 0) (l.map eP) := by
  have hml : (l.map eP).length = l.length := List.length_map ..
  have hne : ∀ k, 0 < k → k < l.length → nth l k ≠ nth l (k - 1) := fun k h0 h1 he => by
    have hle : ∀ n, k + 1 + n ≤ l.length → (cmpTo l (k + 1 + n)).length ≤ k + n := fun n => by
      induction n with
      | zero =>
        intro _
        rw [Nat.add_zero, cmpTo, if_neg (by simp only [he, ne_eq, not_true_eq_false, or_false]; omega)]
        exact cmpTo_len l k
      | succ n ih =>
        intro hn
        have := ih (by omega)
        rw [show k + 1 + (n + 1) = (k + 1 + n) + 1 by omega, cmpTo]
        split
        · simp; omega
        · omega
    have h2 := hle (l.length - (k + 1)) (by omega)
    rw [show k + 1 + (l.length - (k + 1)) = l.length by omega] at h2
    have h3 := congrArg List.length hc
    rw [compactN] at h3
    omega
  refine row_intro mixed Try.func45 rfl rfl (Nat.le_of_ble_eq_true rfl) ?_
  conv => whnf
  repeat (refine And.intro ?_ ?_; (first | (with_reducible show okR _ _ _ _ = true; kernel_rfl) | (with_reducible show addC _ _ _ = _; kernel_rfl) | rfl | trivial | kernel_rfl | omega | exact Nat.le_of_ble_eq_true rfl | exact lt_len0 rfl | exact lt_len1 rfl); conv => whnf)
  refine ifD (p := ((l.map eP).length : Int) < 2) (fun h1 => ?_) (fun h1 => ?_)
  · conv => whnf
    repeat (refine And.intro ?_ ?_; (first | (with_reducible show okR _ _ _ _ = true; kernel_rfl) | (with_reducible show addC _ _ _ = _; kernel_rfl) | rfl | trivial | kernel_rfl | omega | exact Nat.le_of_ble_eq_true rfl | exact lt_len0 rfl | exact lt_len1 rfl); conv => whnf)
  conv => whnf
  repeat (refine And.intro ?_ ?_; (first | (with_reducible show okR _ _ _ _ = true; kernel_rfl) | (with_reducible show addC _ _ _ = _; kernel_rfl) | rfl | trivial | kernel_rfl | omega | exact Nat.le_of_ble_eq_true rfl | exact lt_len0 rfl | exact lt_len1 rfl); conv => whnf)
  refine loop_rule mixed (ι := Nat) (fun k s => [(0, .lrow 0 0), (3, .i k)]) (fun k s => [(0, ⟨0, 1, 2, l.map eP⟩)]) (fun k => k ≤ l.length ∧ 1 ≤ k) (fun k => l.length - k) 1 (by omega) (weakTo_cov ?_ ?_) fun k hk s ct => ?_
  · conv => whnf
    repeat (refine And.intro ?_ ?_; (first | exact rfl | exact Or.inl rfl | exact congrArg (SV.int .i64) (by first | rfl | omega | (simp; done) | (simp; omega))); conv => whnf)
    exact trivial
  · conv => whnf
    repeat (refine And.intro ?_ ?_; (first | exact rfl | exact Or.inl rfl | exact congrArg (SV.int .i64) (by first | rfl | omega | (simp; done) | (simp; omega))); conv => whnf)
    exact trivial
  conv => whnf
  repeat (refine And.intro ?_ ?_; (first | (with_reducible show okR _ _ _ _ = true; kernel_rfl) | (with_reducible show addC _ _ _ = _; kernel_rfl) | rfl | trivial | kernel_rfl | omega | exact Nat.le_of_ble_eq_true rfl | exact lt_len0 rfl | exact lt_len1 rfl); conv => whnf)
  refine ifD (p := (k : Int) < ((l.map eP).length : Int)) (fun h2 => ?_) (fun h2 => ?_)
  · have g1 : (l.map eP)[(k : Int).toNat]? = some (eP (nth l k)) := get_map (nth_getE (by omega))
    have g2 : (l.map eP)[((k : Int) - 1).toNat]? = some (eP (nth l (k - 1))) := by
      rw [show ((k : Int) - 1).toNat = k - 1 by omega]; exact get_map (nth_getE (by omega))
    conv => whnf
    repeat (refine And.intro ?_ ?_; (first | (with_reducible show okR _ _ _ _ = true; kernel_rfl) | (with_reducible show addC _ _ _ = _; kernel_rfl) | rfl | trivial | kernel_rfl | omega | exact Nat.le_of_ble_eq_true rfl | exact lt_len0 rfl | exact lt_len1 rfl); conv => whnf)
    refine ⟨_, g1, ?_⟩
    conv => whnf
    repeat (refine And.intro ?_ ?_; (first | (with_reducible show okR _ _ _ _ = true; kernel_rfl) | (with_reducible show addC _ _ _ = _; kernel_rfl) | rfl | trivial | kernel_rfl | omega | exact Nat.le_of_ble_eq_true rfl | exact lt_len0 rfl | exact lt_len1 rfl); conv => whnf)
    refine inI (by omega) (by omega) ?_
    conv => whnf
    repeat (refine And.intro ?_ ?_; (first | (with_reducible show okR _ _ _ _ = true; kernel_rfl) | (with_reducible show addC _ _ _ = _; kernel_rfl) | rfl | trivial | kernel_rfl | omega | exact Nat.le_of_ble_eq_true rfl | exact lt_len0 rfl | exact lt_len1 rfl); conv => whnf)
    refine ⟨_, g2, ?_⟩
    conv => whnf
    repeat (refine And.intro ?_ ?_; (first | (with_reducible show okR _ _ _ _ = true; kernel_rfl) | (with_reducible show addC _ _ _ = _; kernel_rfl) | rfl | trivial | kernel_rfl | omega | exact Nat.le_of_ble_eq_true rfl | exact lt_len0 rfl | exact lt_len1 rfl); conv => whnf)
    refine ifB_intro (fun h3 => ?_) (fun h3 => ?_) <;> try dsimp only at h3
    · exact absurd (eq_of_beq h3) (hne k (by omega) (by omega))
    conv => whnf
    repeat (refine And.intro ?_ ?_; (first | (with_reducible show okR _ _ _ _ = true; kernel_rfl) | (with_reducible show addC _ _ _ = _; kernel_rfl) | rfl | trivial | kernel_rfl | omega | exact Nat.le_of_ble_eq_true rfl | exact lt_len0 rfl | exact lt_len1 rfl); conv => whnf)
    refine inI (by omega) (by omega) ?_
    conv => whnf
    repeat (refine And.intro ?_ ?_; (first | (with_reducible show okR _ _ _ _ = true; kernel_rfl) | (with_reducible show addC _ _ _ = _; kernel_rfl) | rfl | trivial | kernel_rfl | omega | exact Nat.le_of_ble_eq_true rfl | exact lt_len0 rfl | exact lt_len1 rfl); conv => whnf)
    refine ⟨k + 1, by omega, by omega, weakTo_cov ?_ ?_⟩
    · conv => whnf
      repeat (refine And.intro ?_ ?_; (first | exact rfl | exact Or.inl rfl | exact congrArg (SV.int .i64) (by first | rfl | omega | (simp; done) | (simp; omega))); conv => whnf)
      exact trivial
    · conv => whnf
      repeat (refine And.intro ?_ ?_; (first | exact rfl | exact Or.inl rfl | exact congrArg (SV.int .i64) (by first | rfl | omega | (simp; done) | (simp; omega))); conv => whnf)
      exact trivial
  · conv => whnf
    repeat (refine And.intro ?_ ?_; (first | (with_reducible show okR _ _ _ _ = true; kernel_rfl) | (with_reducible show addC _ _ _ = _; kernel_rfl) | rfl | trivial | kernel_rfl | omega | exact Nat.le_of_ble_eq_true rfl | exact lt_len0 rfl | exact lt_len1 rfl); conv => whnf)

theorem map_take_eq {X Y : List XY} {m : Nat} (h : X.take m = Y) : (X.map eP).take m = Y.map eP := by rw [← List.map_take, h]

theorem compact_less (l : List XY) (hl : l.length ≤ 1000000) (hc : compactN l ≠ l) :
    RowC Try.prog G0 45 [] 2 (l.map eP) (.lsl 0 0 0 (compactN l).length) ((compactN l).map eP ++ zeroRow (l.length - (compactN l).length)) := by
  have hml : (l.map eP).length = l.length := List.length_map ..
  have hlong : 2 ≤ l.length := by
    rcases Nat.lt_or_ge l.length 2 with h | h
    · exfalso
      apply hc
      match l, h with
      | [], _ => rfl
      | [a], _ => simp [compactN, cmpTo, nth]
    · exact h
  refine row_intro mixed Try.func45 rfl rfl (Nat.le_of_ble_eq_true rfl) ?_
  conv => whnf
  repeat (refine And.intro ?_ ?_; (first | (with_reducible show okR _ _ _ _ = true; kernel_rfl) | (with_reducible show addC _ _ _ = _; kernel_rfl) | rfl | trivial | kernel_rfl | omega | exact Nat.le_of_ble_eq_true rfl | exact lt_len0 rfl | exact lt_len1 rfl); conv => whnf)
  refine ifD (p := ((l.map eP).length : Int) < 2) (fun h1 => ?_) (fun h1 => ?_)
  · omega
  conv => whnf
  repeat (refine And.intro ?_ ?_; (first | (with_reducible show okR _ _ _ _ = true; kernel_rfl) | (with_reducible show addC _ _ _ = _; kernel_rfl) | rfl | trivial | kernel_rfl | omega | exact Nat.le_of_ble_eq_true rfl | exact lt_len0 rfl | exact lt_len1 rfl); conv => whnf)
  refine loop_rule mixed (ι := Nat) (fun k s => [(0, .lrow 0 0), (3, .i k)]) (fun k s => [(0, ⟨0, 1, 2, l.map eP⟩)]) (fun k => k ≤ l.length ∧ 1 ≤ k ∧ cmpTo l k = l.take k) (fun k => l.length - k) 1 ⟨by omega, by omega, by
    rw [take_nth (by omega)]; simp [cmpTo]⟩ (weakTo_cov ?_ ?_) fun k hk s ct => ?_
  · conv => whnf
    repeat (refine And.intro ?_ ?_; (first | exact rfl | exact Or.inl rfl | exact congrArg (SV.int .i64) (by first | rfl | omega | (simp; done) | (simp; omega))); conv => whnf)
    exact trivial
  · conv => whnf
    repeat (refine And.intro ?_ ?_; (first | exact rfl | exact Or.inl rfl | exact congrArg (SV.int .i64) (by first | rfl | omega | (simp; done) | (simp; omega))); conv => whnf)
    exact trivial
  obtain ⟨hk, hk1, hck⟩ := hk
  conv => whnf
  repeat (refine And.intro ?_ ?_; (first | (with_reducible show okR _ _ _ _ = true; kernel_rfl) | (with_reducible show addC _ _ _ = _; kernel_rfl) | rfl | trivial | kernel_rfl | omega | exact Nat.le_of_ble_eq_true rfl | exact lt_len0 rfl | exact lt_len1 rfl); conv => whnf)
  refine ifD (p := (k : Int) < ((l.map eP).length : Int)) (fun h2 => ?_) (fun h2 => ?_)
  · have g1 : (l.map eP)[(k : Int).toNat]? = some (eP (nth l k)) := get_map (nth_getE (by omega))
    have g2 : (l.map eP)[((k : Int) - 1).toNat]? = some (eP (nth l (k - 1))) := by
      rw [show ((k : Int) - 1).toNat = k - 1 by omega]; exact get_map (nth_getE (by omega))
    conv => whnf
    repeat (refine And.intro ?_ ?_; (first | (with_reducible show okR _ _ _ _ = true; kernel_rfl) | (with_reducible show addC _ _ _ = _; kernel_rfl) | rfl | trivial | kernel_rfl | omega | exact Nat.le_of_ble_eq_true rfl | exact lt_len0 rfl | exact lt_len1 rfl); conv => whnf)
    refine ⟨_, g1, ?_⟩
    conv => whnf
    repeat (refine And.intro ?_ ?_; (first | (with_reducible show okR _ _ _ _ = true; kernel_rfl) | (with_reducible show addC _ _ _ = _; kernel_rfl) | rfl | trivial | kernel_rfl | omega | exact Nat.le_of_ble_eq_true rfl | exact lt_len0 rfl | exact lt_len1 rfl); conv => whnf)
    refine inI (by omega) (by omega) ?_
    conv => whnf
    repeat (refine And.intro ?_ ?_; (first | (with_reducible show okR _ _ _ _ = true; kernel_rfl) | (with_reducible show addC _ _ _ = _; kernel_rfl) | rfl | trivial | kernel_rfl | omega | exact Nat.le_of_ble_eq_true rfl | exact lt_len0 rfl | exact lt_len1 rfl); conv => whnf)
    refine ⟨_, g2, ?_⟩
    conv => whnf
    repeat (refine And.intro ?_ ?_; (first | (with_reducible show okR _ _ _ _ = true; kernel_rfl) | (with_reducible show addC _ _ _ = _; kernel_rfl) | rfl | trivial | kernel_rfl | omega | exact Nat.le_of_ble_eq_true rfl | exact lt_len0 rfl | exact lt_len1 rfl); conv => whnf)
    refine ifB_intro (fun h3 => ?_) (fun h3 => ?_) <;> try dsimp only at h3
    · have he := eq_of_beq h3
      have hcs : cmpTo l (k + 1) = l.take k := by rw [cmpTo, if_neg (by simp only [he, ne_eq, not_true_eq_false, or_false]; omega), hck]
      conv => whnf
      repeat (refine And.intro ?_ ?_; (first | (with_reducible show okR _ _ _ _ = true; kernel_rfl) | (with_reducible show addC _ _ _ = _; kernel_rfl) | rfl | trivial | kernel_rfl | omega | exact Nat.le_of_ble_eq_true rfl | exact lt_len0 rfl | exact lt_len1 rfl); conv => whnf)
      refine loop_rule mixed (ι := Nat × Nat × List XY) (fun i s => [(0, .lrow 0 0), (3, .i i.2.1), (4, .lsl 0 0 k (l.length - k)), (5, .i i.1)]) (fun i s => [(0, ⟨0, 1, 2, i.2.2.map eP⟩)])
        (fun i => i.1 ≤ l.length - k ∧ 1 ≤ i.1 ∧ i.2.1 ≤ k + i.1 - 1 ∧ i.2.2.length = l.length ∧ i.2.2.take i.2.1 = cmpTo l (k + i.1) ∧ i.2.2.drop (k + i.1 - 1) = l.drop (k + i.1 - 1)) (fun i => l.length - i.1) (1, k, l) ⟨by show 1 ≤ l.length - k; omega, by show 1 ≤ 1; omega, by show k ≤ k + 1 - 1; omega, rfl, hcs.symm, rfl⟩ (weakTo_cov ?_ ?_) fun i hi s ct => ?_
      · conv => whnf
        refine And.intro rfl ?_
        conv => whnf
        refine And.intro rfl ?_
        conv => whnf
        refine And.intro (.inl ?_) ?_
        · show SV.lsl 0 0 (k : Int).toNat ((l.map eP).length - (k : Int).toNat) = _
          rw [hml]; rfl
        · conv => whnf
          repeat (refine And.intro ?_ ?_; (first | exact rfl | exact Or.inl rfl | exact congrArg (SV.int .i64) (by first | rfl | omega | (simp; done) | (simp; omega))); conv => whnf)
          exact trivial
      · conv => whnf
        repeat (refine And.intro ?_ ?_; (first | exact rfl | exact Or.inl rfl | exact congrArg (SV.int .i64) (by first | rfl | omega | (simp; done) | (simp; omega))); conv => whnf)
        exact trivial
      obtain ⟨j, m, X⟩ := i
      obtain ⟨hj, hj1, hm, hX, ht, hd⟩ := hi
      simp only at hj hj1 hm hX ht hd
      have hxl : (X.map eP).length = l.length := by rw [List.length_map]; exact hX
      conv => whnf
      repeat (refine And.intro ?_ ?_; (first | (with_reducible show okR _ _ _ _ = true; kernel_rfl) | (with_reducible show addC _ _ _ = _; kernel_rfl) | rfl | trivial | kernel_rfl | omega | exact Nat.le_of_ble_eq_true rfl | exact lt_len0 rfl | exact lt_len1 rfl); conv => whnf)
      refine ifD (p := (j : Int) < ((l.length - k : Nat) : Int)) (fun h4 => ?_) (fun h4 => ?_)
      · have hXg : ∀ i, k + j - 1 ≤ i → i < l.length → X[i]? = some (nth l i) := fun i h5 h6 => by
          have := congrArg (fun l => l[i - (k + j - 1)]?) hd
          simp only [List.getElem?_drop] at this
          rw [show k + j - 1 + (i - (k + j - 1)) = i by omega] at this
          rw [this]; exact nth_getE h6
        have g3 : (X.map eP)[k + (j : Int).toNat]? = some (eP (nth l (k + j))) := get_map (hXg _ (by omega) (by omega))
        have g4 : (X.map eP)[k + ((j : Int) - 1).toNat]? = some (eP (nth l (k + j - 1))) := by
          rw [show k + ((j : Int) - 1).toNat = k + j - 1 by omega]; exact get_map (hXg _ (by omega) (by omega))
        conv => whnf
        repeat (refine And.intro ?_ ?_; (first | (with_reducible show okR _ _ _ _ = true; kernel_rfl) | (with_reducible show addC _ _ _ = _; kernel_rfl) | rfl | trivial | kernel_rfl | omega | exact Nat.le_of_ble_eq_true rfl | exact lt_len0 rfl | exact lt_len1 rfl); conv => whnf)
        refine ⟨_, g3, ?_⟩
        conv => whnf
        repeat (refine And.intro ?_ ?_; (first | (with_reducible show okR _ _ _ _ = true; kernel_rfl) | (with_reducible show addC _ _ _ = _; kernel_rfl) | rfl | trivial | kernel_rfl | omega | exact Nat.le_of_ble_eq_true rfl | exact lt_len0 rfl | exact lt_len1 rfl); conv => whnf)
        refine inI (by omega) (by omega) ?_
        conv => whnf
        repeat (refine And.intro ?_ ?_; (first | (with_reducible show okR _ _ _ _ = true; kernel_rfl) | (with_reducible show addC _ _ _ = _; kernel_rfl) | rfl | trivial | kernel_rfl | omega | exact Nat.le_of_ble_eq_true rfl | exact lt_len0 rfl | exact lt_len1 rfl); conv => whnf)
        refine ⟨_, g4, ?_⟩
        conv => whnf
        repeat (refine And.intro ?_ ?_; (first | (with_reducible show okR _ _ _ _ = true; kernel_rfl) | (with_reducible show addC _ _ _ = _; kernel_rfl) | rfl | trivial | kernel_rfl | omega | exact Nat.le_of_ble_eq_true rfl | exact lt_len0 rfl | exact lt_len1 rfl); conv => whnf)
        refine ifB_intro (fun h5 => ?_) (fun h5 => ?_) <;> try dsimp only at h5
        · have hne : nth l (k + j) ≠ nth l (k + j - 1) := fun e => by rw [e] at h5; simp at h5
          have hst : X.set m (nth l (k + j)) = X.set m (nth l (k + j)) := rfl
          have hmx : m < X.length := by omega
          conv => whnf
          repeat (refine And.intro ?_ ?_; (first | (with_reducible show okR _ _ _ _ = true; kernel_rfl) | (with_reducible show addC _ _ _ = _; kernel_rfl) | rfl | trivial | kernel_rfl | omega | exact Nat.le_of_ble_eq_true rfl | exact lt_len0 rfl | exact lt_len1 rfl); conv => whnf)
          refine ⟨_, g3, ?_⟩
          conv => whnf
          repeat (refine And.intro ?_ ?_; (first | (with_reducible show okR _ _ _ _ = true; kernel_rfl) | (with_reducible show addC _ _ _ = _; kernel_rfl) | rfl | trivial | kernel_rfl | omega | exact Nat.le_of_ble_eq_true rfl | exact lt_len0 rfl | exact lt_len1 rfl); conv => whnf)
          refine And.intro (show (m : Int) < ((X.map eP).length : Int) from by first | omega | (simp; done) | (simp; omega)) ?_
          conv => whnf
          repeat (refine And.intro ?_ ?_; (first | (with_reducible show okR _ _ _ _ = true; kernel_rfl) | (with_reducible show addC _ _ _ = _; kernel_rfl) | rfl | trivial | kernel_rfl | omega | exact Nat.le_of_ble_eq_true rfl | exact lt_len0 rfl | exact lt_len1 rfl); conv => whnf)
          have g5 : (X.map eP)[(m : Int).toNat]? = some (eP (nth X m)) := get_map (nth_getE hmx)
          refine ⟨_, g5, ?_⟩
          conv => whnf
          repeat (refine And.intro ?_ ?_; (first | (with_reducible show okR _ _ _ _ = true; kernel_rfl) | (with_reducible show addC _ _ _ = _; kernel_rfl) | rfl | trivial | kernel_rfl | omega | exact Nat.le_of_ble_eq_true rfl | exact lt_len0 rfl | exact lt_len1 rfl); conv => whnf)
          refine inI (n := (m : Int) + 1) (by omega) (by omega) ?_
          conv => whnf
          repeat (refine And.intro ?_ ?_; (first | (with_reducible show okR _ _ _ _ = true; kernel_rfl) | (with_reducible show addC _ _ _ = _; kernel_rfl) | rfl | trivial | kernel_rfl | omega | exact Nat.le_of_ble_eq_true rfl | exact lt_len0 rfl | exact lt_len1 rfl); conv => whnf)
          refine inI (n := (j : Int) + 1) (by omega) (by omega) ?_
          conv => whnf
          repeat (refine And.intro ?_ ?_; (first | (with_reducible show okR _ _ _ _ = true; kernel_rfl) | (with_reducible show addC _ _ _ = _; kernel_rfl) | rfl | trivial | kernel_rfl | omega | exact Nat.le_of_ble_eq_true rfl | exact lt_len0 rfl | exact lt_len1 rfl); conv => whnf)
          refine ⟨(j + 1, m + 1, X.set m (nth l (k + j))), ⟨by show j + 1 ≤ _; omega, by show 1 ≤ j + 1; omega, by show m + 1 ≤ k + (j + 1) - 1; omega, by show (X.set m _).length = _; rw [List.length_set]; exact hX, ?_, ?_⟩, by show l.length - (j + 1) < l.length - j; omega, weakTo_cov ?_ ?_⟩
          · show (X.set m (nth l (k + j))).take (m + 1) = cmpTo l (k + (j + 1))
            rw [show k + (j + 1) = (k + j) + 1 by omega, cmpTo, if_pos (.inr hne), ← ht, take_snoc (x := nth l (k + j)) (by rw [List.getElem?_set_self hmx]), List.take_set_of_le (Nat.le_refl _)]
          · show (X.set m (nth l (k + j))).drop (k + (j + 1) - 1) = l.drop (k + (j + 1) - 1)
            rw [List.drop_set_of_lt (by omega)]
            have := congrArg (List.drop 1) hd
            rw [List.drop_drop, List.drop_drop] at this
            rw [show k + (j + 1) - 1 = k + j - 1 + 1 by omega]
            exact this
          · conv => whnf
            repeat (refine And.intro ?_ ?_; (first | exact rfl | exact Or.inl rfl | exact congrArg (SV.int .i64) (by first | rfl | omega | (simp; done) | (simp; omega))); conv => whnf)
            exact trivial
          · conv => whnf
            refine And.intro ?_ trivial
            rw [List.map_set]
            rfl
        · have he5 : nth l (k + j) = nth l (k + j - 1) := by
            refine eq_of_beq ?_
            simpa using h5
          conv => whnf
          repeat (refine And.intro ?_ ?_; (first | (with_reducible show okR _ _ _ _ = true; kernel_rfl) | (with_reducible show addC _ _ _ = _; kernel_rfl) | rfl | trivial | kernel_rfl | omega | exact Nat.le_of_ble_eq_true rfl | exact lt_len0 rfl | exact lt_len1 rfl); conv => whnf)
          refine inI (n := (j : Int) + 1) (by omega) (by omega) ?_
          conv => whnf
          repeat (refine And.intro ?_ ?_; (first | (with_reducible show okR _ _ _ _ = true; kernel_rfl) | (with_reducible show addC _ _ _ = _; kernel_rfl) | rfl | trivial | kernel_rfl | omega | exact Nat.le_of_ble_eq_true rfl | exact lt_len0 rfl | exact lt_len1 rfl); conv => whnf)
          refine ⟨(j + 1, m, X), ⟨by show j + 1 ≤ _; omega, by show 1 ≤ j + 1; omega, by show m ≤ k + (j + 1) - 1; omega, hX, ?_, ?_⟩, by show l.length - (j + 1) < l.length - j; omega, weakTo_cov ?_ ?_⟩
          · show X.take m = cmpTo l (k + (j + 1))
            rw [show k + (j + 1) = (k + j) + 1 by omega, cmpTo, if_neg (by simp only [he5, ne_eq, not_true_eq_false, or_false]; omega), ht]
          · show X.drop (k + (j + 1) - 1) = l.drop (k + (j + 1) - 1)
            have := congrArg (List.drop 1) hd
            rw [List.drop_drop, List.drop_drop] at this
            rw [show k + (j + 1) - 1 = k + j - 1 + 1 by omega]
            exact this
          · conv => whnf
            repeat (refine And.intro ?_ ?_; (first | exact rfl | exact Or.inl rfl | exact congrArg (SV.int .i64) (by first | rfl | omega | (simp; done) | (simp; omega))); conv => whnf)
            exact trivial
          · conv => whnf
            repeat (refine And.intro ?_ ?_; (first | exact rfl | exact Or.inl rfl | exact congrArg (SV.int .i64) (by first | rfl | omega | (simp; done) | (simp; omega))); conv => whnf)
            exact trivial
      · have hfull : k + j = l.length := by omega
        rw [hfull] at ht
        have hml2 : m = (compactN l).length := by
          have := congrArg List.length ht
          rw [List.length_take] at this
          rw [compactN]; omega
        subst hml2
        conv => whnf
        repeat (refine And.intro ?_ ?_; (first | (with_reducible show okR _ _ _ _ = true; kernel_rfl) | (with_reducible show addC _ _ _ = _; kernel_rfl) | rfl | trivial | kernel_rfl | omega | exact Nat.le_of_ble_eq_true rfl | exact lt_len0 rfl | exact lt_len1 rfl); conv => whnf)
        refine And.intro (show ((compactN l).length : Int) ≤ ((X.map eP).length : Int) from by first | omega | (simp; done) | (simp; omega)) ?_
        conv => whnf
        repeat (refine And.intro ?_ ?_; (first | (with_reducible show okR _ _ _ _ = true; kernel_rfl) | (with_reducible show addC _ _ _ = _; kernel_rfl) | rfl | trivial | kernel_rfl | omega | exact Nat.le_of_ble_eq_true rfl | exact lt_len0 rfl | exact lt_len1 rfl); conv => whnf)
        refine And.intro (show ((compactN l).length : Int).toNat + ((X.map eP).length - ((compactN l).length : Int).toNat) ≤ (X.map eP).length from by first | omega | (simp; done) | (simp; omega)) ?_
        conv => whnf
        repeat (refine And.intro ?_ ?_; (first | (with_reducible show okR _ _ _ _ = true; kernel_rfl) | (with_reducible show addC _ _ _ = _; kernel_rfl) | rfl | trivial | kernel_rfl | omega | exact Nat.le_of_ble_eq_true rfl | exact lt_len0 rfl | exact lt_len1 rfl); conv => whnf)
        refine And.intro (show ((compactN l).length : Int) ≤ (((X.map eP).take ((compactN l).length : Int).toNat ++ List.replicate ((X.map eP).length - ((compactN l).length : Int).toNat) [SV.i 0, SV.i 0] ++ (X.map eP).drop (((compactN l).length : Int).toNat + ((X.map eP).length - ((compactN l).length : Int).toNat))).length : Int) from by first | omega | (simp; done) | (simp; omega)) ?_
        conv => whnf
        repeat (refine And.intro ?_ ?_; (first | (with_reducible show okR _ _ _ _ = true; kernel_rfl) | (with_reducible show addC _ _ _ = _; kernel_rfl) | rfl | trivial | kernel_rfl | omega | exact Nat.le_of_ble_eq_true rfl | exact lt_len0 rfl | exact lt_len1 rfl); conv => whnf)
        show (X.map eP).take (compactN l).length ++ List.replicate ((X.map eP).length - (compactN l).length) [SV.i 0, SV.i 0] ++ (X.map eP).drop ((compactN l).length + ((X.map eP).length - (compactN l).length)) = _
        rw [map_take_eq ht, hxl, List.drop_eq_nil_of_le (by omega), List.append_nil]
        rfl
    · conv => whnf
      repeat (refine And.intro ?_ ?_; (first | (with_reducible show okR _ _ _ _ = true; kernel_rfl) | (with_reducible show addC _ _ _ = _; kernel_rfl) | rfl | trivial | kernel_rfl | omega | exact Nat.le_of_ble_eq_true rfl | exact lt_len0 rfl | exact lt_len1 rfl); conv => whnf)
      have hn := ne_of_beq h3
      refine inI (by omega) (by omega) ?_
      conv => whnf
      repeat (refine And.intro ?_ ?_; (first | (with_reducible show okR _ _ _ _ = true; kernel_rfl) | (with_reducible show addC _ _ _ = _; kernel_rfl) | rfl | trivial | kernel_rfl | omega | exact Nat.le_of_ble_eq_true rfl | exact lt_len0 rfl | exact lt_len1 rfl); conv => whnf)
      refine ⟨k + 1, ⟨by omega, by omega, ?_⟩, by omega, weakTo_cov ?_ ?_⟩
      · rw [cmpTo, if_pos (.inr hn), hck, take_nth (by omega)]
      · conv => whnf
        repeat (refine And.intro ?_ ?_; (first | exact rfl | exact Or.inl rfl | exact congrArg (SV.int .i64) (by first | rfl | omega | (simp; done) | (simp; omega))); conv => whnf)
        exact trivial
      · conv => whnf
        repeat (refine And.intro ?_ ?_; (first | exact rfl | exact Or.inl rfl | exact congrArg (SV.int .i64) (by first | rfl | omega | (simp; done) | (simp; omega))); conv => whnf)
        exact trivial
  · exfalso
    apply hc
    rw [compactN, show l.length = k by omega, hck, List.take_of_length_le (by omega)]
end Go.Proofs.Yticandbdabgkeaa.Am
