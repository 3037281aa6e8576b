/- The contracts of turning and merging rings. No condition: definitions and lemmas. -/
import Derived.Test.YtilepdoijdeohaaDoorAmR8
import Derived.Test.YtilepdoijdeohaaDoorAmP1
namespace Go.Proofs.YtilepdoijdeohaaDoor.Am
open Go
set_option maxRecDepth 100000

def turn1N (r : Rg) (refused : Bool) (q : Int) (i : Nat) : Rd := if (!refused && (rdAt r.l i).ok) = true then ⟨rotN (q % 4).toNat (rdAt r.l i).p, true⟩ else rdAt r.l i

theorem small_neg {p : XY} (h : p.Small) : p.Neg := by unfold XY.Small at h; unfold XY.Neg; omega
theorem small_fit {p : XY} (h : p.Small) : p.Fit := by unfold XY.Small at h; unfold XY.Fit; omega
theorem turnN_one {p : XY} (h : p.Small) (q : Int) : turnN [p] q = [rotN (q % 4).toNat p] := by
  have : leastN p = false := by unfold XY.Small at h; simp [leastN]; omega
  simp [turnN, this]

theorem turn1_pure (r : Rg) (refused : Bool) (q : Int) (i : Nat) (hi : i < r.l.length) (hg : refused = false → Okay r) :
    Pure Tryd.prog G0 32 ([.i i] ++ [.ptr [.i r.z, .sl 3 (r.l.map eRd)], .ptr [.bool refused], .ptr [.i q]]) (.agg (eRd (turn1N r refused q i))) := by
  have hx := rdAt_get hi
  cases refused with
  | true =>
    refine pure_of mixed Tryd.func32 rfl rfl (Nat.le_of_ble_eq_true rfl) ?_
    conv => whnf
    repeat (refine And.intro ?_ ?_; (first | (with_reducible show okR _ _ _ _ = true; kernel_rfl) | (with_reducible show addC _ _ _ = _; kernel_rfl) | rfl | trivial | kernel_rfl | omega | exact Nat.le_of_ble_eq_true rfl | exact lt_len0 rfl | exact lt_len1 rfl); conv => whnf)
    refine ⟨_, get_map hx, ?_⟩
    conv => whnf
    repeat (refine And.intro ?_ ?_; (first | (with_reducible show okR _ _ _ _ = true; kernel_rfl) | (with_reducible show addC _ _ _ = _; kernel_rfl) | rfl | trivial | kernel_rfl | omega | exact Nat.le_of_ble_eq_true rfl | exact lt_len0 rfl | exact lt_len1 rfl); conv => whnf)
    exact trivial
  | false =>
    have hg := hg rfl
    have hs := hg.small _ (List.mem_of_getElem? hx)
    unfold turn1N
    generalize rdAt r.l i = x at hx hs
    obtain ⟨p, ok⟩ := x
    refine pure_of mixed Tryd.func32 rfl rfl (Nat.le_of_ble_eq_true rfl) ?_
    conv => whnf
    repeat (refine And.intro ?_ ?_; (first | (with_reducible show okR _ _ _ _ = true; kernel_rfl) | (with_reducible show addC _ _ _ = _; kernel_rfl) | rfl | trivial | kernel_rfl | omega | exact Nat.le_of_ble_eq_true rfl | exact lt_len0 rfl | exact lt_len1 rfl); conv => whnf)
    refine ⟨_, get_map hx, ?_⟩
    conv => whnf
    repeat (refine And.intro ?_ ?_; (first | (with_reducible show okR _ _ _ _ = true; kernel_rfl) | (with_reducible show addC _ _ _ = _; kernel_rfl) | rfl | trivial | kernel_rfl | omega | exact Nat.le_of_ble_eq_true rfl | exact lt_len0 rfl | exact lt_len1 rfl); conv => whnf)
    cases ok with
    | true =>
      conv => whnf
      repeat (refine And.intro ?_ ?_; (first | (with_reducible show okR _ _ _ _ = true; kernel_rfl) | (with_reducible show addC _ _ _ = _; kernel_rfl) | rfl | trivial | kernel_rfl | omega | exact Nat.le_of_ble_eq_true rfl | exact lt_len0 rfl | exact lt_len1 rfl); conv => whnf)
      refine callP_of (turn_pure [p] (by simp) (by simp; exact small_fit hs) q) ?_
      conv => whnf
      repeat (refine And.intro ?_ ?_; (first | (with_reducible show okR _ _ _ _ = true; kernel_rfl) | (with_reducible show addC _ _ _ = _; kernel_rfl) | rfl | trivial | kernel_rfl | omega | exact Nat.le_of_ble_eq_true rfl | exact lt_len0 rfl | exact lt_len1 rfl); conv => whnf)
      rw [turnN_one hs]
      conv => whnf
      repeat (refine And.intro ?_ ?_; (first | (with_reducible show okR _ _ _ _ = true; kernel_rfl) | (with_reducible show addC _ _ _ = _; kernel_rfl) | rfl | trivial | kernel_rfl | omega | exact Nat.le_of_ble_eq_true rfl | exact lt_len0 rfl | exact lt_len1 rfl); conv => whnf)
      refine ⟨_, rfl, ?_⟩
      conv => whnf
      repeat (refine And.intro ?_ ?_; (first | (with_reducible show okR _ _ _ _ = true; kernel_rfl) | (with_reducible show addC _ _ _ = _; kernel_rfl) | rfl | trivial | kernel_rfl | omega | exact Nat.le_of_ble_eq_true rfl | exact lt_len0 rfl | exact lt_len1 rfl); conv => whnf)
      exact trivial
    | false =>
      conv => whnf
      repeat (refine And.intro ?_ ?_; (first | (with_reducible show okR _ _ _ _ = true; kernel_rfl) | (with_reducible show addC _ _ _ = _; kernel_rfl) | rfl | trivial | kernel_rfl | omega | exact Nat.le_of_ble_eq_true rfl | exact lt_len0 rfl | exact lt_len1 rfl); conv => whnf)
      exact trivial

def turnR (r : Rg) (q : Int) : Rg := ⟨r.z, (List.range r.l.length).map (turn1N r (decide (checkN r ≠ 0)) q)⟩

theorem turnring_pure (r : Rg) (q : Int) (hl : r.l.length ≤ 1000000) : Pure Tryd.prog G0 18 [eRg r, .i q] (eRg (turnR r q)) := by
  refine pure_of mixed Tryd.func18 rfl rfl (Nat.le_of_ble_eq_true rfl) ?_
  conv => whnf
  repeat (refine And.intro ?_ ?_; (first | (with_reducible show okR _ _ _ _ = true; kernel_rfl) | (with_reducible show addC _ _ _ = _; kernel_rfl) | rfl | trivial | kernel_rfl | omega | exact Nat.le_of_ble_eq_true rfl | exact lt_len0 rfl | exact lt_len1 rfl); conv => whnf)
  refine callP_of (check_pure r) ?_
  conv => whnf
  repeat (refine And.intro ?_ ?_; (first | (with_reducible show okR _ _ _ _ = true; kernel_rfl) | (with_reducible show addC _ _ _ = _; kernel_rfl) | rfl | trivial | kernel_rfl | omega | exact Nat.le_of_ble_eq_true rfl | exact lt_len0 rfl | exact lt_len1 rfl); conv => whnf)
  refine callP_of (with_pure r 32 [.ptr [.i r.z, .sl 3 (r.l.map eRd)], .ptr [.bool (decide (checkN r ≠ 0))], .ptr [.i q]] (turn1N r (decide (checkN r ≠ 0)) q) (fun i hi => turn1_pure r _ q i hi (fun h => check_okay.1 (by simpa using h))) hl) ?_
  conv => whnf
  repeat (refine And.intro ?_ ?_; (first | (with_reducible show okR _ _ _ _ = true; kernel_rfl) | (with_reducible show addC _ _ _ = _; kernel_rfl) | rfl | trivial | kernel_rfl | omega | exact Nat.le_of_ble_eq_true rfl | exact lt_len0 rfl | exact lt_len1 rfl); conv => whnf)
  exact trivial

def merge1N (a b : Rg) (i : Nat) : Rd := if (rdAt a.l i).ok = true then rdAt a.l i else rdAt b.l i

theorem merge1_pure (a b : Rg) (i : Nat) (hi : i < a.l.length) (hi2 : i < b.l.length) :
    Pure Tryd.prog G0 36 ([.i i] ++ [.ptr [.i a.z, .sl 3 (a.l.map eRd)], .ptr [.i b.z, .sl 3 (b.l.map eRd)]]) (.agg (eRd (merge1N a b i))) := by
  have hx := rdAt_get hi
  have hy := rdAt_get hi2
  unfold merge1N
  generalize rdAt a.l i = x at hx
  obtain ⟨p, ok⟩ := x
  refine pure_of mixed Tryd.func36 rfl rfl (Nat.le_of_ble_eq_true rfl) ?_
  conv => whnf
  repeat (refine And.intro ?_ ?_; (first | (with_reducible show okR _ _ _ _ = true; kernel_rfl) | (with_reducible show addC _ _ _ = _; kernel_rfl) | rfl | trivial | kernel_rfl | omega | exact Nat.le_of_ble_eq_true rfl | exact lt_len0 rfl | exact lt_len1 rfl); conv => whnf)
  refine ⟨_, get_map hx, ?_⟩
  conv => whnf
  repeat (refine And.intro ?_ ?_; (first | (with_reducible show okR _ _ _ _ = true; kernel_rfl) | (with_reducible show addC _ _ _ = _; kernel_rfl) | rfl | trivial | kernel_rfl | omega | exact Nat.le_of_ble_eq_true rfl | exact lt_len0 rfl | exact lt_len1 rfl); conv => whnf)
  cases ok with
  | true =>
    conv => whnf
    repeat (refine And.intro ?_ ?_; (first | (with_reducible show okR _ _ _ _ = true; kernel_rfl) | (with_reducible show addC _ _ _ = _; kernel_rfl) | rfl | trivial | kernel_rfl | omega | exact Nat.le_of_ble_eq_true rfl | exact lt_len0 rfl | exact lt_len1 rfl); conv => whnf)
    refine ⟨_, get_map hx, ?_⟩
    conv => whnf
    repeat (refine And.intro ?_ ?_; (first | (with_reducible show okR _ _ _ _ = true; kernel_rfl) | (with_reducible show addC _ _ _ = _; kernel_rfl) | rfl | trivial | kernel_rfl | omega | exact Nat.le_of_ble_eq_true rfl | exact lt_len0 rfl | exact lt_len1 rfl); conv => whnf)
    exact trivial
  | false =>
    conv => whnf
    repeat (refine And.intro ?_ ?_; (first | (with_reducible show okR _ _ _ _ = true; kernel_rfl) | (with_reducible show addC _ _ _ = _; kernel_rfl) | rfl | trivial | kernel_rfl | omega | exact Nat.le_of_ble_eq_true rfl | exact lt_len0 rfl | exact lt_len1 rfl); conv => whnf)
    refine ⟨_, get_map hy, ?_⟩
    conv => whnf
    repeat (refine And.intro ?_ ?_; (first | (with_reducible show okR _ _ _ _ = true; kernel_rfl) | (with_reducible show addC _ _ _ = _; kernel_rfl) | rfl | trivial | kernel_rfl | omega | exact Nat.le_of_ble_eq_true rfl | exact lt_len0 rfl | exact lt_len1 rfl); conv => whnf)
    exact trivial

def mergeErr (a b : Rg) : Int := if checkN a ≠ 0 then checkN a else if checkN b ≠ 0 then checkN b else if a.z ≠ b.z ∨ a.l.length ≠ b.l.length then 19 else 0
def mergeN (a b : Rg) : Rg := if mergeErr a b ≠ 0 then ⟨0, []⟩ else ⟨a.z, (List.range a.l.length).map (merge1N a b)⟩

theorem merge_pure (a b : Rg) (hla : a.l.length ≤ 1000000) : Pure Tryd.prog G0 20 [eRg a, eRg b] (.tup [eRg (mergeN a b), .i (mergeErr a b)]) := by
  refine pure_of mixed Tryd.func20 rfl rfl (Nat.le_of_ble_eq_true rfl) ?_
  conv => whnf
  repeat (refine And.intro ?_ ?_; (first | (with_reducible show okR _ _ _ _ = true; kernel_rfl) | (with_reducible show addC _ _ _ = _; kernel_rfl) | rfl | trivial | kernel_rfl | omega | exact Nat.le_of_ble_eq_true rfl | exact lt_len0 rfl | exact lt_len1 rfl); conv => whnf)
  refine loop_unroll mixed 4 ?_
  conv => whnf
  repeat (refine And.intro ?_ ?_; (first | (with_reducible show okR _ _ _ _ = true; kernel_rfl) | (with_reducible show addC _ _ _ = _; kernel_rfl) | rfl | trivial | kernel_rfl | omega | exact Nat.le_of_ble_eq_true rfl | exact lt_len0 rfl | exact lt_len1 rfl); conv => whnf)
  refine ⟨_, rfl, ?_⟩
  conv => whnf
  repeat (refine And.intro ?_ ?_; (first | (with_reducible show okR _ _ _ _ = true; kernel_rfl) | (with_reducible show addC _ _ _ = _; kernel_rfl) | rfl | trivial | kernel_rfl | omega | exact Nat.le_of_ble_eq_true rfl | exact lt_len0 rfl | exact lt_len1 rfl); conv => whnf)
  refine callP_of (check_pure a) ?_
  conv => whnf
  repeat (refine And.intro ?_ ?_; (first | (with_reducible show okR _ _ _ _ = true; kernel_rfl) | (with_reducible show addC _ _ _ = _; kernel_rfl) | rfl | trivial | kernel_rfl | omega | exact Nat.le_of_ble_eq_true rfl | exact lt_len0 rfl | exact lt_len1 rfl); conv => whnf)
  refine ifD (fun h1 => ?_) (fun h1 => ?_) <;> try dsimp only at h1
  · have e : mergeErr a b = checkN a := by rw [mergeErr, if_pos h1]
    conv => whnf
    repeat (refine And.intro ?_ ?_; (first | (with_reducible show okR _ _ _ _ = true; kernel_rfl) | (with_reducible show addC _ _ _ = _; kernel_rfl) | rfl | trivial | kernel_rfl | omega | exact Nat.le_of_ble_eq_true rfl | exact lt_len0 rfl | exact lt_len1 rfl); conv => whnf)
    rw [e]
    have e2 : mergeN a b = ⟨0, []⟩ := by rw [mergeN, if_pos (by rw [e]; exact h1)]
    rw [e2]
    exact ⟨⟨rfl, rfl, trivial⟩, rfl, trivial⟩
  conv => whnf
  repeat (refine And.intro ?_ ?_; (first | (with_reducible show okR _ _ _ _ = true; kernel_rfl) | (with_reducible show addC _ _ _ = _; kernel_rfl) | rfl | trivial | kernel_rfl | omega | exact Nat.le_of_ble_eq_true rfl | exact lt_len0 rfl | exact lt_len1 rfl); conv => whnf)
  refine inI (by omega) (by omega) ?_
  conv => whnf
  repeat (refine And.intro ?_ ?_; (first | (with_reducible show okR _ _ _ _ = true; kernel_rfl) | (with_reducible show addC _ _ _ = _; kernel_rfl) | rfl | trivial | kernel_rfl | omega | exact Nat.le_of_ble_eq_true rfl | exact lt_len0 rfl | exact lt_len1 rfl); conv => whnf)
  refine ⟨_, rfl, ?_⟩
  conv => whnf
  repeat (refine And.intro ?_ ?_; (first | (with_reducible show okR _ _ _ _ = true; kernel_rfl) | (with_reducible show addC _ _ _ = _; kernel_rfl) | rfl | trivial | kernel_rfl | omega | exact Nat.le_of_ble_eq_true rfl | exact lt_len0 rfl | exact lt_len1 rfl); conv => whnf)
  refine callP_of (check_pure b) ?_
  conv => whnf
  repeat (refine And.intro ?_ ?_; (first | (with_reducible show okR _ _ _ _ = true; kernel_rfl) | (with_reducible show addC _ _ _ = _; kernel_rfl) | rfl | trivial | kernel_rfl | omega | exact Nat.le_of_ble_eq_true rfl | exact lt_len0 rfl | exact lt_len1 rfl); conv => whnf)
  refine ifD (fun h2 => ?_) (fun h2 => ?_) <;> try dsimp only at h2
  · have e : mergeErr a b = checkN b := by rw [mergeErr, if_neg h1, if_pos h2]
    conv => whnf
    repeat (refine And.intro ?_ ?_; (first | (with_reducible show okR _ _ _ _ = true; kernel_rfl) | (with_reducible show addC _ _ _ = _; kernel_rfl) | rfl | trivial | kernel_rfl | omega | exact Nat.le_of_ble_eq_true rfl | exact lt_len0 rfl | exact lt_len1 rfl); conv => whnf)
    rw [e]
    have e2 : mergeN a b = ⟨0, []⟩ := by rw [mergeN, if_pos (by rw [e]; exact h2)]
    rw [e2]
    exact ⟨⟨rfl, rfl, trivial⟩, rfl, trivial⟩
  conv => whnf
  repeat (refine And.intro ?_ ?_; (first | (with_reducible show okR _ _ _ _ = true; kernel_rfl) | (with_reducible show addC _ _ _ = _; kernel_rfl) | rfl | trivial | kernel_rfl | omega | exact Nat.le_of_ble_eq_true rfl | exact lt_len0 rfl | exact lt_len1 rfl); conv => whnf)
  refine inI (by omega) (by omega) ?_
  conv => whnf
  repeat (refine And.intro ?_ ?_; (first | (with_reducible show okR _ _ _ _ = true; kernel_rfl) | (with_reducible show addC _ _ _ = _; kernel_rfl) | rfl | trivial | kernel_rfl | omega | exact Nat.le_of_ble_eq_true rfl | exact lt_len0 rfl | exact lt_len1 rfl); conv => whnf)
  have bad : (a.z ≠ b.z ∨ a.l.length ≠ b.l.length) → mergeErr a b = 19 := fun h => by rw [mergeErr, if_neg h1, if_neg h2, if_pos h]
  have bad2 : (a.z ≠ b.z ∨ a.l.length ≠ b.l.length) → mergeN a b = ⟨0, []⟩ := fun h => by rw [mergeN, if_pos (by rw [bad h]; omega)]
  refine ifD (fun h3 => ?_) (fun h3 => ?_) <;> try dsimp only at h3
  · conv => whnf
    repeat (refine And.intro ?_ ?_; (first | (with_reducible show okR _ _ _ _ = true; kernel_rfl) | (with_reducible show addC _ _ _ = _; kernel_rfl) | rfl | trivial | kernel_rfl | omega | exact Nat.le_of_ble_eq_true rfl | exact lt_len0 rfl | exact lt_len1 rfl); conv => whnf)
    rw [bad (.inl h3), bad2 (.inl h3)]
    exact ⟨⟨rfl, rfl, trivial⟩, rfl, trivial⟩
  conv => whnf
  repeat (refine And.intro ?_ ?_; (first | (with_reducible show okR _ _ _ _ = true; kernel_rfl) | (with_reducible show addC _ _ _ = _; kernel_rfl) | rfl | trivial | kernel_rfl | omega | exact Nat.le_of_ble_eq_true rfl | exact lt_len0 rfl | exact lt_len1 rfl); conv => whnf)
  refine ifD (fun h4 => ?_) (fun h4 => ?_) <;> try dsimp only at h4
  · have h4 : a.l.length ≠ b.l.length := by
      rw [List.length_map, List.length_map] at h4
      omega
    conv => whnf
    repeat (refine And.intro ?_ ?_; (first | (with_reducible show okR _ _ _ _ = true; kernel_rfl) | (with_reducible show addC _ _ _ = _; kernel_rfl) | rfl | trivial | kernel_rfl | omega | exact Nat.le_of_ble_eq_true rfl | exact lt_len0 rfl | exact lt_len1 rfl); conv => whnf)
    rw [bad (.inr h4), bad2 (.inr h4)]
    exact ⟨⟨rfl, rfl, trivial⟩, rfl, trivial⟩
  have h4 : a.l.length = b.l.length := by
    rw [List.length_map, List.length_map] at h4
    omega
  have good : mergeErr a b = 0 := by rw [mergeErr, if_neg h1, if_neg h2, if_neg (by omega)]
  have good2 : mergeN a b = ⟨a.z, (List.range a.l.length).map (merge1N a b)⟩ := by rw [mergeN, if_neg (by omega)]
  rw [good, good2]
  conv => whnf
  repeat (refine And.intro ?_ ?_; (first | (with_reducible show okR _ _ _ _ = true; kernel_rfl) | (with_reducible show addC _ _ _ = _; kernel_rfl) | rfl | trivial | kernel_rfl | omega | exact Nat.le_of_ble_eq_true rfl | exact lt_len0 rfl | exact lt_len1 rfl); conv => whnf)
  refine callP_of (with_pure a 36 [.ptr [.i a.z, .sl 3 (a.l.map eRd)], .ptr [.i b.z, .sl 3 (b.l.map eRd)]] (merge1N a b) (fun i hi => merge1_pure a b i hi (by omega)) hla) ?_
  conv => whnf
  repeat (refine And.intro ?_ ?_; (first | (with_reducible show okR _ _ _ _ = true; kernel_rfl) | (with_reducible show addC _ _ _ = _; kernel_rfl) | rfl | trivial | kernel_rfl | omega | exact Nat.le_of_ble_eq_true rfl | exact lt_len0 rfl | exact lt_len1 rfl); conv => whnf)
  exact trivial
end Go.Proofs.YtilepdoijdeohaaDoor.Am
