/- The contracts of cleaning a ring. No condition: definitions and lemmas. -/
import Derived.Test.YtilepdoijdeohaaDoorAmR7
namespace Go.Proofs.YtilepdoijdeohaaDoor.Am
open Go
set_option maxRecDepth 100000

theorem rdsErr_zero : ∀ {l : List Rd}, rdsErr l = 0 → ∀ x ∈ l, rdErr x = 0
  | [], _, x, hx => by cases hx
  | y :: r, h, x, hx => by
    rw [rdsErr] at h
    by_cases h0 : rdErr y = 0
    · rw [if_pos h0] at h
      cases hx with
      | head => exact h0
      | tail _ hx => exact rdsErr_zero h x hx
    · rw [if_neg h0] at h; exact absurd h h0
theorem rdErr_small {x : Rd} (h : rdErr x = 0) : (x.ok = true → -600 ≤ x.p.x ∧ x.p.x ≤ 600 ∧ -600 ≤ x.p.y ∧ x.p.y ≤ 600) ∧ (x.ok = false → x.p = ⟨0, 0⟩) := by
  obtain ⟨⟨px, py⟩, ok⟩ := x
  cases ok with
  | true =>
    refine ⟨fun _ => ?_, fun h => by cases h⟩
    have h : (if (farN px || farN py) = true then (9 : Int) else 0) = 0 := h
    by_cases h1 : (farN px || farN py) = true
    · rw [if_pos h1] at h; omega
    · simp [farN] at h1
      show -600 ≤ px ∧ px ≤ 600 ∧ -600 ≤ py ∧ py ≤ 600
      omega
  | false =>
    refine ⟨fun h => by (cases h), fun _ => ?_⟩
    have h : (if px = 0 ∧ py = 0 then (0 : Int) else 19) = 0 := h
    by_cases h1 : px = 0 ∧ py = 0
    · rw [h1.1, h1.2]
    · rw [if_neg h1] at h; omega
structure Okay (r : Rg) : Prop where
  low : 8 ≤ r.l.length
  high : r.l.length ≤ 32
  z0 : 0 ≤ r.z
  z1 : r.z ≤ 20000
  rd : ∀ x ∈ r.l, rdErr x = 0
theorem check_okay {r : Rg} : checkN r = 0 ↔ Okay r := by
  unfold checkN
  constructor
  · intro h
    by_cases h1 : r.l.length < 8
    · rw [if_pos h1] at h; omega
    rw [if_neg h1] at h
    by_cases h2 : 32 < r.l.length
    · rw [if_pos h2] at h; omega
    rw [if_neg h2] at h
    by_cases h3 : r.z < 0 ∨ 20000 < r.z
    · rw [if_pos h3] at h; omega
    rw [if_neg h3] at h
    exact ⟨by omega, by omega, by omega, by omega, rdsErr_zero h⟩
  · intro h
    have := h.low; have := h.high; have := h.z0; have := h.z1
    rw [if_neg (by omega), if_neg (by omega), if_neg (by omega)]
    have key : ∀ l : List Rd, (∀ x ∈ l, rdErr x = 0) → rdsErr l = 0 := fun l => by
      induction l with
      | nil => intro _; rfl
      | cons x l ih => intro hh; rw [rdsErr, if_pos (hh x (by simp))]; exact ih fun y hy => hh y (by simp [hy])
    exact key _ h.rd
theorem Okay.small {r : Rg} (h : Okay r) : ∀ x ∈ r.l, x.p.Small := fun x hx => by
  obtain ⟨h1, h2⟩ := rdErr_small (h.rd x hx)
  unfold XY.Small
  cases hk : x.ok with
  | true => have := h1 hk; omega
  | false => rw [h2 hk]; simp

def gapN : Rd := ⟨⟨0, 0⟩, false⟩
def clean1N (r : Rg) (refused : Bool) (limit : Int) (i : Nat) : Rd := if (!refused && outN r.l i limit) = true then gapN else rdAt r.l i

theorem clean1_pure (r : Rg) (refused : Bool) (limit : Int) (i : Nat) (hi : i < r.l.length) (hg : refused = false → Okay r) :
    Pure Tryd.prog G0 27 ([.i i] ++ [.ptr [.bool refused], .ptr [.i r.z, .sl 3 (r.l.map eRd)], .ptr [.i limit]]) (.agg (eRd (clean1N r refused limit i))) := by
  have hx := rdAt_get hi
  cases refused with
  | true =>
    refine pure_of mixed Tryd.func27 rfl rfl (Nat.le_of_ble_eq_true rfl) ?_
    conv => whnf
    repeat (refine And.intro ?_ ?_; (first | (with_reducible show okR _ _ _ _ = true; kernel_rfl) | (with_reducible show addC _ _ _ = _; kernel_rfl) | rfl | trivial | kernel_rfl | omega | exact Nat.le_of_ble_eq_true rfl | exact lt_len0 rfl | exact lt_len1 rfl); conv => whnf)
    refine ⟨_, get_map hx, ?_⟩
    conv => whnf
    repeat (refine And.intro ?_ ?_; (first | (with_reducible show okR _ _ _ _ = true; kernel_rfl) | (with_reducible show addC _ _ _ = _; kernel_rfl) | rfl | trivial | kernel_rfl | omega | exact Nat.le_of_ble_eq_true rfl | exact lt_len0 rfl | exact lt_len1 rfl); conv => whnf)
    exact trivial
  | false =>
    have hg := hg rfl
    refine pure_of mixed Tryd.func27 rfl rfl (Nat.le_of_ble_eq_true rfl) ?_
    conv => whnf
    repeat (refine And.intro ?_ ?_; (first | (with_reducible show okR _ _ _ _ = true; kernel_rfl) | (with_reducible show addC _ _ _ = _; kernel_rfl) | rfl | trivial | kernel_rfl | omega | exact Nat.le_of_ble_eq_true rfl | exact lt_len0 rfl | exact lt_len1 rfl); conv => whnf)
    refine callP_of (outlier_pure r i limit hi (by have := hg.high; omega) hg.small) ?_
    conv => whnf
    repeat (refine And.intro ?_ ?_; (first | (with_reducible show okR _ _ _ _ = true; kernel_rfl) | (with_reducible show addC _ _ _ = _; kernel_rfl) | rfl | trivial | kernel_rfl | omega | exact Nat.le_of_ble_eq_true rfl | exact lt_len0 rfl | exact lt_len1 rfl); conv => whnf)
    refine ifB_intro (fun h => ?_) (fun h => ?_) <;> try dsimp only at h
    · conv => whnf
      repeat (refine And.intro ?_ ?_; (first | (with_reducible show okR _ _ _ _ = true; kernel_rfl) | (with_reducible show addC _ _ _ = _; kernel_rfl) | rfl | trivial | kernel_rfl | omega | exact Nat.le_of_ble_eq_true rfl | exact lt_len0 rfl | exact lt_len1 rfl); conv => whnf)
      rw [clean1N, if_pos (by simpa using h)]
      exact ⟨rfl, rfl, rfl, trivial⟩
    · conv => whnf
      repeat (refine And.intro ?_ ?_; (first | (with_reducible show okR _ _ _ _ = true; kernel_rfl) | (with_reducible show addC _ _ _ = _; kernel_rfl) | rfl | trivial | kernel_rfl | omega | exact Nat.le_of_ble_eq_true rfl | exact lt_len0 rfl | exact lt_len1 rfl); conv => whnf)
      refine ⟨_, get_map hx, ?_⟩
      conv => whnf
      repeat (refine And.intro ?_ ?_; (first | (with_reducible show okR _ _ _ _ = true; kernel_rfl) | (with_reducible show addC _ _ _ = _; kernel_rfl) | rfl | trivial | kernel_rfl | omega | exact Nat.le_of_ble_eq_true rfl | exact lt_len0 rfl | exact lt_len1 rfl); conv => whnf)
      rw [clean1N, if_neg (by simpa using h)]
      exact ⟨rfl, rfl, rfl, trivial⟩

def refusedN (r : Rg) (limit : Int) : Bool := decide (checkN r ≠ 0) || decide (limit < 0)
def cleanN (r : Rg) (limit : Int) : Rg := ⟨r.z, (List.range r.l.length).map (clean1N r (refusedN r limit) limit)⟩

theorem clean_pure (r : Rg) (limit : Int) (hl : r.l.length ≤ 1000000) : Pure Tryd.prog G0 16 [eRg r, .i limit] (eRg (cleanN r limit)) := by
  refine pure_of mixed Tryd.func16 rfl rfl (Nat.le_of_ble_eq_true rfl) ?_
  conv => whnf
  repeat (refine And.intro ?_ ?_; (first | (with_reducible show okR _ _ _ _ = true; kernel_rfl) | (with_reducible show addC _ _ _ = _; kernel_rfl) | rfl | trivial | kernel_rfl | omega | exact Nat.le_of_ble_eq_true rfl | exact lt_len0 rfl | exact lt_len1 rfl); conv => whnf)
  refine callP_of (check_pure r) ?_
  conv => whnf
  repeat (refine And.intro ?_ ?_; (first | (with_reducible show okR _ _ _ _ = true; kernel_rfl) | (with_reducible show addC _ _ _ = _; kernel_rfl) | rfl | trivial | kernel_rfl | omega | exact Nat.le_of_ble_eq_true rfl | exact lt_len0 rfl | exact lt_len1 rfl); conv => whnf)
  refine ifD (fun h1 => ?_) (fun h1 => ?_) <;> try dsimp only at h1
  · have e : refusedN r limit = true := by simp [refusedN, h1]
    conv => whnf
    repeat (refine And.intro ?_ ?_; (first | (with_reducible show okR _ _ _ _ = true; kernel_rfl) | (with_reducible show addC _ _ _ = _; kernel_rfl) | rfl | trivial | kernel_rfl | omega | exact Nat.le_of_ble_eq_true rfl | exact lt_len0 rfl | exact lt_len1 rfl); conv => whnf)
    refine callP_of (with_pure r 27 [.ptr [.bool true], .ptr [.i r.z, .sl 3 (r.l.map eRd)], .ptr [.i limit]] (clean1N r true limit) (fun i hi => clean1_pure r true limit i hi (fun h => by cases h)) hl) ?_
    conv => whnf
    repeat (refine And.intro ?_ ?_; (first | (with_reducible show okR _ _ _ _ = true; kernel_rfl) | (with_reducible show addC _ _ _ = _; kernel_rfl) | rfl | trivial | kernel_rfl | omega | exact Nat.le_of_ble_eq_true rfl | exact lt_len0 rfl | exact lt_len1 rfl); conv => whnf)
    rw [cleanN, e]
    exact ⟨⟨rfl, rfl⟩, trivial⟩
  · have h1 : checkN r = 0 := by simpa using h1
    have e : refusedN r limit = decide (limit < 0) := by simp [refusedN, h1]
    conv => whnf
    repeat (refine And.intro ?_ ?_; (first | (with_reducible show okR _ _ _ _ = true; kernel_rfl) | (with_reducible show addC _ _ _ = _; kernel_rfl) | rfl | trivial | kernel_rfl | omega | exact Nat.le_of_ble_eq_true rfl | exact lt_len0 rfl | exact lt_len1 rfl); conv => whnf)
    refine callP_of (with_pure r 27 [.ptr [.bool (decide (limit < 0))], .ptr [.i r.z, .sl 3 (r.l.map eRd)], .ptr [.i limit]] (clean1N r (decide (limit < 0)) limit) (fun i hi => clean1_pure r _ limit i hi (fun _ => check_okay.1 h1)) hl) ?_
    conv => whnf
    repeat (refine And.intro ?_ ?_; (first | (with_reducible show okR _ _ _ _ = true; kernel_rfl) | (with_reducible show addC _ _ _ = _; kernel_rfl) | rfl | trivial | kernel_rfl | omega | exact Nat.le_of_ble_eq_true rfl | exact lt_len0 rfl | exact lt_len1 rfl); conv => whnf)
    rw [cleanN, e]
    exact ⟨⟨rfl, rfl⟩, trivial⟩
end Go.Proofs.YtilepdoijdeohaaDoor.Am
