/- The contract of the program's chord. No condition: definitions and lemmas. -/
import Derived.Test.YticandbdabgkeaaAmP10
namespace Go.Proofs.Yticandbdabgkeaa.Am
open Go
set_option maxRecDepth 100000

/-! ### The chord -/
theorem hullP_sub (l : List XY) : ∀ x ∈ hullP l, x ∈ l := fun x h => by
  unfold hullP at h
  split at h
  · split at h
    · cases h
    · split at h
      · cases h
      · rcases List.mem_append.1 h with h | h
        · exact orderN_sub l x (chainN_sub _ x ((List.dropLast_sublist _).subset h))
        · exact orderN_sub l x (by have := chainN_sub _ x ((List.dropLast_sublist _).subset h); simpa using this)
  · cases h
theorem hullP_in (l : List XY) : ∀ x ∈ hullP l, x.In := fun x h => by
  by_cases hc : compN l = true
  · exact ((compN_iff l).1 hc).all x (hullP_sub l x h)
  · rw [hullP, if_neg hc] at h; cases h
theorem hullP_len (l : List XY) : (hullP l).length ≤ 64 := by
  unfold hullP
  split
  · rename_i hc
    have hf := ((compN_iff l).1 hc).few
    split
    · simp
    · split
      · simp
      · have h1 := chainN_len (orderN l)
        have h2 := chainN_len (orderN l).reverse
        have h3 := orderN_len l
        rw [List.length_reverse] at h2
        rw [List.length_append, List.length_dropLast, List.length_dropLast]
        omega
  · simp

def Rc.In (r : Rc) : Prop := (-600 ≤ r.xa ∧ r.xa ≤ 600) ∧ (-600 ≤ r.xb ∧ r.xb ≤ 600) ∧ (-600 ≤ r.ya ∧ r.ya ≤ 600) ∧ (-600 ≤ r.yb ∧ r.yb ≤ 600)
theorem grow_in {r : Rc} {p : XY} (h : r.In) (hp : p.In) : (grow r p).In := by
  unfold Rc.In XY.In grow at *
  simp only
  omega
theorem foldl_grow_in : ∀ (l : List XY) (r : Rc), r.In → (∀ p ∈ l, p.In) → (l.foldl grow r).In
  | [], r, h, _ => h
  | p :: l, r, h, hp => foldl_grow_in l _ (grow_in h (hp p (by simp))) fun q hq => hp q (by simp [hq])
theorem bounds_in : ∀ {l : List XY}, (∀ p ∈ l, p.In) → (boundsN l).In
  | [], _ => by unfold Rc.In boundsN; simp
  | p :: l, h => foldl_grow_in l _ (by have := h p (by simp); unfold XY.In at this; unfold Rc.In; simp only; omega) fun q hq => h q (by simp [hq])

def spanOf (p q : Int × Int) : Int × Int := if max p.1 q.1 < min p.2 q.2 then (max p.1 q.1, min p.2 q.2) else (0, 0)
def chordP (l : List XY) (low high : Int) : Int × Int :=
  if (hullP l).length = 0 ∨ low ≥ high ∨ low < (boundsN (hullP l)).ya ∨ high > (boundsN (hullP l)).yb then (0, 0)
  else spanOf (accP low (edgesN (hullP l)) ((boundsN (hullP l)).xb + 1, (boundsN (hullP l)).xa - 1)) (accP high (edgesN (hullP l)) ((boundsN (hullP l)).xb + 1, (boundsN (hullP l)).xa - 1))
def eSp (s : Int × Int) : List SV := [.i s.1, .i s.2]

theorem polychord_pure (l : List XY) (hl : l.length ≤ 1000000) (low high : Int) : Pure Try.prog G0 26 [.sl 2 (l.map eP), .i low, .i high] (.agg (eSp (chordP l low high))) := by
  have hin := hullP_in l
  have hlen := hullP_len l
  obtain ⟨b1, b2, b3, b4⟩ := bounds_in hin
  have hch : chordP l low high = if (hullP l).length = 0 ∨ low ≥ high ∨ low < (boundsN (hullP l)).ya ∨ high > (boundsN (hullP l)).yb then (0, 0)
    else spanOf (accP low (edgesN (hullP l)) ((boundsN (hullP l)).xb + 1, (boundsN (hullP l)).xa - 1)) (accP high (edgesN (hullP l)) ((boundsN (hullP l)).xb + 1, (boundsN (hullP l)).xa - 1)) := rfl
  have hhl := hull_pure l hl
  rw [hch]
  generalize hullP l = h at *
  have hbp := polybounds_pure h (by omega)
  generalize hr : boundsN h = r at *
  have hml : (h.map eP).length = h.length := List.length_map ..
  refine stop_pure Try.func26 rfl rfl (Nat.le_of_ble_eq_true rfl) ?_
  refine stop_seq mixed ?_
  conv => whnf
  repeat (refine And.intro ?_ ?_; (first | (with_reducible show okR _ _ _ _ = true; kernel_rfl) | (with_reducible show addC _ _ _ = _; kernel_rfl) | rfl | trivial | kernel_rfl | omega | exact Nat.le_of_ble_eq_true rfl | exact lt_len0 rfl | exact lt_len1 rfl); conv => whnf)
  refine stop_seq mixed ?_
  conv => whnf
  repeat (refine And.intro ?_ ?_; (first | (with_reducible show okR _ _ _ _ = true; kernel_rfl) | (with_reducible show addC _ _ _ = _; kernel_rfl) | rfl | trivial | kernel_rfl | omega | exact Nat.le_of_ble_eq_true rfl | exact lt_len0 rfl | exact lt_len1 rfl); conv => whnf)
  refine callP_of (hhl) ?_
  conv => whnf
  repeat (refine And.intro ?_ ?_; (first | (with_reducible show okR _ _ _ _ = true; kernel_rfl) | (with_reducible show addC _ _ _ = _; kernel_rfl) | rfl | trivial | kernel_rfl | omega | exact Nat.le_of_ble_eq_true rfl | exact lt_len0 rfl | exact lt_len1 rfl); conv => whnf)
  refine stop_seq mixed ?_
  conv => whnf
  repeat (refine And.intro ?_ ?_; (first | (with_reducible show okR _ _ _ _ = true; kernel_rfl) | (with_reducible show addC _ _ _ = _; kernel_rfl) | rfl | trivial | kernel_rfl | omega | exact Nat.le_of_ble_eq_true rfl | exact lt_len0 rfl | exact lt_len1 rfl); conv => whnf)
  refine callP_of (hbp) ?_
  conv => whnf
  repeat (refine And.intro ?_ ?_; (first | (with_reducible show okR _ _ _ _ = true; kernel_rfl) | (with_reducible show addC _ _ _ = _; kernel_rfl) | rfl | trivial | kernel_rfl | omega | exact Nat.le_of_ble_eq_true rfl | exact lt_len0 rfl | exact lt_len1 rfl); conv => whnf)
  refine stop_to (fun s => [(1, .i low), (2, .i high), (6, .lptr 6 (s 6) 0 0), (7, .lptr 7 (s 7) 0 0), (8, .lptr 8 (s 8) 0 0)]) (fun s => [(6, ⟨s 6, 0, 2, [[.i 0, .i 0]]⟩), (7, ⟨s 7, 0, 1, [[.sl 2 (h.map eP)]]⟩), (8, ⟨s 8, 0, 4, [eRc r]⟩)]) (weakTo_cov ?_ ?_) fun s ct => ?_
  · conv => whnf
    repeat (refine And.intro ?_ ?_; (first | exact rfl | exact Or.inl rfl | exact congrArg (SV.int .i64) (by first | rfl | omega | (simp; done) | (simp; omega))); conv => whnf)
    exact trivial
  · conv => whnf
    repeat (refine And.intro ?_ ?_; (first | exact rfl | exact Or.inl rfl | exact congrArg (SV.int .i64) (by first | rfl | omega | (simp; done) | (simp; omega))); conv => whnf)
    exact trivial
  refine stop_seq mixed ?_
  conv => whnf
  repeat (refine And.intro ?_ ?_; (first | (with_reducible show okR _ _ _ _ = true; kernel_rfl) | (with_reducible show addC _ _ _ = _; kernel_rfl) | rfl | trivial | kernel_rfl | omega | exact Nat.le_of_ble_eq_true rfl | exact lt_len0 rfl | exact lt_len1 rfl); conv => whnf)
  refine ifD (fun h1 => ?_) (fun h1 => ?_) <;> try dsimp only at h1
  · conv => whnf
    repeat (refine And.intro ?_ ?_; (first | (with_reducible show okR _ _ _ _ = true; kernel_rfl) | (with_reducible show addC _ _ _ = _; kernel_rfl) | rfl | trivial | kernel_rfl | omega | exact Nat.le_of_ble_eq_true rfl | exact lt_len0 rfl | exact lt_len1 rfl); conv => whnf)
    rw [if_pos (.inl (by omega))]
    conv => whnf
    repeat (refine And.intro ?_ ?_; (first | exact rfl | exact Or.inl rfl | exact congrArg (SV.int .i64) (by first | rfl | omega | (simp; done) | (simp; omega))); conv => whnf)
    exact trivial
  conv => whnf
  repeat (refine And.intro ?_ ?_; (first | (with_reducible show okR _ _ _ _ = true; kernel_rfl) | (with_reducible show addC _ _ _ = _; kernel_rfl) | rfl | trivial | kernel_rfl | omega | exact Nat.le_of_ble_eq_true rfl | exact lt_len0 rfl | exact lt_len1 rfl); conv => whnf)
  refine ifD (fun h2 => ?_) (fun h2 => ?_) <;> try dsimp only at h2
  · conv => whnf
    repeat (refine And.intro ?_ ?_; (first | (with_reducible show okR _ _ _ _ = true; kernel_rfl) | (with_reducible show addC _ _ _ = _; kernel_rfl) | rfl | trivial | kernel_rfl | omega | exact Nat.le_of_ble_eq_true rfl | exact lt_len0 rfl | exact lt_len1 rfl); conv => whnf)
    rw [if_pos (.inr (.inl h2))]
    conv => whnf
    repeat (refine And.intro ?_ ?_; (first | exact rfl | exact Or.inl rfl | exact congrArg (SV.int .i64) (by first | rfl | omega | (simp; done) | (simp; omega))); conv => whnf)
    exact trivial
  conv => whnf
  repeat (refine And.intro ?_ ?_; (first | (with_reducible show okR _ _ _ _ = true; kernel_rfl) | (with_reducible show addC _ _ _ = _; kernel_rfl) | rfl | trivial | kernel_rfl | omega | exact Nat.le_of_ble_eq_true rfl | exact lt_len0 rfl | exact lt_len1 rfl); conv => whnf)
  refine ifD (fun h3 => ?_) (fun h3 => ?_) <;> try dsimp only at h3
  · conv => whnf
    repeat (refine And.intro ?_ ?_; (first | (with_reducible show okR _ _ _ _ = true; kernel_rfl) | (with_reducible show addC _ _ _ = _; kernel_rfl) | rfl | trivial | kernel_rfl | omega | exact Nat.le_of_ble_eq_true rfl | exact lt_len0 rfl | exact lt_len1 rfl); conv => whnf)
    rw [if_pos (.inr (.inr (.inl h3)))]
    conv => whnf
    repeat (refine And.intro ?_ ?_; (first | exact rfl | exact Or.inl rfl | exact congrArg (SV.int .i64) (by first | rfl | omega | (simp; done) | (simp; omega))); conv => whnf)
    exact trivial
  conv => whnf
  repeat (refine And.intro ?_ ?_; (first | (with_reducible show okR _ _ _ _ = true; kernel_rfl) | (with_reducible show addC _ _ _ = _; kernel_rfl) | rfl | trivial | kernel_rfl | omega | exact Nat.le_of_ble_eq_true rfl | exact lt_len0 rfl | exact lt_len1 rfl); conv => whnf)
  refine ifD (fun h4 => ?_) (fun h4 => ?_) <;> try dsimp only at h4
  · conv => whnf
    repeat (refine And.intro ?_ ?_; (first | (with_reducible show okR _ _ _ _ = true; kernel_rfl) | (with_reducible show addC _ _ _ = _; kernel_rfl) | rfl | trivial | kernel_rfl | omega | exact Nat.le_of_ble_eq_true rfl | exact lt_len0 rfl | exact lt_len1 rfl); conv => whnf)
    rw [if_pos (.inr (.inr (.inr h4)))]
    conv => whnf
    repeat (refine And.intro ?_ ?_; (first | exact rfl | exact Or.inl rfl | exact congrArg (SV.int .i64) (by first | rfl | omega | (simp; done) | (simp; omega))); conv => whnf)
    exact trivial
  rw [if_neg (by omega)]
  have c1 := across_pure h (by omega) hin r b1 b2 low (by omega) (by omega)
  have c2 := across_pure h (by omega) hin r b1 b2 high (by omega) (by omega)
  generalize accP low (edgesN h) (r.xb + 1, r.xa - 1) = p at *
  generalize accP high (edgesN h) (r.xb + 1, r.xa - 1) = q at *
  conv => whnf
  repeat (refine And.intro ?_ ?_; (first | (with_reducible show okR _ _ _ _ = true; kernel_rfl) | (with_reducible show addC _ _ _ = _; kernel_rfl) | rfl | trivial | kernel_rfl | omega | exact Nat.le_of_ble_eq_true rfl | exact lt_len0 rfl | exact lt_len1 rfl); conv => whnf)
  refine stop_to (fun s => [(1, .i low), (2, .i high), (6, .lptr 6 (s 6) 0 0), (7, .lptr 7 (s 7) 0 0), (8, .lptr 8 (s 8) 0 0)]) (fun s => [(6, ⟨s 6, 0, 2, [[.i 0, .i 0]]⟩), (7, ⟨s 7, 0, 1, [[.sl 2 (h.map eP)]]⟩), (8, ⟨s 8, 0, 4, [eRc r]⟩)]) (weakTo_cov ?_ ?_) fun s ct => ?_
  · conv => whnf
    repeat (refine And.intro ?_ ?_; (first | exact rfl | exact Or.inl rfl | exact congrArg (SV.int .i64) (by first | rfl | omega | (simp; done) | (simp; omega))); conv => whnf)
    exact trivial
  · conv => whnf
    repeat (refine And.intro ?_ ?_; (first | exact rfl | exact Or.inl rfl | exact congrArg (SV.int .i64) (by first | rfl | omega | (simp; done) | (simp; omega))); conv => whnf)
    exact trivial
  refine stop_seq mixed ?_
  conv => whnf
  repeat (refine And.intro ?_ ?_; (first | (with_reducible show okR _ _ _ _ = true; kernel_rfl) | (with_reducible show addC _ _ _ = _; kernel_rfl) | rfl | trivial | kernel_rfl | omega | exact Nat.le_of_ble_eq_true rfl | exact lt_len0 rfl | exact lt_len1 rfl); conv => whnf)
  refine stop_seq mixed ?_
  conv => whnf
  repeat (refine And.intro ?_ ?_; (first | (with_reducible show okR _ _ _ _ = true; kernel_rfl) | (with_reducible show addC _ _ _ = _; kernel_rfl) | rfl | trivial | kernel_rfl | omega | exact Nat.le_of_ble_eq_true rfl | exact lt_len0 rfl | exact lt_len1 rfl); conv => whnf)
  refine callP_of (c1) ?_
  conv => whnf
  repeat (refine And.intro ?_ ?_; (first | (with_reducible show okR _ _ _ _ = true; kernel_rfl) | (with_reducible show addC _ _ _ = _; kernel_rfl) | rfl | trivial | kernel_rfl | omega | exact Nat.le_of_ble_eq_true rfl | exact lt_len0 rfl | exact lt_len1 rfl); conv => whnf)
  refine stop_seq mixed ?_
  conv => whnf
  repeat (refine And.intro ?_ ?_; (first | (with_reducible show okR _ _ _ _ = true; kernel_rfl) | (with_reducible show addC _ _ _ = _; kernel_rfl) | rfl | trivial | kernel_rfl | omega | exact Nat.le_of_ble_eq_true rfl | exact lt_len0 rfl | exact lt_len1 rfl); conv => whnf)
  refine callP_of (c2) ?_
  conv => whnf
  repeat (refine And.intro ?_ ?_; (first | (with_reducible show okR _ _ _ _ = true; kernel_rfl) | (with_reducible show addC _ _ _ = _; kernel_rfl) | rfl | trivial | kernel_rfl | omega | exact Nat.le_of_ble_eq_true rfl | exact lt_len0 rfl | exact lt_len1 rfl); conv => whnf)
  refine stop_to (fun s => [(6, .lptr 6 (s 6) 0 0), (10, .i p.1), (11, .i p.2), (12, .i q.1), (13, .i q.2)]) (fun s => [(6, ⟨s 6, 0, 2, [[.i 0, .i 0]]⟩)]) (weakTo_cov ?_ ?_) fun s ct => ?_
  · conv => whnf
    repeat (refine And.intro ?_ ?_; (first | exact rfl | exact Or.inl rfl | exact congrArg (SV.int .i64) (by first | rfl | omega | (simp; done) | (simp; omega))); conv => whnf)
    exact trivial
  · conv => whnf
    repeat (refine And.intro ?_ ?_; (first | exact rfl | exact Or.inl rfl | exact congrArg (SV.int .i64) (by first | rfl | omega | (simp; done) | (simp; omega))); conv => whnf)
    exact trivial
  refine stop_go mixed ?_
  conv => whnf
  repeat (refine And.intro ?_ ?_; (first | (with_reducible show okR _ _ _ _ = true; kernel_rfl) | (with_reducible show addC _ _ _ = _; kernel_rfl) | rfl | trivial | kernel_rfl | omega | exact Nat.le_of_ble_eq_true rfl | exact lt_len0 rfl | exact lt_len1 rfl); conv => whnf)
  refine ifD (p := max p.1 q.1 < min p.2 q.2) (fun h5 => ?_) (fun h5 => ?_)
  · conv => whnf
    repeat (refine And.intro ?_ ?_; (first | (with_reducible show okR _ _ _ _ = true; kernel_rfl) | (with_reducible show addC _ _ _ = _; kernel_rfl) | rfl | trivial | kernel_rfl | omega | exact Nat.le_of_ble_eq_true rfl | exact lt_len0 rfl | exact lt_len1 rfl); conv => whnf)
    rw [spanOf, if_pos h5]
    conv => whnf
    repeat (refine And.intro ?_ ?_; (first | exact rfl | exact Or.inl rfl | exact congrArg (SV.int .i64) (by first | rfl | omega | (simp; done) | (simp; omega))); conv => whnf)
    exact trivial
  · conv => whnf
    repeat (refine And.intro ?_ ?_; (first | (with_reducible show okR _ _ _ _ = true; kernel_rfl) | (with_reducible show addC _ _ _ = _; kernel_rfl) | rfl | trivial | kernel_rfl | omega | exact Nat.le_of_ble_eq_true rfl | exact lt_len0 rfl | exact lt_len1 rfl); conv => whnf)
    rw [spanOf, if_neg h5]
    conv => whnf
    repeat (refine And.intro ?_ ?_; (first | exact rfl | exact Or.inl rfl | exact congrArg (SV.int .i64) (by first | rfl | omega | (simp; done) | (simp; omega))); conv => whnf)
    exact trivial
end Go.Proofs.Yticandbdabgkeaa.Am
