/- The contracts of the reference's search for a neighbor, and of what tells outliers. No condition: definitions and lemmas. -/
import Derived.Test.YtilepdoijdeohaaDoorAmR4
namespace Go.Proofs.YtilepdoijdeohaaDoor.Am
open Go
set_option maxRecDepth 100000

/-- The place so many steps from a place on. -/
def pos (n at_ : Nat) (step : Int) (j : Nat) : Nat := ((at_ + step * j) % n).toNat
def okAt (l : List Rd) (i : Nat) : Bool := match l[i]? with | some x => x.ok | none => false
def seekN (l : List Rd) (at_ : Nat) (step : Int) : Nat → Nat → Nat
  | 0, _ => at_
  | f + 1, j => if okAt l (pos l.length at_ step j) = true then pos l.length at_ step j else seekN l at_ step f (j + 1)
def nbrN (l : List Rd) (at_ : Nat) (step : Int) : Nat := seekN l at_ step l.length 1

theorem pos_lt {n at_ : Nat} {step : Int} {j : Nat} (h : 0 < n) : pos n at_ step j < n := by
  unfold pos
  have h1 := Int.emod_nonneg (at_ + step * j) (b := (n : Int)) (by omega)
  have h2 := Int.emod_lt_of_pos (at_ + step * j) (b := (n : Int)) (by omega)
  omega
theorem pos_cast {n at_ : Nat} {step : Int} {j : Nat} (h : 0 < n) : ((pos n at_ step j : Nat) : Int) = (at_ + step * j) % n := by
  unfold pos
  have h1 := Int.emod_nonneg (at_ + step * j) (b := (n : Int)) (by omega)
  omega
theorem okAt_get {l : List Rd} {i : Nat} {x : Rd} (h : l[i]? = some x) : okAt l i = x.ok := by simp [okAt, h]

theorem sqI {n : Nat} (h : n ≤ 1000) : (n : Int) ≤ (n : Int) * n ∧ (n : Int) * n ≤ 1000000 := by
  have h1 := Nat.mul_le_mul h h
  have h2 := Nat.le_mul_self n
  rw [← Int.natCast_mul]
  omega

theorem pos_at (n at_ : Nat) (step : Int) (k : Nat) : ((at_ : Int) + step * ((k : Int) + 1) + (n : Int) * n) % n = (at_ + step * ((k + 1 : Nat) : Int)) % n := by
  rw [Int.add_mul_emod_self_left]
  rfl

theorem tmod_pos {a n : Int} (h : 0 ≤ a) : a.tmod n = a % n := Int.tmod_eq_emod_of_nonneg h

theorem neighbor_pure (r : Rg) (at_ : Nat) (step : Int) (hs : step = 1 ∨ step = -1) (ha : at_ < r.l.length) (hl : r.l.length ≤ 1000) :
    Pure Tryd.prog G0 37 [eRg r, .i at_, .i step] (.i (nbrN r.l at_ step)) := by
  refine pure_of mixed Tryd.func37 rfl rfl (Nat.le_of_ble_eq_true rfl) ?_
  conv => whnf
  repeat (refine And.intro ?_ ?_; (first | (with_reducible show okR _ _ _ _ = true; kernel_rfl) | (with_reducible show addC _ _ _ = _; kernel_rfl) | rfl | trivial | kernel_rfl | omega | exact Nat.le_of_ble_eq_true rfl | exact lt_len0 rfl | exact lt_len1 rfl); conv => whnf)
  have hn : (r.l.map eRd).length = r.l.length := List.length_map ..
  refine loop_rule mixed (ι := Nat) (fun k s => [(1, .i at_), (2, .i step), (3, .lptr 3 (s 3) 0 0), (7, .i r.l.length), (13, .i r.l.length), (14, .i k)]) (fun _ s => [(3, ⟨s 3, 0, 2, [[.i r.z, .sl 3 (r.l.map eRd)]]⟩)]) (fun k => k ≤ r.l.length ∧ nbrN r.l at_ step = seekN r.l at_ step (r.l.length - k) (k + 1)) (fun k => r.l.length - k) 0 ⟨by omega, rfl⟩ (weakTo_cov ?_ ?_) fun k hk s ct => ?_
  · conv => whnf
    repeat (refine And.intro ?_ ?_; (first | exact rfl | exact Or.inl rfl | exact congrArg (SV.int .i64) (by first | rfl | omega | (simp; done) | (simp; omega))); conv => whnf)
    exact trivial
  · conv => whnf
    repeat (refine And.intro ?_ ?_; (first | exact rfl | exact Or.inl rfl | exact congrArg (SV.int .i64) (by first | rfl | omega | (simp; done) | (simp; omega))); conv => whnf)
    exact trivial
  obtain ⟨hk, he⟩ := hk
  conv => whnf
  repeat (refine And.intro ?_ ?_; (first | (with_reducible show okR _ _ _ _ = true; kernel_rfl) | (with_reducible show addC _ _ _ = _; kernel_rfl) | rfl | trivial | kernel_rfl | omega | exact Nat.le_of_ble_eq_true rfl | exact lt_len0 rfl | exact lt_len1 rfl); conv => whnf)
  refine ifD (fun h1 => ?_) (fun h1 => ?_) <;> try dsimp only at h1
  · obtain ⟨hsq, hsq2⟩ := sqI hl
    have hst : step * ((k : Int) + 1) = (k : Int) + 1 ∨ step * ((k : Int) + 1) = -((k : Int) + 1) := by
      rcases hs with rfl | rfl
      · left; omega
      · right; omega
    have hpos := pos_cast (n := r.l.length) (at_ := at_) (step := step) (j := k + 1) (by omega)
    have hlt := pos_lt (n := r.l.length) (at_ := at_) (step := step) (j := k + 1) (by omega)
    rw [← pos_at] at hpos
    have htm := tmod_pos (a := (at_ : Int) + step * ((k : Int) + 1) + (r.l.length : Int) * r.l.length) (n := r.l.length) (by omega)
    obtain ⟨x, hx⟩ := get_lt hlt
    have hfuel : r.l.length - k = (r.l.length - (k + 1)) + 1 := by omega
    rw [hfuel, seekN, okAt_get hx] at he
    refine inI (by omega) (by omega) ?_
    conv => whnf
    repeat (refine And.intro ?_ ?_; (first | (with_reducible show okR _ _ _ _ = true; kernel_rfl) | (with_reducible show addC _ _ _ = _; kernel_rfl) | rfl | trivial | kernel_rfl | omega | exact Nat.le_of_ble_eq_true rfl | exact lt_len0 rfl | exact lt_len1 rfl); conv => whnf)
    refine inI (by omega) (by omega) ?_
    conv => whnf
    repeat (refine And.intro ?_ ?_; (first | (with_reducible show okR _ _ _ _ = true; kernel_rfl) | (with_reducible show addC _ _ _ = _; kernel_rfl) | rfl | trivial | kernel_rfl | omega | exact Nat.le_of_ble_eq_true rfl | exact lt_len0 rfl | exact lt_len1 rfl); conv => whnf)
    refine inI (by omega) (by omega) ?_
    conv => whnf
    repeat (refine And.intro ?_ ?_; (first | (with_reducible show okR _ _ _ _ = true; kernel_rfl) | (with_reducible show addC _ _ _ = _; kernel_rfl) | rfl | trivial | kernel_rfl | omega | exact Nat.le_of_ble_eq_true rfl | exact lt_len0 rfl | exact lt_len1 rfl); conv => whnf)
    refine inI (by omega) (by omega) ?_
    conv => whnf
    repeat (refine And.intro ?_ ?_; (first | (with_reducible show okR _ _ _ _ = true; kernel_rfl) | (with_reducible show addC _ _ _ = _; kernel_rfl) | rfl | trivial | kernel_rfl | omega | exact Nat.le_of_ble_eq_true rfl | exact lt_len0 rfl | exact lt_len1 rfl); conv => whnf)
    refine inI (by omega) (by omega) ?_
    conv => whnf
    repeat (refine And.intro ?_ ?_; (first | (with_reducible show okR _ _ _ _ = true; kernel_rfl) | (with_reducible show addC _ _ _ = _; kernel_rfl) | rfl | trivial | kernel_rfl | omega | exact Nat.le_of_ble_eq_true rfl | exact lt_len0 rfl | exact lt_len1 rfl); conv => whnf)
    have hidx := htm.trans hpos.symm
    refine ⟨_, get_mapI hidx hx, ?_⟩
    obtain ⟨p, ok⟩ := x
    cases ok with
    | true =>
      conv => whnf
      repeat (refine And.intro ?_ ?_; (first | (with_reducible show okR _ _ _ _ = true; kernel_rfl) | (with_reducible show addC _ _ _ = _; kernel_rfl) | rfl | trivial | kernel_rfl | omega | exact Nat.le_of_ble_eq_true rfl | exact lt_len0 rfl | exact lt_len1 rfl); conv => whnf)
      rw [he, if_pos rfl]
      exact hidx
    | false =>
      rw [if_neg (by simp)] at he
      conv => whnf
      repeat (refine And.intro ?_ ?_; (first | (with_reducible show okR _ _ _ _ = true; kernel_rfl) | (with_reducible show addC _ _ _ = _; kernel_rfl) | rfl | trivial | kernel_rfl | omega | exact Nat.le_of_ble_eq_true rfl | exact lt_len0 rfl | exact lt_len1 rfl); conv => whnf)
      refine inI (by omega) (by omega) ?_
      conv => whnf
      repeat (refine And.intro ?_ ?_; (first | (with_reducible show okR _ _ _ _ = true; kernel_rfl) | (with_reducible show addC _ _ _ = _; kernel_rfl) | rfl | trivial | kernel_rfl | omega | exact Nat.le_of_ble_eq_true rfl | exact lt_len0 rfl | exact lt_len1 rfl); conv => whnf)
      refine ⟨k + 1, ⟨by omega, he⟩, by omega, weakTo_cov ?_ ?_⟩
      · conv => whnf
        repeat (refine And.intro ?_ ?_; (first | exact rfl | exact Or.inl rfl | exact congrArg (SV.int .i64) (by first | rfl | omega | (simp; done) | (simp; omega))); conv => whnf)
        exact trivial
      · conv => whnf
        repeat (refine And.intro ?_ ?_; (first | exact rfl | exact Or.inl rfl | exact congrArg (SV.int .i64) (by first | rfl | omega | (simp; done) | (simp; omega))); conv => whnf)
        exact trivial
  · conv => whnf
    repeat (refine And.intro ?_ ?_; (first | (with_reducible show okR _ _ _ _ = true; kernel_rfl) | (with_reducible show addC _ _ _ = _; kernel_rfl) | rfl | trivial | kernel_rfl | omega | exact Nat.le_of_ble_eq_true rfl | exact lt_len0 rfl | exact lt_len1 rfl); conv => whnf)
    rw [he, show r.l.length - k = 0 by omega]
    rfl
end Go.Proofs.YtilepdoijdeohaaDoor.Am
namespace Go.Proofs.YtilepdoijdeohaaDoor.Am
open Go
set_option maxRecDepth 100000

theorem okAt_pos_self {l : List Rd} {at_ : Nat} (step : Int) (ha : at_ < l.length) : pos l.length at_ step l.length = at_ := by
  have h : (pos l.length at_ step l.length : Int) = at_ := by
    rw [pos_cast (by omega), Int.mul_comm, Int.add_mul_emod_self_left]
    exact Int.emod_eq_of_lt (by omega) (by omega)
  omega

theorem seekN_found (l : List Rd) (at_ : Nat) (step : Int) (f j : Nat) (h : okAt l (pos l.length at_ step j) = true) (hf : 0 < f) : seekN l at_ step f j = pos l.length at_ step j := by
  obtain ⟨f, rfl⟩ : ∃ g, f = g + 1 := ⟨f - 1, by omega⟩
  rw [seekN, if_pos h]

theorem pos_next (n at_ : Nat) (step : Int) (j : Nat) (hn : 0 < n) : ((pos n at_ step j : Int) + step + n) % n = (pos n at_ step (j + 1) : Nat) := by
  rw [pos_cast hn, pos_cast hn, Int.add_assoc, Int.emod_add_emod]
  have e : (at_ : Int) + step * j + (step + n) = at_ + step * ((j + 1 : Nat) : Int) + n := by
    rw [Int.natCast_add, Int.mul_add]
    omega
  rw [e, Int.add_emod_right]

theorem pos_first (n at_ : Nat) (step : Int) (hn : 0 < n) : ((at_ : Int) + step + n) % n = (pos n at_ step 1 : Nat) := by
  rw [pos_cast hn, Int.add_emod_right]
  simp

theorem next_pure (l : List Rd) (at_ : Nat) (step : Int) (hs : step = 1 ∨ step = -1) (ha : at_ < l.length) (hok : okAt l at_ = true) (hl : l.length ≤ 1000) :
    Pure Tryd.prog G0 30 [.sl 3 (l.map eRd), .i at_, .i step] (.i (nbrN l at_ step)) := by
  refine pure_of mixed Tryd.func30 rfl rfl (Nat.le_of_ble_eq_true rfl) ?_
  conv => whnf
  repeat (refine And.intro ?_ ?_; (first | (with_reducible show okR _ _ _ _ = true; kernel_rfl) | (with_reducible show addC _ _ _ = _; kernel_rfl) | rfl | trivial | kernel_rfl | omega | exact Nat.le_of_ble_eq_true rfl | exact lt_len0 rfl | exact lt_len1 rfl); conv => whnf)
  have hn : (l.map eRd).length = l.length := List.length_map ..
  refine inI (by omega) (by omega) ?_
  conv => whnf
  repeat (refine And.intro ?_ ?_; (first | (with_reducible show okR _ _ _ _ = true; kernel_rfl) | (with_reducible show addC _ _ _ = _; kernel_rfl) | rfl | trivial | kernel_rfl | omega | exact Nat.le_of_ble_eq_true rfl | exact lt_len0 rfl | exact lt_len1 rfl); conv => whnf)
  refine inI (by omega) (by omega) ?_
  conv => whnf
  repeat (refine And.intro ?_ ?_; (first | (with_reducible show okR _ _ _ _ = true; kernel_rfl) | (with_reducible show addC _ _ _ = _; kernel_rfl) | rfl | trivial | kernel_rfl | omega | exact Nat.le_of_ble_eq_true rfl | exact lt_len0 rfl | exact lt_len1 rfl); conv => whnf)
  have h1 := pos_first l.length at_ step (by omega)
  have htm := tmod_pos (a := (at_ : Int) + step + l.length) (n := l.length) (by omega)
  rw [h1] at htm
  refine loop_rule mixed (ι := Nat) (fun k s => [(0, .sl 3 (l.map eRd)), (2, .i step), (7, .i l.length), (8, .i (pos l.length at_ step (k + 1)))]) (fun _ s => []) (fun k => k < l.length ∧ nbrN l at_ step = seekN l at_ step (l.length - k) (k + 1)) (fun k => l.length - k) 0 ⟨by omega, rfl⟩ (weakTo_cov ?_ ?_) fun k hk s ct => ?_
  · conv => whnf
    repeat (refine And.intro ?_ ?_; (first | exact rfl | exact Or.inl rfl | exact congrArg (SV.int .i64) (by first | rfl | omega | (simp; done) | (simp; omega)) | exact congrArg (SV.int .i64) ((by rw [hn]; exact htm)) | exact congrArg (fun l => some (Ob.mk _ 1 _ l)) ((by rw [hn]; exact htm)) | exact ((by rw [hn]; exact htm))); conv => whnf)
    exact trivial
  · conv => whnf
    repeat (refine And.intro ?_ ?_; (first | exact rfl | exact Or.inl rfl | exact congrArg (SV.int .i64) (by first | rfl | omega | (simp; done) | (simp; omega))); conv => whnf)
    exact trivial
  obtain ⟨hk, he⟩ := hk
  conv => whnf
  repeat (refine And.intro ?_ ?_; (first | (with_reducible show okR _ _ _ _ = true; kernel_rfl) | (with_reducible show addC _ _ _ = _; kernel_rfl) | rfl | trivial | kernel_rfl | omega | exact Nat.le_of_ble_eq_true rfl | exact lt_len0 rfl | exact lt_len1 rfl); conv => whnf)
  have hlt := pos_lt (n := l.length) (at_ := at_) (step := step) (j := k + 1) (by omega)
  obtain ⟨x, hx⟩ := get_lt hlt
  have hx' := okAt_get hx
  refine ⟨_, get_map hx, ?_⟩
  conv => whnf
  repeat (refine And.intro ?_ ?_; (first | (with_reducible show okR _ _ _ _ = true; kernel_rfl) | (with_reducible show addC _ _ _ = _; kernel_rfl) | rfl | trivial | kernel_rfl | omega | exact Nat.le_of_ble_eq_true rfl | exact lt_len0 rfl | exact lt_len1 rfl); conv => whnf)
  have hfuel : l.length - k = (l.length - (k + 1)) + 1 := by omega
  rw [hfuel, seekN, hx'] at he
  obtain ⟨p, ok⟩ := x
  cases ok with
  | true =>
    conv => whnf
    repeat (refine And.intro ?_ ?_; (first | (with_reducible show okR _ _ _ _ = true; kernel_rfl) | (with_reducible show addC _ _ _ = _; kernel_rfl) | rfl | trivial | kernel_rfl | omega | exact Nat.le_of_ble_eq_true rfl | exact lt_len0 rfl | exact lt_len1 rfl); conv => whnf)
    rw [he, if_pos rfl]
  | false =>
    rw [if_neg (by simp)] at he
    have hk2 : k + 1 < l.length := by
      rcases Nat.lt_or_ge (k + 1) l.length with h | h
      · exact h
      · have : k + 1 = l.length := by omega
        rw [this, okAt_pos_self step ha, hok] at hx'
        cases hx'
    have h2 := pos_next l.length at_ step (k + 1) (by omega)
    have htm2 := tmod_pos (a := (pos l.length at_ step (k + 1) : Int) + step + l.length) (n := l.length) (by omega)
    rw [h2] at htm2
    conv => whnf
    repeat (refine And.intro ?_ ?_; (first | (with_reducible show okR _ _ _ _ = true; kernel_rfl) | (with_reducible show addC _ _ _ = _; kernel_rfl) | rfl | trivial | kernel_rfl | omega | exact Nat.le_of_ble_eq_true rfl | exact lt_len0 rfl | exact lt_len1 rfl); conv => whnf)
    refine inI (by omega) (by omega) ?_
    conv => whnf
    repeat (refine And.intro ?_ ?_; (first | (with_reducible show okR _ _ _ _ = true; kernel_rfl) | (with_reducible show addC _ _ _ = _; kernel_rfl) | rfl | trivial | kernel_rfl | omega | exact Nat.le_of_ble_eq_true rfl | exact lt_len0 rfl | exact lt_len1 rfl); conv => whnf)
    refine inI (by omega) (by omega) ?_
    conv => whnf
    repeat (refine And.intro ?_ ?_; (first | (with_reducible show okR _ _ _ _ = true; kernel_rfl) | (with_reducible show addC _ _ _ = _; kernel_rfl) | rfl | trivial | kernel_rfl | omega | exact Nat.le_of_ble_eq_true rfl | exact lt_len0 rfl | exact lt_len1 rfl); conv => whnf)
    refine ⟨k + 1, ⟨hk2, he⟩, by omega, weakTo_cov ?_ ?_⟩
    · conv => whnf
      repeat (refine And.intro ?_ ?_; (first | exact rfl | exact Or.inl rfl | exact congrArg (SV.int .i64) (by first | rfl | omega | (simp; done) | (simp; omega)) | exact congrArg (SV.int .i64) (htm2) | exact congrArg (fun l => some (Ob.mk _ 1 _ l)) (htm2) | exact (htm2)); conv => whnf)
      exact trivial
    · conv => whnf
      repeat (refine And.intro ?_ ?_; (first | exact rfl | exact Or.inl rfl | exact congrArg (SV.int .i64) (by first | rfl | omega | (simp; done) | (simp; omega))); conv => whnf)
      exact trivial

def XY.Small (p : XY) : Prop := -1000000000 ≤ p.x ∧ p.x ≤ 1000000000 ∧ -1000000000 ≤ p.y ∧ p.y ≤ 1000000000
def apartN (a b : XY) (limit : Int) : Bool := decide (limit < a.x - b.x) || decide (limit < b.x - a.x) || decide (limit < a.y - b.y) || decide (limit < b.y - a.y)

theorem apart_pure (a b : XY) (ha : a.Small) (hb : b.Small) (limit : Int) : Pure Tryd.prog G0 39 [.agg (eP a), .agg (eP b), .i limit] (.bool (apartN a b limit)) := by
  unfold XY.Small at ha hb
  refine pure_of mixed Tryd.func39 rfl rfl (Nat.le_of_ble_eq_true rfl) ?_
  conv => whnf
  repeat (refine And.intro ?_ ?_; (first | (with_reducible show okR _ _ _ _ = true; kernel_rfl) | (with_reducible show addC _ _ _ = _; kernel_rfl) | rfl | trivial | kernel_rfl | omega | exact Nat.le_of_ble_eq_true rfl | exact lt_len0 rfl | exact lt_len1 rfl); conv => whnf)
  refine inI (by omega) (by omega) ?_
  conv => whnf
  repeat (refine And.intro ?_ ?_; (first | (with_reducible show okR _ _ _ _ = true; kernel_rfl) | (with_reducible show addC _ _ _ = _; kernel_rfl) | rfl | trivial | kernel_rfl | omega | exact Nat.le_of_ble_eq_true rfl | exact lt_len0 rfl | exact lt_len1 rfl); conv => whnf)
  refine inI (by omega) (by omega) ?_
  conv => whnf
  repeat (refine And.intro ?_ ?_; (first | (with_reducible show okR _ _ _ _ = true; kernel_rfl) | (with_reducible show addC _ _ _ = _; kernel_rfl) | rfl | trivial | kernel_rfl | omega | exact Nat.le_of_ble_eq_true rfl | exact lt_len0 rfl | exact lt_len1 rfl); conv => whnf)
  refine inI (by omega) (by omega) ?_
  conv => whnf
  repeat (refine And.intro ?_ ?_; (first | (with_reducible show okR _ _ _ _ = true; kernel_rfl) | (with_reducible show addC _ _ _ = _; kernel_rfl) | rfl | trivial | kernel_rfl | omega | exact Nat.le_of_ble_eq_true rfl | exact lt_len0 rfl | exact lt_len1 rfl); conv => whnf)
  refine inI (by omega) (by omega) ?_
  conv => whnf
  repeat (refine And.intro ?_ ?_; (first | (with_reducible show okR _ _ _ _ = true; kernel_rfl) | (with_reducible show addC _ _ _ = _; kernel_rfl) | rfl | trivial | kernel_rfl | omega | exact Nat.le_of_ble_eq_true rfl | exact lt_len0 rfl | exact lt_len1 rfl); conv => whnf)
  rw [Bool.eq_iff_iff]
  simp only [apartN, Bool.or_eq_true, decide_eq_true_eq]
  omega

theorem refapart_pure (a b : XY) (ha : a.Small) (hb : b.Small) (limit : Int) : Pure Tryd.prog G0 31 [.agg (eP a), .agg (eP b), .i limit] (.bool (apartN a b limit)) := by
  unfold XY.Small at ha hb
  refine pure_of mixed Tryd.func31 rfl rfl (Nat.le_of_ble_eq_true rfl) ?_
  conv => whnf
  repeat (refine And.intro ?_ ?_; (first | (with_reducible show okR _ _ _ _ = true; kernel_rfl) | (with_reducible show addC _ _ _ = _; kernel_rfl) | rfl | trivial | kernel_rfl | omega | exact Nat.le_of_ble_eq_true rfl | exact lt_len0 rfl | exact lt_len1 rfl); conv => whnf)
  refine inI (by omega) (by omega) ?_
  conv => whnf
  repeat (refine And.intro ?_ ?_; (first | (with_reducible show okR _ _ _ _ = true; kernel_rfl) | (with_reducible show addC _ _ _ = _; kernel_rfl) | rfl | trivial | kernel_rfl | omega | exact Nat.le_of_ble_eq_true rfl | exact lt_len0 rfl | exact lt_len1 rfl); conv => whnf)
  refine ifD (fun h1 => ?_) (fun h1 => ?_) <;> try dsimp only at h1
  · conv => whnf
    repeat (refine And.intro ?_ ?_; (first | (with_reducible show okR _ _ _ _ = true; kernel_rfl) | (with_reducible show addC _ _ _ = _; kernel_rfl) | rfl | trivial | kernel_rfl | omega | exact Nat.le_of_ble_eq_true rfl | exact lt_len0 rfl | exact lt_len1 rfl); conv => whnf)
    simp [apartN, h1]
  conv => whnf
  repeat (refine And.intro ?_ ?_; (first | (with_reducible show okR _ _ _ _ = true; kernel_rfl) | (with_reducible show addC _ _ _ = _; kernel_rfl) | rfl | trivial | kernel_rfl | omega | exact Nat.le_of_ble_eq_true rfl | exact lt_len0 rfl | exact lt_len1 rfl); conv => whnf)
  refine inI (by omega) (by omega) ?_
  conv => whnf
  repeat (refine And.intro ?_ ?_; (first | (with_reducible show okR _ _ _ _ = true; kernel_rfl) | (with_reducible show addC _ _ _ = _; kernel_rfl) | rfl | trivial | kernel_rfl | omega | exact Nat.le_of_ble_eq_true rfl | exact lt_len0 rfl | exact lt_len1 rfl); conv => whnf)
  refine ifD (fun h2 => ?_) (fun h2 => ?_) <;> try dsimp only at h2
  · conv => whnf
    repeat (refine And.intro ?_ ?_; (first | (with_reducible show okR _ _ _ _ = true; kernel_rfl) | (with_reducible show addC _ _ _ = _; kernel_rfl) | rfl | trivial | kernel_rfl | omega | exact Nat.le_of_ble_eq_true rfl | exact lt_len0 rfl | exact lt_len1 rfl); conv => whnf)
    simp [apartN, h2]
  conv => whnf
  repeat (refine And.intro ?_ ?_; (first | (with_reducible show okR _ _ _ _ = true; kernel_rfl) | (with_reducible show addC _ _ _ = _; kernel_rfl) | rfl | trivial | kernel_rfl | omega | exact Nat.le_of_ble_eq_true rfl | exact lt_len0 rfl | exact lt_len1 rfl); conv => whnf)
  refine inI (by omega) (by omega) ?_
  conv => whnf
  repeat (refine And.intro ?_ ?_; (first | (with_reducible show okR _ _ _ _ = true; kernel_rfl) | (with_reducible show addC _ _ _ = _; kernel_rfl) | rfl | trivial | kernel_rfl | omega | exact Nat.le_of_ble_eq_true rfl | exact lt_len0 rfl | exact lt_len1 rfl); conv => whnf)
  refine ifD (fun h3 => ?_) (fun h3 => ?_) <;> try dsimp only at h3
  · conv => whnf
    repeat (refine And.intro ?_ ?_; (first | (with_reducible show okR _ _ _ _ = true; kernel_rfl) | (with_reducible show addC _ _ _ = _; kernel_rfl) | rfl | trivial | kernel_rfl | omega | exact Nat.le_of_ble_eq_true rfl | exact lt_len0 rfl | exact lt_len1 rfl); conv => whnf)
    simp [apartN, h3]
  conv => whnf
  repeat (refine And.intro ?_ ?_; (first | (with_reducible show okR _ _ _ _ = true; kernel_rfl) | (with_reducible show addC _ _ _ = _; kernel_rfl) | rfl | trivial | kernel_rfl | omega | exact Nat.le_of_ble_eq_true rfl | exact lt_len0 rfl | exact lt_len1 rfl); conv => whnf)
  refine inI (by omega) (by omega) ?_
  conv => whnf
  repeat (refine And.intro ?_ ?_; (first | (with_reducible show okR _ _ _ _ = true; kernel_rfl) | (with_reducible show addC _ _ _ = _; kernel_rfl) | rfl | trivial | kernel_rfl | omega | exact Nat.le_of_ble_eq_true rfl | exact lt_len0 rfl | exact lt_len1 rfl); conv => whnf)
  simp [apartN, h1, h2, h3]
end Go.Proofs.YtilepdoijdeohaaDoor.Am
