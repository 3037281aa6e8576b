/- The contracts of the chord of points, the program's. No condition: definitions and lemmas. -/
import Derived.Test.YticandbdabgkeaaAmP8
import Derived.Test.YticandbdabgkeaaAmP9
namespace Go.Proofs.Yticandbdabgkeaa.Am
open Go
set_option maxRecDepth 100000

theorem tdiv_floorP (a b : Int) (hb : 0 < b) : (a.tmod b < 0 ∧ a.tdiv b - 1 = a / b) ∨ (¬ a.tmod b < 0 ∧ a.tdiv b = a / b) := by
  rcases Int.lt_or_le a 0 with ha | ha
  · have h1 : a.tdiv b = -((-a) / b) := by
      have : a = -(-a) := by omega
      rw [show a.tdiv b = (-(-a)).tdiv b by rw [← this], Int.neg_tdiv, Int.tdiv_eq_ediv_of_nonneg (by omega)]
    have h2 : a.tmod b = -((-a) % b) := by
      have : a = -(-a) := by omega
      rw [show a.tmod b = (-(-a)).tmod b by rw [← this], Int.neg_tmod, Int.tmod_eq_emod_of_nonneg (by omega)]
    have e1 := Int.emod_add_mul_ediv (-a) b
    have e2 := Int.emod_nonneg (-a) (b := b) (by omega)
    have e3 := Int.emod_lt_of_pos (-a) hb
    rcases Int.lt_or_le 0 ((-a) % b) with h | h
    · left
      refine ⟨by omega, ?_⟩
      rw [h1]
      symm
      rw [Int.ediv_eq_iff_of_pos hb]
      have : (-((-a) / b) - 1) * b = -(b * ((-a) / b)) - b := by rw [Int.sub_mul, Int.neg_mul, Int.mul_comm]; omega
      constructor <;> omega
    · right
      refine ⟨by omega, ?_⟩
      rw [h1]
      symm
      rw [Int.ediv_eq_iff_of_pos hb]
      have : -((-a) / b) * b = -(b * ((-a) / b)) := by rw [Int.neg_mul, Int.mul_comm]
      constructor <;> omega
  · right
    rw [Int.tmod_eq_emod_of_nonneg ha, Int.tdiv_eq_ediv_of_nonneg ha]
    exact ⟨by have := Int.emod_nonneg a (b := b) (by omega); omega, rfl⟩
theorem div_bound {a b M : Int} (hb : 0 < b) (h1 : -M ≤ a) (h2 : a ≤ M) (hM : 0 ≤ M) : -M ≤ a / b ∧ a / b ≤ M := by
  constructor
  · refine (Int.le_ediv_iff_mul_le hb).2 ?_
    have : M * 1 ≤ M * b := Int.mul_le_mul_of_nonneg_left (by omega) hM
    rw [Int.neg_mul]; omega
  · rcases Int.lt_or_le a 0 with h | h
    · have := Int.ediv_neg_of_neg_of_pos h hb; omega
    · exact Int.le_trans (Int.ediv_le_self b h) h2

theorem polyfloor_pure (a b : Int) (hb : 0 < b) (h1 : -1000000000000000 ≤ a) (h2 : a ≤ 1000000000000000) : Pure Try.prog G0 52 [.i a, .i b] (.i (a / b)) := by
  have hd := tdiv_floorP a b hb
  have hr := div_bound hb h1 h2 (by omega)
  have hw : IntKind.i64.wrap (a.tdiv b) = a.tdiv b := wrap_in (by show (-9223372036854775808 : Int) ≤ _; omega) (by show _ ≤ (9223372036854775807 : Int); omega)
  refine pure_of mixed Try.func52 rfl rfl (Nat.le_of_ble_eq_true rfl) ?_
  conv => whnf
  repeat (refine And.intro ?_ ?_; (first | (with_reducible show okR _ _ _ _ = true; kernel_rfl) | (with_reducible show addC _ _ _ = _; kernel_rfl) | rfl | trivial | kernel_rfl | omega | exact Nat.le_of_ble_eq_true rfl | exact lt_len0 rfl | exact lt_len1 rfl); conv => whnf)
  refine ifD (fun h => ?_) (fun h => ?_) <;> try dsimp only at h
  · conv => whnf
    repeat (refine And.intro ?_ ?_; (first | (with_reducible show okR _ _ _ _ = true; kernel_rfl) | (with_reducible show addC _ _ _ = _; kernel_rfl) | rfl | trivial | kernel_rfl | omega | exact Nat.le_of_ble_eq_true rfl | exact lt_len0 rfl | exact lt_len1 rfl); conv => whnf)
    rw [hw]
    refine inI (by omega) (by omega) ?_
    conv => whnf
    repeat (refine And.intro ?_ ?_; (first | (with_reducible show okR _ _ _ _ = true; kernel_rfl) | (with_reducible show addC _ _ _ = _; kernel_rfl) | rfl | trivial | kernel_rfl | omega | exact Nat.le_of_ble_eq_true rfl | exact lt_len0 rfl | exact lt_len1 rfl); conv => whnf)
    omega
  · conv => whnf
    repeat (refine And.intro ?_ ?_; (first | (with_reducible show okR _ _ _ _ = true; kernel_rfl) | (with_reducible show addC _ _ _ = _; kernel_rfl) | rfl | trivial | kernel_rfl | omega | exact Nat.le_of_ble_eq_true rfl | exact lt_len0 rfl | exact lt_len1 rfl); conv => whnf)
    rw [hw]
    omega

def stepO (y : Int) (s t : XY) (p : Int × Int) : Int × Int :=
  if y < s.y ∨ t.y < y then p else if s.y = t.y then (min (min p.1 s.x) t.x, max (max p.2 s.x) t.x)
  else (min p.1 (-((-(s.x * (t.y - s.y) + (t.x - s.x) * (y - s.y))) / (t.y - s.y))), max p.2 ((s.x * (t.y - s.y) + (t.x - s.x) * (y - s.y)) / (t.y - s.y)))
def stepE (y : Int) (p : Int × Int) (e : XY × XY) : Int × Int := if e.1.y > e.2.y then stepO y e.2 e.1 p else stepO y e.1 e.2 p
def accP (y : Int) (es : List (XY × XY)) (p : Int × Int) : Int × Int := es.foldl (stepE y) p

theorem across_pure (h : List XY) (hl : h.length ≤ 1000000) (hin : ∀ p ∈ h, p.In) (r : Rc) (hr1 : -600 ≤ r.xa ∧ r.xa ≤ 600) (hr2 : -600 ≤ r.xb ∧ r.xb ≤ 600) (y : Int) (hy1 : -600 ≤ y) (hy2 : y ≤ 600) :
    Pure Try.prog G0 51 [.i y, .ptr (eRc r), .ptr [.sl 2 (h.map eP)]] (.tup [.i (accP y (edgesN h) (r.xb + 1, r.xa - 1)).1, .i (accP y (edgesN h) (r.xb + 1, r.xa - 1)).2]) := by
  have _hy : -600 ≤ y ∧ y ≤ 600 := ⟨hy1, hy2⟩
  refine pure_of mixed Try.func51 rfl rfl (Nat.le_of_ble_eq_true rfl) ?_
  conv => whnf
  repeat (refine And.intro ?_ ?_; (first | (with_reducible show okR _ _ _ _ = true; kernel_rfl) | (with_reducible show addC _ _ _ = _; kernel_rfl) | rfl | trivial | kernel_rfl | omega | exact Nat.le_of_ble_eq_true rfl | exact lt_len0 rfl | exact lt_len1 rfl); conv => whnf)
  refine inI (by omega) (by omega) ?_
  conv => whnf
  repeat (refine And.intro ?_ ?_; (first | (with_reducible show okR _ _ _ _ = true; kernel_rfl) | (with_reducible show addC _ _ _ = _; kernel_rfl) | rfl | trivial | kernel_rfl | omega | exact Nat.le_of_ble_eq_true rfl | exact lt_len0 rfl | exact lt_len1 rfl); conv => whnf)
  refine inI (by omega) (by omega) ?_
  conv => whnf
  repeat (refine And.intro ?_ ?_; (first | (with_reducible show okR _ _ _ _ = true; kernel_rfl) | (with_reducible show addC _ _ _ = _; kernel_rfl) | rfl | trivial | kernel_rfl | omega | exact Nat.le_of_ble_eq_true rfl | exact lt_len0 rfl | exact lt_len1 rfl); conv => whnf)
  generalize hP : accP y (edgesN h) (r.xb + 1, r.xa - 1) = P
  refine loop_rule mixed (ι := Nat × Int × Int) (fun i s => match i with | (k, a, b) => [(0, .i y), (2, .ptr [.sl 2 (h.map eP)]), (6, .i a), (7, .i b), (21, .sl 2 (h.map eP)), (22, .i h.length), (23, .i k)]) (fun i s => []) (fun i => i.1 ≤ h.length ∧ accP y ((edgesN h).drop i.1) i.2 = P) (fun i => h.length - i.1) (0, r.xb + 1, r.xa - 1) ⟨by show 0 ≤ _; omega, hP⟩ (weakTo_cov ?_ ?_) fun i hk s ct => ?_
  · conv => whnf
    repeat (refine And.intro ?_ ?_; (first | exact rfl | exact Or.inl rfl | exact congrArg (SV.int .i64) (by first | rfl | omega | (simp; done) | (simp; omega))); conv => whnf)
    exact trivial
  · conv => whnf
    repeat (refine And.intro ?_ ?_; (first | exact rfl | exact Or.inl rfl | exact congrArg (SV.int .i64) (by first | rfl | omega | (simp; done) | (simp; omega))); conv => whnf)
    exact trivial
  obtain ⟨k, a, b⟩ := i
  obtain ⟨hk, hk2⟩ := hk
  simp only at hk hk2
  conv => whnf
  repeat (refine And.intro ?_ ?_; (first | (with_reducible show okR _ _ _ _ = true; kernel_rfl) | (with_reducible show addC _ _ _ = _; kernel_rfl) | rfl | trivial | kernel_rfl | omega | exact Nat.le_of_ble_eq_true rfl | exact lt_len0 rfl | exact lt_len1 rfl); conv => whnf)
  refine ifD (fun h3 => ?_) (fun h3 => ?_) <;> try dsimp only at h3
  · have hkl : k < h.length := by omega
    have hx : (h.map eP)[(k : Int).toNat]? = some (eP (nth h k)) := get_map (nth_get2 hkl)
    obtain ⟨a1, a2, a3, a4⟩ := hin _ (nth_mem hkl)
    obtain ⟨b1, b2, b3, b4⟩ := hin _ (nth_mem (l := h) (i := (k + 1) % h.length) (Nat.mod_lt _ (by omega)))
    have hnx : nxt h k = nth h ((k + 1) % h.length) := rfl
    rw [← hnx] at b1 b2 b3 b4
    rw [drop_cons (edges_get hkl)] at hk2
    have hk3 : accP y ((edgesN h).drop (k + 1)) (stepE y (a, b) (nth h k, nxt h k)) = P := hk2
    conv => whnf
    repeat (refine And.intro ?_ ?_; (first | (with_reducible show okR _ _ _ _ = true; kernel_rfl) | (with_reducible show addC _ _ _ = _; kernel_rfl) | rfl | trivial | kernel_rfl | omega | exact Nat.le_of_ble_eq_true rfl | exact lt_len0 rfl | exact lt_len1 rfl); conv => whnf)
    refine ⟨_, hx, ?_⟩
    conv => whnf
    repeat (refine And.intro ?_ ?_; (first | (with_reducible show okR _ _ _ _ = true; kernel_rfl) | (with_reducible show addC _ _ _ = _; kernel_rfl) | rfl | trivial | kernel_rfl | omega | exact Nat.le_of_ble_eq_true rfl | exact lt_len0 rfl | exact lt_len1 rfl); conv => whnf)
    refine inI (by omega) (by omega) ?_
    conv => whnf
    repeat (refine And.intro ?_ ?_; (first | (with_reducible show okR _ _ _ _ = true; kernel_rfl) | (with_reducible show addC _ _ _ = _; kernel_rfl) | rfl | trivial | kernel_rfl | omega | exact Nat.le_of_ble_eq_true rfl | exact lt_len0 rfl | exact lt_len1 rfl); conv => whnf)
    refine And.intro (by rw [List.length_map]; omega) ?_
    conv => whnf
    repeat (refine And.intro ?_ ?_; (first | (with_reducible show okR _ _ _ _ = true; kernel_rfl) | (with_reducible show addC _ _ _ = _; kernel_rfl) | rfl | trivial | kernel_rfl | omega | exact Nat.le_of_ble_eq_true rfl | exact lt_len0 rfl | exact lt_len1 rfl); conv => whnf)
    refine And.intro (Int.tmod_nonneg _ (by omega)) ?_
    conv => whnf
    repeat (refine And.intro ?_ ?_; (first | (with_reducible show okR _ _ _ _ = true; kernel_rfl) | (with_reducible show addC _ _ _ = _; kernel_rfl) | rfl | trivial | kernel_rfl | omega | exact Nat.le_of_ble_eq_true rfl | exact lt_len0 rfl | exact lt_len1 rfl); conv => whnf)
    refine ⟨_, next_map hkl rfl, ?_⟩
    conv => whnf
    repeat (refine And.intro ?_ ?_; (first | (with_reducible show okR _ _ _ _ = true; kernel_rfl) | (with_reducible show addC _ _ _ = _; kernel_rfl) | rfl | trivial | kernel_rfl | omega | exact Nat.le_of_ble_eq_true rfl | exact lt_len0 rfl | exact lt_len1 rfl); conv => whnf)
    refine ifD (fun h4 => ?_) (fun h4 => ?_) <;> try dsimp only at h4
    · have hE : stepE y (a, b) (nth h k, nxt h k) = stepO y (nxt h k) (nth h k) (a, b) := by rw [stepE, if_pos h4]
      conv => whnf
      repeat (refine And.intro ?_ ?_; (first | (with_reducible show okR _ _ _ _ = true; kernel_rfl) | (with_reducible show addC _ _ _ = _; kernel_rfl) | rfl | trivial | kernel_rfl | omega | exact Nat.le_of_ble_eq_true rfl | exact lt_len0 rfl | exact lt_len1 rfl); conv => whnf)
      refine ifD (fun h5 => ?_) (fun h5 => ?_) <;> try dsimp only at h5
      · conv => whnf
        repeat (refine And.intro ?_ ?_; (first | (with_reducible show okR _ _ _ _ = true; kernel_rfl) | (with_reducible show addC _ _ _ = _; kernel_rfl) | rfl | trivial | kernel_rfl | omega | exact Nat.le_of_ble_eq_true rfl | exact lt_len0 rfl | exact lt_len1 rfl); conv => whnf)
        refine inI (by omega) (by omega) ?_
        conv => whnf
        repeat (refine And.intro ?_ ?_; (first | (with_reducible show okR _ _ _ _ = true; kernel_rfl) | (with_reducible show addC _ _ _ = _; kernel_rfl) | rfl | trivial | kernel_rfl | omega | exact Nat.le_of_ble_eq_true rfl | exact lt_len0 rfl | exact lt_len1 rfl); conv => whnf)
        refine ⟨(k + 1, a, b), ⟨by show k + 1 ≤ _; omega, ?_⟩, by show h.length - (k + 1) < h.length - k; omega, weakTo_cov ?_ ?_⟩
        · show accP y ((edgesN h).drop (k + 1)) (a, b) = P
          rw [← hk3, hE, stepO, if_pos (.inl h5)]
        · conv => whnf
          repeat (refine And.intro ?_ ?_; (first | exact rfl | exact Or.inl rfl | exact congrArg (SV.int .i64) (by first | rfl | omega | (simp; done) | (simp; omega))); conv => whnf)
          exact trivial
        · conv => whnf
          repeat (refine And.intro ?_ ?_; (first | exact rfl | exact Or.inl rfl | exact congrArg (SV.int .i64) (by first | rfl | omega | (simp; done) | (simp; omega))); conv => whnf)
          exact trivial
      · conv => whnf
        repeat (refine And.intro ?_ ?_; (first | (with_reducible show okR _ _ _ _ = true; kernel_rfl) | (with_reducible show addC _ _ _ = _; kernel_rfl) | rfl | trivial | kernel_rfl | omega | exact Nat.le_of_ble_eq_true rfl | exact lt_len0 rfl | exact lt_len1 rfl); conv => whnf)
        refine ifD (fun h6 => ?_) (fun h6 => ?_) <;> try dsimp only at h6
        · conv => whnf
          repeat (refine And.intro ?_ ?_; (first | (with_reducible show okR _ _ _ _ = true; kernel_rfl) | (with_reducible show addC _ _ _ = _; kernel_rfl) | rfl | trivial | kernel_rfl | omega | exact Nat.le_of_ble_eq_true rfl | exact lt_len0 rfl | exact lt_len1 rfl); conv => whnf)
          refine inI (by omega) (by omega) ?_
          conv => whnf
          repeat (refine And.intro ?_ ?_; (first | (with_reducible show okR _ _ _ _ = true; kernel_rfl) | (with_reducible show addC _ _ _ = _; kernel_rfl) | rfl | trivial | kernel_rfl | omega | exact Nat.le_of_ble_eq_true rfl | exact lt_len0 rfl | exact lt_len1 rfl); conv => whnf)
          refine ⟨(k + 1, a, b), ⟨by show k + 1 ≤ _; omega, ?_⟩, by show h.length - (k + 1) < h.length - k; omega, weakTo_cov ?_ ?_⟩
          · show accP y ((edgesN h).drop (k + 1)) (a, b) = P
            rw [← hk3, hE, stepO, if_pos (.inr h6)]
          · conv => whnf
            repeat (refine And.intro ?_ ?_; (first | exact rfl | exact Or.inl rfl | exact congrArg (SV.int .i64) (by first | rfl | omega | (simp; done) | (simp; omega))); conv => whnf)
            exact trivial
          · conv => whnf
            repeat (refine And.intro ?_ ?_; (first | exact rfl | exact Or.inl rfl | exact congrArg (SV.int .i64) (by first | rfl | omega | (simp; done) | (simp; omega))); conv => whnf)
            exact trivial
        · conv => whnf
          repeat (refine And.intro ?_ ?_; (first | (with_reducible show okR _ _ _ _ = true; kernel_rfl) | (with_reducible show addC _ _ _ = _; kernel_rfl) | rfl | trivial | kernel_rfl | omega | exact Nat.le_of_ble_eq_true rfl | exact lt_len0 rfl | exact lt_len1 rfl); conv => whnf)
          refine ifD (fun h7 => ?_) (fun h7 => ?_) <;> try dsimp only at h7
          · conv => whnf
            repeat (refine And.intro ?_ ?_; (first | (with_reducible show okR _ _ _ _ = true; kernel_rfl) | (with_reducible show addC _ _ _ = _; kernel_rfl) | rfl | trivial | kernel_rfl | omega | exact Nat.le_of_ble_eq_true rfl | exact lt_len0 rfl | exact lt_len1 rfl); conv => whnf)
            refine inI (by omega) (by omega) ?_
            conv => whnf
            repeat (refine And.intro ?_ ?_; (first | (with_reducible show okR _ _ _ _ = true; kernel_rfl) | (with_reducible show addC _ _ _ = _; kernel_rfl) | rfl | trivial | kernel_rfl | omega | exact Nat.le_of_ble_eq_true rfl | exact lt_len0 rfl | exact lt_len1 rfl); conv => whnf)
            refine ⟨(k + 1, min (min a (nxt h k).x) (nth h k).x, max (max b (nxt h k).x) (nth h k).x), ⟨by show k + 1 ≤ _; omega, ?_⟩, by show h.length - (k + 1) < h.length - k; omega, weakTo_cov ?_ ?_⟩
            · show accP y ((edgesN h).drop (k + 1)) (min (min a (nxt h k).x) (nth h k).x, max (max b (nxt h k).x) (nth h k).x) = P
              rw [← hk3, hE, stepO, if_neg (by omega), if_pos h7]
            · conv => whnf
              repeat (refine And.intro ?_ ?_; (first | exact rfl | exact Or.inl rfl | exact congrArg (SV.int .i64) (by first | rfl | omega | (simp; done) | (simp; omega))); conv => whnf)
              exact trivial
            · conv => whnf
              repeat (refine And.intro ?_ ?_; (first | exact rfl | exact Or.inl rfl | exact congrArg (SV.int .i64) (by first | rfl | omega | (simp; done) | (simp; omega))); conv => whnf)
              exact trivial
          · have hd : 0 < ((nth h k).y - (nxt h k).y) := by omega
            have m1 := @mulD (nxt h k).x ((nth h k).y - (nxt h k).y) (by omega) (by omega) (by omega) (by omega)
            have m2 := @mulD ((nth h k).x - (nxt h k).x) (y - (nxt h k).y) (by omega) (by omega) (by omega) (by omega)
            have f1 := @div_bound (-((nxt h k).x * ((nth h k).y - (nxt h k).y) + ((nth h k).x - (nxt h k).x) * (y - (nxt h k).y))) ((nth h k).y - (nxt h k).y) 3000000 hd (by omega) (by omega) (by omega)
            have f2 := @div_bound ((nxt h k).x * ((nth h k).y - (nxt h k).y) + ((nth h k).x - (nxt h k).x) * (y - (nxt h k).y)) ((nth h k).y - (nxt h k).y) 3000000 hd (by omega) (by omega) (by omega)
            conv => whnf
            repeat (refine And.intro ?_ ?_; (first | (with_reducible show okR _ _ _ _ = true; kernel_rfl) | (with_reducible show addC _ _ _ = _; kernel_rfl) | rfl | trivial | kernel_rfl | omega | exact Nat.le_of_ble_eq_true rfl | exact lt_len0 rfl | exact lt_len1 rfl); conv => whnf)
            refine inI (by omega) (by omega) ?_
            conv => whnf
            repeat (refine And.intro ?_ ?_; (first | (with_reducible show okR _ _ _ _ = true; kernel_rfl) | (with_reducible show addC _ _ _ = _; kernel_rfl) | rfl | trivial | kernel_rfl | omega | exact Nat.le_of_ble_eq_true rfl | exact lt_len0 rfl | exact lt_len1 rfl); conv => whnf)
            refine inI (by omega) (by omega) ?_
            conv => whnf
            repeat (refine And.intro ?_ ?_; (first | (with_reducible show okR _ _ _ _ = true; kernel_rfl) | (with_reducible show addC _ _ _ = _; kernel_rfl) | rfl | trivial | kernel_rfl | omega | exact Nat.le_of_ble_eq_true rfl | exact lt_len0 rfl | exact lt_len1 rfl); conv => whnf)
            refine inI (by omega) (by omega) ?_
            conv => whnf
            repeat (refine And.intro ?_ ?_; (first | (with_reducible show okR _ _ _ _ = true; kernel_rfl) | (with_reducible show addC _ _ _ = _; kernel_rfl) | rfl | trivial | kernel_rfl | omega | exact Nat.le_of_ble_eq_true rfl | exact lt_len0 rfl | exact lt_len1 rfl); conv => whnf)
            refine inI (by omega) (by omega) ?_
            conv => whnf
            repeat (refine And.intro ?_ ?_; (first | (with_reducible show okR _ _ _ _ = true; kernel_rfl) | (with_reducible show addC _ _ _ = _; kernel_rfl) | rfl | trivial | kernel_rfl | omega | exact Nat.le_of_ble_eq_true rfl | exact lt_len0 rfl | exact lt_len1 rfl); conv => whnf)
            refine inI (by omega) (by omega) ?_
            conv => whnf
            repeat (refine And.intro ?_ ?_; (first | (with_reducible show okR _ _ _ _ = true; kernel_rfl) | (with_reducible show addC _ _ _ = _; kernel_rfl) | rfl | trivial | kernel_rfl | omega | exact Nat.le_of_ble_eq_true rfl | exact lt_len0 rfl | exact lt_len1 rfl); conv => whnf)
            refine inI (by omega) (by omega) ?_
            conv => whnf
            repeat (refine And.intro ?_ ?_; (first | (with_reducible show okR _ _ _ _ = true; kernel_rfl) | (with_reducible show addC _ _ _ = _; kernel_rfl) | rfl | trivial | kernel_rfl | omega | exact Nat.le_of_ble_eq_true rfl | exact lt_len0 rfl | exact lt_len1 rfl); conv => whnf)
            refine inI (by omega) (by omega) ?_
            conv => whnf
            repeat (refine And.intro ?_ ?_; (first | (with_reducible show okR _ _ _ _ = true; kernel_rfl) | (with_reducible show addC _ _ _ = _; kernel_rfl) | rfl | trivial | kernel_rfl | omega | exact Nat.le_of_ble_eq_true rfl | exact lt_len0 rfl | exact lt_len1 rfl); conv => whnf)
            refine inI (by omega) (by omega) ?_
            conv => whnf
            repeat (refine And.intro ?_ ?_; (first | (with_reducible show okR _ _ _ _ = true; kernel_rfl) | (with_reducible show addC _ _ _ = _; kernel_rfl) | rfl | trivial | kernel_rfl | omega | exact Nat.le_of_ble_eq_true rfl | exact lt_len0 rfl | exact lt_len1 rfl); conv => whnf)
            refine callP_of (polyfloor_pure (-((nxt h k).x * ((nth h k).y - (nxt h k).y) + ((nth h k).x - (nxt h k).x) * (y - (nxt h k).y))) ((nth h k).y - (nxt h k).y) hd (by omega) (by omega)) ?_
            conv => whnf
            repeat (refine And.intro ?_ ?_; (first | (with_reducible show okR _ _ _ _ = true; kernel_rfl) | (with_reducible show addC _ _ _ = _; kernel_rfl) | rfl | trivial | kernel_rfl | omega | exact Nat.le_of_ble_eq_true rfl | exact lt_len0 rfl | exact lt_len1 rfl); conv => whnf)
            refine inI (by omega) (by omega) ?_
            conv => whnf
            repeat (refine And.intro ?_ ?_; (first | (with_reducible show okR _ _ _ _ = true; kernel_rfl) | (with_reducible show addC _ _ _ = _; kernel_rfl) | rfl | trivial | kernel_rfl | omega | exact Nat.le_of_ble_eq_true rfl | exact lt_len0 rfl | exact lt_len1 rfl); conv => whnf)
            refine callP_of (polyfloor_pure ((nxt h k).x * ((nth h k).y - (nxt h k).y) + ((nth h k).x - (nxt h k).x) * (y - (nxt h k).y)) ((nth h k).y - (nxt h k).y) hd (by omega) (by omega)) ?_
            conv => whnf
            repeat (refine And.intro ?_ ?_; (first | (with_reducible show okR _ _ _ _ = true; kernel_rfl) | (with_reducible show addC _ _ _ = _; kernel_rfl) | rfl | trivial | kernel_rfl | omega | exact Nat.le_of_ble_eq_true rfl | exact lt_len0 rfl | exact lt_len1 rfl); conv => whnf)
            refine inI (by omega) (by omega) ?_
            conv => whnf
            repeat (refine And.intro ?_ ?_; (first | (with_reducible show okR _ _ _ _ = true; kernel_rfl) | (with_reducible show addC _ _ _ = _; kernel_rfl) | rfl | trivial | kernel_rfl | omega | exact Nat.le_of_ble_eq_true rfl | exact lt_len0 rfl | exact lt_len1 rfl); conv => whnf)
            refine ⟨(k + 1, min a (-((-((nxt h k).x * ((nth h k).y - (nxt h k).y) + ((nth h k).x - (nxt h k).x) * (y - (nxt h k).y))) / ((nth h k).y - (nxt h k).y))), max b (((nxt h k).x * ((nth h k).y - (nxt h k).y) + ((nth h k).x - (nxt h k).x) * (y - (nxt h k).y)) / ((nth h k).y - (nxt h k).y))), ⟨by show k + 1 ≤ _; omega, ?_⟩, by show h.length - (k + 1) < h.length - k; omega, weakTo_cov ?_ ?_⟩
            · show accP y ((edgesN h).drop (k + 1)) (min a (-((-((nxt h k).x * ((nth h k).y - (nxt h k).y) + ((nth h k).x - (nxt h k).x) * (y - (nxt h k).y))) / ((nth h k).y - (nxt h k).y))), max b (((nxt h k).x * ((nth h k).y - (nxt h k).y) + ((nth h k).x - (nxt h k).x) * (y - (nxt h k).y)) / ((nth h k).y - (nxt h k).y))) = P
              rw [← hk3, hE, stepO, if_neg (by omega), if_neg h7]
            · conv => whnf
              repeat (refine And.intro ?_ ?_; (first | exact rfl | exact Or.inl rfl | exact congrArg (SV.int .i64) (by first | rfl | omega | (simp; done) | (simp; omega))); conv => whnf)
              exact trivial
            · conv => whnf
              repeat (refine And.intro ?_ ?_; (first | exact rfl | exact Or.inl rfl | exact congrArg (SV.int .i64) (by first | rfl | omega | (simp; done) | (simp; omega))); conv => whnf)
              exact trivial
    · have hE : stepE y (a, b) (nth h k, nxt h k) = stepO y (nth h k) (nxt h k) (a, b) := by rw [stepE, if_neg h4]
      conv => whnf
      repeat (refine And.intro ?_ ?_; (first | (with_reducible show okR _ _ _ _ = true; kernel_rfl) | (with_reducible show addC _ _ _ = _; kernel_rfl) | rfl | trivial | kernel_rfl | omega | exact Nat.le_of_ble_eq_true rfl | exact lt_len0 rfl | exact lt_len1 rfl); conv => whnf)
      refine ifD (fun h5 => ?_) (fun h5 => ?_) <;> try dsimp only at h5
      · conv => whnf
        repeat (refine And.intro ?_ ?_; (first | (with_reducible show okR _ _ _ _ = true; kernel_rfl) | (with_reducible show addC _ _ _ = _; kernel_rfl) | rfl | trivial | kernel_rfl | omega | exact Nat.le_of_ble_eq_true rfl | exact lt_len0 rfl | exact lt_len1 rfl); conv => whnf)
        refine inI (by omega) (by omega) ?_
        conv => whnf
        repeat (refine And.intro ?_ ?_; (first | (with_reducible show okR _ _ _ _ = true; kernel_rfl) | (with_reducible show addC _ _ _ = _; kernel_rfl) | rfl | trivial | kernel_rfl | omega | exact Nat.le_of_ble_eq_true rfl | exact lt_len0 rfl | exact lt_len1 rfl); conv => whnf)
        refine ⟨(k + 1, a, b), ⟨by show k + 1 ≤ _; omega, ?_⟩, by show h.length - (k + 1) < h.length - k; omega, weakTo_cov ?_ ?_⟩
        · show accP y ((edgesN h).drop (k + 1)) (a, b) = P
          rw [← hk3, hE, stepO, if_pos (.inl h5)]
        · conv => whnf
          repeat (refine And.intro ?_ ?_; (first | exact rfl | exact Or.inl rfl | exact congrArg (SV.int .i64) (by first | rfl | omega | (simp; done) | (simp; omega))); conv => whnf)
          exact trivial
        · conv => whnf
          repeat (refine And.intro ?_ ?_; (first | exact rfl | exact Or.inl rfl | exact congrArg (SV.int .i64) (by first | rfl | omega | (simp; done) | (simp; omega))); conv => whnf)
          exact trivial
      · conv => whnf
        repeat (refine And.intro ?_ ?_; (first | (with_reducible show okR _ _ _ _ = true; kernel_rfl) | (with_reducible show addC _ _ _ = _; kernel_rfl) | rfl | trivial | kernel_rfl | omega | exact Nat.le_of_ble_eq_true rfl | exact lt_len0 rfl | exact lt_len1 rfl); conv => whnf)
        refine ifD (fun h6 => ?_) (fun h6 => ?_) <;> try dsimp only at h6
        · conv => whnf
          repeat (refine And.intro ?_ ?_; (first | (with_reducible show okR _ _ _ _ = true; kernel_rfl) | (with_reducible show addC _ _ _ = _; kernel_rfl) | rfl | trivial | kernel_rfl | omega | exact Nat.le_of_ble_eq_true rfl | exact lt_len0 rfl | exact lt_len1 rfl); conv => whnf)
          refine inI (by omega) (by omega) ?_
          conv => whnf
          repeat (refine And.intro ?_ ?_; (first | (with_reducible show okR _ _ _ _ = true; kernel_rfl) | (with_reducible show addC _ _ _ = _; kernel_rfl) | rfl | trivial | kernel_rfl | omega | exact Nat.le_of_ble_eq_true rfl | exact lt_len0 rfl | exact lt_len1 rfl); conv => whnf)
          refine ⟨(k + 1, a, b), ⟨by show k + 1 ≤ _; omega, ?_⟩, by show h.length - (k + 1) < h.length - k; omega, weakTo_cov ?_ ?_⟩
          · show accP y ((edgesN h).drop (k + 1)) (a, b) = P
            rw [← hk3, hE, stepO, if_pos (.inr h6)]
          · conv => whnf
            repeat (refine And.intro ?_ ?_; (first | exact rfl | exact Or.inl rfl | exact congrArg (SV.int .i64) (by first | rfl | omega | (simp; done) | (simp; omega))); conv => whnf)
            exact trivial
          · conv => whnf
            repeat (refine And.intro ?_ ?_; (first | exact rfl | exact Or.inl rfl | exact congrArg (SV.int .i64) (by first | rfl | omega | (simp; done) | (simp; omega))); conv => whnf)
            exact trivial
        · conv => whnf
          repeat (refine And.intro ?_ ?_; (first | (with_reducible show okR _ _ _ _ = true; kernel_rfl) | (with_reducible show addC _ _ _ = _; kernel_rfl) | rfl | trivial | kernel_rfl | omega | exact Nat.le_of_ble_eq_true rfl | exact lt_len0 rfl | exact lt_len1 rfl); conv => whnf)
          refine ifD (fun h7 => ?_) (fun h7 => ?_) <;> try dsimp only at h7
          · conv => whnf
            repeat (refine And.intro ?_ ?_; (first | (with_reducible show okR _ _ _ _ = true; kernel_rfl) | (with_reducible show addC _ _ _ = _; kernel_rfl) | rfl | trivial | kernel_rfl | omega | exact Nat.le_of_ble_eq_true rfl | exact lt_len0 rfl | exact lt_len1 rfl); conv => whnf)
            refine inI (by omega) (by omega) ?_
            conv => whnf
            repeat (refine And.intro ?_ ?_; (first | (with_reducible show okR _ _ _ _ = true; kernel_rfl) | (with_reducible show addC _ _ _ = _; kernel_rfl) | rfl | trivial | kernel_rfl | omega | exact Nat.le_of_ble_eq_true rfl | exact lt_len0 rfl | exact lt_len1 rfl); conv => whnf)
            refine ⟨(k + 1, min (min a (nth h k).x) (nxt h k).x, max (max b (nth h k).x) (nxt h k).x), ⟨by show k + 1 ≤ _; omega, ?_⟩, by show h.length - (k + 1) < h.length - k; omega, weakTo_cov ?_ ?_⟩
            · show accP y ((edgesN h).drop (k + 1)) (min (min a (nth h k).x) (nxt h k).x, max (max b (nth h k).x) (nxt h k).x) = P
              rw [← hk3, hE, stepO, if_neg (by omega), if_pos h7]
            · conv => whnf
              repeat (refine And.intro ?_ ?_; (first | exact rfl | exact Or.inl rfl | exact congrArg (SV.int .i64) (by first | rfl | omega | (simp; done) | (simp; omega))); conv => whnf)
              exact trivial
            · conv => whnf
              repeat (refine And.intro ?_ ?_; (first | exact rfl | exact Or.inl rfl | exact congrArg (SV.int .i64) (by first | rfl | omega | (simp; done) | (simp; omega))); conv => whnf)
              exact trivial
          · have hd : 0 < ((nxt h k).y - (nth h k).y) := by omega
            have m1 := @mulD (nth h k).x ((nxt h k).y - (nth h k).y) (by omega) (by omega) (by omega) (by omega)
            have m2 := @mulD ((nxt h k).x - (nth h k).x) (y - (nth h k).y) (by omega) (by omega) (by omega) (by omega)
            have f1 := @div_bound (-((nth h k).x * ((nxt h k).y - (nth h k).y) + ((nxt h k).x - (nth h k).x) * (y - (nth h k).y))) ((nxt h k).y - (nth h k).y) 3000000 hd (by omega) (by omega) (by omega)
            have f2 := @div_bound ((nth h k).x * ((nxt h k).y - (nth h k).y) + ((nxt h k).x - (nth h k).x) * (y - (nth h k).y)) ((nxt h k).y - (nth h k).y) 3000000 hd (by omega) (by omega) (by omega)
            conv => whnf
            repeat (refine And.intro ?_ ?_; (first | (with_reducible show okR _ _ _ _ = true; kernel_rfl) | (with_reducible show addC _ _ _ = _; kernel_rfl) | rfl | trivial | kernel_rfl | omega | exact Nat.le_of_ble_eq_true rfl | exact lt_len0 rfl | exact lt_len1 rfl); conv => whnf)
            refine inI (by omega) (by omega) ?_
            conv => whnf
            repeat (refine And.intro ?_ ?_; (first | (with_reducible show okR _ _ _ _ = true; kernel_rfl) | (with_reducible show addC _ _ _ = _; kernel_rfl) | rfl | trivial | kernel_rfl | omega | exact Nat.le_of_ble_eq_true rfl | exact lt_len0 rfl | exact lt_len1 rfl); conv => whnf)
            refine inI (by omega) (by omega) ?_
            conv => whnf
            repeat (refine And.intro ?_ ?_; (first | (with_reducible show okR _ _ _ _ = true; kernel_rfl) | (with_reducible show addC _ _ _ = _; kernel_rfl) | rfl | trivial | kernel_rfl | omega | exact Nat.le_of_ble_eq_true rfl | exact lt_len0 rfl | exact lt_len1 rfl); conv => whnf)
            refine inI (by omega) (by omega) ?_
            conv => whnf
            repeat (refine And.intro ?_ ?_; (first | (with_reducible show okR _ _ _ _ = true; kernel_rfl) | (with_reducible show addC _ _ _ = _; kernel_rfl) | rfl | trivial | kernel_rfl | omega | exact Nat.le_of_ble_eq_true rfl | exact lt_len0 rfl | exact lt_len1 rfl); conv => whnf)
            refine inI (by omega) (by omega) ?_
            conv => whnf
            repeat (refine And.intro ?_ ?_; (first | (with_reducible show okR _ _ _ _ = true; kernel_rfl) | (with_reducible show addC _ _ _ = _; kernel_rfl) | rfl | trivial | kernel_rfl | omega | exact Nat.le_of_ble_eq_true rfl | exact lt_len0 rfl | exact lt_len1 rfl); conv => whnf)
            refine inI (by omega) (by omega) ?_
            conv => whnf
            repeat (refine And.intro ?_ ?_; (first | (with_reducible show okR _ _ _ _ = true; kernel_rfl) | (with_reducible show addC _ _ _ = _; kernel_rfl) | rfl | trivial | kernel_rfl | omega | exact Nat.le_of_ble_eq_true rfl | exact lt_len0 rfl | exact lt_len1 rfl); conv => whnf)
            refine inI (by omega) (by omega) ?_
            conv => whnf
            repeat (refine And.intro ?_ ?_; (first | (with_reducible show okR _ _ _ _ = true; kernel_rfl) | (with_reducible show addC _ _ _ = _; kernel_rfl) | rfl | trivial | kernel_rfl | omega | exact Nat.le_of_ble_eq_true rfl | exact lt_len0 rfl | exact lt_len1 rfl); conv => whnf)
            refine inI (by omega) (by omega) ?_
            conv => whnf
            repeat (refine And.intro ?_ ?_; (first | (with_reducible show okR _ _ _ _ = true; kernel_rfl) | (with_reducible show addC _ _ _ = _; kernel_rfl) | rfl | trivial | kernel_rfl | omega | exact Nat.le_of_ble_eq_true rfl | exact lt_len0 rfl | exact lt_len1 rfl); conv => whnf)
            refine inI (by omega) (by omega) ?_
            conv => whnf
            repeat (refine And.intro ?_ ?_; (first | (with_reducible show okR _ _ _ _ = true; kernel_rfl) | (with_reducible show addC _ _ _ = _; kernel_rfl) | rfl | trivial | kernel_rfl | omega | exact Nat.le_of_ble_eq_true rfl | exact lt_len0 rfl | exact lt_len1 rfl); conv => whnf)
            refine callP_of (polyfloor_pure (-((nth h k).x * ((nxt h k).y - (nth h k).y) + ((nxt h k).x - (nth h k).x) * (y - (nth h k).y))) ((nxt h k).y - (nth h k).y) hd (by omega) (by omega)) ?_
            conv => whnf
            repeat (refine And.intro ?_ ?_; (first | (with_reducible show okR _ _ _ _ = true; kernel_rfl) | (with_reducible show addC _ _ _ = _; kernel_rfl) | rfl | trivial | kernel_rfl | omega | exact Nat.le_of_ble_eq_true rfl | exact lt_len0 rfl | exact lt_len1 rfl); conv => whnf)
            refine inI (by omega) (by omega) ?_
            conv => whnf
            repeat (refine And.intro ?_ ?_; (first | (with_reducible show okR _ _ _ _ = true; kernel_rfl) | (with_reducible show addC _ _ _ = _; kernel_rfl) | rfl | trivial | kernel_rfl | omega | exact Nat.le_of_ble_eq_true rfl | exact lt_len0 rfl | exact lt_len1 rfl); conv => whnf)
            refine callP_of (polyfloor_pure ((nth h k).x * ((nxt h k).y - (nth h k).y) + ((nxt h k).x - (nth h k).x) * (y - (nth h k).y)) ((nxt h k).y - (nth h k).y) hd (by omega) (by omega)) ?_
            conv => whnf
            repeat (refine And.intro ?_ ?_; (first | (with_reducible show okR _ _ _ _ = true; kernel_rfl) | (with_reducible show addC _ _ _ = _; kernel_rfl) | rfl | trivial | kernel_rfl | omega | exact Nat.le_of_ble_eq_true rfl | exact lt_len0 rfl | exact lt_len1 rfl); conv => whnf)
            refine inI (by omega) (by omega) ?_
            conv => whnf
            repeat (refine And.intro ?_ ?_; (first | (with_reducible show okR _ _ _ _ = true; kernel_rfl) | (with_reducible show addC _ _ _ = _; kernel_rfl) | rfl | trivial | kernel_rfl | omega | exact Nat.le_of_ble_eq_true rfl | exact lt_len0 rfl | exact lt_len1 rfl); conv => whnf)
            refine ⟨(k + 1, min a (-((-((nth h k).x * ((nxt h k).y - (nth h k).y) + ((nxt h k).x - (nth h k).x) * (y - (nth h k).y))) / ((nxt h k).y - (nth h k).y))), max b (((nth h k).x * ((nxt h k).y - (nth h k).y) + ((nxt h k).x - (nth h k).x) * (y - (nth h k).y)) / ((nxt h k).y - (nth h k).y))), ⟨by show k + 1 ≤ _; omega, ?_⟩, by show h.length - (k + 1) < h.length - k; omega, weakTo_cov ?_ ?_⟩
            · show accP y ((edgesN h).drop (k + 1)) (min a (-((-((nth h k).x * ((nxt h k).y - (nth h k).y) + ((nxt h k).x - (nth h k).x) * (y - (nth h k).y))) / ((nxt h k).y - (nth h k).y))), max b (((nth h k).x * ((nxt h k).y - (nth h k).y) + ((nxt h k).x - (nth h k).x) * (y - (nth h k).y)) / ((nxt h k).y - (nth h k).y))) = P
              rw [← hk3, hE, stepO, if_neg (by omega), if_neg h7]
            · conv => whnf
              repeat (refine And.intro ?_ ?_; (first | exact rfl | exact Or.inl rfl | exact congrArg (SV.int .i64) (by first | rfl | omega | (simp; done) | (simp; omega))); conv => whnf)
              exact trivial
            · conv => whnf
              repeat (refine And.intro ?_ ?_; (first | exact rfl | exact Or.inl rfl | exact congrArg (SV.int .i64) (by first | rfl | omega | (simp; done) | (simp; omega))); conv => whnf)
              exact trivial
  · rw [List.drop_eq_nil_of_le (by rw [edges_len]; omega)] at hk2
    have hab : P = (a, b) := hk2.symm
    rw [hab]
    conv => whnf
    repeat (refine And.intro ?_ ?_; (first | (with_reducible show okR _ _ _ _ = true; kernel_rfl) | (with_reducible show addC _ _ _ = _; kernel_rfl) | rfl | trivial | kernel_rfl | omega | exact Nat.le_of_ble_eq_true rfl | exact lt_len0 rfl | exact lt_len1 rfl); conv => whnf)
    exact trivial
end Go.Proofs.Yticandbdabgkeaa.Am
