/- The contract of the reference's turning of a ring. No condition: definitions and lemmas. -/
import Derived.Test.YtilepdoijdeohaaDoorAmR9
import Derived.Test.YtilepdoijdeohaaDoorAmD4
namespace Go.Proofs.YtilepdoijdeohaaDoor.Am
open Go
set_option maxRecDepth 100000

theorem refmerge_pure (a b : Rg) : Pure Tryd.prog G0 21 [eRg a, eRg b] (.tup [eRg (mergeN a b), .i (mergeErr a b)]) := by
  refine pure_of mixed Tryd.func21 rfl rfl (Nat.le_of_ble_eq_true rfl) ?_
  conv => whnf
  repeat (refine And.intro ?_ ?_; (first | (with_reducible show okR _ _ _ _ = true; kernel_rfl) | (with_reducible show addC _ _ _ = _; kernel_rfl) | rfl | trivial | kernel_rfl | omega | exact Nat.le_of_ble_eq_true rfl | exact lt_len0 rfl | exact lt_len1 rfl); conv => whnf)
  refine callP_of (refcheck_pure a) ?_
  conv => whnf
  repeat (refine And.intro ?_ ?_; (first | (with_reducible show okR _ _ _ _ = true; kernel_rfl) | (with_reducible show addC _ _ _ = _; kernel_rfl) | rfl | trivial | kernel_rfl | omega | exact Nat.le_of_ble_eq_true rfl | exact lt_len0 rfl | exact lt_len1 rfl); conv => whnf)
  refine ifD (fun h1 => ?_) (fun h1 => ?_) <;> try dsimp only at h1
  · have e : mergeErr a b = checkN a := by rw [mergeErr, if_pos h1]
    conv => whnf
    repeat (refine And.intro ?_ ?_; (first | (with_reducible show okR _ _ _ _ = true; kernel_rfl) | (with_reducible show addC _ _ _ = _; kernel_rfl) | rfl | trivial | kernel_rfl | omega | exact Nat.le_of_ble_eq_true rfl | exact lt_len0 rfl | exact lt_len1 rfl); conv => whnf)
    rw [e]
    have e2 : mergeN a b = ⟨0, []⟩ := by rw [mergeN, if_pos (by rw [e]; exact h1)]
    rw [e2]
    exact ⟨⟨rfl, rfl, trivial⟩, rfl, trivial⟩
  conv => whnf
  repeat (refine And.intro ?_ ?_; (first | (with_reducible show okR _ _ _ _ = true; kernel_rfl) | (with_reducible show addC _ _ _ = _; kernel_rfl) | rfl | trivial | kernel_rfl | omega | exact Nat.le_of_ble_eq_true rfl | exact lt_len0 rfl | exact lt_len1 rfl); conv => whnf)
  refine callP_of (refcheck_pure b) ?_
  conv => whnf
  repeat (refine And.intro ?_ ?_; (first | (with_reducible show okR _ _ _ _ = true; kernel_rfl) | (with_reducible show addC _ _ _ = _; kernel_rfl) | rfl | trivial | kernel_rfl | omega | exact Nat.le_of_ble_eq_true rfl | exact lt_len0 rfl | exact lt_len1 rfl); conv => whnf)
  refine ifD (fun h2 => ?_) (fun h2 => ?_) <;> try dsimp only at h2
  · have e : mergeErr a b = checkN b := by rw [mergeErr, if_neg h1, if_pos h2]
    conv => whnf
    repeat (refine And.intro ?_ ?_; (first | (with_reducible show okR _ _ _ _ = true; kernel_rfl) | (with_reducible show addC _ _ _ = _; kernel_rfl) | rfl | trivial | kernel_rfl | omega | exact Nat.le_of_ble_eq_true rfl | exact lt_len0 rfl | exact lt_len1 rfl); conv => whnf)
    rw [e]
    have e2 : mergeN a b = ⟨0, []⟩ := by rw [mergeN, if_pos (by rw [e]; exact h2)]
    rw [e2]
    exact ⟨⟨rfl, rfl, trivial⟩, rfl, trivial⟩
  conv => whnf
  repeat (refine And.intro ?_ ?_; (first | (with_reducible show okR _ _ _ _ = true; kernel_rfl) | (with_reducible show addC _ _ _ = _; kernel_rfl) | rfl | trivial | kernel_rfl | omega | exact Nat.le_of_ble_eq_true rfl | exact lt_len0 rfl | exact lt_len1 rfl); conv => whnf)
  have bad : (a.z ≠ b.z ∨ a.l.length ≠ b.l.length) → mergeErr a b = 19 := fun h => by rw [mergeErr, if_neg h1, if_neg h2, if_pos h]
  have bad2 : (a.z ≠ b.z ∨ a.l.length ≠ b.l.length) → mergeN a b = ⟨0, []⟩ := fun h => by rw [mergeN, if_pos (by rw [bad h]; omega)]
  refine ifD (fun h3 => ?_) (fun h3 => ?_) <;> try dsimp only at h3
  · conv => whnf
    repeat (refine And.intro ?_ ?_; (first | (with_reducible show okR _ _ _ _ = true; kernel_rfl) | (with_reducible show addC _ _ _ = _; kernel_rfl) | rfl | trivial | kernel_rfl | omega | exact Nat.le_of_ble_eq_true rfl | exact lt_len0 rfl | exact lt_len1 rfl); conv => whnf)
    rw [bad (.inl h3), bad2 (.inl h3)]
    exact ⟨⟨rfl, rfl, trivial⟩, rfl, trivial⟩
  conv => whnf
  repeat (refine And.intro ?_ ?_; (first | (with_reducible show okR _ _ _ _ = true; kernel_rfl) | (with_reducible show addC _ _ _ = _; kernel_rfl) | rfl | trivial | kernel_rfl | omega | exact Nat.le_of_ble_eq_true rfl | exact lt_len0 rfl | exact lt_len1 rfl); conv => whnf)
  refine ifD (fun h4 => ?_) (fun h4 => ?_) <;> try dsimp only at h4
  · have h4 : a.l.length ≠ b.l.length := by
      rw [List.length_map, List.length_map] at h4
      omega
    conv => whnf
    repeat (refine And.intro ?_ ?_; (first | (with_reducible show okR _ _ _ _ = true; kernel_rfl) | (with_reducible show addC _ _ _ = _; kernel_rfl) | rfl | trivial | kernel_rfl | omega | exact Nat.le_of_ble_eq_true rfl | exact lt_len0 rfl | exact lt_len1 rfl); conv => whnf)
    rw [bad (.inr h4), bad2 (.inr h4)]
    exact ⟨⟨rfl, rfl, trivial⟩, rfl, trivial⟩
  have h4 : a.l.length = b.l.length := by
    rw [List.length_map, List.length_map] at h4
    omega
  have good : mergeErr a b = 0 := by rw [mergeErr, if_neg h1, if_neg h2, if_neg (by omega)]
  have good2 : mergeN a b = ⟨a.z, (List.range a.l.length).map (merge1N a b)⟩ := by rw [mergeN, if_neg (by omega)]
  rw [good, good2]
  have ha := check_okay.1 (show checkN a = 0 by omega)
  have := ha.high
  conv => whnf
  repeat (refine And.intro ?_ ?_; (first | (with_reducible show okR _ _ _ _ = true; kernel_rfl) | (with_reducible show addC _ _ _ = _; kernel_rfl) | rfl | trivial | kernel_rfl | omega | exact Nat.le_of_ble_eq_true rfl | exact lt_len0 rfl | exact lt_len1 rfl); conv => whnf)
  refine callF_of (copied_fresh a (by omega)) ?_
  conv => whnf
  repeat (refine And.intro ?_ ?_; (first | (with_reducible show okR _ _ _ _ = true; kernel_rfl) | (with_reducible show addC _ _ _ = _; kernel_rfl) | rfl | trivial | kernel_rfl | omega | exact Nat.le_of_ble_eq_true rfl | exact lt_len0 rfl | exact lt_len1 rfl); conv => whnf)
  refine loop_rule mixed (ι := Nat) (fun k s => [(3, .lptr 3 (s 3) 0 0), (4, .lptr 4 (s 4) 0 0), (8, .lptr 8 (s 8) 0 0), (9, .i k)]) (fun k s => [(3, ⟨s 3, 0, 2, [[.i b.z, .sl 3 (b.l.map eRd)]]⟩), (4, ⟨s 4, 0, 2, [[.i 0, .nils]]⟩), (8, ⟨s 8, 0, 2, [[.i a.z, .lrow 38 (s 38)]]⟩), (38, ⟨s 38, 1, 3, (mixN (merge1N a b) a.l k).map eRd⟩)]) (fun k => k ≤ a.l.length) (fun k => a.l.length - k) 0 (by omega) (weakTo_cov ?_ ?_) fun k hk s ct => ?_
  · conv => whnf
    repeat (refine And.intro ?_ ?_; (first | exact rfl | exact Or.inl rfl | exact congrArg (SV.int .i64) (by first | rfl | omega | (simp; done) | (simp; omega))); conv => whnf)
    exact trivial
  · conv => whnf
    repeat (refine And.intro ?_ ?_; (first | exact rfl | exact Or.inl rfl | exact congrArg (SV.int .i64) (by first | rfl | omega | (simp; done) | (simp; omega)) | exact congrArg (SV.int .i64) ((by rw [mix_zero] : a.l.map eRd = (mixN (merge1N a b) a.l 0).map eRd)) | exact congrArg (fun l => some (Ob.mk _ 1 _ l)) ((by rw [mix_zero] : a.l.map eRd = (mixN (merge1N a b) a.l 0).map eRd)) | exact ((by rw [mix_zero] : a.l.map eRd = (mixN (merge1N a b) a.l 0).map eRd))); conv => whnf)
    exact trivial
  have hml : ((mixN (merge1N a b) a.l k).map eRd).length = a.l.length := by rw [List.length_map, mix_len hk]
  conv => whnf
  repeat (refine And.intro ?_ ?_; (first | (with_reducible show okR _ _ _ _ = true; kernel_rfl) | (with_reducible show addC _ _ _ = _; kernel_rfl) | rfl | trivial | kernel_rfl | omega | exact Nat.le_of_ble_eq_true rfl | exact lt_len0 rfl | exact lt_len1 rfl); conv => whnf)
  refine ifD (fun h5 => ?_) (fun h5 => ?_) <;> try dsimp only at h5
  · have hx := rdAt_get (l := a.l) (i := k) (by omega)
    have hy := rdAt_get (l := b.l) (i := k) (by omega)
    have hm : merge1N a b k = if (rdAt a.l k).ok = true then rdAt a.l k else rdAt b.l k := rfl
    generalize rdAt a.l k = x at hx hm
    conv => whnf
    repeat (refine And.intro ?_ ?_; (first | (with_reducible show okR _ _ _ _ = true; kernel_rfl) | (with_reducible show addC _ _ _ = _; kernel_rfl) | rfl | trivial | kernel_rfl | omega | exact Nat.le_of_ble_eq_true rfl | exact lt_len0 rfl | exact lt_len1 rfl); conv => whnf)
    refine ⟨_, get_map (mix_get (f := merge1N a b) hx), ?_⟩
    conv => whnf
    repeat (refine And.intro ?_ ?_; (first | (with_reducible show okR _ _ _ _ = true; kernel_rfl) | (with_reducible show addC _ _ _ = _; kernel_rfl) | rfl | trivial | kernel_rfl | omega | exact Nat.le_of_ble_eq_true rfl | exact lt_len0 rfl | exact lt_len1 rfl); conv => whnf)
    obtain ⟨p, ok⟩ := x
    cases ok with
    | true =>
      conv => whnf
      repeat (refine And.intro ?_ ?_; (first | (with_reducible show okR _ _ _ _ = true; kernel_rfl) | (with_reducible show addC _ _ _ = _; kernel_rfl) | rfl | trivial | kernel_rfl | omega | exact Nat.le_of_ble_eq_true rfl | exact lt_len0 rfl | exact lt_len1 rfl); conv => whnf)
      refine inI (by omega) (by omega) ?_
      conv => whnf
      repeat (refine And.intro ?_ ?_; (first | (with_reducible show okR _ _ _ _ = true; kernel_rfl) | (with_reducible show addC _ _ _ = _; kernel_rfl) | rfl | trivial | kernel_rfl | omega | exact Nat.le_of_ble_eq_true rfl | exact lt_len0 rfl | exact lt_len1 rfl); conv => whnf)
      refine ⟨k + 1, by omega, by omega, weakTo_cov ?_ ?_⟩
      · conv => whnf
        repeat (refine And.intro ?_ ?_; (first | exact rfl | exact Or.inl rfl | exact congrArg (SV.int .i64) (by first | rfl | omega | (simp; done) | (simp; omega))); conv => whnf)
        exact trivial
      · conv => whnf
        repeat (refine And.intro ?_ ?_; (first | exact rfl | exact Or.inl rfl | exact congrArg (SV.int .i64) (by first | rfl | omega | (simp; done) | (simp; omega)) | exact congrArg (SV.int .i64) ((by rw [mix_same hx hm] : (mixN (merge1N a b) a.l k).map eRd = (mixN (merge1N a b) a.l (k + 1)).map eRd)) | exact congrArg (fun l => some (Ob.mk _ 1 _ l)) ((by rw [mix_same hx hm] : (mixN (merge1N a b) a.l k).map eRd = (mixN (merge1N a b) a.l (k + 1)).map eRd)) | exact ((by rw [mix_same hx hm] : (mixN (merge1N a b) a.l k).map eRd = (mixN (merge1N a b) a.l (k + 1)).map eRd))); conv => whnf)
        exact trivial
    | false =>
      conv => whnf
      repeat (refine And.intro ?_ ?_; (first | (with_reducible show okR _ _ _ _ = true; kernel_rfl) | (with_reducible show addC _ _ _ = _; kernel_rfl) | rfl | trivial | kernel_rfl | omega | exact Nat.le_of_ble_eq_true rfl | exact lt_len0 rfl | exact lt_len1 rfl); conv => whnf)
      refine ⟨_, get_map hy, ?_⟩
      conv => whnf
      repeat (refine And.intro ?_ ?_; (first | (with_reducible show okR _ _ _ _ = true; kernel_rfl) | (with_reducible show addC _ _ _ = _; kernel_rfl) | rfl | trivial | kernel_rfl | omega | exact Nat.le_of_ble_eq_true rfl | exact lt_len0 rfl | exact lt_len1 rfl); conv => whnf)
      refine ⟨_, get_map (mix_get (f := merge1N a b) hx), ?_⟩
      conv => whnf
      repeat (refine And.intro ?_ ?_; (first | (with_reducible show okR _ _ _ _ = true; kernel_rfl) | (with_reducible show addC _ _ _ = _; kernel_rfl) | rfl | trivial | kernel_rfl | omega | exact Nat.le_of_ble_eq_true rfl | exact lt_len0 rfl | exact lt_len1 rfl); conv => whnf)
      refine inI (by omega) (by omega) ?_
      conv => whnf
      repeat (refine And.intro ?_ ?_; (first | (with_reducible show okR _ _ _ _ = true; kernel_rfl) | (with_reducible show addC _ _ _ = _; kernel_rfl) | rfl | trivial | kernel_rfl | omega | exact Nat.le_of_ble_eq_true rfl | exact lt_len0 rfl | exact lt_len1 rfl); conv => whnf)
      refine ⟨k + 1, by omega, by omega, weakTo_cov ?_ ?_⟩
      · conv => whnf
        repeat (refine And.intro ?_ ?_; (first | exact rfl | exact Or.inl rfl | exact congrArg (SV.int .i64) (by first | rfl | omega | (simp; done) | (simp; omega))); conv => whnf)
        exact trivial
      · conv => whnf
        repeat (refine And.intro ?_ ?_; (first | exact rfl | exact Or.inl rfl | exact congrArg (SV.int .i64) (by first | rfl | omega | (simp; done) | (simp; omega)) | exact congrArg (SV.int .i64) (mix_set eRd hx (congrArg eRd hm).symm) | exact congrArg (fun l => some (Ob.mk _ 1 _ l)) (mix_set eRd hx (congrArg eRd hm).symm) | exact (mix_set eRd hx (congrArg eRd hm).symm)); conv => whnf)
        exact trivial
  · have hk : k = a.l.length := by omega
    subst hk
    conv => whnf
    repeat (refine And.intro ?_ ?_; (first | (with_reducible show okR _ _ _ _ = true; kernel_rfl) | (with_reducible show addC _ _ _ = _; kernel_rfl) | rfl | trivial | kernel_rfl | omega | exact Nat.le_of_ble_eq_true rfl | exact lt_len0 rfl | exact lt_len1 rfl); conv => whnf)
    rw [mix_full]
    exact ⟨⟨rfl, ⟨rfl, rfl⟩, trivial⟩, rfl, trivial⟩
end Go.Proofs.YtilepdoijdeohaaDoor.Am
namespace Go.Proofs.YtilepdoijdeohaaDoor.Am
open Go
set_option maxRecDepth 100000

theorem turn1_refused (r : Rg) (q : Int) (i : Nat) : turn1N r true q i = rdAt r.l i := rfl
theorem map_rdAt (l : List Rd) : (List.range l.length).map (rdAt l) = l := by
  apply List.ext_getElem (by simp)
  intro i h1 h2
  simp only [List.getElem_map, List.getElem_range]
  have := rdAt_get h2
  rw [List.getElem?_eq_getElem h2] at this
  exact (Option.some.inj this).symm

theorem refturn_pure (r : Rg) (q : Int) (hl : r.l.length ≤ 1000000) : Pure Tryd.prog G0 19 [eRg r, .i q] (eRg (turnR r q)) := by
  refine pure_of mixed Tryd.func19 rfl rfl (Nat.le_of_ble_eq_true rfl) ?_
  conv => whnf
  repeat (refine And.intro ?_ ?_; (first | (with_reducible show okR _ _ _ _ = true; kernel_rfl) | (with_reducible show addC _ _ _ = _; kernel_rfl) | rfl | trivial | kernel_rfl | omega | exact Nat.le_of_ble_eq_true rfl | exact lt_len0 rfl | exact lt_len1 rfl); conv => whnf)
  refine callF_of (copied_fresh r hl) ?_
  conv => whnf
  repeat (refine And.intro ?_ ?_; (first | (with_reducible show okR _ _ _ _ = true; kernel_rfl) | (with_reducible show addC _ _ _ = _; kernel_rfl) | rfl | trivial | kernel_rfl | omega | exact Nat.le_of_ble_eq_true rfl | exact lt_len0 rfl | exact lt_len1 rfl); conv => whnf)
  refine callP_of (refcheck_pure r) ?_
  conv => whnf
  repeat (refine And.intro ?_ ?_; (first | (with_reducible show okR _ _ _ _ = true; kernel_rfl) | (with_reducible show addC _ _ _ = _; kernel_rfl) | rfl | trivial | kernel_rfl | omega | exact Nat.le_of_ble_eq_true rfl | exact lt_len0 rfl | exact lt_len1 rfl); conv => whnf)
  refine ifD (fun h1 => ?_) (fun h1 => ?_) <;> try dsimp only at h1
  · have e : turnR r q = r := by
      have hd : decide (checkN r ≠ 0) = true := decide_eq_true h1
      rw [turnR, hd]
      show Rg.mk r.z ((List.range r.l.length).map (rdAt r.l)) = r
      rw [map_rdAt]
    rw [e]
    conv => whnf
    repeat (refine And.intro ?_ ?_; (first | (with_reducible show okR _ _ _ _ = true; kernel_rfl) | (with_reducible show addC _ _ _ = _; kernel_rfl) | rfl | trivial | kernel_rfl | omega | exact Nat.le_of_ble_eq_true rfl | exact lt_len0 rfl | exact lt_len1 rfl); conv => whnf)
    exact trivial
  have h1 : checkN r = 0 := by simpa using h1
  have hd : decide (checkN r ≠ 0) = false := by simp [h1]
  have ho := check_okay.1 h1
  rw [turnR, hd]
  conv => whnf
  repeat (refine And.intro ?_ ?_; (first | (with_reducible show okR _ _ _ _ = true; kernel_rfl) | (with_reducible show addC _ _ _ = _; kernel_rfl) | rfl | trivial | kernel_rfl | omega | exact Nat.le_of_ble_eq_true rfl | exact lt_len0 rfl | exact lt_len1 rfl); conv => whnf)
  refine loop_rule mixed (ι := Nat) (fun k s => [(1, .i q), (4, .lptr 4 (s 4) 0 0), (5, .lptr 5 (s 5) 0 0), (6, .i k)]) (fun k s => [(4, ⟨s 4, 0, 2, [[.i 0, .nils]]⟩), (5, ⟨s 5, 0, 2, [[.i r.z, .lrow 8 (s 8)]]⟩), (8, ⟨s 8, 1, 3, (mixN (turn1N r false q) r.l k).map eRd⟩)]) (fun k => k ≤ r.l.length) (fun k => r.l.length - k) 0 (by omega) (weakTo_cov ?_ ?_) fun k hk s ct => ?_
  · conv => whnf
    repeat (refine And.intro ?_ ?_; (first | exact rfl | exact Or.inl rfl | exact congrArg (SV.int .i64) (by first | rfl | omega | (simp; done) | (simp; omega))); conv => whnf)
    exact trivial
  · conv => whnf
    repeat (refine And.intro ?_ ?_; (first | exact rfl | exact Or.inl rfl | exact congrArg (SV.int .i64) (by first | rfl | omega | (simp; done) | (simp; omega)) | exact congrArg (SV.int .i64) ((by rw [mix_zero] : r.l.map eRd = (mixN (turn1N r false q) r.l 0).map eRd)) | exact congrArg (fun l => some (Ob.mk _ 1 _ l)) ((by rw [mix_zero] : r.l.map eRd = (mixN (turn1N r false q) r.l 0).map eRd)) | exact ((by rw [mix_zero] : r.l.map eRd = (mixN (turn1N r false q) r.l 0).map eRd))); conv => whnf)
    exact trivial
  have hml : ((mixN (turn1N r false q) r.l k).map eRd).length = r.l.length := by rw [List.length_map, mix_len hk]
  have := ho.high
  conv => whnf
  repeat (refine And.intro ?_ ?_; (first | (with_reducible show okR _ _ _ _ = true; kernel_rfl) | (with_reducible show addC _ _ _ = _; kernel_rfl) | rfl | trivial | kernel_rfl | omega | exact Nat.le_of_ble_eq_true rfl | exact lt_len0 rfl | exact lt_len1 rfl); conv => whnf)
  refine ifD (fun h5 => ?_) (fun h5 => ?_) <;> try dsimp only at h5
  · have hx := rdAt_get (l := r.l) (i := k) (by omega)
    have hm : turn1N r false q k = if (!false && (rdAt r.l k).ok) = true then ⟨rotN (q % 4).toNat (rdAt r.l k).p, true⟩ else rdAt r.l k := rfl
    have hs := ho.small _ (List.mem_of_getElem? hx)
    generalize rdAt r.l k = x at hx hm hs
    conv => whnf
    repeat (refine And.intro ?_ ?_; (first | (with_reducible show okR _ _ _ _ = true; kernel_rfl) | (with_reducible show addC _ _ _ = _; kernel_rfl) | rfl | trivial | kernel_rfl | omega | exact Nat.le_of_ble_eq_true rfl | exact lt_len0 rfl | exact lt_len1 rfl); conv => whnf)
    refine ⟨_, get_map (mix_get (f := turn1N r false q) hx), ?_⟩
    conv => whnf
    repeat (refine And.intro ?_ ?_; (first | (with_reducible show okR _ _ _ _ = true; kernel_rfl) | (with_reducible show addC _ _ _ = _; kernel_rfl) | rfl | trivial | kernel_rfl | omega | exact Nat.le_of_ble_eq_true rfl | exact lt_len0 rfl | exact lt_len1 rfl); conv => whnf)
    obtain ⟨p, ok⟩ := x
    cases ok with
    | false =>
      conv => whnf
      repeat (refine And.intro ?_ ?_; (first | (with_reducible show okR _ _ _ _ = true; kernel_rfl) | (with_reducible show addC _ _ _ = _; kernel_rfl) | rfl | trivial | kernel_rfl | omega | exact Nat.le_of_ble_eq_true rfl | exact lt_len0 rfl | exact lt_len1 rfl); conv => whnf)
      refine inI (by omega) (by omega) ?_
      conv => whnf
      repeat (refine And.intro ?_ ?_; (first | (with_reducible show okR _ _ _ _ = true; kernel_rfl) | (with_reducible show addC _ _ _ = _; kernel_rfl) | rfl | trivial | kernel_rfl | omega | exact Nat.le_of_ble_eq_true rfl | exact lt_len0 rfl | exact lt_len1 rfl); conv => whnf)
      refine ⟨k + 1, by omega, by omega, weakTo_cov ?_ ?_⟩
      · conv => whnf
        repeat (refine And.intro ?_ ?_; (first | exact rfl | exact Or.inl rfl | exact congrArg (SV.int .i64) (by first | rfl | omega | (simp; done) | (simp; omega))); conv => whnf)
        exact trivial
      · conv => whnf
        repeat (refine And.intro ?_ ?_; (first | exact rfl | exact Or.inl rfl | exact congrArg (SV.int .i64) (by first | rfl | omega | (simp; done) | (simp; omega)) | exact congrArg (SV.int .i64) ((by rw [mix_same hx hm] : (mixN (turn1N r false q) r.l k).map eRd = (mixN (turn1N r false q) r.l (k + 1)).map eRd)) | exact congrArg (fun l => some (Ob.mk _ 1 _ l)) ((by rw [mix_same hx hm] : (mixN (turn1N r false q) r.l k).map eRd = (mixN (turn1N r false q) r.l (k + 1)).map eRd)) | exact ((by rw [mix_same hx hm] : (mixN (turn1N r false q) r.l k).map eRd = (mixN (turn1N r false q) r.l (k + 1)).map eRd))); conv => whnf)
        exact trivial
    | true =>
      conv => whnf
      repeat (refine And.intro ?_ ?_; (first | (with_reducible show okR _ _ _ _ = true; kernel_rfl) | (with_reducible show addC _ _ _ = _; kernel_rfl) | rfl | trivial | kernel_rfl | omega | exact Nat.le_of_ble_eq_true rfl | exact lt_len0 rfl | exact lt_len1 rfl); conv => whnf)
      refine ⟨_, get_map (mix_get (f := turn1N r false q) hx), ?_⟩
      conv => whnf
      repeat (refine And.intro ?_ ?_; (first | (with_reducible show okR _ _ _ _ = true; kernel_rfl) | (with_reducible show addC _ _ _ = _; kernel_rfl) | rfl | trivial | kernel_rfl | omega | exact Nat.le_of_ble_eq_true rfl | exact lt_len0 rfl | exact lt_len1 rfl); conv => whnf)
      refine callP_of (quarters_pure q) ?_
      conv => whnf
      repeat (refine And.intro ?_ ?_; (first | (with_reducible show okR _ _ _ _ = true; kernel_rfl) | (with_reducible show addC _ _ _ = _; kernel_rfl) | rfl | trivial | kernel_rfl | omega | exact Nat.le_of_ble_eq_true rfl | exact lt_len0 rfl | exact lt_len1 rfl); conv => whnf)
      have ht := turned_pure p (small_neg hs) (q % 4).toNat (by omega)
      rw [show (((q % 4).toNat : Nat) : Int) = q % 4 by omega] at ht
      refine callP_of (ht) ?_
      conv => whnf
      repeat (refine And.intro ?_ ?_; (first | (with_reducible show okR _ _ _ _ = true; kernel_rfl) | (with_reducible show addC _ _ _ = _; kernel_rfl) | rfl | trivial | kernel_rfl | omega | exact Nat.le_of_ble_eq_true rfl | exact lt_len0 rfl | exact lt_len1 rfl); conv => whnf)
      refine ⟨_, get_map (mix_get (f := turn1N r false q) hx), ?_⟩
      conv => whnf
      repeat (refine And.intro ?_ ?_; (first | (with_reducible show okR _ _ _ _ = true; kernel_rfl) | (with_reducible show addC _ _ _ = _; kernel_rfl) | rfl | trivial | kernel_rfl | omega | exact Nat.le_of_ble_eq_true rfl | exact lt_len0 rfl | exact lt_len1 rfl); conv => whnf)
      refine inI (by omega) (by omega) ?_
      conv => whnf
      repeat (refine And.intro ?_ ?_; (first | (with_reducible show okR _ _ _ _ = true; kernel_rfl) | (with_reducible show addC _ _ _ = _; kernel_rfl) | rfl | trivial | kernel_rfl | omega | exact Nat.le_of_ble_eq_true rfl | exact lt_len0 rfl | exact lt_len1 rfl); conv => whnf)
      refine ⟨k + 1, by omega, by omega, weakTo_cov ?_ ?_⟩
      · conv => whnf
        repeat (refine And.intro ?_ ?_; (first | exact rfl | exact Or.inl rfl | exact congrArg (SV.int .i64) (by first | rfl | omega | (simp; done) | (simp; omega))); conv => whnf)
        exact trivial
      · conv => whnf
        repeat (refine And.intro ?_ ?_; (first | exact rfl | exact Or.inl rfl | exact congrArg (SV.int .i64) (by first | rfl | omega | (simp; done) | (simp; omega)) | exact congrArg (SV.int .i64) (mix_set eRd hx (congrArg eRd hm).symm) | exact congrArg (fun l => some (Ob.mk _ 1 _ l)) (mix_set eRd hx (congrArg eRd hm).symm) | exact (mix_set eRd hx (congrArg eRd hm).symm)); conv => whnf)
        exact trivial
  · have hk : k = r.l.length := by omega
    subst hk
    conv => whnf
    repeat (refine And.intro ?_ ?_; (first | (with_reducible show okR _ _ _ _ = true; kernel_rfl) | (with_reducible show addC _ _ _ = _; kernel_rfl) | rfl | trivial | kernel_rfl | omega | exact Nat.le_of_ble_eq_true rfl | exact lt_len0 rfl | exact lt_len1 rfl); conv => whnf)
    rw [mix_full]
    exact ⟨⟨rfl, rfl⟩, trivial⟩
end Go.Proofs.YtilepdoijdeohaaDoor.Am
