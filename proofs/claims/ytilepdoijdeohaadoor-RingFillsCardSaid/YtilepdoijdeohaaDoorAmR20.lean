/- The ring of the examples. No condition: definitions and lemmas. -/
import Derived.Test.YtilepdoijdeohaaDoorAmR19
import Derived.Test.YtilepdoijdeohaaDoorAmD5
namespace Go.Proofs.YtilepdoijdeohaaDoor.Am
open Go
set_option maxRecDepth 100000

def roundP : List XY := [⟨100, 0⟩, ⟨70, 70⟩, ⟨0, 100⟩, ⟨-70, 70⟩, ⟨-100, 0⟩, ⟨-70, -70⟩, ⟨0, -100⟩, ⟨70, -70⟩]
def roundL : List Rd := roundP.map fun p => ⟨p, true⟩
theorem round_fresh : FreshC Tryd.prog G0 23 [] 3 (roundL.map eRd) (.agg [.i 0, .lrow 0 0]) := by
  refine fresh_intro mixed Tryd.func23 rfl rfl (Nat.le_of_ble_eq_true rfl) ?_
  conv => whnf
  repeat (refine And.intro ?_ ?_; (first | (with_reducible show okR _ _ _ _ = true; kernel_rfl) | (with_reducible show addC _ _ _ = _; kernel_rfl) | rfl | trivial | kernel_rfl | omega | exact Nat.le_of_ble_eq_true rfl | exact lt_len0 rfl | exact lt_len1 rfl); conv => whnf)
  refine loop_weak (weak_nil_box 2 27 3 1 rfl rfl (by decide)) ?_
  refine loop_rule mixed (ι := Nat) (fun k s => [(0, .lptr 0 (s 0) 0 0), (1, .lrow 12 (s 12)), (2, .lptr 2 (s 2) 0 0), (3, .i k)]) (fun k s => [(0, ⟨s 0, 0, 2, [[.i 0, .nils]]⟩), (12, ⟨s 12, 1, 2, roundP.map eP⟩), (2, ⟨s 2, 0, 2, [[.i 0, .lrow 27 (s 27)]]⟩), (27, ⟨s 27, 1, 3, (roundL.take k).map eRd⟩)]) (fun k => k ≤ 8) (fun k => 8 - k) 0 (by omega) (weakTo_cov ?_ ?_) fun k hk s ct => ?_
  · conv => whnf
    repeat (refine And.intro ?_ ?_; (first | exact rfl | exact Or.inl rfl | exact congrArg (SV.int .i64) (by first | rfl | omega | (simp; done) | (simp; omega))); conv => whnf)
    exact trivial
  · conv => whnf
    repeat (refine And.intro ?_ ?_; (first | exact rfl | exact Or.inl rfl | exact congrArg (SV.int .i64) (by first | rfl | omega | (simp; done) | (simp; omega))); conv => whnf)
    exact trivial
  conv => whnf
  repeat (refine And.intro ?_ ?_; (first | (with_reducible show okR _ _ _ _ = true; kernel_rfl) | (with_reducible show addC _ _ _ = _; kernel_rfl) | rfl | trivial | kernel_rfl | omega | exact Nat.le_of_ble_eq_true rfl | exact lt_len0 rfl | exact lt_len1 rfl); conv => whnf)
  refine ifD (fun h1 => ?_) (fun h1 => ?_) <;> try dsimp only at h1
  · have h1 : k < 8 := by simp [roundP] at h1; omega
    obtain ⟨x, hx⟩ := get_lt (l := roundP) (k := k) h1
    have hy : roundL[k]? = some ⟨x, true⟩ := by simp only [roundL, List.getElem?_map, hx]; rfl
    conv => whnf
    repeat (refine And.intro ?_ ?_; (first | (with_reducible show okR _ _ _ _ = true; kernel_rfl) | (with_reducible show addC _ _ _ = _; kernel_rfl) | rfl | trivial | kernel_rfl | omega | exact Nat.le_of_ble_eq_true rfl | exact lt_len0 rfl | exact lt_len1 rfl); conv => whnf)
    refine ⟨_, get_map hx, ?_⟩
    conv => whnf
    repeat (refine And.intro ?_ ?_; (first | (with_reducible show okR _ _ _ _ = true; kernel_rfl) | (with_reducible show addC _ _ _ = _; kernel_rfl) | rfl | trivial | kernel_rfl | omega | exact Nat.le_of_ble_eq_true rfl | exact lt_len0 rfl | exact lt_len1 rfl); conv => whnf)
    refine And.intro (show (((roundL.take k).map eRd).length + 1) * 24 ≤ 140737488355328 from by simp; omega) ?_
    conv => whnf
    repeat (refine And.intro ?_ ?_; (first | (with_reducible show okR _ _ _ _ = true; kernel_rfl) | (with_reducible show addC _ _ _ = _; kernel_rfl) | rfl | trivial | kernel_rfl | omega | exact Nat.le_of_ble_eq_true rfl | exact lt_len0 rfl | exact lt_len1 rfl); conv => whnf)
    refine inI (by omega) (by omega) ?_
    conv => whnf
    repeat (refine And.intro ?_ ?_; (first | (with_reducible show okR _ _ _ _ = true; kernel_rfl) | (with_reducible show addC _ _ _ = _; kernel_rfl) | rfl | trivial | kernel_rfl | omega | exact Nat.le_of_ble_eq_true rfl | exact lt_len0 rfl | exact lt_len1 rfl); conv => whnf)
    refine ⟨k + 1, by omega, by omega, weakTo_cov ?_ ?_⟩
    · conv => whnf
      repeat (refine And.intro ?_ ?_; (first | exact rfl | exact Or.inl rfl | exact congrArg (SV.int .i64) (by first | rfl | omega | (simp; done) | (simp; omega))); conv => whnf)
      exact trivial
    · conv => whnf
      refine And.intro rfl ?_
      conv => whnf
      refine And.intro rfl ?_
      conv => whnf
      refine And.intro rfl ?_
      conv => whnf
      refine And.intro ?_ trivial
      rw [take_snoc hy, List.map_append]
      rfl
  · have hk : k = 8 := by simp [roundP] at h1; omega
    subst hk
    conv => whnf
    repeat (refine And.intro ?_ ?_; (first | (with_reducible show okR _ _ _ _ = true; kernel_rfl) | (with_reducible show addC _ _ _ = _; kernel_rfl) | rfl | trivial | kernel_rfl | omega | exact Nat.le_of_ble_eq_true rfl | exact lt_len0 rfl | exact lt_len1 rfl); conv => whnf)
    show Bool.rec False _ _
    rw [show onlyV 27 (s 27) (SV.agg [SV.i 0, SV.lrow 27 (s 27)]) = true by simp [onlyV, onlyA, allB, only1, pureB]]
    exact ⟨rfl, rfl, rfl⟩
theorem awake_lex : lexOf Tryd.f10.body 10 = true := by kernel_rfl
end Go.Proofs.YtilepdoijdeohaaDoor.Am
