/- The examples of the chapter, as the program works them out. No condition: definitions and lemmas. -/
import Derived.Test.YtilepdoijdeohaaDoorAmR20
namespace Go.Proofs.YtilepdoijdeohaaDoor.Am
open Go
set_option maxRecDepth 100000

def aL : List Rd := (roundL.set 1 gapN).set 2 gapN
def bL : List Rd := roundL.set 1 ⟨⟨500, 70⟩, true⟩
def ra : Rg := ⟨0, aL⟩
def rb : Rg := ⟨0, bL⟩
def rr : Rg := ⟨0, roundL⟩
def repP : List XY := (roundP.set 1 ⟨43, 23⟩).set 2 ⟨-14, 46⟩

theorem actD_intro {P : Program} {G : Nat → List SV} {o : Oper} {g : Operand → SV} {ob : Tab} {ct : Cnt} {R : SV → List Upd → Prop} (v : SV) (us : List Upd) (hk : ∀ R' : SV → List Upd → Prop, R' v us → actD P G o g ob ct R') (h : R v us) : actD P G o g ob ct R := hk R h
theorem setd_intro {N : Nat} {sl : Slots} {d : Nat} {v : SV} {k : Slots → Prop} (hd : Nat.blt d N = true) (h : k (upd sl d v)) : setd N sl (some d) v k := by
  show ifB (Nat.blt d N) (forceK v fun v => k (upd sl d v)) False
  rw [hd, forceK_eq]
  exact h
theorem w_repair2 : Pure Tryd.prog G0 22 [eRg ra, .i 2] (.tup [.sl 2 (repP.map eP), .i 0]) := by
  have h := repair_pure ra 2 (by decide)
  rw [show repairN ra 2 = repP by decide, show repairErr ra 2 = 0 by decide] at h
  exact h
theorem w_repair1 : Pure Tryd.prog G0 22 [eRg ra, .i 1] (.tup [.sl 2 [], .i 30]) := by
  have h := repair_pure ra 1 (by decide)
  rw [show repairN ra 1 = [] by decide, show repairErr ra 1 = 30 by decide] at h
  exact h
theorem w_merge : Pure Tryd.prog G0 20 [eRg ra, eRg rr] (.tup [eRg rr, .i 0]) := by
  have h := merge_pure ra rr (by decide)
  rw [show mergeN ra rr = rr by decide, show mergeErr ra rr = 0 by decide] at h
  exact h
theorem w_gaps : Pure Tryd.prog G0 11 [eRg ra] (.tup [.i 2, .i 2]) := by
  have h := gaps_pure ra (by decide)
  rw [show gapsOf ra.l = 2 by decide, show mostTo ra.l ra.l.length = 2 by decide] at h
  exact h
theorem w_clean1 : Pure Tryd.prog G0 16 [eRg rb, .i 150] (eRg ⟨0, roundL.set 1 gapN⟩) := by
  have h := clean_pure rb 150 (by decide)
  rw [show cleanN rb 150 = ⟨0, roundL.set 1 gapN⟩ by decide] at h
  exact h
theorem w_clean4 : Pure Tryd.prog G0 16 [eRg rb, .i 400] (eRg rb) := by
  have h := clean_pure rb 400 (by decide)
  rw [show cleanN rb 400 = rb by decide] at h
  exact h
def turnL : List Rd := [⟨⟨0, 100⟩, true⟩, gapN, gapN, ⟨⟨-70, -70⟩, true⟩, ⟨⟨0, -100⟩, true⟩, ⟨⟨70, -70⟩, true⟩, ⟨⟨100, 0⟩, true⟩, ⟨⟨70, 70⟩, true⟩]
theorem w_turn : Pure Tryd.prog G0 18 [eRg ra, .i 1] (eRg ⟨0, turnL⟩) := by
  have h := turnring_pure ra 1 (by decide)
  rw [show turnR ra 1 = ⟨0, turnL⟩ by decide] at h
  exact h
theorem w_check : Pure Tryd.prog G0 13 [eRg ra] (.i 0) := by
  have h := check_pure ra
  rw [show checkN ra = 0 by decide] at h
  exact h
theorem w_same (a : Rg) (ha : a.l.length ≤ 8) : Pure Tryd.prog G0 15 [eRg a, eRg a] (.bool true) := by
  have h := same_pure a a (by omega)
  rw [show decide (a = a) = true by simp] at h
  exact h

set_option maxHeartbeats 4000000 in
theorem awake_pure : Pure Tryd.prog G0 10 [] (.bool true) := by
  refine stop_pure Tryd.func10 rfl rfl (Nat.le_of_ble_eq_true rfl) ?_
  refine stop_seq mixed ?_
  conv => whnf
  repeat (refine And.intro ?_ ?_; (first | (with_reducible show okR _ _ _ _ = true; kernel_rfl) | (with_reducible show addC _ _ _ = _; kernel_rfl) | rfl | trivial | kernel_rfl | omega | exact Nat.le_of_ble_eq_true rfl | exact lt_len0 rfl | exact lt_len1 rfl); conv => whnf)
  refine stop_seq mixed ?_
  conv => whnf
  repeat (refine And.intro ?_ ?_; (first | (with_reducible show okR _ _ _ _ = true; kernel_rfl) | (with_reducible show addC _ _ _ = _; kernel_rfl) | rfl | trivial | kernel_rfl | omega | exact Nat.le_of_ble_eq_true rfl | exact lt_len0 rfl | exact lt_len1 rfl); conv => whnf)
  refine callF_of (round_fresh) ?_
  conv => whnf
  repeat (refine And.intro ?_ ?_; (first | (with_reducible show okR _ _ _ _ = true; kernel_rfl) | (with_reducible show addC _ _ _ = _; kernel_rfl) | rfl | trivial | kernel_rfl | omega | exact Nat.le_of_ble_eq_true rfl | exact lt_len0 rfl | exact lt_len1 rfl); conv => whnf)
  refine callF_of (round_fresh) ?_
  conv => whnf
  repeat (refine And.intro ?_ ?_; (first | (with_reducible show okR _ _ _ _ = true; kernel_rfl) | (with_reducible show addC _ _ _ = _; kernel_rfl) | rfl | trivial | kernel_rfl | omega | exact Nat.le_of_ble_eq_true rfl | exact lt_len0 rfl | exact lt_len1 rfl); conv => whnf)
  refine stop_seq mixed ?_
  conv => whnf
  repeat (refine And.intro ?_ ?_; (first | (with_reducible show okR _ _ _ _ = true; kernel_rfl) | (with_reducible show addC _ _ _ = _; kernel_rfl) | rfl | trivial | kernel_rfl | omega | exact Nat.le_of_ble_eq_true rfl | exact lt_len0 rfl | exact lt_len1 rfl); conv => whnf)
  refine ⟨_, rfl, ?_⟩
  conv => whnf
  repeat (refine And.intro ?_ ?_; (first | (with_reducible show okR _ _ _ _ = true; kernel_rfl) | (with_reducible show addC _ _ _ = _; kernel_rfl) | rfl | trivial | kernel_rfl | omega | exact Nat.le_of_ble_eq_true rfl | exact lt_len0 rfl | exact lt_len1 rfl); conv => whnf)
  refine ⟨_, rfl, ?_⟩
  conv => whnf
  repeat (refine And.intro ?_ ?_; (first | (with_reducible show okR _ _ _ _ = true; kernel_rfl) | (with_reducible show addC _ _ _ = _; kernel_rfl) | rfl | trivial | kernel_rfl | omega | exact Nat.le_of_ble_eq_true rfl | exact lt_len0 rfl | exact lt_len1 rfl); conv => whnf)
  refine stop_seq mixed ?_
  conv => whnf
  repeat (refine And.intro ?_ ?_; (first | (with_reducible show okR _ _ _ _ = true; kernel_rfl) | (with_reducible show addC _ _ _ = _; kernel_rfl) | rfl | trivial | kernel_rfl | omega | exact Nat.le_of_ble_eq_true rfl | exact lt_len0 rfl | exact lt_len1 rfl); conv => whnf)
  refine ⟨_, rfl, ?_⟩
  conv => whnf
  repeat (refine And.intro ?_ ?_; (first | (with_reducible show okR _ _ _ _ = true; kernel_rfl) | (with_reducible show addC _ _ _ = _; kernel_rfl) | rfl | trivial | kernel_rfl | omega | exact Nat.le_of_ble_eq_true rfl | exact lt_len0 rfl | exact lt_len1 rfl); conv => whnf)
  refine stop_to (fun s => [(1, .lptr 1 (s 1) 0 0), (2, .lptr 2 (s 2) 0 0)]) (fun s => [(1, ⟨s 1, 0, 2, [[.i 0, .lrow 11 (s 11)]]⟩), (2, ⟨s 2, 0, 2, [[.i 0, .lrow 12 (s 12)]]⟩), (11, ⟨s 11, 1, 3, aL.map eRd⟩), (12, ⟨s 12, 1, 3, bL.map eRd⟩)]) (weakTo_cov ?_ ?_) fun s ct => ?_
  · conv => whnf
    repeat (refine And.intro ?_ ?_; (first | exact rfl | exact Or.inl rfl | exact congrArg (SV.int .i64) (by first | rfl | omega | (simp; done) | (simp; omega))); conv => whnf)
    exact trivial
  · conv => whnf
    repeat (refine And.intro ?_ ?_; (first | exact rfl | exact Or.inl rfl | exact congrArg (SV.int .i64) (by first | rfl | omega | (simp; done) | (simp; omega))); conv => whnf)
    exact trivial
  refine stop_seq mixed ?_
  conv => whnf
  repeat (refine And.intro ?_ ?_; (first | (with_reducible show okR _ _ _ _ = true; kernel_rfl) | (with_reducible show addC _ _ _ = _; kernel_rfl) | rfl | trivial | kernel_rfl | omega | exact Nat.le_of_ble_eq_true rfl | exact lt_len0 rfl | exact lt_len1 rfl); conv => whnf)
  refine callP_of (w_repair2) ?_
  conv => whnf
  repeat (refine And.intro ?_ ?_; (first | (with_reducible show okR _ _ _ _ = true; kernel_rfl) | (with_reducible show addC _ _ _ = _; kernel_rfl) | rfl | trivial | kernel_rfl | omega | exact Nat.le_of_ble_eq_true rfl | exact lt_len0 rfl | exact lt_len1 rfl); conv => whnf)
  refine stop_seq mixed ?_
  conv => whnf
  repeat (refine And.intro ?_ ?_; (first | (with_reducible show okR _ _ _ _ = true; kernel_rfl) | (with_reducible show addC _ _ _ = _; kernel_rfl) | rfl | trivial | kernel_rfl | omega | exact Nat.le_of_ble_eq_true rfl | exact lt_len0 rfl | exact lt_len1 rfl); conv => whnf)
  refine callP_of (w_repair1) ?_
  conv => whnf
  repeat (refine And.intro ?_ ?_; (first | (with_reducible show okR _ _ _ _ = true; kernel_rfl) | (with_reducible show addC _ _ _ = _; kernel_rfl) | rfl | trivial | kernel_rfl | omega | exact Nat.le_of_ble_eq_true rfl | exact lt_len0 rfl | exact lt_len1 rfl); conv => whnf)
  refine stop_seq mixed ?_
  conv => whnf
  repeat (refine And.intro ?_ ?_; (first | (with_reducible show okR _ _ _ _ = true; kernel_rfl) | (with_reducible show addC _ _ _ = _; kernel_rfl) | rfl | trivial | kernel_rfl | omega | exact Nat.le_of_ble_eq_true rfl | exact lt_len0 rfl | exact lt_len1 rfl); conv => whnf)
  refine callF_of (round_fresh) ?_
  conv => whnf
  repeat (refine And.intro ?_ ?_; (first | (with_reducible show okR _ _ _ _ = true; kernel_rfl) | (with_reducible show addC _ _ _ = _; kernel_rfl) | rfl | trivial | kernel_rfl | omega | exact Nat.le_of_ble_eq_true rfl | exact lt_len0 rfl | exact lt_len1 rfl); conv => whnf)
  refine callP_of (w_merge) ?_
  conv => whnf
  repeat (refine And.intro ?_ ?_; (first | (with_reducible show okR _ _ _ _ = true; kernel_rfl) | (with_reducible show addC _ _ _ = _; kernel_rfl) | rfl | trivial | kernel_rfl | omega | exact Nat.le_of_ble_eq_true rfl | exact lt_len0 rfl | exact lt_len1 rfl); conv => whnf)
  refine stop_seq mixed ?_
  conv => whnf
  repeat (refine And.intro ?_ ?_; (first | (with_reducible show okR _ _ _ _ = true; kernel_rfl) | (with_reducible show addC _ _ _ = _; kernel_rfl) | rfl | trivial | kernel_rfl | omega | exact Nat.le_of_ble_eq_true rfl | exact lt_len0 rfl | exact lt_len1 rfl); conv => whnf)
  refine callP_of (w_gaps) ?_
  conv => whnf
  repeat (refine And.intro ?_ ?_; (first | (with_reducible show okR _ _ _ _ = true; kernel_rfl) | (with_reducible show addC _ _ _ = _; kernel_rfl) | rfl | trivial | kernel_rfl | omega | exact Nat.le_of_ble_eq_true rfl | exact lt_len0 rfl | exact lt_len1 rfl); conv => whnf)
  refine stop_seq mixed ?_
  conv => whnf
  repeat (refine And.intro ?_ ?_; (first | (with_reducible show okR _ _ _ _ = true; kernel_rfl) | (with_reducible show addC _ _ _ = _; kernel_rfl) | rfl | trivial | kernel_rfl | omega | exact Nat.le_of_ble_eq_true rfl | exact lt_len0 rfl | exact lt_len1 rfl); conv => whnf)
  refine callP_of (w_clean1) ?_
  conv => whnf
  repeat (refine And.intro ?_ ?_; (first | (with_reducible show okR _ _ _ _ = true; kernel_rfl) | (with_reducible show addC _ _ _ = _; kernel_rfl) | rfl | trivial | kernel_rfl | omega | exact Nat.le_of_ble_eq_true rfl | exact lt_len0 rfl | exact lt_len1 rfl); conv => whnf)
  refine callP_of (w_turn) ?_
  conv => whnf
  repeat (refine And.intro ?_ ?_; (first | (with_reducible show okR _ _ _ _ = true; kernel_rfl) | (with_reducible show addC _ _ _ = _; kernel_rfl) | rfl | trivial | kernel_rfl | omega | exact Nat.le_of_ble_eq_true rfl | exact lt_len0 rfl | exact lt_len1 rfl); conv => whnf)
  refine stop_to (fun s => [(1, .lptr 1 (s 1) 0 0), (2, .lptr 2 (s 2) 0 0), (3, .sl 2 (repP.map eP)), (4, .i 0), (6, .i 30), (7, .lptr 7 (s 7) 0 0), (8, .i 0), (9, .i 2), (10, .i 2), (63, .bool false)]) (fun s => [(1, ⟨s 1, 0, 2, [[.i 0, .lrow 11 (s 11)]]⟩), (2, ⟨s 2, 0, 2, [[.i 0, .lrow 12 (s 12)]]⟩), (7, ⟨s 7, 0, 2, [[.i 0, .sl 3 (roundL.map eRd)]]⟩), (11, ⟨s 11, 2, 3, aL.map eRd⟩), (12, ⟨s 12, 2, 3, bL.map eRd⟩)]) (weakTo_cov ?_ ?_) fun s ct => ?_
  · conv => whnf
    repeat (refine And.intro ?_ ?_; (first | exact rfl | exact Or.inl rfl | exact congrArg (SV.int .i64) (by first | rfl | omega | (simp; done) | (simp; omega))); conv => whnf)
    exact trivial
  · conv => whnf
    repeat (refine And.intro ?_ ?_; (first | exact rfl | exact Or.inl rfl | exact congrArg (SV.int .i64) (by first | rfl | omega | (simp; done) | (simp; omega))); conv => whnf)
    exact trivial
  refine stop_weak (weak_frz_box 1 11 1 rfl rfl rfl) ?_
  refine stop_weak (weak_frz_box 2 12 1 rfl rfl rfl) ?_
  refine stop_go mixed ?_
  conv => whnf
  refine And.intro (lexOf_ops awake_lex (by kernel_rfl)) ?_
  conv => whnf
  repeat (refine And.intro ?_ ?_; (first | (with_reducible show okR _ _ _ _ = true; kernel_rfl) | (with_reducible show addC _ _ _ = _; kernel_rfl) | rfl | trivial | kernel_rfl | omega | exact Nat.le_of_ble_eq_true rfl | exact lt_len0 rfl | exact lt_len1 rfl); conv => whnf)
  refine callP_of (w_check) ?_
  conv => whnf
  repeat (refine And.intro ?_ ?_; (first | (with_reducible show okR _ _ _ _ = true; kernel_rfl) | (with_reducible show addC _ _ _ = _; kernel_rfl) | rfl | trivial | kernel_rfl | omega | exact Nat.le_of_ble_eq_true rfl | exact lt_len0 rfl | exact lt_len1 rfl); conv => whnf)
  refine ⟨[.i 43, .i 23], rfl, ?_⟩
  conv => whnf
  refine And.intro (by first | (with_reducible show okR _ _ _ _ = true; kernel_rfl) | rfl | kernel_rfl) ?_
  conv => whnf
  refine And.intro (by first | (with_reducible show okR _ _ _ _ = true; kernel_rfl) | rfl | kernel_rfl) ?_
  refine actD_intro (.agg [.i 43, .i 23]) [] (fun R h => h) ?_
  refine setd_intro (by kernel_rfl) ?_
  conv => whnf
  repeat (refine And.intro ?_ ?_; (first | (with_reducible show okR _ _ _ _ = true; kernel_rfl) | (with_reducible show addC _ _ _ = _; kernel_rfl) | rfl | trivial | kernel_rfl | omega | exact Nat.le_of_ble_eq_true rfl | exact lt_len0 rfl | exact lt_len1 rfl); conv => whnf)
  refine ⟨[.i (-14), .i 46], rfl, ?_⟩
  conv => whnf
  refine And.intro (by first | (with_reducible show okR _ _ _ _ = true; kernel_rfl) | rfl | kernel_rfl) ?_
  conv => whnf
  refine And.intro (by first | (with_reducible show okR _ _ _ _ = true; kernel_rfl) | rfl | kernel_rfl) ?_
  refine actD_intro (.agg [.i (-14), .i 46]) [] (fun R h => h) ?_
  refine setd_intro (by kernel_rfl) ?_
  conv => whnf
  repeat (refine And.intro ?_ ?_; (first | (with_reducible show okR _ _ _ _ = true; kernel_rfl) | (with_reducible show addC _ _ _ = _; kernel_rfl) | rfl | trivial | kernel_rfl | omega | exact Nat.le_of_ble_eq_true rfl | exact lt_len0 rfl | exact lt_len1 rfl); conv => whnf)
  refine callF_of (round_fresh) ?_
  conv => whnf
  repeat (refine And.intro ?_ ?_; (first | (with_reducible show okR _ _ _ _ = true; kernel_rfl) | (with_reducible show addC _ _ _ = _; kernel_rfl) | rfl | trivial | kernel_rfl | omega | exact Nat.le_of_ble_eq_true rfl | exact lt_len0 rfl | exact lt_len1 rfl); conv => whnf)
  refine callP_of (w_same rr (by decide)) ?_
  conv => whnf
  repeat (refine And.intro ?_ ?_; (first | (with_reducible show okR _ _ _ _ = true; kernel_rfl) | (with_reducible show addC _ _ _ = _; kernel_rfl) | rfl | trivial | kernel_rfl | omega | exact Nat.le_of_ble_eq_true rfl | exact lt_len0 rfl | exact lt_len1 rfl); conv => whnf)
  refine callP_of (w_clean1) ?_
  conv => whnf
  repeat (refine And.intro ?_ ?_; (first | (with_reducible show okR _ _ _ _ = true; kernel_rfl) | (with_reducible show addC _ _ _ = _; kernel_rfl) | rfl | trivial | kernel_rfl | omega | exact Nat.le_of_ble_eq_true rfl | exact lt_len0 rfl | exact lt_len1 rfl); conv => whnf)
  refine ⟨[.i 0, .i 0, .bool false], rfl, ?_⟩
  conv => whnf
  repeat (refine And.intro ?_ ?_; (first | (with_reducible show okR _ _ _ _ = true; kernel_rfl) | (with_reducible show addC _ _ _ = _; kernel_rfl) | rfl | trivial | kernel_rfl | omega | exact Nat.le_of_ble_eq_true rfl | exact lt_len0 rfl | exact lt_len1 rfl); conv => whnf)
  refine callP_of (w_clean4) ?_
  conv => whnf
  repeat (refine And.intro ?_ ?_; (first | (with_reducible show okR _ _ _ _ = true; kernel_rfl) | (with_reducible show addC _ _ _ = _; kernel_rfl) | rfl | trivial | kernel_rfl | omega | exact Nat.le_of_ble_eq_true rfl | exact lt_len0 rfl | exact lt_len1 rfl); conv => whnf)
  refine callP_of (w_same rb (by decide)) ?_
  conv => whnf
  repeat (refine And.intro ?_ ?_; (first | (with_reducible show okR _ _ _ _ = true; kernel_rfl) | (with_reducible show addC _ _ _ = _; kernel_rfl) | rfl | trivial | kernel_rfl | omega | exact Nat.le_of_ble_eq_true rfl | exact lt_len0 rfl | exact lt_len1 rfl); conv => whnf)
  refine callP_of (w_turn) ?_
  conv => whnf
  repeat (refine And.intro ?_ ?_; (first | (with_reducible show okR _ _ _ _ = true; kernel_rfl) | (with_reducible show addC _ _ _ = _; kernel_rfl) | rfl | trivial | kernel_rfl | omega | exact Nat.le_of_ble_eq_true rfl | exact lt_len0 rfl | exact lt_len1 rfl); conv => whnf)
  refine ⟨[.i 0, .i 100, .bool true], rfl, ?_⟩
  conv => whnf
  refine And.intro (by first | (with_reducible show okR _ _ _ _ = true; kernel_rfl) | rfl | kernel_rfl) ?_
  conv => whnf
  refine And.intro (by first | (with_reducible show okR _ _ _ _ = true; kernel_rfl) | rfl | kernel_rfl) ?_
  conv => whnf
  refine And.intro (by first | (with_reducible show okR _ _ _ _ = true; kernel_rfl) | rfl | kernel_rfl) ?_
  refine actD_intro (.agg [.i 0, .i 100]) [] (fun R h => h) ?_
  refine setd_intro (by kernel_rfl) ?_
  conv => whnf
  repeat (refine And.intro ?_ ?_; (first | (with_reducible show okR _ _ _ _ = true; kernel_rfl) | (with_reducible show addC _ _ _ = _; kernel_rfl) | rfl | trivial | kernel_rfl | omega | exact Nat.le_of_ble_eq_true rfl | exact lt_len0 rfl | exact lt_len1 rfl); conv => whnf)
  exact rfl
end Go.Proofs.YtilepdoijdeohaaDoor.Am
