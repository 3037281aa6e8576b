/- The contract of repairing a ring. No condition: definitions and lemmas. -/
import Derived.Test.YtilepdoijdeohaaDoorAmR18
namespace Go.Proofs.YtilepdoijdeohaaDoor.Am
open Go
set_option maxRecDepth 100000

/-- The point between two neighbors. -/
def fillN (l : List Rd) (i : Nat) : XY :=
  if (rdAt l i).ok = true then (rdAt l i).p else
    ⟨(rdAt l (nbrN l i (-1))).p.x + ((rdAt l (nbrN l i 1)).p.x - (rdAt l (nbrN l i (-1))).p.x) * (((i : Int) - nbrN l i (-1) + l.length) % l.length) / (((nbrN l i 1 : Int) - nbrN l i (-1) + l.length) % l.length),
     (rdAt l (nbrN l i (-1))).p.y + ((rdAt l (nbrN l i 1)).p.y - (rdAt l (nbrN l i (-1))).p.y) * (((i : Int) - nbrN l i (-1) + l.length) % l.length) / (((nbrN l i 1 : Int) - nbrN l i (-1) + l.length) % l.length)⟩
def repairErr (r : Rg) (most : Int) : Int :=
  if checkN r ≠ 0 then checkN r else if (r.l.length : Int) - gapsOf r.l < 3 ∨ (most < mostTo r.l r.l.length ∧ 0 < mostTo r.l r.l.length) then 30 else 0
def repairN (r : Rg) (most : Int) : List XY := if repairErr r most ≠ 0 then [] else (List.range r.l.length).map (fillN r.l)

set_option maxHeartbeats 4000000 in
theorem repair_pure (r : Rg) (most : Int) (hl : r.l.length ≤ 1000000) : Pure Tryd.prog G0 22 [eRg r, .i most] (.tup [.sl 2 ((repairN r most).map eP), .i (repairErr r most)]) := by
  have hml0 : (r.l.map eRd).length = r.l.length := List.length_map ..
  refine pure_of mixed Tryd.func22 rfl rfl (Nat.le_of_ble_eq_true rfl) ?_
  conv => whnf
  repeat (refine And.intro ?_ ?_; (first | (with_reducible show okR _ _ _ _ = true; kernel_rfl) | (with_reducible show addC _ _ _ = _; kernel_rfl) | rfl | trivial | kernel_rfl | omega | exact Nat.le_of_ble_eq_true rfl | exact lt_len0 rfl | exact lt_len1 rfl); conv => whnf)
  refine callP_of (check_pure r) ?_
  conv => whnf
  repeat (refine And.intro ?_ ?_; (first | (with_reducible show okR _ _ _ _ = true; kernel_rfl) | (with_reducible show addC _ _ _ = _; kernel_rfl) | rfl | trivial | kernel_rfl | omega | exact Nat.le_of_ble_eq_true rfl | exact lt_len0 rfl | exact lt_len1 rfl); conv => whnf)
  refine ifD (fun h1 => ?_) (fun h1 => ?_) <;> try dsimp only at h1
  · have e : repairErr r most = checkN r := by rw [repairErr, if_pos h1]
    have e2 : repairN r most = [] := by rw [repairN, if_pos (by rw [e]; exact h1)]
    conv => whnf
    repeat (refine And.intro ?_ ?_; (first | (with_reducible show okR _ _ _ _ = true; kernel_rfl) | (with_reducible show addC _ _ _ = _; kernel_rfl) | rfl | trivial | kernel_rfl | omega | exact Nat.le_of_ble_eq_true rfl | exact lt_len0 rfl | exact lt_len1 rfl); conv => whnf)
    rw [e, e2]
    exact ⟨rfl, rfl, trivial⟩
  have h1 : checkN r = 0 := by simpa using h1
  have ho := check_okay.1 h1
  have := ho.high
  have hgl := gapsOf_le r.l
  conv => whnf
  repeat (refine And.intro ?_ ?_; (first | (with_reducible show okR _ _ _ _ = true; kernel_rfl) | (with_reducible show addC _ _ _ = _; kernel_rfl) | rfl | trivial | kernel_rfl | omega | exact Nat.le_of_ble_eq_true rfl | exact lt_len0 rfl | exact lt_len1 rfl); conv => whnf)
  refine callP_of (gaps_pure r hl) ?_
  conv => whnf
  repeat (refine And.intro ?_ ?_; (first | (with_reducible show okR _ _ _ _ = true; kernel_rfl) | (with_reducible show addC _ _ _ = _; kernel_rfl) | rfl | trivial | kernel_rfl | omega | exact Nat.le_of_ble_eq_true rfl | exact lt_len0 rfl | exact lt_len1 rfl); conv => whnf)
  refine inI (by omega) (by omega) ?_
  conv => whnf
  repeat (refine And.intro ?_ ?_; (first | (with_reducible show okR _ _ _ _ = true; kernel_rfl) | (with_reducible show addC _ _ _ = _; kernel_rfl) | rfl | trivial | kernel_rfl | omega | exact Nat.le_of_ble_eq_true rfl | exact lt_len0 rfl | exact lt_len1 rfl); conv => whnf)
  have bad : ((r.l.length : Int) - gapsOf r.l < 3 ∨ (most < mostTo r.l r.l.length ∧ 0 < mostTo r.l r.l.length)) → repairErr r most = 30 ∧ repairN r most = [] := fun h => by
    have e : repairErr r most = 30 := by rw [repairErr, if_neg (by omega), if_pos h]
    exact ⟨e, by rw [repairN, if_pos (by rw [e]; omega)]⟩
  refine ifD (fun h2 => ?_) (fun h2 => ?_) <;> try dsimp only at h2
  · rw [hml0] at h2
    obtain ⟨e1, e2⟩ := bad (.inl h2)
    conv => whnf
    repeat (refine And.intro ?_ ?_; (first | (with_reducible show okR _ _ _ _ = true; kernel_rfl) | (with_reducible show addC _ _ _ = _; kernel_rfl) | rfl | trivial | kernel_rfl | omega | exact Nat.le_of_ble_eq_true rfl | exact lt_len0 rfl | exact lt_len1 rfl); conv => whnf)
    rw [e1, e2]
    exact ⟨rfl, rfl, trivial⟩
  rw [hml0] at h2
  conv => whnf
  repeat (refine And.intro ?_ ?_; (first | (with_reducible show okR _ _ _ _ = true; kernel_rfl) | (with_reducible show addC _ _ _ = _; kernel_rfl) | rfl | trivial | kernel_rfl | omega | exact Nat.le_of_ble_eq_true rfl | exact lt_len0 rfl | exact lt_len1 rfl); conv => whnf)
  refine ifD (fun h3 => ?_) (fun h3 => ?_)
  conv => whnf
  refine ifD (fun h4 => ?_) (fun h4 => ?_)
  · try dsimp only at h3 h4
    obtain ⟨e1, e2⟩ := bad (.inr ⟨h3, by omega⟩)
    conv => whnf
    repeat (refine And.intro ?_ ?_; (first | (with_reducible show okR _ _ _ _ = true; kernel_rfl) | (with_reducible show addC _ _ _ = _; kernel_rfl) | rfl | trivial | kernel_rfl | omega | exact Nat.le_of_ble_eq_true rfl | exact lt_len0 rfl | exact lt_len1 rfl); conv => whnf)
    rw [e1, e2]
    exact ⟨rfl, rfl, trivial⟩
  all_goals
    have hno : ¬ (most < mostTo r.l r.l.length ∧ 0 < mostTo r.l r.l.length) := by (try dsimp only at h3) <;> (try dsimp only at h4) <;> omega
    clear h3
    try clear h4
    have e1 : repairErr r most = 0 := by rw [repairErr, if_neg (by omega), if_neg (by omega)]
    have e2 : repairN r most = (List.range r.l.length).map (fillN r.l) := by rw [repairN, if_neg (by omega)]
    rw [e1, e2]
    conv => whnf
    repeat (refine And.intro ?_ ?_; (first | (with_reducible show okR _ _ _ _ = true; kernel_rfl) | (with_reducible show addC _ _ _ = _; kernel_rfl) | rfl | trivial | kernel_rfl | omega | exact Nat.le_of_ble_eq_true rfl | exact lt_len0 rfl | exact lt_len1 rfl); conv => whnf)
    refine loop_weak (weak_nil_slot 10 119 2 rfl) ?_
    refine loop_rule mixed (ι := Nat) (fun k s => [(2, .lptr 2 (s 2) 0 0), (7, .i r.l.length), (10, .lrow 119 (s 119)), (46, .sl 3 (r.l.map eRd)), (47, .i r.l.length), (48, .i k)]) (fun k s => [(2, ⟨s 2, 0, 2, [[.i r.z, .sl 3 (r.l.map eRd)]]⟩), (119, ⟨s 119, 1, 2, ((List.range k).map (fillN r.l)).map eP⟩)]) (fun k => k ≤ r.l.length) (fun k => r.l.length - k) 0 (by omega) (weakTo_cov ?_ ?_) fun k hk s ct => ?_
    · conv => whnf
      repeat (refine And.intro ?_ ?_; (first | exact rfl | exact Or.inl rfl | exact congrArg (SV.int .i64) (by first | rfl | omega | (simp; done) | (simp; omega))); conv => whnf)
      exact trivial
    · conv => whnf
      repeat (refine And.intro ?_ ?_; (first | exact rfl | exact Or.inl rfl | exact congrArg (SV.int .i64) (by first | rfl | omega | (simp; done) | (simp; omega))); conv => whnf)
      exact trivial
    conv => whnf
    repeat (refine And.intro ?_ ?_; (first | (with_reducible show okR _ _ _ _ = true; kernel_rfl) | (with_reducible show addC _ _ _ = _; kernel_rfl) | rfl | trivial | kernel_rfl | omega | exact Nat.le_of_ble_eq_true rfl | exact lt_len0 rfl | exact lt_len1 rfl); conv => whnf)
    refine ifD (fun h5 => ?_) (fun h5 => ?_) <;> try dsimp only at h5
    · have hk' : k < r.l.length := by omega
      have hx := rdAt_get hk'
      conv => whnf
      repeat (refine And.intro ?_ ?_; (first | (with_reducible show okR _ _ _ _ = true; kernel_rfl) | (with_reducible show addC _ _ _ = _; kernel_rfl) | rfl | trivial | kernel_rfl | omega | exact Nat.le_of_ble_eq_true rfl | exact lt_len0 rfl | exact lt_len1 rfl); conv => whnf)
      refine ⟨_, get_map hx, ?_⟩
      conv => whnf
      repeat (refine And.intro ?_ ?_; (first | (with_reducible show okR _ _ _ _ = true; kernel_rfl) | (with_reducible show addC _ _ _ = _; kernel_rfl) | rfl | trivial | kernel_rfl | omega | exact Nat.le_of_ble_eq_true rfl | exact lt_len0 rfl | exact lt_len1 rfl); conv => whnf)
      refine ifB_intro (fun hok => ?_) (fun hok => ?_) <;> try dsimp only at hok
      · have ef : fillN r.l k = (rdAt r.l k).p := by rw [fillN, if_pos hok]
        conv => whnf
        repeat (refine And.intro ?_ ?_; (first | (with_reducible show okR _ _ _ _ = true; kernel_rfl) | (with_reducible show addC _ _ _ = _; kernel_rfl) | rfl | trivial | kernel_rfl | omega | exact Nat.le_of_ble_eq_true rfl | exact lt_len0 rfl | exact lt_len1 rfl); conv => whnf)
        refine And.intro (show (((List.range k).map (fillN r.l) |>.map eP).length + 1) * 16 ≤ 140737488355328 from by simp; omega) ?_
        conv => whnf
        repeat (refine And.intro ?_ ?_; (first | (with_reducible show okR _ _ _ _ = true; kernel_rfl) | (with_reducible show addC _ _ _ = _; kernel_rfl) | rfl | trivial | kernel_rfl | omega | exact Nat.le_of_ble_eq_true rfl | exact lt_len0 rfl | exact lt_len1 rfl); conv => whnf)
        refine inI (by omega) (by omega) ?_
        conv => whnf
        repeat (refine And.intro ?_ ?_; (first | (with_reducible show okR _ _ _ _ = true; kernel_rfl) | (with_reducible show addC _ _ _ = _; kernel_rfl) | rfl | trivial | kernel_rfl | omega | exact Nat.le_of_ble_eq_true rfl | exact lt_len0 rfl | exact lt_len1 rfl); conv => whnf)
        refine ⟨k + 1, by omega, by omega, weakTo_cov ?_ ?_⟩
        · conv => whnf
          repeat (refine And.intro ?_ ?_; (first | exact rfl | exact Or.inl rfl | exact congrArg (SV.int .i64) (by first | rfl | omega | (simp; done) | (simp; omega))); conv => whnf)
          exact trivial
        · conv => whnf
          refine And.intro rfl ?_
          conv => whnf
          refine And.intro ?_ trivial
          rw [List.range_succ, List.map_append, List.map_append, List.map_singleton, List.map_singleton, ef]
          rfl
      · have hgapk : okAt r.l k = false := by rw [okAt_get hx]; exact hok
        have hc := okCount_gaps r.l
        obtain ⟨w, hw1, hw2⟩ := ok_two (l := r.l) (by omega) k
        have ha := nbrN_lt r.l k (-1) hk'
        have hb := nbrN_lt r.l k 1 hk'
        have hne := nbrs_ne hk' hgapk (by omega)
        have hya := rdAt_get ha
        have hyb := rdAt_get hb
        have hsa := ho.small _ (List.mem_of_getElem? hya)
        have hsb := ho.small _ (List.mem_of_getElem? hyb)
        have ef : fillN r.l k = ⟨(rdAt r.l (nbrN r.l k (-1))).p.x + ((rdAt r.l (nbrN r.l k 1)).p.x - (rdAt r.l (nbrN r.l k (-1))).p.x) * (((k : Int) - nbrN r.l k (-1) + r.l.length) % r.l.length) / (((nbrN r.l k 1 : Int) - nbrN r.l k (-1) + r.l.length) % r.l.length), (rdAt r.l (nbrN r.l k (-1))).p.y + ((rdAt r.l (nbrN r.l k 1)).p.y - (rdAt r.l (nbrN r.l k (-1))).p.y) * (((k : Int) - nbrN r.l k (-1) + r.l.length) % r.l.length) / (((nbrN r.l k 1 : Int) - nbrN r.l k (-1) + r.l.length) % r.l.length)⟩ := by rw [fillN, if_neg (by simp [hok])]
        conv => whnf
        repeat (refine And.intro ?_ ?_; (first | (with_reducible show okR _ _ _ _ = true; kernel_rfl) | (with_reducible show addC _ _ _ = _; kernel_rfl) | rfl | trivial | kernel_rfl | omega | exact Nat.le_of_ble_eq_true rfl | exact lt_len0 rfl | exact lt_len1 rfl); conv => whnf)
        refine callP_of (neighbor_pure r k (-1) (.inr rfl) hk' (by omega)) ?_
        conv => whnf
        repeat (refine And.intro ?_ ?_; (first | (with_reducible show okR _ _ _ _ = true; kernel_rfl) | (with_reducible show addC _ _ _ = _; kernel_rfl) | rfl | trivial | kernel_rfl | omega | exact Nat.le_of_ble_eq_true rfl | exact lt_len0 rfl | exact lt_len1 rfl); conv => whnf)
        refine callP_of (neighbor_pure r k 1 (.inl rfl) hk' (by omega)) ?_
        conv => whnf
        repeat (refine And.intro ?_ ?_; (first | (with_reducible show okR _ _ _ _ = true; kernel_rfl) | (with_reducible show addC _ _ _ = _; kernel_rfl) | rfl | trivial | kernel_rfl | omega | exact Nat.le_of_ble_eq_true rfl | exact lt_len0 rfl | exact lt_len1 rfl); conv => whnf)
        generalize ef' : fillN r.l k = fk at ef
        generalize nbrN r.l k (-1) = na at *
        generalize nbrN r.l k 1 = nb at *
        have hd1 : ((k : Int) - na + r.l.length).tmod r.l.length = ((k : Int) - na + r.l.length) % r.l.length := tmod_pos (by omega)
        have hd2 : ((nb : Int) - na + r.l.length).tmod r.l.length = ((nb : Int) - na + r.l.length) % r.l.length := tmod_pos (by omega)
        have hd3 := Int.emod_nonneg ((k : Int) - na + r.l.length) (b := r.l.length) (by omega)
        have hd4 := Int.emod_lt_of_pos ((k : Int) - na + r.l.length) (b := r.l.length) (by omega)
        have hd5 := Int.emod_nonneg ((nb : Int) - na + r.l.length) (b := r.l.length) (by omega)
        have hd6 := Int.emod_lt_of_pos ((nb : Int) - na + r.l.length) (b := r.l.length) (by omega)
        have hd7 : ((nb : Int) - na + r.l.length) % r.l.length ≠ 0 := fun h => by
          rcases Nat.lt_or_ge nb na with g | g
          · rw [Int.emod_eq_of_lt (by omega) (by omega)] at h; omega
          · rw [Int.add_emod_right, Int.emod_eq_of_lt (by omega) (by omega)] at h; omega
        have mulb : ∀ a b : Int, -2000000000 ≤ a → a ≤ 2000000000 → 0 ≤ b → b < r.l.length → -100000000000 ≤ a * b ∧ a * b ≤ 100000000000 := fun a b h1 h2 h3 h4 => by
          have m1 : a * b ≤ 2000000000 * b := Int.mul_le_mul_of_nonneg_right h2 h3
          have m2 : -2000000000 * b ≤ a * b := Int.mul_le_mul_of_nonneg_right h1 h3
          omega
        have divb : ∀ a b : Int, -100000000000 ≤ a → a ≤ 100000000000 → 0 < b → -100000000000 ≤ a / b ∧ a / b ≤ 100000000000 := fun a b h1 h2 h3 => by
          constructor
          · exact (Int.le_ediv_iff_mul_le h3).2 (by omega)
          · rcases Int.lt_or_le a 0 with h | h
            · have := Int.ediv_neg_of_neg_of_pos h h3; omega
            · exact Int.le_trans (Int.ediv_le_self b h) h2
        rw [← hd1] at hd3 hd4
        rw [← hd2] at hd5 hd6 hd7
        rw [← hd1, ← hd2] at ef
        generalize rdAt r.l na = ra at *
        generalize rdAt r.l nb = rb at *
        unfold XY.Small at hsa hsb
        have mx := mulb (rb.p.x - ra.p.x) _ (by omega) (by omega) hd3 hd4
        have my := mulb (rb.p.y - ra.p.y) _ (by omega) (by omega) hd3 hd4
        have dx := divb _ _ mx.1 mx.2 (show 0 < ((nb : Int) - na + r.l.length).tmod r.l.length by omega)
        have dy := divb _ _ my.1 my.2 (show 0 < ((nb : Int) - na + r.l.length).tmod r.l.length by omega)
        refine inI (by omega) (by omega) ?_
        conv => whnf
        repeat (refine And.intro ?_ ?_; (first | (with_reducible show okR _ _ _ _ = true; kernel_rfl) | (with_reducible show addC _ _ _ = _; kernel_rfl) | rfl | trivial | kernel_rfl | omega | exact Nat.le_of_ble_eq_true rfl | exact lt_len0 rfl | exact lt_len1 rfl); conv => whnf)
        refine inI (by omega) (by omega) ?_
        conv => whnf
        repeat (refine And.intro ?_ ?_; (first | (with_reducible show okR _ _ _ _ = true; kernel_rfl) | (with_reducible show addC _ _ _ = _; kernel_rfl) | rfl | trivial | kernel_rfl | omega | exact Nat.le_of_ble_eq_true rfl | exact lt_len0 rfl | exact lt_len1 rfl); conv => whnf)
        refine inI (by omega) (by omega) ?_
        conv => whnf
        repeat (refine And.intro ?_ ?_; (first | (with_reducible show okR _ _ _ _ = true; kernel_rfl) | (with_reducible show addC _ _ _ = _; kernel_rfl) | rfl | trivial | kernel_rfl | omega | exact Nat.le_of_ble_eq_true rfl | exact lt_len0 rfl | exact lt_len1 rfl); conv => whnf)
        refine inI (by omega) (by omega) ?_
        conv => whnf
        repeat (refine And.intro ?_ ?_; (first | (with_reducible show okR _ _ _ _ = true; kernel_rfl) | (with_reducible show addC _ _ _ = _; kernel_rfl) | rfl | trivial | kernel_rfl | omega | exact Nat.le_of_ble_eq_true rfl | exact lt_len0 rfl | exact lt_len1 rfl); conv => whnf)
        refine ⟨_, get_map hya, ?_⟩
        conv => whnf
        repeat (refine And.intro ?_ ?_; (first | (with_reducible show okR _ _ _ _ = true; kernel_rfl) | (with_reducible show addC _ _ _ = _; kernel_rfl) | rfl | trivial | kernel_rfl | omega | exact Nat.le_of_ble_eq_true rfl | exact lt_len0 rfl | exact lt_len1 rfl); conv => whnf)
        refine ⟨_, get_map hyb, ?_⟩
        conv => whnf
        repeat (refine And.intro ?_ ?_; (first | (with_reducible show okR _ _ _ _ = true; kernel_rfl) | (with_reducible show addC _ _ _ = _; kernel_rfl) | rfl | trivial | kernel_rfl | omega | exact Nat.le_of_ble_eq_true rfl | exact lt_len0 rfl | exact lt_len1 rfl); conv => whnf)
        refine inI (by omega) (by omega) ?_
        conv => whnf
        repeat (refine And.intro ?_ ?_; (first | (with_reducible show okR _ _ _ _ = true; kernel_rfl) | (with_reducible show addC _ _ _ = _; kernel_rfl) | rfl | trivial | kernel_rfl | omega | exact Nat.le_of_ble_eq_true rfl | exact lt_len0 rfl | exact lt_len1 rfl); conv => whnf)
        refine inI (by omega) (by omega) ?_
        conv => whnf
        repeat (refine And.intro ?_ ?_; (first | (with_reducible show okR _ _ _ _ = true; kernel_rfl) | (with_reducible show addC _ _ _ = _; kernel_rfl) | rfl | trivial | kernel_rfl | omega | exact Nat.le_of_ble_eq_true rfl | exact lt_len0 rfl | exact lt_len1 rfl); conv => whnf)
        refine callP_le (floor_pure ((rb.p.x - ra.p.x) * ((k : Int) - na + r.l.length).tmod r.l.length) (((nb : Int) - na + r.l.length).tmod r.l.length) (by omega) (by omega) (by omega)) ?_
        conv => whnf
        refine And.intro (leAL_refl _) ?_
        conv => whnf
        repeat (refine And.intro ?_ ?_; (first | (with_reducible show okR _ _ _ _ = true; kernel_rfl) | (with_reducible show addC _ _ _ = _; kernel_rfl) | rfl | trivial | kernel_rfl | omega | exact Nat.le_of_ble_eq_true rfl | exact lt_len0 rfl | exact lt_len1 rfl); conv => whnf)
        refine inI (by omega) (by omega) ?_
        conv => whnf
        repeat (refine And.intro ?_ ?_; (first | (with_reducible show okR _ _ _ _ = true; kernel_rfl) | (with_reducible show addC _ _ _ = _; kernel_rfl) | rfl | trivial | kernel_rfl | omega | exact Nat.le_of_ble_eq_true rfl | exact lt_len0 rfl | exact lt_len1 rfl); conv => whnf)
        refine inI (by omega) (by omega) ?_
        conv => whnf
        repeat (refine And.intro ?_ ?_; (first | (with_reducible show okR _ _ _ _ = true; kernel_rfl) | (with_reducible show addC _ _ _ = _; kernel_rfl) | rfl | trivial | kernel_rfl | omega | exact Nat.le_of_ble_eq_true rfl | exact lt_len0 rfl | exact lt_len1 rfl); conv => whnf)
        refine inI (by omega) (by omega) ?_
        conv => whnf
        repeat (refine And.intro ?_ ?_; (first | (with_reducible show okR _ _ _ _ = true; kernel_rfl) | (with_reducible show addC _ _ _ = _; kernel_rfl) | rfl | trivial | kernel_rfl | omega | exact Nat.le_of_ble_eq_true rfl | exact lt_len0 rfl | exact lt_len1 rfl); conv => whnf)
        refine callP_le (floor_pure ((rb.p.y - ra.p.y) * ((k : Int) - na + r.l.length).tmod r.l.length) (((nb : Int) - na + r.l.length).tmod r.l.length) (by omega) (by omega) (by omega)) ?_
        conv => whnf
        refine And.intro (leAL_refl _) ?_
        conv => whnf
        repeat (refine And.intro ?_ ?_; (first | (with_reducible show okR _ _ _ _ = true; kernel_rfl) | (with_reducible show addC _ _ _ = _; kernel_rfl) | rfl | trivial | kernel_rfl | omega | exact Nat.le_of_ble_eq_true rfl | exact lt_len0 rfl | exact lt_len1 rfl); conv => whnf)
        refine inI (by omega) (by omega) ?_
        conv => whnf
        refine And.intro (by kernel_rfl) ?_
        conv => whnf
        refine And.intro (by kernel_rfl) ?_
        conv => whnf
        refine And.intro (by kernel_rfl) ?_
        conv => whnf
        refine And.intro (by exact Nat.le_of_ble_eq_true rfl) ?_
        conv => whnf
        refine And.intro (by exact Nat.le_of_ble_eq_true rfl) ?_
        conv => whnf
        refine And.intro (by kernel_rfl) ?_
        conv => whnf
        refine And.intro (by kernel_rfl) ?_
        conv => whnf
        refine And.intro (by with_reducible show addC _ _ _ = _; kernel_rfl) ?_
        conv => whnf
        refine And.intro (by rfl) ?_
        conv => whnf
        refine And.intro (by rfl) ?_
        conv => whnf
        refine And.intro (by rfl) ?_
        conv => whnf
        refine And.intro (show (((List.range k).map (fillN r.l) |>.map eP).length + 1) * 16 ≤ 140737488355328 from by simp; omega) ?_
        conv => whnf
        refine And.intro (by kernel_rfl) ?_
        conv => whnf
        refine inI (by omega) (by omega) ?_
        conv => whnf
        refine ⟨k + 1, by omega, by omega, weakTo_cov ?_ ?_⟩
        · conv => whnf
          repeat (refine And.intro ?_ ?_; (first | exact rfl | exact Or.inl rfl | exact congrArg (SV.int .i64) (by first | rfl | omega | (simp; done) | (simp; omega))); conv => whnf)
          exact trivial
        · conv => whnf
          have key : ((List.range (k + 1)).map (fillN r.l)).map eP = ((List.range k).map (fillN r.l)).map eP ++ [[.i (ra.p.x + (rb.p.x - ra.p.x) * ((k : Int) - na + r.l.length).tmod r.l.length / ((nb : Int) - na + r.l.length).tmod r.l.length), .i (ra.p.y + (rb.p.y - ra.p.y) * ((k : Int) - na + r.l.length).tmod r.l.length / ((nb : Int) - na + r.l.length).tmod r.l.length)]] := by
            rw [List.range_succ, List.map_append, List.map_append, List.map_singleton, List.map_singleton, ef', ef]
            rfl
          refine And.intro (by kernel_rfl) ?_
          conv => whnf
          refine And.intro ?_ trivial
          refine Eq.trans (b := some (Ob.mk (ct 119) 1 2 (((List.range k).map (fillN r.l)).map eP ++ [[.i (ra.p.x + (rb.p.x - ra.p.x) * ((k : Int) - na + r.l.length).tmod r.l.length / ((nb : Int) - na + r.l.length).tmod r.l.length), .i (ra.p.y + (rb.p.y - ra.p.y) * ((k : Int) - na + r.l.length).tmod r.l.length / ((nb : Int) - na + r.l.length).tmod r.l.length)]]))) (by kernel_rfl) ?_
          refine Eq.trans (congrArg (fun l => some (Ob.mk (ct 119) 1 2 l)) key.symm) (by kernel_rfl)
    · have hk : k = r.l.length := by omega
      subst hk
      conv => whnf
      repeat (refine And.intro ?_ ?_; (first | (with_reducible show okR _ _ _ _ = true; kernel_rfl) | (with_reducible show addC _ _ _ = _; kernel_rfl) | rfl | trivial | kernel_rfl | omega | exact Nat.le_of_ble_eq_true rfl | exact lt_len0 rfl | exact lt_len1 rfl); conv => whnf)
      exact trivial
end Go.Proofs.YtilepdoijdeohaaDoor.Am
