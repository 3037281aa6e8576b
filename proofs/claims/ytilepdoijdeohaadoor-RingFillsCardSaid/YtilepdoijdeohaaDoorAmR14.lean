/- The contract of the reference's cleaning of a ring. No condition: definitions and lemmas. -/
import Derived.Test.YtilepdoijdeohaaDoorAmR13
namespace Go.Proofs.YtilepdoijdeohaaDoor.Am
open Go
set_option maxRecDepth 100000

theorem clean_self (r : Rg) (limit : Int) (h : ∀ i, i < r.l.length → (!refusedN r limit && outN r.l i limit) = false) : cleanN r limit = r := by
  have e : (List.range r.l.length).map (clean1N r (refusedN r limit) limit) = (List.range r.l.length).map (rdAt r.l) := by
    apply List.map_congr_left
    intro i hi
    rw [clean1N, if_neg (by rw [h i (by simpa using hi)]; simp)]
  rw [cleanN, e, map_rdAt]

theorem refclean_pure (r : Rg) (limit : Int) (hl : r.l.length ≤ 1000000) : Pure Tryd.prog G0 17 [eRg r, .i limit] (eRg (cleanN r limit)) := by
  have hg := gapsOf_le r.l
  have hml0 : (r.l.map eRd).length = r.l.length := List.length_map ..
  refine pure_of mixed Tryd.func17 rfl rfl (Nat.le_of_ble_eq_true rfl) ?_
  conv => whnf
  repeat (refine And.intro ?_ ?_; (first | (with_reducible show okR _ _ _ _ = true; kernel_rfl) | (with_reducible show addC _ _ _ = _; kernel_rfl) | rfl | trivial | kernel_rfl | omega | exact Nat.le_of_ble_eq_true rfl | exact lt_len0 rfl | exact lt_len1 rfl); conv => whnf)
  refine callP_of (refgaps_pure r hl) ?_
  conv => whnf
  repeat (refine And.intro ?_ ?_; (first | (with_reducible show okR _ _ _ _ = true; kernel_rfl) | (with_reducible show addC _ _ _ = _; kernel_rfl) | rfl | trivial | kernel_rfl | omega | exact Nat.le_of_ble_eq_true rfl | exact lt_len0 rfl | exact lt_len1 rfl); conv => whnf)
  refine callF_of (copied_fresh r hl) ?_
  conv => whnf
  repeat (refine And.intro ?_ ?_; (first | (with_reducible show okR _ _ _ _ = true; kernel_rfl) | (with_reducible show addC _ _ _ = _; kernel_rfl) | rfl | trivial | kernel_rfl | omega | exact Nat.le_of_ble_eq_true rfl | exact lt_len0 rfl | exact lt_len1 rfl); conv => whnf)
  refine ifD (fun h1 => ?_) (fun h1 => ?_) <;> try dsimp only at h1
  · have e : cleanN r limit = r := clean_self r limit fun i _ => by simp [refusedN, h1]
    rw [e]
    conv => whnf
    repeat (refine And.intro ?_ ?_; (first | (with_reducible show okR _ _ _ _ = true; kernel_rfl) | (with_reducible show addC _ _ _ = _; kernel_rfl) | rfl | trivial | kernel_rfl | omega | exact Nat.le_of_ble_eq_true rfl | exact lt_len0 rfl | exact lt_len1 rfl); conv => whnf)
    exact trivial
  conv => whnf
  repeat (refine And.intro ?_ ?_; (first | (with_reducible show okR _ _ _ _ = true; kernel_rfl) | (with_reducible show addC _ _ _ = _; kernel_rfl) | rfl | trivial | kernel_rfl | omega | exact Nat.le_of_ble_eq_true rfl | exact lt_len0 rfl | exact lt_len1 rfl); conv => whnf)
  refine inI (by omega) (by omega) ?_
  conv => whnf
  repeat (refine And.intro ?_ ?_; (first | (with_reducible show okR _ _ _ _ = true; kernel_rfl) | (with_reducible show addC _ _ _ = _; kernel_rfl) | rfl | trivial | kernel_rfl | omega | exact Nat.le_of_ble_eq_true rfl | exact lt_len0 rfl | exact lt_len1 rfl); conv => whnf)
  refine ifD (fun h2 => ?_) (fun h2 => ?_) <;> try dsimp only at h2
  · have e : cleanN r limit = r := clean_self r limit fun i hi => by
      rw [few_out hi limit (by rw [List.length_map] at h2; omega)]
      simp
    rw [e]
    conv => whnf
    repeat (refine And.intro ?_ ?_; (first | (with_reducible show okR _ _ _ _ = true; kernel_rfl) | (with_reducible show addC _ _ _ = _; kernel_rfl) | rfl | trivial | kernel_rfl | omega | exact Nat.le_of_ble_eq_true rfl | exact lt_len0 rfl | exact lt_len1 rfl); conv => whnf)
    exact trivial
  rw [List.length_map] at h2
  conv => whnf
  repeat (refine And.intro ?_ ?_; (first | (with_reducible show okR _ _ _ _ = true; kernel_rfl) | (with_reducible show addC _ _ _ = _; kernel_rfl) | rfl | trivial | kernel_rfl | omega | exact Nat.le_of_ble_eq_true rfl | exact lt_len0 rfl | exact lt_len1 rfl); conv => whnf)
  refine callP_of (refcheck_pure r) ?_
  conv => whnf
  repeat (refine And.intro ?_ ?_; (first | (with_reducible show okR _ _ _ _ = true; kernel_rfl) | (with_reducible show addC _ _ _ = _; kernel_rfl) | rfl | trivial | kernel_rfl | omega | exact Nat.le_of_ble_eq_true rfl | exact lt_len0 rfl | exact lt_len1 rfl); conv => whnf)
  refine ifD (fun h3 => ?_) (fun h3 => ?_) <;> try dsimp only at h3
  · have e : cleanN r limit = r := clean_self r limit fun i _ => by simp [refusedN, h3]
    rw [e]
    conv => whnf
    repeat (refine And.intro ?_ ?_; (first | (with_reducible show okR _ _ _ _ = true; kernel_rfl) | (with_reducible show addC _ _ _ = _; kernel_rfl) | rfl | trivial | kernel_rfl | omega | exact Nat.le_of_ble_eq_true rfl | exact lt_len0 rfl | exact lt_len1 rfl); conv => whnf)
    exact trivial
  have h3 : checkN r = 0 := by simpa using h3
  have ho := check_okay.1 h3
  have := ho.high
  have hr : refusedN r limit = false := by simp [refusedN, h3]; omega
  conv => whnf
  repeat (refine And.intro ?_ ?_; (first | (with_reducible show okR _ _ _ _ = true; kernel_rfl) | (with_reducible show addC _ _ _ = _; kernel_rfl) | rfl | trivial | kernel_rfl | omega | exact Nat.le_of_ble_eq_true rfl | exact lt_len0 rfl | exact lt_len1 rfl); conv => whnf)
  refine loop_rule mixed (ι := Nat) (fun k s => [(1, .i limit), (2, .lptr 2 (s 2) 0 0), (4, .lptr 4 (s 4) 0 0), (7, .lptr 7 (s 7) 0 0), (8, .i k)]) (fun k s => [(2, ⟨s 2, 0, 2, [[.i r.z, .sl 3 (r.l.map eRd)]]⟩), (4, ⟨s 4, 0, 2, [[.i 0, .nils]]⟩), (7, ⟨s 7, 0, 2, [[.i r.z, .lrow 17 (s 17)]]⟩), (17, ⟨s 17, 1, 3, (mixN (clean1N r false limit) r.l k).map eRd⟩)]) (fun k => k ≤ r.l.length) (fun k => r.l.length - k) 0 (by omega) (weakTo_cov ?_ ?_) fun k hk s ct => ?_
  · conv => whnf
    repeat (refine And.intro ?_ ?_; (first | exact rfl | exact Or.inl rfl | exact congrArg (SV.int .i64) (by first | rfl | omega | (simp; done) | (simp; omega))); conv => whnf)
    exact trivial
  · conv => whnf
    repeat (refine And.intro ?_ ?_; (first | exact rfl | exact Or.inl rfl | exact congrArg (SV.int .i64) (by first | rfl | omega | (simp; done) | (simp; omega)) | exact congrArg (SV.int .i64) ((by rw [mix_zero] : r.l.map eRd = (mixN (clean1N r false limit) r.l 0).map eRd)) | exact congrArg (fun l => some (Ob.mk _ 1 _ l)) ((by rw [mix_zero] : r.l.map eRd = (mixN (clean1N r false limit) r.l 0).map eRd)) | exact ((by rw [mix_zero] : r.l.map eRd = (mixN (clean1N r false limit) r.l 0).map eRd))); conv => whnf)
    exact trivial
  have hml : ((mixN (clean1N r false limit) r.l k).map eRd).length = r.l.length := by rw [List.length_map, mix_len hk]
  conv => whnf
  repeat (refine And.intro ?_ ?_; (first | (with_reducible show okR _ _ _ _ = true; kernel_rfl) | (with_reducible show addC _ _ _ = _; kernel_rfl) | rfl | trivial | kernel_rfl | omega | exact Nat.le_of_ble_eq_true rfl | exact lt_len0 rfl | exact lt_len1 rfl); conv => whnf)
  refine ifD (fun h5 => ?_) (fun h5 => ?_) <;> try dsimp only at h5
  · have hlt : k < r.l.length := by omega
    have hx := rdAt_get hlt
    have hs := ho.small _ (List.mem_of_getElem? hx)
    have hf : clean1N r false limit k = if ((rdAt r.l k).ok && (outStep r.l k limit (-1) && outStep r.l k limit 1)) = true then gapN else rdAt r.l k := rfl
    have hok0 := okAt_get hx
    cases hok : (rdAt r.l k).ok with
    | false =>
      have hsame := mix_same (f := clean1N r false limit) hx (by rw [hf, hok]; rfl)
      conv => whnf
      repeat (refine And.intro ?_ ?_; (first | (with_reducible show okR _ _ _ _ = true; kernel_rfl) | (with_reducible show addC _ _ _ = _; kernel_rfl) | rfl | trivial | kernel_rfl | omega | exact Nat.le_of_ble_eq_true rfl | exact lt_len0 rfl | exact lt_len1 rfl); conv => whnf)
      refine ⟨_, get_map hx, ?_⟩
      conv => whnf
      repeat (refine And.intro ?_ ?_; (first | (with_reducible show okR _ _ _ _ = true; kernel_rfl) | (with_reducible show addC _ _ _ = _; kernel_rfl) | rfl | trivial | kernel_rfl | omega | exact Nat.le_of_ble_eq_true rfl | exact lt_len0 rfl | exact lt_len1 rfl); conv => whnf)
      refine ifB_intro (fun hq => ?_) (fun hq => ?_) <;> try dsimp only at hq
      · conv => whnf
        repeat (refine And.intro ?_ ?_; (first | (with_reducible show okR _ _ _ _ = true; kernel_rfl) | (with_reducible show addC _ _ _ = _; kernel_rfl) | rfl | trivial | kernel_rfl | omega | exact Nat.le_of_ble_eq_true rfl | exact lt_len0 rfl | exact lt_len1 rfl); conv => whnf)
        refine inI (by omega) (by omega) ?_
        conv => whnf
        repeat (refine And.intro ?_ ?_; (first | (with_reducible show okR _ _ _ _ = true; kernel_rfl) | (with_reducible show addC _ _ _ = _; kernel_rfl) | rfl | trivial | kernel_rfl | omega | exact Nat.le_of_ble_eq_true rfl | exact lt_len0 rfl | exact lt_len1 rfl); conv => whnf)
        refine ⟨k + 1, by omega, by omega, weakTo_cov ?_ ?_⟩
        · conv => whnf
          repeat (refine And.intro ?_ ?_; (first | exact rfl | exact Or.inl rfl | exact congrArg (SV.int .i64) (by first | rfl | omega | (simp; done) | (simp; omega))); conv => whnf)
          exact trivial
        · conv => whnf
          repeat (refine And.intro ?_ ?_; (first | exact rfl | exact Or.inl rfl | exact congrArg (SV.int .i64) (by first | rfl | omega | (simp; done) | (simp; omega)) | exact congrArg (SV.int .i64) ((by rw [hsame] : (mixN (clean1N r false limit) r.l k).map eRd = (mixN (clean1N r false limit) r.l (k + 1)).map eRd)) | exact congrArg (fun l => some (Ob.mk _ 1 _ l)) ((by rw [hsame] : (mixN (clean1N r false limit) r.l k).map eRd = (mixN (clean1N r false limit) r.l (k + 1)).map eRd)) | exact ((by rw [hsame] : (mixN (clean1N r false limit) r.l k).map eRd = (mixN (clean1N r false limit) r.l (k + 1)).map eRd))); conv => whnf)
          exact trivial
      · rw [hok] at hq
        cases hq
    | true =>
      rw [hok] at hok0
      have ht : ∃ i, i ≠ k ∧ okAt r.l i = true := ok_two (by have := okCount_gaps r.l; omega) k
      obtain ⟨i2, hi2, hi3⟩ := ht
      have ha := rdAt_get (nbrN_lt r.l k (-1) hlt)
      have hb := rdAt_get (nbrN_lt r.l k 1 hlt)
      have has := ho.small _ (List.mem_of_getElem? ha)
      have hbs := ho.small _ (List.mem_of_getElem? hb)
      conv => whnf
      repeat (refine And.intro ?_ ?_; (first | (with_reducible show okR _ _ _ _ = true; kernel_rfl) | (with_reducible show addC _ _ _ = _; kernel_rfl) | rfl | trivial | kernel_rfl | omega | exact Nat.le_of_ble_eq_true rfl | exact lt_len0 rfl | exact lt_len1 rfl); conv => whnf)
      refine ⟨_, get_map hx, ?_⟩
      conv => whnf
      repeat (refine And.intro ?_ ?_; (first | (with_reducible show okR _ _ _ _ = true; kernel_rfl) | (with_reducible show addC _ _ _ = _; kernel_rfl) | rfl | trivial | kernel_rfl | omega | exact Nat.le_of_ble_eq_true rfl | exact lt_len0 rfl | exact lt_len1 rfl); conv => whnf)
      refine ifB_intro (fun hq => ?_) (fun hq => ?_) <;> try dsimp only at hq
      · rw [hok] at hq
        cases hq
      conv => whnf
      repeat (refine And.intro ?_ ?_; (first | (with_reducible show okR _ _ _ _ = true; kernel_rfl) | (with_reducible show addC _ _ _ = _; kernel_rfl) | rfl | trivial | kernel_rfl | omega | exact Nat.le_of_ble_eq_true rfl | exact lt_len0 rfl | exact lt_len1 rfl); conv => whnf)
      refine callP_of (next_pure r.l k (-1) (.inr rfl) hlt hok0 (by omega)) ?_
      conv => whnf
      repeat (refine And.intro ?_ ?_; (first | (with_reducible show okR _ _ _ _ = true; kernel_rfl) | (with_reducible show addC _ _ _ = _; kernel_rfl) | rfl | trivial | kernel_rfl | omega | exact Nat.le_of_ble_eq_true rfl | exact lt_len0 rfl | exact lt_len1 rfl); conv => whnf)
      refine ⟨_, get_map ha, ?_⟩
      conv => whnf
      repeat (refine And.intro ?_ ?_; (first | (with_reducible show okR _ _ _ _ = true; kernel_rfl) | (with_reducible show addC _ _ _ = _; kernel_rfl) | rfl | trivial | kernel_rfl | omega | exact Nat.le_of_ble_eq_true rfl | exact lt_len0 rfl | exact lt_len1 rfl); conv => whnf)
      refine callP_of (next_pure r.l k 1 (.inl rfl) hlt hok0 (by omega)) ?_
      conv => whnf
      repeat (refine And.intro ?_ ?_; (first | (with_reducible show okR _ _ _ _ = true; kernel_rfl) | (with_reducible show addC _ _ _ = _; kernel_rfl) | rfl | trivial | kernel_rfl | omega | exact Nat.le_of_ble_eq_true rfl | exact lt_len0 rfl | exact lt_len1 rfl); conv => whnf)
      refine ⟨_, get_map hb, ?_⟩
      conv => whnf
      repeat (refine And.intro ?_ ?_; (first | (with_reducible show okR _ _ _ _ = true; kernel_rfl) | (with_reducible show addC _ _ _ = _; kernel_rfl) | rfl | trivial | kernel_rfl | omega | exact Nat.le_of_ble_eq_true rfl | exact lt_len0 rfl | exact lt_len1 rfl); conv => whnf)
      refine ⟨_, get_map hx, ?_⟩
      conv => whnf
      repeat (refine And.intro ?_ ?_; (first | (with_reducible show okR _ _ _ _ = true; kernel_rfl) | (with_reducible show addC _ _ _ = _; kernel_rfl) | rfl | trivial | kernel_rfl | omega | exact Nat.le_of_ble_eq_true rfl | exact lt_len0 rfl | exact lt_len1 rfl); conv => whnf)
      have n1 := nbrN_other (step := -1) (.inr rfl) hlt hi3 hi2
      have n2 := nbrN_other (step := 1) (.inl rfl) hlt hi3 hi2
      have o1 : outStep r.l k limit (-1) = apartN (rdAt r.l k).p (rdAt r.l (nbrN r.l k (-1))).p limit := by simp [outStep, n1]
      have o2 : outStep r.l k limit 1 = apartN (rdAt r.l k).p (rdAt r.l (nbrN r.l k 1)).p limit := by simp [outStep, n2]
      rw [hok, o1, o2, Bool.true_and] at hf
      refine callP_of (refapart_pure (rdAt r.l k).p (rdAt r.l (nbrN r.l k (-1))).p hs has limit) ?_
      conv => whnf
      repeat (refine And.intro ?_ ?_; (first | (with_reducible show okR _ _ _ _ = true; kernel_rfl) | (with_reducible show addC _ _ _ = _; kernel_rfl) | rfl | trivial | kernel_rfl | omega | exact Nat.le_of_ble_eq_true rfl | exact lt_len0 rfl | exact lt_len1 rfl); conv => whnf)
      refine ifB_intro (fun q1 => ?_) (fun q1 => ?_) <;> try dsimp only at q1
      · conv => whnf
        repeat (refine And.intro ?_ ?_; (first | (with_reducible show okR _ _ _ _ = true; kernel_rfl) | (with_reducible show addC _ _ _ = _; kernel_rfl) | rfl | trivial | kernel_rfl | omega | exact Nat.le_of_ble_eq_true rfl | exact lt_len0 rfl | exact lt_len1 rfl); conv => whnf)
        refine ⟨_, get_map hx, ?_⟩
        conv => whnf
        repeat (refine And.intro ?_ ?_; (first | (with_reducible show okR _ _ _ _ = true; kernel_rfl) | (with_reducible show addC _ _ _ = _; kernel_rfl) | rfl | trivial | kernel_rfl | omega | exact Nat.le_of_ble_eq_true rfl | exact lt_len0 rfl | exact lt_len1 rfl); conv => whnf)
        refine callP_of (refapart_pure (rdAt r.l k).p (rdAt r.l (nbrN r.l k 1)).p hs hbs limit) ?_
        conv => whnf
        repeat (refine And.intro ?_ ?_; (first | (with_reducible show okR _ _ _ _ = true; kernel_rfl) | (with_reducible show addC _ _ _ = _; kernel_rfl) | rfl | trivial | kernel_rfl | omega | exact Nat.le_of_ble_eq_true rfl | exact lt_len0 rfl | exact lt_len1 rfl); conv => whnf)
        refine ifB_intro (fun q2 => ?_) (fun q2 => ?_) <;> try dsimp only at q2
        · conv => whnf
          repeat (refine And.intro ?_ ?_; (first | (with_reducible show okR _ _ _ _ = true; kernel_rfl) | (with_reducible show addC _ _ _ = _; kernel_rfl) | rfl | trivial | kernel_rfl | omega | exact Nat.le_of_ble_eq_true rfl | exact lt_len0 rfl | exact lt_len1 rfl); conv => whnf)
          refine ⟨_, get_map (mix_get (f := clean1N r false limit) hx), ?_⟩
          conv => whnf
          repeat (refine And.intro ?_ ?_; (first | (with_reducible show okR _ _ _ _ = true; kernel_rfl) | (with_reducible show addC _ _ _ = _; kernel_rfl) | rfl | trivial | kernel_rfl | omega | exact Nat.le_of_ble_eq_true rfl | exact lt_len0 rfl | exact lt_len1 rfl); conv => whnf)
          refine inI (by omega) (by omega) ?_
          conv => whnf
          repeat (refine And.intro ?_ ?_; (first | (with_reducible show okR _ _ _ _ = true; kernel_rfl) | (with_reducible show addC _ _ _ = _; kernel_rfl) | rfl | trivial | kernel_rfl | omega | exact Nat.le_of_ble_eq_true rfl | exact lt_len0 rfl | exact lt_len1 rfl); conv => whnf)
          refine ⟨k + 1, by omega, by omega, weakTo_cov ?_ ?_⟩
          · conv => whnf
            repeat (refine And.intro ?_ ?_; (first | exact rfl | exact Or.inl rfl | exact congrArg (SV.int .i64) (by first | rfl | omega | (simp; done) | (simp; omega))); conv => whnf)
            exact trivial
          · conv => whnf
            repeat (refine And.intro ?_ ?_; (first | exact rfl | exact Or.inl rfl | exact congrArg (SV.int .i64) (by first | rfl | omega | (simp; done) | (simp; omega)) | exact congrArg (SV.int .i64) (mix_set eRd hx (show eRd gapN = eRd (clean1N r false limit k) by rw [hf, q1, q2]; rfl)) | exact congrArg (fun l => some (Ob.mk _ 1 _ l)) (mix_set eRd hx (show eRd gapN = eRd (clean1N r false limit k) by rw [hf, q1, q2]; rfl)) | exact (mix_set eRd hx (show eRd gapN = eRd (clean1N r false limit k) by rw [hf, q1, q2]; rfl))); conv => whnf)
            exact trivial
        · have hsame := mix_same (f := clean1N r false limit) hx (by rw [hf, q1, q2]; rfl)
          conv => whnf
          repeat (refine And.intro ?_ ?_; (first | (with_reducible show okR _ _ _ _ = true; kernel_rfl) | (with_reducible show addC _ _ _ = _; kernel_rfl) | rfl | trivial | kernel_rfl | omega | exact Nat.le_of_ble_eq_true rfl | exact lt_len0 rfl | exact lt_len1 rfl); conv => whnf)
          refine inI (by omega) (by omega) ?_
          conv => whnf
          repeat (refine And.intro ?_ ?_; (first | (with_reducible show okR _ _ _ _ = true; kernel_rfl) | (with_reducible show addC _ _ _ = _; kernel_rfl) | rfl | trivial | kernel_rfl | omega | exact Nat.le_of_ble_eq_true rfl | exact lt_len0 rfl | exact lt_len1 rfl); conv => whnf)
          refine ⟨k + 1, by omega, by omega, weakTo_cov ?_ ?_⟩
          · conv => whnf
            repeat (refine And.intro ?_ ?_; (first | exact rfl | exact Or.inl rfl | exact congrArg (SV.int .i64) (by first | rfl | omega | (simp; done) | (simp; omega))); conv => whnf)
            exact trivial
          · conv => whnf
            repeat (refine And.intro ?_ ?_; (first | exact rfl | exact Or.inl rfl | exact congrArg (SV.int .i64) (by first | rfl | omega | (simp; done) | (simp; omega)) | exact congrArg (SV.int .i64) ((by rw [hsame] : (mixN (clean1N r false limit) r.l k).map eRd = (mixN (clean1N r false limit) r.l (k + 1)).map eRd)) | exact congrArg (fun l => some (Ob.mk _ 1 _ l)) ((by rw [hsame] : (mixN (clean1N r false limit) r.l k).map eRd = (mixN (clean1N r false limit) r.l (k + 1)).map eRd)) | exact ((by rw [hsame] : (mixN (clean1N r false limit) r.l k).map eRd = (mixN (clean1N r false limit) r.l (k + 1)).map eRd))); conv => whnf)
            exact trivial
      · have hsame := mix_same (f := clean1N r false limit) hx (by rw [hf, q1]; rfl)
        conv => whnf
        repeat (refine And.intro ?_ ?_; (first | (with_reducible show okR _ _ _ _ = true; kernel_rfl) | (with_reducible show addC _ _ _ = _; kernel_rfl) | rfl | trivial | kernel_rfl | omega | exact Nat.le_of_ble_eq_true rfl | exact lt_len0 rfl | exact lt_len1 rfl); conv => whnf)
        refine inI (by omega) (by omega) ?_
        conv => whnf
        repeat (refine And.intro ?_ ?_; (first | (with_reducible show okR _ _ _ _ = true; kernel_rfl) | (with_reducible show addC _ _ _ = _; kernel_rfl) | rfl | trivial | kernel_rfl | omega | exact Nat.le_of_ble_eq_true rfl | exact lt_len0 rfl | exact lt_len1 rfl); conv => whnf)
        refine ⟨k + 1, by omega, by omega, weakTo_cov ?_ ?_⟩
        · conv => whnf
          repeat (refine And.intro ?_ ?_; (first | exact rfl | exact Or.inl rfl | exact congrArg (SV.int .i64) (by first | rfl | omega | (simp; done) | (simp; omega))); conv => whnf)
          exact trivial
        · conv => whnf
          repeat (refine And.intro ?_ ?_; (first | exact rfl | exact Or.inl rfl | exact congrArg (SV.int .i64) (by first | rfl | omega | (simp; done) | (simp; omega)) | exact congrArg (SV.int .i64) ((by rw [hsame] : (mixN (clean1N r false limit) r.l k).map eRd = (mixN (clean1N r false limit) r.l (k + 1)).map eRd)) | exact congrArg (fun l => some (Ob.mk _ 1 _ l)) ((by rw [hsame] : (mixN (clean1N r false limit) r.l k).map eRd = (mixN (clean1N r false limit) r.l (k + 1)).map eRd)) | exact ((by rw [hsame] : (mixN (clean1N r false limit) r.l k).map eRd = (mixN (clean1N r false limit) r.l (k + 1)).map eRd))); conv => whnf)
          exact trivial
  · have hk : k = r.l.length := by omega
    subst hk
    conv => whnf
    repeat (refine And.intro ?_ ?_; (first | (with_reducible show okR _ _ _ _ = true; kernel_rfl) | (with_reducible show addC _ _ _ = _; kernel_rfl) | rfl | trivial | kernel_rfl | omega | exact Nat.le_of_ble_eq_true rfl | exact lt_len0 rfl | exact lt_len1 rfl); conv => whnf)
    rw [mix_full, cleanN, hr]
    exact ⟨⟨rfl, rfl⟩, trivial⟩
end Go.Proofs.YtilepdoijdeohaaDoor.Am
