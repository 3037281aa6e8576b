/- slices.Backward's iterator. No condition: definitions and lemmas. -/
import Derived.Test.YticandbdabgkeaaAmP13
namespace Go.Proofs.Yticandbdabgkeaa.Am
open Go
set_option maxRecDepth 100000

theorem backward_pure (l : List XY) : Pure Try.prog G0 39 [.sl 2 (l.map eP)] (.fn 59 [.ptr [.sl 2 (l.map eP)]]) := by
  refine pure_of mixed Try.func39 rfl rfl (Nat.le_of_ble_eq_true rfl) ?_
  conv => whnf
  repeat (refine And.intro ?_ ?_; (first | (with_reducible show okR _ _ _ _ = true; kernel_rfl) | (with_reducible show addC _ _ _ = _; kernel_rfl) | rfl | trivial | kernel_rfl | omega | exact Nat.le_of_ble_eq_true rfl | exact lt_len0 rfl | exact lt_len1 rfl); conv => whnf)
  exact rfl

section
variable {J : Nat → World → Prop}

/-- What a round of the loop over the iterator gets: the element's number, the element. -/
def ptV (p : XY) : Value := .agg #[.int .i64 p.x, .int .i64 p.y]

theorem backIter (l : List XY) (hl : l.length ≤ 1000000) (D : Rom) (pv : Value) (lp : Nat) (J : Nat → World → Prop)
    (hD : ∀ k W, J k W → ∀ b o, D.heap b = some o → W.heap[b]? = some o) (hp : PRel D (.ptr [.sl 2 (l.map eP)]) pv)
    (hext : ∀ k W W', J k W → Ext W W' → J k W')
    (hround : ∀ k p W, l[k]? = some p → J (k + 1) W → ∃ fn tmps assign body, (Instr.yield lp #[.int .i64 (k : Int), ptV p]).run Try.prog W = .ok (.round lp fn tmps assign body) W ∧
      RoundIn Fence.wide 0 Try.prog lp fn tmps assign body W fun e W' => e = .returned (.bool true) ∧ J k W')
    (W : World) (h0 : J l.length W) :
    Calls Try.prog 59 #[.func (.yield lp) #[] #[], pv] W fun e W' => (∃ v, e = .returned v) ∧ J 0 W' := by
  have hF : ∀ f, Fence.wide.fn f := fun _ => trivial
  have simOf : ∀ (w : World) (a : Act) (m : List (Nat × SV)), a.tmps.size = 19 → (∀ p ∈ m, Rel (Env.bare (fullD w)) p.2 (a.tmps.getD p.1 undef)) →
      Sim G0 (Env.bare (fullD w)) (fun _ => none) 19 ⟨fullD w, fun _ _ => none, fun _ => none, fun _ => 0⟩ (mkS m) ⟨a.tmps, []⟩ w := fun w a m hsz hm =>
    ⟨Env.le.refl _, full_mem w, hsz, rfl, rel_mkS hm⟩
  have ptrOf : ∀ k w, J k w → Rel (Env.bare (fullD w)) (.ptr [.sl 2 (l.map eP)]) pv := fun k w hj => Rel.of0 (Rel0.of_pure (PRel.heap (D' := fullD w) (fun b o h => hD k w hj b o h) hp))
  have intOf : ∀ (w : World) (n : Int), Rel (Env.bare (fullD w)) (.i n) (.int .i64 n) := fun w n => Rel.of0 (Rel0.of_pure (.int _ _))
  refine calls_of_wp Try.func59 rfl ?_
  obtain ⟨a0, ha0⟩ : ∃ a0 : Act, a0 = { tmps := [Value.func (.yield lp) #[] #[], pv].toArray ++ Array.replicate (19 - [Value.func (.yield lp) #[] #[], pv].toArray.size) undef, defers := [] } := ⟨_, rfl⟩
  have hsz0 : a0.tmps.size = 19 := by rw [ha0]; exact enter_size _ 19 (Nat.le_of_ble_eq_true rfl)
  have hd0 : a0.defers = [] := by rw [ha0]
  have h00 : a0.tmps.getD 0 undef = .func (.yield lp) #[] #[] := by rw [ha0]; exact enter_get _ 19 0
  have h01 : a0.tmps.getD 1 undef = pv := by rw [ha0]; exact enter_get _ 19 1
  show Code.wp Try.prog _ _ { tmps := [Value.func (.yield lp) #[] #[], pv].toArray ++ Array.replicate (19 - [Value.func (.yield lp) #[] #[], pv].toArray.size) undef, defers := [] } W
  rw [← ha0]
  clear ha0
  refine (wpIn_wide (n := 0)).1 (wpIn_seq ?_)
  refine region_in hF [0, 1] (fun sl _ _ => sl 3 = .i ((l.length : Int) - 1)) (simOf W a0 [(1, .ptr [.sl 2 (l.map eP)])] hsz0 (by simp only [List.mem_singleton]; rintro p rfl; rw [h01]; exact ptrOf _ W h0)) rfl ?_ ?_
  · conv => whnf
    repeat (refine And.intro ?_ ?_; (first | (with_reducible show okR _ _ _ _ = true; kernel_rfl) | (with_reducible show addC _ _ _ = _; kernel_rfl) | rfl | trivial | kernel_rfl | omega | exact Nat.le_of_ble_eq_true rfl | exact lt_len0 rfl | exact lt_len1 rfl); conv => whnf)
    refine inI (by simp only [List.length_map]; omega) (by simp only [List.length_map]; omega) ?_
    conv => whnf
    repeat (refine And.intro ?_ ?_; (first | (with_reducible show okR _ _ _ _ = true; kernel_rfl) | (with_reducible show addC _ _ _ = _; kernel_rfl) | rfl | trivial | kernel_rfl | omega | exact Nat.le_of_ble_eq_true rfl | exact lt_len0 rfl | exact lt_len1 rfl); conv => whnf)
    show SV.i _ = SV.i _
    rw [List.length_map]
  · intro sl1 ob1 ct1 D1 β1 a1 W1 hK1 hs1 hd1 ht1
    have hj1 : J l.length W1 := hext _ _ _ h0 (full_ext hs1.le hs1.mem)
    have hr3 := hs1.rel 3
    rw [hK1] at hr3
    have h13 : a1.tmps.getD 3 undef = .int .i64 ((l.length : Int) - 1) := rel_int hr3
    refine wpIn_block (wpIn_wide.2 (wp_loop_ghost (fun n a w => a.tmps.size = 19 ∧ a.defers = [] ∧ a.tmps.getD 0 undef = .func (.yield lp) #[] #[] ∧ a.tmps.getD 1 undef = pv ∧ a.tmps.getD 3 undef = .int .i64 ((n : Int) - 1) ∧ n ≤ l.length ∧ J n w) l.length
      ⟨hs1.size, hd1.trans hd0, (ht1 0 (by simp)).trans h00, (ht1 1 (by simp)).trans h01, h13, Nat.le_refl _, hj1⟩ ?_))
    rintro n a w ⟨hsz, hd, h0', h1', h3', hn, hj⟩
    refine (wpIn_wide (n := 0)).1 (wpIn_seq (wpIn_seq ?_))
    have hs0 := simOf w a [(1, .ptr [.sl 2 (l.map eP)]), (3, .i ((n : Int) - 1))] hsz (by
      intro p hp
      simp only [List.mem_cons, List.not_mem_nil, or_false] at hp
      rcases hp with rfl | rfl
      · rw [h1']; exact ptrOf _ w hj
      · rw [h3']; exact intOf w _)
    refine region_in hF [0, 1, 3] (fun sl _ _ => sl 8 = .bool (decide (0 < n))) hs0 rfl ?_ ?_
    · conv => whnf
      repeat (refine And.intro ?_ ?_; (first | (with_reducible show okR _ _ _ _ = true; kernel_rfl) | (with_reducible show addC _ _ _ = _; kernel_rfl) | rfl | trivial | kernel_rfl | omega | exact Nat.le_of_ble_eq_true rfl | exact lt_len0 rfl | exact lt_len1 rfl); conv => whnf)
      show SV.bool (decide (0 ≤ (n : Int) - 1)) = _
      rw [show decide (0 ≤ (n : Int) - 1) = decide (0 < n) from decide_eq_decide.2 (by omega)]
    intro sl2 ob2 ct2 D2 β2 a2 w2 hK2 hs2 hd2 ht2
    have hj2 : J n w2 := hext _ _ _ hj (full_ext hs2.le hs2.mem)
    have hr8 := hs2.rel 8
    rw [hK2] at hr8
    have h28 : a2.eval (.tmp 8) = .bool (decide (0 < n)) := rel_bool hr8
    have e0 := (ht2 0 (by simp)).trans h0'
    have e1 := (ht2 1 (by simp)).trans h1'
    have e3 := (ht2 3 (by simp)).trans h3'
    cases n with
    | zero =>
      refine wpIn_cond_false h28 (wpIn_exit ?_)
      exact ⟨hd2.trans hd, _, results_none rfl _ _ _, ⟨_, rfl⟩, hj2⟩
    | succ n =>
      refine wpIn_cond_true h28 (wpIn_skip ?_)
      refine wpIn_seq (wpIn_block (wpIn_seq (wpIn_region_lit ?_)))
      obtain ⟨p, hp⟩ := get_lt (show n < l.length by omega)
      have hsz2 : a2.tmps.size = 19 := hs2.size
      refine in_op hF rfl (fun c h => by cases h) (v := a2.eval (.tmp 0)) (w' := w2) rfl ?_
      obtain ⟨a3, ha3⟩ : ∃ a3, a3 = a2.put (some 11) (a2.eval (.tmp 0)) := ⟨_, rfl⟩
      have g3 : ∀ t, a3.tmps.getD t undef = if t = 11 then .func (.yield lp) #[] #[] else a2.tmps.getD t undef := fun t => by rw [ha3, put_get a2 11 _ (by rw [hsz2]; omega) t]; rw [show a2.eval (.tmp 0) = _ from e0]
      have hsz3 : a3.tmps.size = 19 := by rw [ha3]; simpa [Act.put] using hsz2
      have hd3 : a3.defers = [] := by rw [ha3]; exact hd2.trans hd
      show wpListIn _ _ _ _ _ _ (a2.put (some 11) (a2.eval (.tmp 0))) w2
      rw [← ha3]
      clear ha3
      have f1 : a3.tmps.getD 1 undef = pv := (g3 1).trans e1
      have f0 : a3.tmps.getD 0 undef = .func (.yield lp) #[] #[] := (g3 0).trans e0
      have f3 : a3.tmps.getD 3 undef = .int .i64 (n : Int) := ((g3 3).trans e3).trans (by congr 1; omega)
      have f11 : a3.tmps.getD 11 undef = .func (.yield lp) #[] #[] := g3 11
      have hs3 := simOf w2 a3 [(1, .ptr [.sl 2 (l.map eP)]), (3, .i (n : Int))] hsz3 (by
        intro q hq
        simp only [List.mem_cons, List.not_mem_nil, or_false] at hq
        rcases hq with rfl | rfl
        · rw [f1]; exact ptrOf _ w2 hj2
        · rw [f3]; exact intOf w2 _)
      refine runOps_at 5 hF [0, 1, 3, 11] (fun sl _ _ => sl 12 = .i (n : Int) ∧ sl 16 = .agg (eP p)) hs3 rfl ?_ ?_
      · conv => whnf
        repeat (refine And.intro ?_ ?_; (first | (with_reducible show okR _ _ _ _ = true; kernel_rfl) | (with_reducible show addC _ _ _ = _; kernel_rfl) | rfl | trivial | kernel_rfl | omega | exact Nat.le_of_ble_eq_true rfl | exact lt_len0 rfl | exact lt_len1 rfl); conv => whnf)
        refine ⟨_, get_map hp, ?_⟩
        conv => whnf
        repeat (refine And.intro ?_ ?_; (first | (with_reducible show okR _ _ _ _ = true; kernel_rfl) | (with_reducible show addC _ _ _ = _; kernel_rfl) | rfl | trivial | kernel_rfl | omega | exact Nat.le_of_ble_eq_true rfl | exact lt_len0 rfl | exact lt_len1 rfl); conv => whnf)
        exact rfl
      intro sl4 ob4 ct4 D4 β4 a4 w4 hK4 hs4 hd4 ht4
      have hj4 : J (n + 1) w4 := hext _ _ _ hj2 (full_ext hs4.le hs4.mem)
      have hr12 := hs4.rel 12
      rw [hK4.1] at hr12
      have k12 : a4.tmps.getD 12 undef = .int .i64 (n : Int) := rel_int hr12
      have k16 : a4.tmps.getD 16 undef = ptV p := by
        have hr16 := hs4.rel 16
        rw [hK4.2] at hr16
        obtain ⟨vs, h1, h2, h3⟩ := (show RelA _ (.agg (eP p)) _ from hr16)
        have ez : ∀ (i : Nat) (n : Int) (v : Value), (eP p)[i]? = some (.i n) → vs[i]? = some v → v = .int .i64 n := fun i n v a b => rel_int (Rel.of0 (h3 i _ v a b))
        match vs, h1, h2, ez with
        | [x, y], h1, _, ez =>
          refine (show a4.tmps.getD 16 undef = _ from h1).trans ?_
          rw [ez 0 p.x x rfl rfl, ez 1 p.y y rfl rfl]
          rfl
      obtain ⟨fn, tmps, assign, body, hy, hR⟩ := hround n p w4 hp hj4
      refine in_round hF rfl rfl (fun c h => by cases h) (l := lp) (f := fn) (tmps := tmps) (assign := assign) (body := body) (w' := w4) ?_ (hR.mono ?_)
      · have k11 : a4.tmps.getD 11 undef = .func (.yield lp) #[] #[] := (ht4 11 (by simp)).trans f11
        have c12 : a4.eval (.tmp 12) = .int .i64 (n : Int) := k12
        have c16 : a4.eval (.tmp 16) = ptV p := k16
        have c11 : a4.eval (.tmp 11) = .func (.yield lp) #[] #[] := k11
        simp [execOp, resolve, c11, c12, c16, Deferred.ofValue, invoke, hy]
      rintro e w5 ⟨rfl, hj5⟩
      refine ⟨_, rfl, ?_⟩
      obtain ⟨a5, ha5⟩ : ∃ a5, a5 = a4.put (some 17) (.bool true) := ⟨_, rfl⟩
      have hsz4 : a4.tmps.size = 19 := hs4.size
      have g5 : ∀ t, a5.tmps.getD t undef = if t = 17 then .bool true else a4.tmps.getD t undef := fun t => by rw [ha5, put_get a4 17 _ (by rw [hsz4]; omega) t]
      have hsz5 : a5.tmps.size = 19 := by rw [ha5]; simpa [Act.put] using hsz4
      have hd5 : a5.defers = [] := by rw [ha5]; exact hd4.trans hd3
      show wpListIn _ _ _ _ _ _ (a4.put (some 17) (.bool true)) w5
      rw [← ha5]
      clear ha5
      have b0 : a5.tmps.getD 0 undef = .func (.yield lp) #[] #[] := (g5 0).trans ((ht4 0 (by simp)).trans f0)
      have b1 : a5.tmps.getD 1 undef = pv := (g5 1).trans ((ht4 1 (by simp)).trans f1)
      have b3 : a5.tmps.getD 3 undef = .int .i64 (n : Int) := (g5 3).trans ((ht4 3 (by simp)).trans f3)
      have hs5 := simOf w5 a5 [(17, .bool true)] hsz5 (by
        intro q hq
        simp only [List.mem_singleton] at hq
        subst hq
        rw [show a5.tmps.getD (17, SV.bool true).1 undef = _ from g5 17]
        exact Rel.of0 (Rel0.of_pure (.bool true)))
      refine runOps_at 1 hF [0, 1, 3] (fun sl _ _ => sl 18 = .bool false) hs5 rfl ?_ ?_
      · conv => whnf
        repeat (refine And.intro ?_ ?_; (first | (with_reducible show okR _ _ _ _ = true; kernel_rfl) | (with_reducible show addC _ _ _ = _; kernel_rfl) | rfl | trivial | kernel_rfl | omega | exact Nat.le_of_ble_eq_true rfl | exact lt_len0 rfl | exact lt_len1 rfl); conv => whnf)
        exact rfl
      intro sl6 ob6 ct6 D6 β6 a6 w6 hK6 hs6 hd6 ht6
      have hj6 : J n w6 := hext _ _ _ hj5 (full_ext hs6.le hs6.mem)
      have hr18 := hs6.rel 18
      rw [hK6] at hr18
      refine wpListIn_nil (wpIn_cond_false (show a6.eval (.tmp 18) = .bool false from rel_bool hr18) (wpIn_skip ?_))
      have hs7 := simOf w6 a6 [(3, .i (n : Int))] hs6.size (by
        intro q hq
        simp only [List.mem_singleton] at hq
        subst hq
        rw [show a6.tmps.getD (3, SV.i (n : Int)).1 undef = _ from (ht6 3 (by simp)).trans b3]
        exact intOf w6 _)
      refine region_in hF [0, 1] (fun sl _ _ => sl 3 = .i ((n : Int) - 1)) hs7 rfl ?_ ?_
      · conv => whnf
        repeat (refine And.intro ?_ ?_; (first | (with_reducible show okR _ _ _ _ = true; kernel_rfl) | (with_reducible show addC _ _ _ = _; kernel_rfl) | rfl | trivial | kernel_rfl | omega | exact Nat.le_of_ble_eq_true rfl | exact lt_len0 rfl | exact lt_len1 rfl); conv => whnf)
        refine inI (by omega) (by omega) ?_
        conv => whnf
        repeat (refine And.intro ?_ ?_; (first | (with_reducible show okR _ _ _ _ = true; kernel_rfl) | (with_reducible show addC _ _ _ = _; kernel_rfl) | rfl | trivial | kernel_rfl | omega | exact Nat.le_of_ble_eq_true rfl | exact lt_len0 rfl | exact lt_len1 rfl); conv => whnf)
      intro sl8 ob8 ct8 D8 β8 a8 w8 hK8 hs8 hd8 ht8
      have hj8 : J n w8 := hext _ _ _ hj6 (full_ext hs8.le hs8.mem)
      have hr83 := hs8.rel 3
      rw [hK8] at hr83
      exact ⟨n, Nat.lt_succ_self n, hs8.size, hd8.trans (hd6.trans hd5), (ht8 0 (by simp)).trans ((ht6 0 (by simp)).trans b0), (ht8 1 (by simp)).trans ((ht6 1 (by simp)).trans b1), rel_int hr83, by omega, hj8⟩
end
end Go.Proofs.Yticandbdabgkeaa.Am
