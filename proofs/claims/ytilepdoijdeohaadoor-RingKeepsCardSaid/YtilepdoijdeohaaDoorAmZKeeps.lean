/- RingKeeps: for every ring, pair of limits and number of quarters, the statement's function returns true and leaves its arguments as they were; without conditions. -/
import Derived.Test.YtilepdoijdeohaaDoorAmR27
import Derived.Test.YtilepdoijdeohaaDoorAmR23
import Derived.Test.YtilepdoijdeohaaDoorCards
namespace Go.Proofs.YtilepdoijdeohaaDoor.Am
open Go Go.RowKit Go.ChangeShapes Go.WideShapes Go.ChangeAt
set_option maxRecDepth 100000

theorem shp_pair : shpOf Tryd.prog 8 36 = some [.int .i64, .int .i64] := by kernel_rfl
/-- Two integers among the arguments. -/
theorem arg_pair {H : Type} {enc : TypeId × Value → H} {W : World} {base b0 : Nat} {r : Reach} {sp : Nat → Bool} {hd : Bool} {v : Value} {d : DataW H} {ps : List MemPlace} (hv : Value.okWide Tryd.prog W r b0 36 v) (h : DataW.Trod enc Tryd.prog W base sp hd 36 v d ps) :
    ∃ m n : Int, PRelA (romOf W) (.agg [.i m, .i n]) v := by
  have hv2 : ∃ cs, v = .agg cs := by
    unfold Value.okWide at hv
    rw [Tryd.underlying36] at hv
    obtain ⟨cs, h1, _⟩ := hv
    exact ⟨cs, h1⟩
  obtain ⟨cs, rfl⟩ := hv2
  obtain ⟨l, h1, h2⟩ := arg_agg shp_pair h
  cases h1 with
  | cons _ _ a l g1 t1 =>
    cases g1 with
    | int _ m _ =>
      cases t1 with
      | cons _ _ b l g2 t2 =>
        cases g2 with
        | int _ n _ =>
          cases t2
          exact ⟨m, n, h2⟩

theorem keeps_lifted (os : Os) (started : os.Started) (H : Type) (enc : TypeId × Value → H) :
    ReturnsInHanded {} Tryd.checked os 6 .any (fun w args => (Rows.ringKeepsSpec.pre enc Tryd.prog Tryd.f6 [] false w args ∧ laidMetH Tryd.prog Rows.ringKeepsRow.laid w) ∧ sizedMet enc Tryd.prog Tryd.f6 (OpenSpec.ofChange Rows.ringKeepsSpec) false w args)
      (Rows.ringKeepsSpec.post enc Tryd.prog Tryd.f6 false true false false) := by
  refine returnsInHanded_of_change_and (C := Tryd.checked) (X := fun w _ => laidMetH Tryd.prog Rows.ringKeepsRow.laid w) (fun _ _ _ hh h => h.of_heap hh) own started (by kernel_rfl) Tryd.func6
    (ChangeSpec.witness_shaped (enc := enc) (C := Tryd.checked) (os := os) (X := fun w _ => laidMetH Tryd.prog Rows.ringKeepsRow.laid w) false (World.laidAll Tryd.prog os Rows.ringKeepsRow.laid) #[.agg #[.int .i64 0, .slice none 0 0], .agg #[.int .i64 0, .int .i64 0], .int .i64 0] 8 (World.laidAll_os _ _ _)
      (World.shaped_of_ZipB (by kernel_rfl) (by kernel_rfl)) (by kernel_rfl) (by kernel_rfl) (by kernel_rfl)
      (by rw [MakeChecks.laidMetH_plain _ _ _ (by kernel_rfl)]; exact laidMet_laidAll _ (by kernel_rfl) (by kernel_rfl))) ?_
  intro W base args ds gs before hval0 hW _ _ hL _
  have hval : ∀ (j : Nat) t v, Tryd.f6.params[j]? = some t → args[j]? = some v → Value.okWide Tryd.prog W .any base t v := hval0
  have hW' := hW
  obtain ⟨p, q, hA0, hV, rfl, _, _⟩ := hW
  have hA : DataW.TrodAll enc Tryd.prog W 0 (fun _ => true) true Tryd.f6.params.toList args.toList ds p := hA0
  rw [Tryd.params6] at hA hval
  obtain ⟨v0, v1, v2, d0, d1, d2, p0, p1, p2, rfl, rfl, rfl, h0, h1, h2⟩ := trodAll_three hA
  obtain ⟨rfl, rfl⟩ := trodVars_none hV
  obtain ⟨x, hx⟩ := arg_ring (hval 0 24 v0 rfl rfl) h0
  obtain ⟨m0, m1, hm⟩ := arg_pair (hval 1 36 v1 rfl rfl) h1
  obtain ⟨q, rfl, rfl, rfl, _⟩ := open_int Tryd.underlying3 (hval 2 3 v2 rfl rfl) h2
  refine (law_calls (keeps_pure x m0 m1 q) (glob_ring hL) [v0, v1, .int .i64 q] rfl (fun i s v hs hv => ?_)).mono fun e W' ⟨he, hb⟩ => ⟨_, he, law_post laidOut hW' rfl hb (tb := 4) rfl Tryd.underlying4 ?_ rfl⟩
  · cases i with
    | zero => simp at hs hv; subst hs; subst hv; exact hx
    | succ i =>
      cases i with
      | zero => simp at hs hv; subst hs; subst hv; exact hm
      | succ i =>
        cases i with
        | zero => simp at hs hv; subst hs; subst hv; exact PRel.int .i64 q
        | succ i => simp at hs
  · intro t ht
    have ht : t ∈ [24, 36, 3] := by simpa using ht
    have hall : ([24, 36, 3].all fun u => Tryd.prog.readableRec u && decide (u < Tryd.prog.types.size)) = true := by kernel_rfl
    have hb := List.all_eq_true.1 hall t ht
    simp only [Bool.and_eq_true, decide_eq_true_eq] at hb
    exact hb

theorem keeps_holds : Rows.RingKeepsSaid :=
  OpenClaim.holds_of_wide 6 Tryd.f6 rfl rfl rfl rfl rfl rfl rfl ⟨rfl, rfl, rfl, rfl, rfl⟩ rfl rfl rfl rfl rfl (by kernel_rfl) Tryd.func6 (by kernel_rfl)
    (of_decide_eq_true (by kernel_rfl)) (by unfold Func.isWrapper; first | (rw [if_pos (by decide +kernel)]; kernel_rfl) | (rw [if_neg (by decide +kernel)]; exact ⟨rfl, rfl⟩))
    (fun os started H enc _ => keeps_lifted os started H enc)
end Go.Proofs.YtilepdoijdeohaaDoor.Am

namespace Go.Proofs.YtilepdoijdeohaaDoor
open Go
theorem ringKeeps_card : Rows.RingKeepsCardSaid :=
  Claim7.holds_tied_plain_at .later [] [.data] true (true, "3ebcfdf9d7244a1dfe73cb14a03d3b6ea8190103264bf1264a0e5f9c10829829") false
    Am.keeps_holds (fun _ h => by cases h) (by kernel_rfl) (fun _ h => by cases h) ringKeeps_row_tie rfl ⟨rfl, rfl⟩ (by kernel_rfl) rfl
    (fun f fn hf hfn => by
      obtain rfl : f = 6 := Option.some.inj ((show Tryd.prog.funcNamed "sawmill/sawmilllaw12.RingKeeps" = some 6 by kernel_rfl).symm.trans hf) |>.symm
      obtain rfl : fn = Tryd.f6 := (Option.some.inj (Tryd.func6.symm.trans hfn)).symm
      exact ⟨by kernel_rfl, fun j t ht => by
        rw [Tryd.params6] at ht
        have hm : t ∈ [24, 36, 3] := by simpa using Array.mem_of_getElem? ht
        have hall : ([24, 36, 3].all fun u => !Tryd.prog.wantsStandIn u) = true := by kernel_rfl
        exact (show Tryd.prog.wantsStandIn t = false by simpa using List.all_eq_true.1 hall t hm)⟩)
    (by kernel_rfl)
#print axioms ringKeeps_card
end Go.Proofs.YtilepdoijdeohaaDoor
