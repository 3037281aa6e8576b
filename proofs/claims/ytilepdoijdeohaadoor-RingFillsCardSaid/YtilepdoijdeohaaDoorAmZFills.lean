/- RingFills: for every ring and number of permitted gaps, the statement's function returns true and leaves its arguments as they were; without conditions. -/
import Derived.Test.YtilepdoijdeohaaDoorAmR29
import Derived.Test.YtilepdoijdeohaaDoorAmR23
import Derived.Test.YtilepdoijdeohaaDoorCards
namespace Go.Proofs.YtilepdoijdeohaaDoor.Am
open Go Go.RowKit Go.ChangeShapes Go.WideShapes Go.ChangeAt
set_option maxRecDepth 100000

theorem fills_lifted (os : Os) (started : os.Started) (H : Type) (enc : TypeId × Value → H) :
    ReturnsInHanded {} Tryd.checked os 7 .any (fun w args => (Rows.ringFillsSpec.pre enc Tryd.prog Tryd.f7 [] false w args ∧ laidMetH Tryd.prog Rows.ringFillsRow.laid w) ∧ sizedMet enc Tryd.prog Tryd.f7 (OpenSpec.ofChange Rows.ringFillsSpec) false w args)
      (Rows.ringFillsSpec.post enc Tryd.prog Tryd.f7 false true false false) := by
  refine returnsInHanded_of_change_and (C := Tryd.checked) (X := fun w _ => laidMetH Tryd.prog Rows.ringFillsRow.laid w) (fun _ _ _ hh h => h.of_heap hh) own started (by kernel_rfl) Tryd.func7
    (ChangeSpec.witness_shaped (enc := enc) (C := Tryd.checked) (os := os) (X := fun w _ => laidMetH Tryd.prog Rows.ringFillsRow.laid w) false (World.laidAll Tryd.prog os Rows.ringFillsRow.laid) #[.agg #[.int .i64 0, .slice none 0 0], .int .i64 0] 8 (World.laidAll_os _ _ _)
      (World.shaped_of_ZipB (by kernel_rfl) (by kernel_rfl)) (by kernel_rfl) (by kernel_rfl) (by kernel_rfl)
      (by rw [MakeChecks.laidMetH_plain _ _ _ (by kernel_rfl)]; exact laidMet_laidAll _ (by kernel_rfl) (by kernel_rfl))) ?_
  intro W base args ds gs before hval0 hW _ _ hL _
  have hval : ∀ (j : Nat) t v, Tryd.f7.params[j]? = some t → args[j]? = some v → Value.okWide Tryd.prog W .any base t v := hval0
  have hW' := hW
  obtain ⟨p, q, hA0, hV, rfl, _, _⟩ := hW
  have hA : DataW.TrodAll enc Tryd.prog W 0 (fun _ => true) true Tryd.f7.params.toList args.toList ds p := hA0
  rw [Tryd.params7] at hA hval
  obtain ⟨v0, v1, d0, d1, p0, p1, rfl, rfl, rfl, h0, h1⟩ := trodAll_two hA
  obtain ⟨rfl, rfl⟩ := trodVars_none hV
  obtain ⟨x, hx⟩ := arg_ring (hval 0 24 v0 rfl rfl) h0
  obtain ⟨m, rfl, rfl, rfl, _⟩ := open_int Tryd.underlying3 (hval 1 3 v1 rfl rfl) h1
  refine (law_calls (fills_pure x m) (glob_ring hL) [v0, .int .i64 m] rfl (fun i s v hs hv => ?_)).mono fun e W' ⟨he, hb⟩ => ⟨_, he, law_post laidOut hW' rfl hb (tb := 4) rfl Tryd.underlying4 ?_ rfl⟩
  · cases i with
    | zero => simp at hs hv; subst hs; subst hv; exact hx
    | succ i =>
      cases i with
      | zero => simp at hs hv; subst hs; subst hv; exact PRel.int .i64 m
      | succ i => simp at hs
  · intro t ht
    have ht : t ∈ [24, 3] := by simpa using ht
    have hall : ([24, 3].all fun u => Tryd.prog.readableRec u && decide (u < Tryd.prog.types.size)) = true := by kernel_rfl
    have hb := List.all_eq_true.1 hall t ht
    simp only [Bool.and_eq_true, decide_eq_true_eq] at hb
    exact hb

theorem fills_holds : Rows.RingFillsSaid :=
  OpenClaim.holds_of_wide 7 Tryd.f7 rfl rfl rfl rfl rfl rfl rfl ⟨rfl, rfl, rfl, rfl, rfl⟩ rfl rfl rfl rfl rfl (by kernel_rfl) Tryd.func7 (by kernel_rfl)
    (of_decide_eq_true (by kernel_rfl)) (by unfold Func.isWrapper; first | (rw [if_pos (by decide +kernel)]; kernel_rfl) | (rw [if_neg (by decide +kernel)]; exact ⟨rfl, rfl⟩))
    (fun os started H enc _ => fills_lifted os started H enc)
end Go.Proofs.YtilepdoijdeohaaDoor.Am

namespace Go.Proofs.YtilepdoijdeohaaDoor
open Go
theorem ringFills_card : Rows.RingFillsCardSaid :=
  Claim7.holds_tied_plain_at .later [] [.data] true (true, "3ebcfdf9d7244a1dfe73cb14a03d3b6ea8190103264bf1264a0e5f9c10829829") false
    Am.fills_holds (fun _ h => by cases h) (by kernel_rfl) (fun _ h => by cases h) ringFills_row_tie rfl ⟨rfl, rfl⟩ (by kernel_rfl) rfl
    (fun f fn hf hfn => by
      obtain rfl : f = 7 := Option.some.inj ((show Tryd.prog.funcNamed "sawmill/sawmilllaw12.RingFills" = some 7 by kernel_rfl).symm.trans hf) |>.symm
      obtain rfl : fn = Tryd.f7 := (Option.some.inj (Tryd.func7.symm.trans hfn)).symm
      exact ⟨by kernel_rfl, fun j t ht => by
        rw [Tryd.params7] at ht
        have hm : t ∈ [24, 3] := by simpa using Array.mem_of_getElem? ht
        have hall : ([24, 3].all fun u => !Tryd.prog.wantsStandIn u) = true := by kernel_rfl
        exact (show Tryd.prog.wantsStandIn t = false by simpa using List.all_eq_true.1 hall t hm)⟩)
    (by kernel_rfl)
#print axioms ringFills_card
end Go.Proofs.YtilepdoijdeohaaDoor
