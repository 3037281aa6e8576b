/- RingTwice: for every two rings and number of quarters, the statement's function returns true and leaves its arguments as they were; without conditions. -/
import Derived.Test.YtilepdoijdeohaaDoorAmR26
import Derived.Test.YtilepdoijdeohaaDoorAmR23
import Derived.Test.YtilepdoijdeohaaDoorCards
namespace Go.Proofs.YtilepdoijdeohaaDoor.Am
open Go Go.RowKit Go.ChangeShapes Go.WideShapes Go.ChangeAt
set_option maxRecDepth 100000

theorem twice_lifted (os : Os) (started : os.Started) (H : Type) (enc : TypeId × Value → H) :
    ReturnsInHanded {} Tryd.checked os 8 .any (fun w args => (Rows.ringTwiceSpec.pre enc Tryd.prog Tryd.f8 [] false w args ∧ laidMetH Tryd.prog Rows.ringTwiceRow.laid w) ∧ sizedMet enc Tryd.prog Tryd.f8 (OpenSpec.ofChange Rows.ringTwiceSpec) false w args)
      (Rows.ringTwiceSpec.post enc Tryd.prog Tryd.f8 false true false false) := by
  refine returnsInHanded_of_change_and (C := Tryd.checked) (X := fun w _ => laidMetH Tryd.prog Rows.ringTwiceRow.laid w) (fun _ _ _ hh h => h.of_heap hh) own started (by kernel_rfl) Tryd.func8
    (ChangeSpec.witness_shaped (enc := enc) (C := Tryd.checked) (os := os) (X := fun w _ => laidMetH Tryd.prog Rows.ringTwiceRow.laid w) false (World.laidAll Tryd.prog os Rows.ringTwiceRow.laid) #[.agg #[.int .i64 0, .slice none 0 0], .agg #[.int .i64 0, .slice none 0 0], .int .i64 0] 8 (World.laidAll_os _ _ _)
      (World.shaped_of_ZipB (by kernel_rfl) (by kernel_rfl)) (by kernel_rfl) (by kernel_rfl) (by kernel_rfl)
      (by rw [MakeChecks.laidMetH_plain _ _ _ (by kernel_rfl)]; exact laidMet_laidAll _ (by kernel_rfl) (by kernel_rfl))) ?_
  intro W base args ds gs before hval0 hW _ _ hL _
  have hval : ∀ (j : Nat) t v, Tryd.f8.params[j]? = some t → args[j]? = some v → Value.okWide Tryd.prog W .any base t v := hval0
  have hW' := hW
  obtain ⟨p, q, hA0, hV, rfl, _, _⟩ := hW
  have hA : DataW.TrodAll enc Tryd.prog W 0 (fun _ => true) true Tryd.f8.params.toList args.toList ds p := hA0
  rw [Tryd.params8] at hA hval
  obtain ⟨v0, v1, v2, d0, d1, d2, p0, p1, p2, rfl, rfl, rfl, h0, h1, h2⟩ := trodAll_three hA
  obtain ⟨rfl, rfl⟩ := trodVars_none hV
  obtain ⟨x, hx⟩ := arg_ring (hval 0 24 v0 rfl rfl) h0
  obtain ⟨y, hy⟩ := arg_ring (hval 1 24 v1 rfl rfl) h1
  obtain ⟨q, rfl, rfl, rfl, _⟩ := open_int Tryd.underlying3 (hval 2 3 v2 rfl rfl) h2
  refine (law_calls (twice_pure x y q) (glob_ring hL) [v0, v1, .int .i64 q] rfl (fun i s v hs hv => ?_)).mono fun e W' ⟨he, hb⟩ => ⟨_, he, law_post laidOut hW' rfl hb (tb := 4) rfl Tryd.underlying4 ?_ rfl⟩
  · cases i with
    | zero => simp at hs hv; subst hs; subst hv; exact hx
    | succ i =>
      cases i with
      | zero => simp at hs hv; subst hs; subst hv; exact hy
      | succ i =>
        cases i with
        | zero => simp at hs hv; subst hs; subst hv; exact PRel.int .i64 q
        | succ i => simp at hs
  · intro t ht
    have ht : t ∈ [24, 24, 3] := by simpa using ht
    have hall : ([24, 24, 3].all fun u => Tryd.prog.readableRec u && decide (u < Tryd.prog.types.size)) = true := by kernel_rfl
    have hb := List.all_eq_true.1 hall t ht
    simp only [Bool.and_eq_true, decide_eq_true_eq] at hb
    exact hb

theorem twice_holds : Rows.RingTwiceSaid :=
  OpenClaim.holds_of_wide 8 Tryd.f8 rfl rfl rfl rfl rfl rfl rfl ⟨rfl, rfl, rfl, rfl, rfl⟩ rfl rfl rfl rfl rfl (by kernel_rfl) Tryd.func8 (by kernel_rfl)
    (of_decide_eq_true (by kernel_rfl)) (by unfold Func.isWrapper; first | (rw [if_pos (by decide +kernel)]; kernel_rfl) | (rw [if_neg (by decide +kernel)]; exact ⟨rfl, rfl⟩))
    (fun os started H enc _ => twice_lifted os started H enc)
end Go.Proofs.YtilepdoijdeohaaDoor.Am

namespace Go.Proofs.YtilepdoijdeohaaDoor
open Go
theorem ringTwice_card : Rows.RingTwiceCardSaid :=
  Claim7.holds_tied_plain_at .later [] [.data] true (true, "3ebcfdf9d7244a1dfe73cb14a03d3b6ea8190103264bf1264a0e5f9c10829829") false
    Am.twice_holds (fun _ h => by cases h) (by kernel_rfl) (fun _ h => by cases h) ringTwice_row_tie rfl ⟨rfl, rfl⟩ (by kernel_rfl) rfl
    (fun f fn hf hfn => by
      obtain rfl : f = 8 := Option.some.inj ((show Tryd.prog.funcNamed "sawmill/sawmilllaw12.RingTwice" = some 8 by kernel_rfl).symm.trans hf) |>.symm
      obtain rfl : fn = Tryd.f8 := (Option.some.inj (Tryd.func8.symm.trans hfn)).symm
      exact ⟨by kernel_rfl, fun j t ht => by
        rw [Tryd.params8] at ht
        have hm : t ∈ [24, 24, 3] := by simpa using Array.mem_of_getElem? ht
        have hall : ([24, 24, 3].all fun u => !Tryd.prog.wantsStandIn u) = true := by kernel_rfl
        exact (show Tryd.prog.wantsStandIn t = false by simpa using List.all_eq_true.1 hall t hm)⟩)
    (by kernel_rfl)
#print axioms ringTwice_card
end Go.Proofs.YtilepdoijdeohaaDoor
