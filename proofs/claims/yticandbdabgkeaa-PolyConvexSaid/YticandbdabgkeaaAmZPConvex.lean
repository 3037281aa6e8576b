/- PolyConvex: for every input, the statement's function returns true and leaves its arguments as they were; without conditions. -/
import Derived.Test.YticandbdabgkeaaAmP30
import Derived.Test.YticandbdabgkeaaAmP19
namespace Go.Proofs.Yticandbdabgkeaa.Am
open Go Go.RowKit Go.ChangeShapes Go.WideShapes Go.ChangeAt
set_option maxRecDepth 100000

theorem zpconvex_lifted (os : Os) (started : os.Started) (H : Type) (enc : TypeId × Value → H) :
    ReturnsInHanded {} Try.checked os 8 .any (Rows.polyConvexSpec.pre6 enc Try.prog Try.f8 Rows.polyConvexRow.domain false) (Rows.polyConvexSpec.post enc Try.prog Try.f8 false true false false) := by
  refine returnsInHanded_of_change (C := Try.checked) own started (by kernel_rfl) Try.func8
    (ChangeSpec.witness6 (enc := enc) (C := Try.checked) false ⟨#[], #[.slice none 0 0], []⟩ 8 (by kernel_rfl) (by kernel_rfl) (by kernel_rfl) (by kernel_rfl)) ?_
  intro W base args ds gs before hval0 hW _ _
  have hval : ∀ (j : Nat) t v, Try.f8.params[j]? = some t → args[j]? = some v → Value.okWide Try.prog W .any base t v := hval0
  have hW' := hW
  obtain ⟨p, q, hA0, hV, rfl, _, _⟩ := hW
  have hA : DataW.TrodAll enc Try.prog W 0 (fun _ => true) true Try.f8.params.toList args.toList ds p := hA0
  rw [Try.params8] at hA hval
  obtain ⟨v0, d0, rfl, rfl, h0⟩ := trodAll_one hA
  obtain ⟨rfl, rfl⟩ := trodVars_none hV
  obtain ⟨x0, hx0, hb0⟩ := arg_points (hval 0 22 v0 rfl rfl) h0
  refine (law_calls (polyconvex_pure x0) (glob_none W) [v0] rfl (rel_one hx0)).mono fun e W' ⟨he, hb⟩ => ⟨_, he, law_post laidOut hW' rfl hb (tb := 4) rfl Try.underlying4 ?_ rfl⟩
  intro t ht
  have ht : t ∈ [22] := by simpa using ht
  have hall : ([22].all fun u => Try.prog.readableRec u && decide (u < Try.prog.types.size)) = true := by kernel_rfl
  have hb := List.all_eq_true.1 hall t ht
  simp only [Bool.and_eq_true, decide_eq_true_eq] at hb
  exact hb

theorem zpconvex_holds : Rows.PolyConvexSaid :=
  OpenClaim.holds_of_wide 8 Try.f8 rfl rfl rfl rfl rfl rfl rfl ⟨rfl, rfl, rfl, rfl, rfl⟩ rfl rfl rfl rfl rfl (by kernel_rfl) Try.func8 (by kernel_rfl)
    (of_decide_eq_true (by kernel_rfl)) (by unfold Func.isWrapper; first | (rw [if_pos (by decide +kernel)]; kernel_rfl) | (rw [if_neg (by decide +kernel)]; exact ⟨rfl, rfl⟩))
    (fun os started H enc _ => zpconvex_lifted os started H enc)
#print axioms zpconvex_holds
end Go.Proofs.Yticandbdabgkeaa.Am
