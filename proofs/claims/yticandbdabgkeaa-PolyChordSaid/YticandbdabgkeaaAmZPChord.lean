/- PolyChord: for every input, the statement's function returns true and leaves its arguments as they were; without conditions. -/
import Derived.Test.YticandbdabgkeaaAmP31
import Derived.Test.YticandbdabgkeaaAmP19
namespace Go.Proofs.Yticandbdabgkeaa.Am
open Go Go.RowKit Go.ChangeShapes Go.WideShapes Go.ChangeAt
set_option maxRecDepth 100000

theorem zpchord_lifted (os : Os) (started : os.Started) (H : Type) (enc : TypeId × Value → H) :
    ReturnsInHanded {} Try.checked os 9 .any (Rows.polyChordSpec.pre6 enc Try.prog Try.f9 Rows.polyChordRow.domain false) (Rows.polyChordSpec.post enc Try.prog Try.f9 false true false false) := by
  refine returnsInHanded_of_change (C := Try.checked) own started (by kernel_rfl) Try.func9
    (ChangeSpec.witness6 (enc := enc) (C := Try.checked) false ⟨#[], #[.slice none 0 0, .agg #[.int .i64 0, .int .i64 0], .int .i64 0], []⟩ 8 (by kernel_rfl) (by kernel_rfl) (by kernel_rfl) (by kernel_rfl)) ?_
  intro W base args ds gs before hval0 hW _ _
  have hval : ∀ (j : Nat) t v, Try.f9.params[j]? = some t → args[j]? = some v → Value.okWide Try.prog W .any base t v := hval0
  have hW' := hW
  obtain ⟨p, q, hA0, hV, rfl, _, _⟩ := hW
  have hA : DataW.TrodAll enc Try.prog W 0 (fun _ => true) true Try.f9.params.toList args.toList ds p := hA0
  rw [Try.params9] at hA hval
  obtain ⟨v0, v1, v2, d0, d1, d2, p0, p1, p2, rfl, rfl, rfl, h0, h1, h2⟩ := trodAll_three hA
  obtain ⟨rfl, rfl⟩ := trodVars_none hV
  obtain ⟨x0, hx0, hb0⟩ := arg_points (hval 0 22 v0 rfl rfl) h0
  obtain ⟨x1, hx1, hb1⟩ := arg_pair (hval 1 46 v1 rfl rfl) h1
  obtain ⟨x2, hx2, hb2⟩ := arg_int (hval 2 3 v2 rfl rfl) h2
  refine (law_calls (polychordlaw_pure x0 x1.1 x1.2 x2) (glob_none W) [v0, v1, v2] rfl (rel_cons hx0 (rel_cons hx1 (rel_one hx2)))).mono fun e W' ⟨he, hb⟩ => ⟨_, he, law_post laidOut hW' rfl hb (tb := 4) rfl Try.underlying4 ?_ rfl⟩
  intro t ht
  have ht : t ∈ [22, 46, 3] := by simpa using ht
  have hall : ([22, 46, 3].all fun u => Try.prog.readableRec u && decide (u < Try.prog.types.size)) = true := by kernel_rfl
  have hb := List.all_eq_true.1 hall t ht
  simp only [Bool.and_eq_true, decide_eq_true_eq] at hb
  exact hb

theorem zpchord_holds : Rows.PolyChordSaid :=
  OpenClaim.holds_of_wide 9 Try.f9 rfl rfl rfl rfl rfl rfl rfl ⟨rfl, rfl, rfl, rfl, rfl⟩ rfl rfl rfl rfl rfl (by kernel_rfl) Try.func9 (by kernel_rfl)
    (of_decide_eq_true (by kernel_rfl)) (by unfold Func.isWrapper; first | (rw [if_pos (by decide +kernel)]; kernel_rfl) | (rw [if_neg (by decide +kernel)]; exact ⟨rfl, rfl⟩))
    (fun os started H enc _ => zpchord_lifted os started H enc)
#print axioms zpchord_holds
end Go.Proofs.Yticandbdabgkeaa.Am
