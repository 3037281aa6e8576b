/- PolyWithin, where the arguments together hold at most 1048576 values: the statement's function returns true and leaves its arguments as they were. Condition: that bound, as the given statement has it. -/
import Derived.Test.YticandbdabgkeaaAmP32
import Derived.Test.YticandbdabgkeaaAmP33
namespace Go.Proofs.Yticandbdabgkeaa.Am
open Go Go.RowKit Go.ChangeShapes Go.WideShapes Go.ChangeAt
set_option maxRecDepth 100000

theorem zpwithin_lifted (os : Os) (started : os.Started) (H : Type) (enc : TypeId × Value → H) (F : Stop.Interp) :
    ReturnsInHanded {} Try.checked os 10 .any ((Rows.OpenSpec.upto Rows.polyWithinSpec).pre6 enc Try.prog Try.f10 Rows.polyWithinUptoRow.domain false) (((Rows.OpenSpec.upto Rows.polyWithinSpec).at F).post enc Try.prog Try.f10 false true false false) := by
  refine returnsInHanded_of_cond (C := Try.checked) (s := Rows.OpenSpec.upto Rows.polyWithinSpec) (k := Rows.uptoSmall) rfl own started (by kernel_rfl) Try.func10
    (OpenSpec.witness (enc := enc) (C := Try.checked) (s := Rows.OpenSpec.upto Rows.polyWithinSpec) (k := Rows.uptoSmall) rfl false ⟨#[], #[.slice none 0 0, .slice none 0 0, .agg #[.int .i64 0, .int .i64 0, .int .i64 0, .int .i64 0]], []⟩ 8 (by kernel_rfl) (by kernel_rfl) (by kernel_rfl)
      (x := ([.nil, .nil, .agg [.lit (.int .i64 0), .lit (.int .i64 0), .lit (.int .i64 0), .lit (.int .i64 0)]], [], [])) (by kernel_rfl) rfl (by kernel_rfl)) ?_
  intro W base args ds gs before hval0 hW _ hk _
  have hval : ∀ (j : Nat) t v, Try.f10.params[j]? = some t → args[j]? = some v → Value.okWide Try.prog W .any base t v := hval0
  have hW' := hW
  obtain ⟨p, q, hA0, hV, rfl, _, _⟩ := hW
  have hA : DataW.TrodAll enc Try.prog W 0 (fun _ => true) true Try.f10.params.toList args.toList ds p := hA0
  rw [Try.params10] at hA hval
  obtain ⟨v0, v1, v2, d0, d1, d2, p0, p1, p2, rfl, rfl, rfl, h0, h1, h2⟩ := trodAll_three hA
  obtain ⟨rfl, rfl⟩ := trodVars_none hV
  obtain ⟨x0, hx0, _⟩ := arg_points (hval 0 22 v0 rfl rfl) h0
  obtain ⟨x1, hx1, _⟩ := arg_points (hval 1 22 v1 rfl rfl) h1
  obtain ⟨a, b, c, e, hx2⟩ := arg_four (hval 2 49 v2 rfl rfl) h2
  have hs := small_le hk
  have l0 := points_len h0 hx0
  have l1 := points_len h1 hx1
  have b0 := bulk_mem (d := d0) (l := [d0, d1, d2] ++ []) (by simp)
  have b1 := bulk_mem (d := d1) (l := [d0, d1, d2] ++ []) (by simp)
  refine (law_calls (polywithin_pure x0 x1 (by omega) (by omega) a b c e) (glob_none W) [v0, v1, v2] rfl (rel_cons hx0 (rel_cons hx1 (rel_one hx2)))).mono fun e W' ⟨he, hb⟩ => ⟨_, he, law_post laidOut hW' rfl hb (tb := 4) rfl Try.underlying4 ?_ rfl⟩
  intro t ht
  have ht : t ∈ [22, 22, 49] := by simpa using ht
  have hall : ([22, 22, 49].all fun u => Try.prog.readableRec u && decide (u < Try.prog.types.size)) = true := by kernel_rfl
  have hb := List.all_eq_true.1 hall t ht
  simp only [Bool.and_eq_true, decide_eq_true_eq] at hb
  exact hb

theorem zpwithin_holds : Rows.PolyWithinUptoSaid :=
  OpenClaim.holds_of_cond 10 Try.f10 rfl rfl rfl rfl rfl rfl rfl ⟨rfl, rfl, rfl, rfl, rfl⟩ rfl rfl rfl rfl rfl (by kernel_rfl) Try.func10 (by kernel_rfl)
    (of_decide_eq_true (by kernel_rfl)) (by unfold Func.isWrapper; first | (rw [if_pos (by decide +kernel)]; kernel_rfl) | (rw [if_neg (by decide +kernel)]; exact ⟨rfl, rfl⟩))
    (fun os started H enc _ F => zpwithin_lifted os started H enc F)
#print axioms zpwithin_holds
end Go.Proofs.Yticandbdabgkeaa.Am
