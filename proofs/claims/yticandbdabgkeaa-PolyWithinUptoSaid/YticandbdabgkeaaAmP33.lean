/- Arguments of bounded bulk, and four numbers, as the statements read them. No condition: lemmas. -/
import Derived.Test.YticandbdabgkeaaAmP19
import Derived.JoinedCond
namespace Go.Proofs.Yticandbdabgkeaa.Am
open Go Go.RowKit Go.ChangeShapes Go.WideShapes
set_option maxRecDepth 100000

section
variable {H : Type}
theorem bulk_pos (d : DataW H) : 1 ≤ Rows.uptoBulk d := by
  cases d <;> try (simp [Rows.uptoBulk]; done)
  rename_i l
  cases l <;> simp [Rows.uptoBulk]
theorem bulk_len : ∀ l : List (DataW H), l.length ≤ Rows.uptoBulkAll l
  | [] => Nat.zero_le _
  | d :: l => by
    have h1 := bulk_pos d
    have h2 := bulk_len l
    simp only [Rows.uptoBulkAll, List.length_cons]
    omega
theorem bulk_mem {d : DataW H} : ∀ {l : List (DataW H)}, d ∈ l → Rows.uptoBulk d ≤ Rows.uptoBulkAll l
  | x :: l, h => by
    simp only [Rows.uptoBulkAll]
    rcases List.mem_cons.1 h with rfl | h
    · omega
    · have := bulk_mem h
      omega
theorem small_le {ds : List (DataW H)} (h : Rows.uptoSmall H ds = true) : Rows.uptoBulkAll ds ≤ 1048576 := of_decide_eq_true h

variable {enc : TypeId × Value → H} {W : World} {base b0 : Nat} {r : Reach} {sp : Nat → Bool} {hd : Bool} {v : Value} {d : DataW H} {ps : List MemPlace}
theorem points_len {l : List XY} {D : Rom} (h : DataW.Trod enc Try.prog W base sp hd 22 v d ps) (hp : PRelA D (.sl 2 (l.map eP)) v) : l.length ≤ Rows.uptoBulk d := by
  obtain ⟨fuel, h⟩ := h
  have hp : PRel D (.sl 2 (l.map eP)) v := hp
  have hv : ∃ A cap, v = .slice A l.length cap := by
    generalize hx : SV.sl 2 (l.map eP) = x at hp
    cases hp <;> cases hx
    exact ⟨_, _, by rw [List.length_map]⟩
  obtain ⟨A, cap, rfl⟩ := hv
  rcases Go.Deep.open_slice Try.underlying22 h with ⟨e, _⟩ | ⟨a, len, cap', m, n', Dt, Pl, e, _, _, _, _, ex, _⟩
  · have e : [Value.slice A l.length cap] = [.slice none 0 0] := e
    injection e with e _
    injection e with _ e _
    omega
  · have e : [Value.slice A l.length cap] = [.slice (some a) len cap'] := e
    injection e with e _
    injection e with _ e _
    have hd : d = .slice ((List.range len).map Dt) ((List.range (m - len)).map fun j => Dt (len + j)) := congrArg Prod.fst ex
    subst hd
    have := bulk_len ((List.range len).map Dt)
    simp only [List.length_map, List.length_range] at this
    simp only [Rows.uptoBulk]
    omega
end

theorem shp_four : shpOf Try.prog 8 49 = some [.int .i64, .int .i64, .int .i64, .int .i64] := by kernel_rfl
theorem four_of {l : List SV} (h : HasSL [.int .i64, .int .i64, .int .i64, .int .i64] l) : ∃ a b c d : Int, l = [.i a, .i b, .i c, .i d] := by
  cases h with
  | cons _ _ a l h1 t1 =>
    cases h1 with
    | int _ n1 _ =>
      cases t1 with
      | cons _ _ b l h2 t2 =>
        cases h2 with
        | int _ n2 _ =>
          cases t2 with
          | cons _ _ c l h3 t3 =>
            cases h3 with
            | int _ n3 _ =>
              cases t3 with
              | cons _ _ d l h4 t4 =>
                cases h4 with
                | int _ n4 _ =>
                  cases t4
                  exact ⟨n1, n2, n3, n4, rfl⟩
section
variable {H : Type} {enc : TypeId × Value → H} {W : World} {base b0 : Nat} {r : Reach} {sp : Nat → Bool} {hd : Bool} {v : Value} {d : DataW H} {ps : List MemPlace}
theorem arg_four (hv : Value.okWide Try.prog W r b0 49 v) (h : DataW.Trod enc Try.prog W base sp hd 49 v d ps) :
    ∃ a b c e : Int, PRelA (romOf W) (.agg [.i a, .i b, .i c, .i e]) v := by
  have hu : Try.prog.underlying 49 = some (.array 4 3) := Try.underlying49
  unfold Value.okWide at hv
  rw [hu] at hv
  obtain ⟨cs, rfl, _⟩ := hv
  obtain ⟨l, h1, h2⟩ := arg_agg shp_four h
  obtain ⟨a, b, c, e, rfl⟩ := four_of h1
  exact ⟨a, b, c, e, h2⟩
end
end Go.Proofs.Yticandbdabgkeaa.Am
