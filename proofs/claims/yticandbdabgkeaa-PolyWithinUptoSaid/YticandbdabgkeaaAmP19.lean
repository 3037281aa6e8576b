/- Points and polygons as the statements read them. No condition: lemmas. -/
import Derived.Test.YticandbdabgkeaaAmE2
import Derived.Test.YticandbdabgkeaaRows
import Derived.WalkKit
import Derived.Handy
import Derived.Lay
import Derived.Test.YticandbdabgkeaaAmP1
namespace Go.Proofs.Yticandbdabgkeaa.Am
open Go Go.RowKit Go.ChangeShapes Go.WideShapes
set_option maxRecDepth 100000

theorem own : ownKnob Try.prog.godebug = none := by kernel_rfl
theorem laidOut : laidOutB Try.prog = true := by kernel_rfl
theorem shp_points : shpOf Try.prog 8 22 = some [.sl [.int .i64, .int .i64]] := by kernel_rfl
theorem shp_point : shpOf Try.prog 8 40 = some [.int .i64, .int .i64] := by kernel_rfl

theorem shp_pair : shpOf Try.prog 8 46 = some [.int .i64, .int .i64] := by kernel_rfl

theorem wf_bounds {n : Int} (h : (Lit.int .i64 n).wf = true) : -9223372036854775808 ≤ n ∧ n ≤ 9223372036854775807 := by
  simp only [Lit.wf, Bool.and_eq_true, decide_eq_true_eq] at h
  exact h
theorem xy_of {l : List SV} (h : HasSL [.int .i64, .int .i64] l) : ∃ x : XY, l = eP x ∧ x.Fit := by
  cases h with
  | cons _ _ a l h1 t1 =>
    cases h1 with
    | int _ n hn =>
      cases t1 with
      | cons _ _ b l h2 t2 =>
        cases h2 with
        | int _ m hm =>
          cases t2
          exact ⟨⟨n, m⟩, rfl, (wf_bounds hn).1, (wf_bounds hn).2, wf_bounds hm⟩
theorem xys_of : ∀ {xs : List (List SV)}, (∀ e, e ∈ xs → HasSL [.int .i64, .int .i64] e) → ∃ l : List XY, xs = l.map eP ∧ ∀ x ∈ l, x.Fit
  | [], _ => ⟨[], rfl, by simp⟩
  | e :: xs, h => by
    obtain ⟨x, rfl, hx⟩ := xy_of (h e (by simp))
    obtain ⟨l, rfl, hl⟩ := xys_of (xs := xs) fun e he => h e (by simp [he])
    exact ⟨x :: l, rfl, by simpa using ⟨hx, hl⟩⟩

section
variable {H : Type} {enc : TypeId × Value → H} {W : World} {base b0 : Nat} {r : Reach} {sp : Nat → Bool} {hd : Bool} {v : Value} {d : DataW H} {ps : List MemPlace}
/-- A row of points among the arguments. -/
theorem arg_points (hv : Value.okWide Try.prog W r b0 22 v) (h : DataW.Trod enc Try.prog W base sp hd 22 v d ps) :
    ∃ l : List XY, PRelA (romOf W) (.sl 2 (l.map eP)) v ∧ ∀ x ∈ l, x.Fit := by
  obtain ⟨a, len, cap, rfl⟩ := okWide_slice Try.underlying22 hv
  obtain ⟨x, h1, h2⟩ := arg_one shp_points rfl h
  cases h1 with
  | sl _ xs hx =>
    obtain ⟨l, rfl, hl⟩ := xys_of hx
    exact ⟨l, h2, hl⟩
/-- A point. -/
theorem arg_point (hv : Value.okWide Try.prog W r b0 40 v) (h : DataW.Trod enc Try.prog W base sp hd 40 v d ps) :
    ∃ p : XY, PRelA (romOf W) (.agg (eP p)) v ∧ p.Fit := by
  obtain ⟨cs, rfl, _⟩ := okWide_struct Try.underlying40 hv
  obtain ⟨l, h1, h2⟩ := arg_agg shp_point h
  obtain ⟨p, rfl, hp⟩ := xy_of h1
  exact ⟨p, h2, hp⟩
/-- Two numbers. -/
theorem arg_pair (hv : Value.okWide Try.prog W r b0 46 v) (h : DataW.Trod enc Try.prog W base sp hd 46 v d ps) :
    ∃ n : Int × Int, PRelA (romOf W) (.agg [.i n.1, .i n.2]) v ∧ True := by
  have hu : Try.prog.underlying 46 = some (.array 2 3) := Try.underlying46
  unfold Value.okWide at hv
  rw [hu] at hv
  obtain ⟨cs, rfl, _⟩ := hv
  obtain ⟨l, h1, h2⟩ := arg_agg shp_pair h
  obtain ⟨p, rfl, _⟩ := xy_of h1
  exact ⟨(p.x, p.y), h2, trivial⟩
/-- A number. -/
theorem arg_int (hv : Value.okWide Try.prog W r b0 3 v) (h : DataW.Trod enc Try.prog W base sp hd 3 v d ps) :
    ∃ n : Int, PRelA (romOf W) (.i n) v ∧ -9223372036854775808 ≤ n ∧ n ≤ 9223372036854775807 := by
  obtain ⟨n, rfl, rfl, rfl, hw⟩ := open_int Try.underlying3 hv h
  exact ⟨n, PRel.int .i64 n, wf_bounds hw⟩
end

/-- The program lists no variable here. -/
theorem glob_none (W : World) : ∀ g, PRel (romOf W) (.ptr (G0 g)) (.pointer (some ⟨g, 0, none⟩)) := fun g =>
  PRel.ptr [] g 0 (fun _ => undef) (fun j s h => by simp at h) (fun j s h => by simp at h)
theorem rel_one {D : Rom} {a : SV} {u : Value} (h : PRelA D a u) : ∀ (i : Nat) (s : SV) (v : Value), [a][i]? = some s → [u][i]? = some v → PRelA D s v
  | 0, _, _, hs, hv => by cases hs; cases hv; exact h
  | i + 1, _, _, hs, _ => by simp at hs
theorem rel_cons {D : Rom} {a : SV} {u : Value} {l : List SV} {m : List Value} (h : PRelA D a u) (k : ∀ (i : Nat) (s : SV) (v : Value), l[i]? = some s → m[i]? = some v → PRelA D s v) :
    ∀ (i : Nat) (s : SV) (v : Value), (a :: l)[i]? = some s → (u :: m)[i]? = some v → PRelA D s v
  | 0, _, _, hs, hv => by cases hs; cases hv; exact h
  | i + 1, s, v, hs, hv => k i s v (by simpa using hs) (by simpa using hv)
end Go.Proofs.Yticandbdabgkeaa.Am
