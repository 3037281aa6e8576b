/- Rings as the statements read them, and the variable that the program lists. No condition: lemmas. -/
import Derived.Test.YtilepdoijdeohaaDoorAmE2
import Derived.Test.YtilepdoijdeohaaDoorTie
import Derived.WalkKit
import Derived.Handy
import Derived.Lay
import Derived.SevenTiedAt
import Derived.Test.YtilepdoijdeohaaDoorAmR0
namespace Go.Proofs.YtilepdoijdeohaaDoor.Am
open Go Go.RowKit Go.ChangeShapes Go.WideShapes
set_option maxRecDepth 100000

theorem own : ownKnob Tryd.prog.godebug = none := by kernel_rfl
theorem laidOut : laidOutB Tryd.prog = true := by kernel_rfl
theorem shp_ring : shpOf Tryd.prog 8 24 = some [.int .i64, .sl [.int .i64, .int .i64, .bool]] := by kernel_rfl

theorem rd_of {l : List SV} (h : HasSL [.int .i64, .int .i64, .bool] l) : ∃ x : Rd, l = eRd x := by
  cases h with
  | cons _ _ a l h1 t1 =>
    cases h1 with
    | int _ n _ =>
      cases t1 with
      | cons _ _ b l h2 t2 =>
        cases h2 with
        | int _ m _ =>
          cases t2 with
          | cons _ _ c l h3 t3 =>
            cases h3 with
            | bool b =>
              cases t3
              exact ⟨⟨⟨n, m⟩, b⟩, rfl⟩
theorem rds_of : ∀ {xs : List (List SV)}, (∀ e, e ∈ xs → HasSL [.int .i64, .int .i64, .bool] e) → ∃ l : List Rd, xs = l.map eRd
  | [], _ => ⟨[], rfl⟩
  | e :: xs, h => by
    obtain ⟨x, rfl⟩ := rd_of (h e (by simp))
    obtain ⟨l, rfl⟩ := rds_of (xs := xs) fun e he => h e (by simp [he])
    exact ⟨x :: l, rfl⟩
theorem ring_of {l : List SV} (h : HasSL [.int .i64, .sl [.int .i64, .int .i64, .bool]] l) : ∃ r : Rg, SV.agg l = eRg r := by
  cases h with
  | cons _ _ a l h1 t1 =>
    cases h1 with
    | int _ n _ =>
      cases t1 with
      | cons _ _ b l h2 t2 =>
        cases t2
        cases h2 with
        | sl _ xs h =>
          obtain ⟨l, rfl⟩ := rds_of h
          exact ⟨⟨n, l⟩, rfl⟩

/-- A ring among the arguments. -/
theorem arg_ring {H : Type} {enc : TypeId × Value → H} {W : World} {base b0 : Nat} {r : Reach} {sp : Nat → Bool} {hd : Bool} {v : Value} {d : DataW H} {ps : List MemPlace} (hv : Value.okWide Tryd.prog W r b0 24 v) (h : DataW.Trod enc Tryd.prog W base sp hd 24 v d ps) :
    ∃ x : Rg, PRelA (romOf W) (eRg x) v := by
  obtain ⟨cs, rfl, _⟩ := okWide_struct Tryd.underlying24 hv
  obtain ⟨l, h1, h2⟩ := arg_agg shp_ring h
  obtain ⟨x, hx⟩ := ring_of h1
  exact ⟨x, hx ▸ h2⟩

theorem glob_ring {W : World} (h : laidMetH Tryd.prog [("sawmill/ring.sides", Rows.laid_sawmill_ring_sides)] W) : ∀ g, PRel (romOf W) (.ptr (G0 g)) (.pointer (some ⟨g, 0, none⟩)) := by
  rw [MakeChecks.laidMetH_plain _ _ _ (by kernel_rfl)] at h
  obtain ⟨ps, hv, _⟩ := h
  obtain ⟨g0, t, cs, fuel, p, q, e1, e2, e3, e4, _⟩ := hv
  have hg0 : g0 = 0 := (Option.some.inj ((show Tryd.prog.globalNamed "sawmill/ring.sides" = some 0 by kernel_rfl).symm.trans e1)).symm
  subst hg0
  have ht : t = 36 := (Option.some.inj ((show Tryd.prog.globals[0]?.map (·.type) = some 36 by kernel_rfl).symm.trans e2)).symm
  subst ht
  obtain ⟨xs, m, _, hx, hl, hxl, hf⟩ := DataW.trod_array Tryd.underlying36 e4
  have hc : Tryd.prog.cellsOf 3 = 1 := by kernel_rfl
  have hc2 : Tryd.prog.cellsOf 36 = 2 := by kernel_rfl
  rw [hc2] at hl
  have hlist : ∃ c0 c1, cs.toList = [c0, c1] := by
    match h : cs.toList, hl with
    | [a, b], _ => exact ⟨a, b, rfl⟩
  obtain ⟨c0, c1, hcs⟩ := hlist
  have hxs : ∃ x0 x1, xs = [x0, x1] := by
    match xs, hxl with
    | [a, b], _ => exact ⟨a, b, rfl⟩
  obtain ⟨x0, x1, rfl⟩ := hxs
  have h0 := hf 0 (by omega)
  have h1 := hf 1 (by omega)
  rw [hcs, hc] at h0 h1
  obtain ⟨n0, k0, d0, _⟩ := DataW.trod_int Tryd.underlying3 (show DataW.trod _ _ _ _ _ _ _ _ _ = some x0 from h0)
  obtain ⟨n1, k1, d1, _⟩ := DataW.trod_int Tryd.underlying3 (show DataW.trod _ _ _ _ _ _ _ _ _ = some x1 from h1)
  have hk0 : c0 = .int .i64 n0 := by simpa using k0
  have hk1 : c1 = .int .i64 n1 := by simpa using k1
  subst hk0 hk1
  subst d0 d1
  have hd := congrArg Prod.fst hx
  simp [Rows.laid_sawmill_ring_sides] at hd
  obtain ⟨rfl, rfl⟩ := hd
  have hcell : ∀ i, W.cell? ⟨0, i, none⟩ = cs[i]? := fun i => World.var?_cell e1 e3 i
  have ha : cs = #[.int .i64 (-1), .int .i64 1] := by
    cases cs; simp at hcs; rw [hcs]
  intro g
  cases hb : Nat.beq g 0 with
  | false =>
    have : G0 g = [] := by unfold G0; rw [hb]
    rw [this]
    exact PRel.ptr [] g 0 (fun _ => undef) (by simp) (by simp)
  | true =>
    have hg := Nat.eq_of_beq_eq_true hb
    subst hg
    have : G0 0 = [.i (-1), .i 1] := rfl
    rw [this]
    refine PRel.ptr _ _ 0 (fun j => match j with | 0 => .int .i64 (-1) | _ => .int .i64 1) (fun j s hs => ?_) (fun j s hs => ?_)
    · match j, hs with
      | 0, _ => exact romOf_cell (by rw [hcell, ha]; rfl)
      | 1, _ => exact romOf_cell (by rw [hcell, ha]; rfl)
      | j + 2, hs => simp at hs
    · match j, hs with
      | 0, hs => simp at hs; subst hs; exact PRel.int .i64 (-1)
      | 1, hs => simp at hs; subst hs; exact PRel.int .i64 1
      | j + 2, hs => simp at hs
end Go.Proofs.YtilepdoijdeohaaDoor.Am
