/- The memory as a statement's call finds it, and as it leaves it. No condition: definitions and lemmas. -/
import Derived.Test.YticandbdabgkeaaAmE1
namespace Go.Proofs.Yticandbdabgkeaa.Am
open Go Go.RowKit Go.ChangeShapes Go.WideShapes

def romOf (w : World) : Rom := ⟨fun b => w.heap[b]?, w.os, w.tape, w.output, w.drawn⟩
theorem romOf_cell {w : World} {b off : Nat} {v : Value} (h : w.cell? ⟨b, off, none⟩ = some v) : (romOf w).cell b off = some v := by
  unfold World.cell? at h
  unfold Rom.cell romOf
  cases hb : w.heap[b]? with
  | none => rw [hb] at h; cases h
  | some o =>
    rw [hb] at h
    simp only [hb]
    cases o <;> simp at h ⊢ <;> exact h

section
variable {P : Program} {G : Nat → List SV} {F : Nat → Option Obj} {w w' : World}
theorem mem_start (hg : ∀ g, PRel (romOf w) (.ptr (G g)) (.pointer (some ⟨g, 0, none⟩))) : Mem G (Env.bare (romOf w)) (fun _ => none) w :=
  ⟨rfl, rfl, rfl, Nat.le_refl _, fun _ _ h => h, fun _ _ h => (by cases h), fun _ _ h => (by cases h), hg, fun o b hb => (by cases hb), fun o o' b b' x y hb => (by cases hb)⟩
theorem below_end {D' : Rom} (hle : Rom.le (romOf w) D') (hm : Mem G (Env.bare D') F w') : Below w.heap.size w w' := by
  have hb : ∀ k, k < w.heap.size → w'.heap[k]? = w.heap[k]? := fun k hk => by
    have h1 : w.heap[k]? = some w.heap[k] := Array.getElem?_eq_getElem hk
    rw [h1]
    exact hm.rom _ _ (hle.heap _ _ h1)
  refine ⟨hm.os.trans hle.os, hm.tape.trans hle.tape, hm.output.trans hle.output, ?_, hb⟩
  rcases Nat.eq_zero_or_pos w.heap.size with h0 | h0
  · omega
  · have h1 := hb (w.heap.size - 1) (by omega)
    rw [Array.getElem?_eq_getElem (show w.heap.size - 1 < w.heap.size by omega)] at h1
    have := (Array.getElem?_eq_some_iff.1 h1).1
    omega

theorem law_calls {f : FuncId} {args : List SV} (hp : Pure P G f args (.bool true)) (hg : ∀ g, PRel (romOf w) (.ptr (G g)) (.pointer (some ⟨g, 0, none⟩))) (vs : List Value) (hl : vs.length = args.length)
    (hr : ∀ (i : Nat) (s : SV) (v : Value), args[i]? = some s → vs[i]? = some v → PRelA (romOf w) s v) :
    Calls P f vs.toArray w fun e w' => e = .returned (.bool true) ∧ Below w.heap.size w w' := by
  refine (hp.2 (romOf w) _ w vs (mem_start hg) hl hr).mono fun e w' ⟨D', v, hle, hm, he, hv⟩ => ⟨?_, below_end hle hm⟩
  have hv : PRel D' (.bool true) v := hv
  rw [he]
  cases hv
  rfl
end

section
variable {H : Type} {enc : TypeId × Value → H} {P : Program} {W W' : World}

theorem arg_agg {base : Nat} {sp : Nat → Bool} {hd : Bool} {t : TypeId} {cs : Array Value} {d : DataW H} {ps : List MemPlace} {n : Nat} {S : List Shp} (hs : shpOf P n t = some S) (h : DataW.Trod enc P W base sp hd t (.agg cs) d ps) :
    ∃ l, HasSL S l ∧ PRelA (romOf W) (.agg l) (.agg cs) := by
  obtain ⟨fuel, h⟩ := h
  obtain ⟨l, h1, h2, h3⟩ := decode (D := romOf W) (fun b off v hv => romOf_cell hv) n t S hs fuel _ _ h
  exact ⟨l, h1, cs.toList, by simp, h2.symm, h3⟩
theorem arg_one {base : Nat} {sp : Nat → Bool} {hd : Bool} {t : TypeId} {v : Value} {d : DataW H} {ps : List MemPlace} {n : Nat} {s : Shp} (hs : shpOf P n t = some [s]) (hc : v.cells.toList = [v]) (h : DataW.Trod enc P W base sp hd t v d ps) :
    ∃ x, HasS s x ∧ PRel (romOf W) x v := by
  obtain ⟨fuel, h⟩ := h
  obtain ⟨l, h1, h2, h3⟩ := decode (D := romOf W) (fun b off v hv => romOf_cell hv) n t _ hs fuel _ _ h
  rw [hc] at h3
  cases h1 with
  | cons _ _ x r g1 g2 => exact ⟨x, g1, h3 0 x v rfl rfl⟩

theorem trodAll_below (hl : laidOutB P = true) (hb : Below W.heap.size W W') : ∀ {ts : List TypeId} {vs : List Value} {ds : List (DataW H)} {ps : List MemPlace}, (∀ t ∈ ts, P.readableRec t = true ∧ t < P.types.size) →
    DataW.TrodAll enc P W 0 (fun _ => true) true ts vs ds ps → (∀ x ∈ ps, x.block < W.heap.size) → DataW.TrodAll enc P W' 0 (fun b => decide (b < W.heap.size)) true ts vs ds ps
  | [], [], [], _, _, h, _ => h
  | t :: _, _ :: _, _ :: _, _, ht, ⟨p, q, h1, h2, e⟩, hlt =>
    ⟨p, q, Below.trod hl (ht t (by simp)).1 (ht t (by simp)).2 h1 hb fun x hx => hlt x (by rw [e]; simp [hx]), trodAll_below hl hb (fun t' ht' => ht t' (by simp [ht'])) h2 fun x hx => hlt x (by rw [e]; simp [hx]), e⟩
  | [], [], _ :: _, _, _, h, _ => h.elim
  | [], _ :: _, _, _, _, h, _ => h.elim
  | _ :: _, [], _, _, _, h, _ => h.elim
  | _ :: _, _ :: _, [], _, _, h, _ => h.elim

theorem law_post {fn : Func} {s : ChangeSpec} {args : Array Value} {ds gs : List (DataW H)} {before : List MemPlace} {tb : TypeId} (hl : laidOutB P = true) (hW : DataW.Whole enc P fn.params.toList s.vars false W args.toList ds gs before) (hv : s.vars = [])
    (hB : Below W.heap.size W W') (hres : fn.resultTypes = #[tb]) (htb : P.underlying tb = some .bool) (hp : ∀ t ∈ fn.params.toList, P.readableRec t = true ∧ t < P.types.size) (hfn : s.fn H (ds ++ gs) = { results := [.lit (.bool true)], args := ds }) :
    s.post enc P fn false true false false W args (.bool true) W' := by
  have hlt := hW.lt
  have hW' := hW
  obtain ⟨p, q, hA, hV, rfl, _, _⟩ := hW
  refine ⟨ds, gs, _, [], p, [], hW', ?_, ?_, ?_, hB.frame _, fun h => by cases h⟩
  · rw [hfn, hres]
    exact trodAll_mk1 (shut_bool htb true)
  · rw [hfn]
    exact trodAll_below hl hB hp hA fun x hx => hlt x (by simp [hx])
  · rw [hv, hfn]
    exact rfl
end
end Go.Proofs.Yticandbdabgkeaa.Am
