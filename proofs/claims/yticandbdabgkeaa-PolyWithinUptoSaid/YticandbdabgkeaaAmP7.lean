/- The contract of the sort of points, out of the library's. No condition: definitions and lemmas. -/
import Derived.Test.YticandbdabgkeaaAmP6
import Derived.Test.YticandbdabgkeaaAmPS
import Derived.Test.YticandbdabgkeaaAmE2
namespace Go.Proofs.Yticandbdabgkeaa.Am
open Go Go.Shelf Go.RowKit Go.Lib
set_option maxRecDepth 100000

instance : Inhabited XY := ⟨⟨0, 0⟩⟩
def encP (p : XY) : List Value := [.int .i64 p.x, .int .i64 p.y]
def sortS (l : List XY) : List XY := l.mergeSort fun x y => !before y x

theorem lt_before : ltOf cmpP = before := by
  funext x y
  exact cmpP_lt x y

theorem before_iff (a b : XY) : before a b = true ↔ a.x < b.x ∨ (a.x = b.x ∧ a.y < b.y) := by simp [before]
theorem before_false (a b : XY) : before a b = false ↔ ¬ (a.x < b.x ∨ (a.x = b.x ∧ a.y < b.y)) := by
  rw [← before_iff]; simp

theorem before_swo : Sort.SWO (ltOf cmpP) := by
  rw [lt_before]
  refine ⟨fun x => ?_, fun x y z h1 h2 => ?_, fun x y z h1 h2 => ?_⟩
  · rw [before_false]; omega
  · rw [before_iff] at *; omega
  · rw [before_false] at *; omega

theorem xy_ext {a b : XY} (h1 : a.x = b.x) (h2 : a.y = b.y) : a = b := by
  cases a; cases b; simp only at h1 h2; rw [h1, h2]
theorem before_total (a b : XY) (h1 : before a b = false) (h2 : before b a = false) : a = b := by
  rw [before_false] at *
  exact xy_ext (by omega) (by omega)

theorem PRel.mono_cell {D D' : Rom} (h : ∀ b off v, D.cell b off = some v → D'.cell b off = some v) {s : SV} {v : Value} (hr : PRel D s v) : PRel D' s v := by
  induction hr with
  | int k n => exact .int k n
  | bool b => exact .bool b
  | str s => exact .str s
  | nils => exact .nils
  | nilp => exact .nilp
  | nilf => exact .nilf
  | nili => exact .nili
  | sl z xs A cap blk off u hcap hz hA hc _ ih => exact .sl z xs A cap blk off u hcap hz hA (fun i j e s h1 h2 => h _ _ _ (hc i j e s h1 h2)) ih
  | ptr cs blk off u hc _ ih => exact .ptr cs blk off u (fun j s h1 => h _ _ _ (hc j s h1)) ih
  | fn f cs vs hl _ ih => exact .fn f cs vs hl ih

/-- A world that has kept all blocks of another one. -/
theorem world_grow {W w' : World} (h1 : w'.os = W.os) (h2 : w'.tape = W.tape) (h3 : w'.output = W.output) (h4 : W.drawn ≤ w'.drawn) (h5 : ∀ (b : Nat) (o : Obj), W.heap[b]? = some o → w'.heap[b]? = some o) :
    ∃ q os', w' = Sort.grow (W.drewN q) os' := by
  have hsz : W.heap.size ≤ w'.heap.size := by
    rcases Nat.eq_zero_or_pos W.heap.size with h | h
    · omega
    · have := h5 (W.heap.size - 1) _ (Array.getElem?_eq_getElem (by omega))
      have := (Array.getElem?_eq_some_iff.1 this).1
      omega
  refine ⟨w'.drawn - W.drawn, w'.heap.extract W.heap.size w'.heap.size, ?_⟩
  have hh : w'.heap = W.heap ++ w'.heap.extract W.heap.size w'.heap.size := by
    refine Array.ext_getElem? fun k => ?_
    by_cases hk : k < W.heap.size
    · rw [Array.getElem?_append_left hk]
      rw [h5 k _ (Array.getElem?_eq_getElem hk), Array.getElem?_eq_getElem hk]
    · rw [Array.getElem?_append_right (by omega), Array.getElem?_extract]
      by_cases hk2 : k < w'.heap.size
      · rw [if_pos (by omega), show W.heap.size + (k - W.heap.size) = k by omega]
      · rw [if_neg (by omega), Array.getElem?_eq_none (by omega)]
  unfold Sort.grow World.drewN
  have hd : W.drawn + (w'.drawn - W.drawn) = w'.drawn := by omega
  cases w'
  simp only at *
  subst h1 h2 h3
  rw [hd]
  congr 1

theorem putRowK_heap (w : World) (blk : Nat) (d : Array XY) (k : Nat) (h : k ≠ blk) : (Sort.putRowK encP 2 w blk 0 d).heap[k]? = w.heap[k]? := by
  show (w.heap.modify blk _)[k]? = _
  rw [Array.getElem?_modify, if_neg (fun e => h e.symm)]
theorem sortWorld_heap (w : World) (blk m : Nat) (d : Array XY) (os : Array Obj) (k : Nat) (o : Obj) (h : k ≠ blk) (ho : w.heap[k]? = some o) : (sortWorldK encP 2 w blk 0 m d os).heap[k]? = some o := by
  have hk := (Array.getElem?_eq_some_iff.1 ho).1
  unfold sortWorldK Sort.grow
  show ((Sort.putRowK encP 2 (Sort.ahead w m) blk 0 d).heap ++ os)[k]? = some o
  have hs : (Sort.putRowK encP 2 (Sort.ahead w m) blk 0 d).heap.size = w.heap.size := by
    show (w.heap.modify blk _).size = _
    rw [Array.size_modify]
  rw [Array.getElem?_append_left (by rw [hs]; exact hk), putRowK_heap _ _ _ _ h]
  exact ho
theorem sortWorld_row (w : World) (blk m : Nat) (d : Array XY) (os : Array Obj) {c : Array Value} {ty : TypeId} {fr : Nat × Nat} (h : w.heap[blk]? = some (.cells c ty fr)) :
    (sortWorldK encP 2 w blk 0 m d os).heap[blk]? = some (.cells (Sort.putCells id 0 (Sort.flatK encP 2 d) c) ty fr) := by
  have hk := (Array.getElem?_eq_some_iff.1 h).1
  unfold sortWorldK Sort.grow
  show ((Sort.putRowK encP 2 (Sort.ahead w m) blk 0 d).heap ++ os)[blk]? = _
  have hs : (Sort.putRowK encP 2 (Sort.ahead w m) blk 0 d).heap.size = w.heap.size := by
    show (w.heap.modify blk _).size = _
    rw [Array.size_modify]
  rw [Array.getElem?_append_left (by rw [hs]; exact hk)]
  show (w.heap.modify blk _)[blk]? = _
  rw [Array.getElem?_modify, if_pos rfl, h]
  rfl
theorem putCells_get (d : Array XY) (c : Array Value) (i j : Nat) (hj : j < 2) (hi : i < d.size) (hc : i * 2 + j < c.size) : (Sort.putCells id 0 (Sort.flatK encP 2 d) c)[i * 2 + j]? = some (if j = 0 then .int .i64 (d[i]!).x else .int .i64 (d[i]!).y) := by
  unfold Sort.putCells
  rw [Array.getElem?_mapIdx, Array.getElem?_eq_getElem hc]
  simp only [Option.map_some, Sort.size_flatK]
  rw [if_pos (by omega), Nat.sub_zero, Sort.get_flatK _ _ _ _ (by omega)]
  rw [show (i * 2 + j) / 2 = i by omega, show (i * 2 + j) % 2 = j by omega]
  match j, hj with
  | 0, _ => rfl
  | 1, _ => rfl

theorem cmp_lays {D : Rom} (hg : ∀ g, PRel D (.ptr (G0 g)) (.pointer (some ⟨g, 0, none⟩))) {w : World} {blk : Nat} (hD : ∀ b o, D.heap b = some o → w.heap[b]? = some o) (hblk : D.heap blk = none) (size : Nat) :
    CmpLays Try.prog 42 #[] encP 2 cmpP blk 0 size w := fun m os dk _ x y => by
  generalize hW : sortWorldK encP 2 w blk 0 m dk os = W
  have hp := hullcmp_pure x y
  have hcell : ∀ b off v, D.cell b off = some v → (romOf W).cell b off = some v := fun b off v h => by
    unfold Rom.cell at *
    cases hb : D.heap b with
    | none => rw [hb] at h; cases h
    | some o =>
      have hne : b ≠ blk := fun e => by rw [e, hblk] at hb; cases hb
      have := sortWorld_heap w blk m dk os b o hne (hD b o hb)
      rw [hW] at this
      rw [hb] at h
      rw [show (romOf W).heap b = some o from this]
      exact h
  refine (hp.2 (romOf W) _ W [.agg (encP x).toArray, .agg (encP y).toArray] (mem_start fun g => (hg g).mono_cell hcell) rfl (fun i s v hs hv => ?_)).mono fun e w' => ?_
  · have one : ∀ p : XY, PRelA (romOf W) (.agg (eP p)) (.agg (encP p).toArray) := fun p => ⟨encP p, rfl, rfl, fun i s v hs hv => by
      match i, hs, hv with
      | 0, hs, hv => simp [eP] at hs; simp [encP] at hv; subst hs; subst hv; exact .int _ _
      | 1, hs, hv => simp [eP] at hs; simp [encP] at hv; subst hs; subst hv; exact .int _ _
      | i + 2, hs, hv => simp [eP] at hs⟩
    match i, hs, hv with
    | 0, hs, hv => simp at hs hv; subst hs; subst hv; exact one x
    | 1, hs, hv => simp at hs hv; subst hs; subst hv; exact one y
    | i + 2, hs, hv => simp at hs
  · rintro ⟨D', v, hle, hm, he, hv⟩
    have hv : PRel D' (.int .i64 (cmpP x y)) v := hv
    refine ⟨?_, world_grow (hm.os.trans hle.os) (hm.tape.trans hle.tape) (hm.output.trans hle.output) ?_ fun b o hb => hm.rom b o (hle.heap b o hb)⟩
    · rw [he]; cases hv; rfl
    · have := hm.dr
      rw [show (Env.bare D').D.dr = W.drawn from hle.dr] at this
      exact this

theorem sortfunc_row (l : List XY) (hne : l ≠ []) (hl : l.length ≤ 1000000) : RowC Try.prog G0 41 [.fn 42 []] 2 (l.map eP) (.tup []) ((sortS l).map eP) := by
  refine ⟨⟨_, Try.func41, rfl, rfl⟩, fun D F w p vs hmem hlen h0 hargs => ?_⟩
  obtain ⟨v0, v1, rfl⟩ : ∃ a b, vs = [a, b] := by
    match vs, hlen with
    | [a, b], _ => exact ⟨a, b, rfl⟩
  have hr0 := h0 v0 rfl
  have hr1 : PRel D (.fn 42 []) v1 := hargs 0 _ v1 rfl rfl
  have ev1 : v1 = .func (.func 42) #[] #[] := by
    cases hr1 with
    | fn _ _ cv hcl _ =>
      have : cv = [] := List.eq_nil_of_length_eq_zero hcl
      subst this; rfl
  subst ev1
  have hrow : RowAt p ⟨0, 1, 2, l.map eP⟩ v0 := by
    have := hr0.2.2 _ (Env.one_ob _ _ _ _) rfl
    rwa [Env.one_β] at this
  have hown := hmem.own 0 _ (Env.one_ob _ _ _ _)
  have hβ : (Env.one D p 2 (l.map eP)).β 0 0 = p := Env.one_β _ _ _ _
  cases p with
  | none =>
    have := hrow.1
    simp at this
    exact absurd this hne
  | some q =>
    obtain ⟨cap, rfl, hcap, hlc⟩ := hrow
    obtain ⟨h1, h2, c, ty, h3, h4, h5⟩ := hown.live (by simp) q hβ
    have hfits : (l.map eP).length * 2 ≤ q.2 := hown.fits q hβ
    rw [List.length_map] at hfits
    have hcells : ∀ (i j : Nat), i < l.length → j < 2 → c[i * 2 + j]? = some (if j = 0 then .int .i64 (nth l i).x else .int .i64 (nth l i).y) := fun i j hi hj => by
      have g1 : (l.map eP)[i]? = some (eP (nth l i)) := get_map (nth_getE hi)
      match j, hj with
      | 0, _ =>
        obtain ⟨v, f1, _, f3⟩ := h5 i 0 _ (.i (nth l i).x) g1 rfl
        have f3 : PRel D (.int .i64 (nth l i).x) v := f3 rfl
        cases f3; exact f1
      | 1, _ =>
        obtain ⟨v, f1, _, f3⟩ := h5 i 1 _ (.i (nth l i).y) g1 rfl
        have f3 : PRel D (.int .i64 (nth l i).y) v := f3 rfl
        cases f3; exact f1
    have hH : Sort.HoldsK encP 2 w q.1 0 l.toArray := fun j hj => by
      rw [Sort.size_flatK] at hj
      have hj : j < l.length * 2 := by simpa using hj
      have hg := hcells (j / 2) (j % 2) (by omega) (by omega)
      rw [show j / 2 * 2 + j % 2 = j by omega] at hg
      constructor
      · rw [Nat.zero_add, cell_at h3, hg]
        rw [Sort.get_flatK _ _ _ _ (by simpa using hj)]
        have e : l.toArray[j / 2]! = nth l (j / 2) := by
          have hlt : j / 2 < l.length := by omega
          rw [getElem!_pos l.toArray (j / 2) (by simpa using hlt)]
          have := nth_getE hlt
          rw [List.getElem?_eq_getElem hlt] at this
          simpa using this
        rw [e]
        rcases Nat.mod_two_eq_zero_or_one j with h | h <;> rw [h] <;> rfl
      · simp [World.frozen?, h3]
    have hsz : q.1 < w.heap.size := (Array.getElem?_eq_some_iff.1 h3).1
    have eg : ∀ args w, (callFunc 42 args).run Try.prog w = .ok (.enter 42 args) w := enters_of Try.func42 (by kernel_rfl) rfl
    have hcon := AnyQ.slices_SortFunc_total sortP 2 Try.isAgg40 Try.sizeOf40 encP (fun _ => rfl) (fun x v hv => by simp [encP] at hv; rcases hv with rfl | rfl <;> rfl) cmpP before_swo 42 #[] q.1 0 cap l.toArray w eg
      (cmp_lays hmem.glob hmem.rom h1 _) hH hsz (by simp; omega) (fun x y g1 g2 => before_total x y (by rw [← lt_before]; exact g1) (by rw [← lt_before]; exact g2))
    have e0 : (l.map eP).length = l.toArray.size := by simp
    rw [show ((⟨0, 1, 2, l.map eP⟩ : Ob).xs.length) = l.toArray.size from e0]
    refine hcon.mono fun e w' => ?_
    rintro ⟨he, n, os, rfl⟩
    have hsrt : (l.toArray.toList.mergeSort fun x y => !(ltOf cmpP) y x) = sortS l := by rw [lt_before]; rfl
    rw [hsrt]
    have hslen : (sortS l).length = l.length := List.length_mergeSort l
    refine ⟨D, .tuple #[], Rom.le.refl D, ?_, he, ⟨[], rfl, rfl, fun i s v hi => by simp at hi⟩⟩
    have keep : ∀ (k : Nat) (o : Obj), w.heap[k]? = some o → k ≠ q.1 → (sortWorldK encP 2 w q.1 0 n (sortS l).toArray os).heap[k]? = some o := fun k o ho hk => sortWorld_heap w q.1 n _ os k o hk ho
    refine ⟨hmem.os, hmem.tape, hmem.output, Nat.le_trans hmem.dr (Nat.le_add_right _ n), fun k o h => keep k o (hmem.rom k o h) (fun e => by have h1 : D.heap q.1 = none := h1; have h : D.heap k = some o := h; rw [e, h1] at h; cases h),
      fun k o h => keep k o (hmem.frm k o h) (fun e => by rw [e, h2] at h; cases h), hmem.apart, hmem.glob, fun o b hb => ?_, fun o1 o2 b1 b2 x y g1 g2 _ _ _ _ _ => ?_⟩
    · replace hb : upd (fun _ => none) 0 (some ⟨0, 1, 2, (sortS l).map eP⟩) o = some b := hb
      by_cases h : o = 0
      · subst h
        rw [upd_same] at hb
        cases hb
        have hβ2 : (Env.one D (some q) 2 ((sortS l).map eP)).β 0 0 = some q := Env.one_β _ _ _ _
        refine ⟨hown.st, fun i e hi => ?_, fun hn => ?_, fun q' hq => ?_, fun _ q' hq => ?_, fun hk => absurd hk (by simp)⟩
        · rw [List.getElem?_map] at hi
          cases hs : (sortS l)[i]? with
          | none => rw [hs] at hi; cases hi
          | some x => rw [hs] at hi; cases hi; rfl
        · rw [hβ2] at hn; cases hn
        · rw [hβ2] at hq; cases hq
          show ((sortS l).map eP).length * 2 ≤ q.2
          rw [List.length_map, hslen]; exact hfits
        · rw [hβ2] at hq; cases hq
          refine ⟨h1, h2, _, ty, sortWorld_row w q.1 n _ os h3, by rw [← h4]; simp [Sort.putCells], fun i j e s hi hj => ?_⟩
          replace hi : ((sortS l).map eP)[i]? = some e := hi
          rw [List.getElem?_map] at hi
          cases hs : (sortS l)[i]? with
          | none => rw [hs] at hi; cases hi
          | some x =>
            rw [hs] at hi
            cases hi
            have hil : i < l.length := by rw [← hslen]; exact (List.getElem?_eq_some_iff.1 hs).1
            have hx : (sortS l).toArray[i]! = x := by
              rw [getElem!_pos (sortS l).toArray i (by simpa [hslen] using hil)]
              have := (List.getElem?_eq_some_iff.1 hs).2
              simpa using this
            match j, hj with
            | 0, hj =>
              simp [eP] at hj; subst hj
              refine ⟨_, putCells_get _ c i 0 (by omega) (by simpa [hslen] using hil) (by rw [h4]; omega), ?_, fun _ => ?_⟩
              · rw [hx]; exact Rel0.of_pure (.int _ _)
              · rw [hx]; exact .int _ _
            | 1, hj =>
              simp [eP] at hj; subst hj
              refine ⟨_, putCells_get _ c i 1 (by omega) (by simpa [hslen] using hil) (by rw [h4]; omega), ?_, fun _ => ?_⟩
              · rw [hx]; exact Rel0.of_pure (.int _ _)
              · rw [hx]; exact .int _ _
            | j + 2, hj => simp [eP] at hj
      · rw [upd_other _ _ h] at hb; cases hb
    · replace g1 : upd (fun _ => none) 0 (some ⟨0, 1, 2, (sortS l).map eP⟩) o1 = some b1 := g1
      replace g2 : upd (fun _ => none) 0 (some ⟨0, 1, 2, (sortS l).map eP⟩) o2 = some b2 := g2
      by_cases e1 : o1 = 0
      · by_cases e2 : o2 = 0
        · rw [e1, e2]
        · rw [upd_other _ _ e2] at g2; cases g2
      · rw [upd_other _ _ e1] at g1; cases g1
end Go.Proofs.Yticandbdabgkeaa.Am
