/- Ranging over slices.Backward: the iterator as it runs, and the rounds. No condition: definitions and lemmas. -/
import Derived.Test.YticandbdabgkeaaAmP12
import Derived.RangeFuncBox
import Derived.RangeFuncLeaves
import Derived.TacticsInMore
import Derived.OwnWalkIn
namespace Go.Proofs.Yticandbdabgkeaa.Am
open Go
set_option maxRecDepth 100000

/-! ### Operations in a round -/
section
variable {P : Program} {G : Nat → List SV} {F : Nat → Option Obj} {D0 : Env} {N : Nat}

/-- An operation that is no call of a function, no defer, no comparison. -/
def plainB (o : Oper) : Bool := match goCall o.op with
  | true => false
  | false => match o.op with
    | .defer _ => false
    | .binOp .eql _ _ _ _ => false
    | .binOp .neq _ _ _ _ => false
    | _ => true

theorem nilQ_plain {o : Oper} (h : plainB o = true) (g : Operand → SV) : nilQ P o g = false := by
  unfold nilQ
  cases ho : o.op <;> try rfl
  rename_i op t x y yt
  cases op <;> first
    | (simp [plainB, ho, goCall] at h; done)
    | (simp only; repeat' (first | rfl | split))
theorem goCall_plain {o : Oper} (h : plainB o = true) : goCall o.op = false := by
  unfold plainB at h
  cases hg : goCall o.op with
  | true => rw [hg] at h; cases h
  | false => rfl
theorem defer_plain {o : Oper} (h : plainB o = true) : ∀ c, o.op ≠ .defer c := by
  intro c hc
  simp [plainB, goCall, hc] at h

theorem runOps_in {Fe : Fence} (hFe : ∀ f, Fe.fn f) {n : Nat} {cs : List Nat} {ops : Array Oper} {K : Kont} {Q : Exit → Act → World → Prop} {rest : List Oper} {tm : Array Value} {ds : List Deferred}
    (hQ : ∀ sl ob ct D β a w, K sl ob ct → Sim G D0 F N ⟨D, β, ob, ct⟩ sl ⟨a.tmps, []⟩ w → a.defers = ds → (∀ c ∈ cs, a.tmps.getD c undef = tm.getD c undef) → wpListIn Fe n P ops Q rest a w) :
    ∀ (l : List Oper), (l.all fun o => plainB o && !(o.dst.any cs.contains)) = true → ∀ (sl : Slots) (ob : Tab) (ct : Cnt) (D : Rom) (β : Nat → Nat → Option (Nat × Nat)) (a : Act) (w : World), runOps P G N ops.toList K l sl ob ct →
      Sim G D0 F N ⟨D, β, ob, ct⟩ sl ⟨a.tmps, []⟩ w → a.defers = ds → (∀ c ∈ cs, a.tmps.getD c undef = tm.getD c undef) → wpListIn Fe n P ops Q (l ++ rest) a w
  | [], _, sl, ob, ct, D, β, a, w, h, hs, hd, ht => hQ sl ob ct D β a w h hs hd ht
  | o :: r, hp, sl, ob, ct, D, β, a, w, h, hs, hd, ht => by
    obtain ⟨hp1, hp2⟩ : (plainB o = true ∧ (o.dst.any cs.contains) = false) ∧ (r.all fun o => plainB o && !(o.dst.any cs.contains)) = true := by simpa using hp
    obtain ⟨hp0, hp1⟩ := hp1
    have keep : ∀ x, ∀ c ∈ cs, (a.put o.dst x).tmps.getD c undef = tm.getD c undef := fun x c hc => by
      rw [← ht c hc]
      cases hdst : o.dst with
      | none => rfl
      | some d =>
        have hne : c ≠ d := fun e => by
          subst e
          rw [hdst] at hp1
          have : cs.contains c = true := by simpa using hc
          simp only [Option.any_some, this] at hp1
          cases hp1
        show (a.tmps.setIfInBounds d x).getD c undef = _
        rw [Array.getD_eq_getD_getElem?, Array.getElem?_setIfInBounds, if_neg (fun e => hne e.symm), Array.getD_eq_getD_getElem?]
    show wpListIn Fe n P ops Q (o :: (r ++ rest)) a w
    unfold wpListIn
    rw [runOps_cons] at h
    rcases gate_sound hs h with ⟨hw, h⟩ | ⟨hw, h⟩
    · replace hw : Region.wanted o (yielded ops a.tmps) = true := hw
      rw [if_pos hw]
      refine ⟨fun f _ => hFe f, ?_⟩
      rw [Oper.semAt_plain Fe a.eval o (defer_plain hp0)]
      unfold actN at h
      rw [nilQ_plain hp0] at h
      replace h : actD P G o (ev G sl) ob ct _ := h
      unfold actD at h
      rw [goCall_plain hp0] at h
      obtain ⟨v, us, x, w', D', β', h1, h2, h3, h4, h5⟩ := act_sound (E := ⟨D, β, ob, ct⟩) (ρ := a.eval) hs.mem (fun x => (show a.eval x = (⟨a.tmps, []⟩ : Act).eval x by cases x <;> rfl) ▸ ev_rel hs x) h
      obtain ⟨sl', hk, hs'⟩ := setd_sound h1 hs h5 h4 h3
      rcases h2 with h2 | ⟨h2, rfl⟩
      · rw [h2]
        exact runOps_in hFe hQ r hp2 sl' _ _ D' β' _ w' hk (by cases hdst : o.dst <;> rw [hdst] at hs' <;> exact hs') (by cases o.dst <;> exact hd) (keep _)
      · rw [h2]
        exact runOps_in hFe hQ r hp2 sl' _ _ D' β' _ w' hk (by cases hdst : o.dst <;> rw [hdst] at hs' <;> exact hs') (by cases o.dst <;> exact hd) (keep _)
    · replace hw : Region.wanted o (yielded ops a.tmps) = false := hw
      rw [if_neg (by rw [hw]; simp)]
      obtain ⟨sl', hk, hs'⟩ := setd_sound h hs (Env.le.refl _) hs.mem (undef_rel _)
      exact ⟨fun f _ => hFe f, runOps_in hFe hQ r hp2 sl' ob ct D β (a.put o.dst undef) w hk (by cases hdst : o.dst <;> rw [hdst] at hs' <;> exact hs') (by cases o.dst <;> exact hd) (keep _)⟩

/-- The first k operations of a list. -/
theorem runOps_at (k : Nat) {Fe : Fence} (hFe : ∀ f, Fe.fn f) {n : Nat} (cs : List Nat) {ops : Array Oper} (K : Kont) {Q : Exit → Act → World → Prop} {l : List Oper} {sl : Slots} {ob : Tab} {ct : Cnt} {D : Rom} {β : Nat → Nat → Option (Nat × Nat)} {a : Act} {w : World}
    (hs : Sim G D0 F N ⟨D, β, ob, ct⟩ sl ⟨a.tmps, []⟩ w) (hp : ((l.take k).all fun o => plainB o && !(o.dst.any cs.contains)) = true) (h : runOps P G N ops.toList K (l.take k) sl ob ct)
    (hQ : ∀ sl ob ct D β a' w', K sl ob ct → Sim G D0 F N ⟨D, β, ob, ct⟩ sl ⟨a'.tmps, []⟩ w' → a'.defers = a.defers → (∀ c ∈ cs, a'.tmps.getD c undef = a.tmps.getD c undef) → wpListIn Fe n P ops Q (l.drop k) a' w') :
    wpListIn Fe n P ops Q l a w := by
  have := runOps_in (rest := l.drop k) hFe hQ (l.take k) hp sl ob ct D β a w h hs rfl (fun _ _ => rfl)
  rwa [List.take_append_drop] at this
/-- All of a region's operations. -/
theorem region_in {Fe : Fence} (hFe : ∀ f, Fe.fn f) {n id : Nat} (cs : List Nat) {ops : List Oper} (K : Kont) {Q : Exit → Act → World → Prop} {sl : Slots} {ob : Tab} {ct : Cnt} {D : Rom} {β : Nat → Nat → Option (Nat × Nat)} {a : Act} {w : World}
    (hs : Sim G D0 F N ⟨D, β, ob, ct⟩ sl ⟨a.tmps, []⟩ w) (hp : (ops.all fun o => plainB o && !(o.dst.any cs.contains)) = true) (h : runOps P G N ops K ops sl ob ct)
    (hQ : ∀ sl ob ct D β a' w', K sl ob ct → Sim G D0 F N ⟨D, β, ob, ct⟩ sl ⟨a'.tmps, []⟩ w' → a'.defers = a.defers → (∀ c ∈ cs, a'.tmps.getD c undef = a.tmps.getD c undef) → Q .normal a' w') :
    (Code.region id ops.toArray false).wpIn Fe n P Q a w := by
  refine wpIn_region_lit ?_
  have := runOps_in (n := n) (ops := ops.toArray) (rest := []) hFe (K := K) (Q := Q) (fun sl ob ct D β a w a1 a2 a3 a4 => wpListIn_nil (hQ sl ob ct D β a w a1 a2 a3 a4)) ops hp sl ob ct D β a w (by simpa using h) hs rfl (fun _ _ => rfl)
  rwa [List.append_nil] at this

theorem in_op {Fe : Fence} (hFe : ∀ f, Fe.fn f) {n : Nat} {ops : Array Oper} {Q : Exit → Act → World → Prop} {rest : List Oper} {a : Act} {w w' : World} {o : Oper} {v : Value} (hg : o.guard = none) (hd : ∀ c, o.op ≠ .defer c)
    (hr : (execOp a.eval o).run P w = .ok (.value v) w') (h : wpListIn Fe n P ops Q rest (a.put o.dst v) w') : wpListIn Fe n P ops Q (o :: rest) a w := by
  unfold wpListIn
  rw [if_pos (by simp [Region.wanted, hg])]
  refine ⟨fun f _ => hFe f, ?_⟩
  rw [Oper.semAt_plain Fe a.eval o hd, hr]
  exact h

theorem in_round {Fe : Fence} (hFe : ∀ f, Fe.fn f) (hdp : Fe.depth = none) {n : Nat} {ops : Array Oper} {Q : Exit → Act → World → Prop} {rest : List Oper} {a : Act} {w w' : World} {o : Oper} {l : Nat} {f : FuncId} {tmps : Array Value} {assign body : Code} (hg : o.guard = none) (hd : ∀ c, o.op ≠ .defer c)
    (hr : (execOp a.eval o).run P w = .ok (.round l f tmps assign body) w') (h : RoundIn Fe (n - 1) P l f tmps assign body w' fun e w'' => ∃ v, e = .returned v ∧ wpListIn Fe n P ops Q rest (a.put o.dst v) w'') : wpListIn Fe n P ops Q (o :: rest) a w := by
  unfold wpListIn
  rw [if_pos (by simp [Region.wanted, hg])]
  refine ⟨fun f _ => hFe f, ?_⟩
  rw [Oper.semAt_plain Fe a.eval o hd, hr]
  refine ⟨fun hh => (by rw [hdp] at hh; cases hh), h.mono ?_⟩
  rintro e w'' ⟨v, rfl, h⟩
  exact h
end

/-! ### Memory that has grown -/
structure Ext (w w' : World) : Prop where
  os : w'.os = w.os
  tape : w'.tape = w.tape
  output : w'.output = w.output
  drawn : w.drawn ≤ w'.drawn
  heap : ∀ (b : Nat) (o : Obj), w.heap[b]? = some o → w'.heap[b]? = some o

section
variable {G : Nat → List SV} {E : Env} {F : Nat → Option Obj} {w w' : World}
theorem Mem.ext (hm : Mem G E F w) (h : Ext w w') : Mem G E F w' := by
  refine ⟨h.os.trans hm.os, h.tape.trans hm.tape, h.output.trans hm.output, Nat.le_trans hm.dr h.drawn, fun b o hb => h.heap b o (hm.rom b o hb), fun b o hb => h.heap b o (hm.frm b o hb), hm.apart, hm.glob, fun o b hb => ?_, hm.inj⟩
  have ho := hm.own o b hb
  refine ⟨ho.st, ho.len, ho.nil, ho.fits, fun hk q hq => ?_, ho.dead⟩
  obtain ⟨h1, h2, c, ty, h3, h4⟩ := ho.live hk q hq
  exact ⟨h1, h2, c, ty, h.heap _ _ h3, h4⟩

/-- All of memory, as it lies. -/
def fullD (w : World) : Rom := ⟨fun b => w.heap[b]?, w.os, w.tape, w.output, w.drawn⟩
theorem full_mem (w : World) : Mem G0 (Env.bare (fullD w)) (fun _ => none) w :=
  ⟨rfl, rfl, rfl, Nat.le_refl _, fun _ _ h => h, fun _ _ h => (by cases h), fun _ _ h => (by cases h), fun g => .ptr [] g 0 (fun _ => undef) (fun j s h => by simp at h) (fun j s h => by simp at h), fun o b hb => (by cases hb), fun o o' b b' x y hb => (by cases hb)⟩
theorem full_ext {E' : Env} {F' : Nat → Option Obj} (hle : Env.le (Env.bare (fullD w)) E') (hm : Mem G E' F' w') : Ext w w' :=
  ⟨hm.os.trans hle.D.os, hm.tape.trans hle.D.tape, hm.output.trans hle.D.output, (by have := hm.dr; rw [hle.D.dr] at this; exact this), fun b o h => hm.rom b o (hle.D.heap b o h)⟩
theorem PRel.heap {D D' : Rom} (h : ∀ b o, D.heap b = some o → D'.heap b = some o) {s : SV} {v : Value} (hr : PRel D s v) : PRel D' s v := by
  have hc : ∀ {b off : Nat} {v : Value}, D.cell b off = some v → D'.cell b off = some v := fun {b off v} hx => by
    unfold Rom.cell at *
    cases hb : D.heap b with
    | none => simp [hb] at hx
    | some o => rw [h b o hb]; rw [hb] at hx; exact hx
  induction hr with
  | int k n => exact .int k n
  | bool b => exact .bool b
  | str s => exact .str s
  | nils => exact .nils
  | nilp => exact .nilp
  | nilf => exact .nilf
  | nili => exact .nili
  | sl z xs A cap blk off u hcap hz hA hcl _ ih => exact .sl z xs A cap blk off u hcap hz hA (fun i j e s h1 h2 => hc (hcl i j e s h1 h2)) ih
  | ptr cs blk off u hcl _ ih => exact .ptr cs blk off u (fun j s h1 => hc (hcl j s h1)) ih
  | fn f cs vs hl _ ih => exact .fn f cs vs hl ih

theorem rel_mkS {E : Env} {f : Nat → Value} : ∀ {l : List (Nat × SV)}, (∀ p ∈ l, Rel E p.2 (f p.1)) → ∀ t, Rel E (mkS l t) (f t)
  | [], _, t => trivial
  | (d, v) :: r, h, t => by
    show Rel E (match Nat.beq t d with | true => v | false => mkS r t) (f t)
    cases hb : Nat.beq t d with
    | true => rw [Nat.eq_of_beq_eq_true hb]; exact h (d, v) (by simp)
    | false => exact rel_mkS (fun p hp => h p (by simp [hp])) t

/-- A frame's object is turned. -/
theorem Mem.turn {l : Nat} {o : Obj} (o' : Obj) (hm : Mem G E F w) (hFl : F l = some o) : Mem G E (upd F l (some o')) (w.putObj l o') := by
  have hl := hm.frm l o hFl
  have hlt : l < w.heap.size := (Array.getElem?_eq_some_iff.1 hl).1
  refine ⟨hm.os, hm.tape, hm.output, hm.dr, fun b x hb => ?_, fun b x hb => ?_, fun b x hb => ?_, hm.glob, fun k b hb => ?_, hm.inj⟩
  · have hne : b ≠ l := fun e => by
      subst e
      have := hm.apart b o hFl
      rw [this] at hb; cases hb
    rw [World.putObj_heap_other hne]; exact hm.rom b x hb
  · by_cases e : b = l
    · subst e
      rw [upd_same] at hb
      cases hb
      exact World.putObj_heap_same hlt
    · rw [upd_other _ _ e] at hb
      rw [World.putObj_heap_other e]
      exact hm.frm b x hb
  · by_cases e : b = l
    · subst e; exact hm.apart b o hFl
    · rw [upd_other _ _ e] at hb
      exact hm.apart b x hb
  · have ho := hm.own k b hb
    refine ⟨ho.st, ho.len, ho.nil, ho.fits, fun hk q hq => ?_, ho.dead⟩
    obtain ⟨h1, h2, c, ty, h3, h4⟩ := ho.live hk q hq
    have hne : q.1 ≠ l := fun e => by rw [e, hFl] at h2; cases h2
    refine ⟨h1, ?_, c, ty, ?_, h4⟩
    · rw [upd_other _ _ hne]; exact h2
    · rw [World.putObj_heap_other hne]; exact h3
/-- Less of the frame. -/
theorem Mem.unframe {F' : Nat → Option Obj} (hm : Mem G E F' w) (h : ∀ b o, F b = some o → F' b = some o) : Mem G E F w := by
  refine ⟨hm.os, hm.tape, hm.output, hm.dr, hm.rom, fun b o hb => hm.frm b o (h b o hb), fun b o hb => hm.apart b o (h b o hb), hm.glob, fun k b hb => ?_, hm.inj⟩
  have ho := hm.own k b hb
  refine ⟨ho.st, ho.len, ho.nil, ho.fits, fun hk q hq => ?_, ho.dead⟩
  obtain ⟨h1, h2, h3⟩ := ho.live hk q hq
  refine ⟨h1, ?_, h3⟩
  cases hF : F q.1 with
  | none => rfl
  | some x => rw [h _ _ hF] at h2; cases h2
/-- A new object for the frame. -/
theorem Mem.frame (hm : Mem G E F w) (o : Obj) : Mem G E (upd F w.heap.size (some o)) (w.alloc o) := by
  have old : ∀ {b : Nat} {x : Obj}, w.heap[b]? = some x → b ≠ w.heap.size ∧ (w.alloc o).heap[b]? = some x := fun {b x} h => by
    have hlt : b < w.heap.size := (Array.getElem?_eq_some_iff.1 h).1
    refine ⟨by omega, ?_⟩
    show (w.heap.push o)[b]? = some x
    rw [Array.getElem?_push, if_neg (by omega)]; exact h
  refine ⟨hm.os, hm.tape, hm.output, hm.dr, fun b x hb => (old (hm.rom b x hb)).2, fun b x hb => ?_, fun b x hb => ?_, hm.glob, fun k b hb => ?_, hm.inj⟩
  · by_cases e : b = w.heap.size
    · subst e
      rw [upd_same] at hb
      cases hb
      exact World.alloc_heap_new w o
    · rw [upd_other _ _ e] at hb
      exact (old (hm.frm b x hb)).2
  · by_cases e : b = w.heap.size
    · subst e
      cases hD : E.D.heap w.heap.size with
      | none => rfl
      | some y => exact absurd rfl (old (hm.rom _ _ hD)).1
    · rw [upd_other _ _ e] at hb
      exact hm.apart b x hb
  · have ho := hm.own k b hb
    refine ⟨ho.st, ho.len, ho.nil, ho.fits, fun hk q hq => ?_, ho.dead⟩
    obtain ⟨h1, h2, c, ty, h3, h4⟩ := ho.live hk q hq
    obtain ⟨g1, g2⟩ := old h3
    exact ⟨h1, by rw [upd_other _ _ g1]; exact h2, c, ty, g2, h4⟩
end
end Go.Proofs.Yticandbdabgkeaa.Am
