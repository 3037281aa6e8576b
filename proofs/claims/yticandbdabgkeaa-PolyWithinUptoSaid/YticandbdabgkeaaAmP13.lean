/- Ranging over slices.Backward: the iterator as it runs, and the rounds. No condition: definitions and lemmas. slices.Backward's iterator. No condition: definitions and lemmas. The contract of the program's mirror. No condition: definitions and lemmas. -/
import Derived.Test.YticandbdabgkeaaAmP12
import Derived.RangeFuncBox
import Derived.RangeFuncLeaves
import Derived.TacticsInMore
import Derived.OwnWalkIn
namespace Go.Proofs.Yticandbdabgkeaa.Am
open Go
set_option maxRecDepth 100000

/-! ### Operations in a round -/
section
variable {P : Program} {G : Nat → List SV} {F : Nat → Option Obj} {D0 : Env} {N : Nat}

/-- An operation that is no call of a function, no defer, no comparison. -/
def plainB (o : Oper) : Bool := match goCall o.op with
  | true => false
  | false => match o.op with
    | .defer _ => false
    | .binOp .eql _ _ _ _ => false
    | .binOp .neq _ _ _ _ => false
    | _ => true

theorem nilQ_plain {o : Oper} (h : plainB o = true) (g : Operand → SV) : nilQ P o g = false := by
  unfold nilQ
  cases ho : o.op <;> try rfl
  rename_i op t x y yt
  cases op <;> first
    | (simp [plainB, ho, goCall] at h; done)
    | (simp only; repeat' (first | rfl | split))
theorem goCall_plain {o : Oper} (h : plainB o = true) : goCall o.op = false := by
  unfold plainB at h
  cases hg : goCall o.op with
  | true => rw [hg] at h; cases h
  | false => rfl
theorem defer_plain {o : Oper} (h : plainB o = true) : ∀ c, o.op ≠ .defer c := by
  intro c hc
  simp [plainB, goCall, hc] at h

theorem runOps_in {Fe : Fence} (hFe : ∀ f, Fe.fn f) {n : Nat} {cs : List Nat} {ops : Array Oper} {K : Kont} {Q : Exit → Act → World → Prop} {rest : List Oper} {tm : Array Value} {ds : List Deferred}
    (hQ : ∀ sl ob ct D β a w, K sl ob ct → Sim G D0 F N ⟨D, β, ob, ct⟩ sl ⟨a.tmps, []⟩ w → a.defers = ds → (∀ c ∈ cs, a.tmps.getD c undef = tm.getD c undef) → wpListIn Fe n P ops Q rest a w) :
    ∀ (l : List Oper), (l.all fun o => plainB o && !(o.dst.any cs.contains)) = true → ∀ (sl : Slots) (ob : Tab) (ct : Cnt) (D : Rom) (β : Nat → Nat → Option (Nat × Nat)) (a : Act) (w : World), runOps P G N ops.toList K l sl ob ct →
      Sim G D0 F N ⟨D, β, ob, ct⟩ sl ⟨a.tmps, []⟩ w → a.defers = ds → (∀ c ∈ cs, a.tmps.getD c undef = tm.getD c undef) → wpListIn Fe n P ops Q (l ++ rest) a w
  | [], _, sl, ob, ct, D, β, a, w, h, hs, hd, ht => hQ sl ob ct D β a w h hs hd ht
  | o :: r, hp, sl, ob, ct, D, β, a, w, h, hs, hd, ht => by
    obtain ⟨hp1, hp2⟩ : (plainB o = true ∧ (o.dst.any cs.contains) = false) ∧ (r.all fun o => plainB o && !(o.dst.any cs.contains)) = true := by simpa using hp
    obtain ⟨hp0, hp1⟩ := hp1
    have keep : ∀ x, ∀ c ∈ cs, (a.put o.dst x).tmps.getD c undef = tm.getD c undef := fun x c hc => by
      rw [← ht c hc]
      cases hdst : o.dst with
      | none => rfl
      | some d =>
        have hne : c ≠ d := fun e => by
          subst e
          rw [hdst] at hp1
          have : cs.contains c = true := by simpa using hc
          simp only [Option.any_some, this] at hp1
          cases hp1
        show (a.tmps.setIfInBounds d x).getD c undef = _
        rw [Array.getD_eq_getD_getElem?, Array.getElem?_setIfInBounds, if_neg (fun e => hne e.symm), Array.getD_eq_getD_getElem?]
    show wpListIn Fe n P ops Q (o :: (r ++ rest)) a w
    unfold wpListIn
    rw [runOps_cons] at h
    rcases gate_sound hs h with ⟨hw, h⟩ | ⟨hw, h⟩
    · replace hw : Region.wanted o (yielded ops a.tmps) = true := hw
      rw [if_pos hw]
      refine ⟨fun f _ => hFe f, ?_⟩
      rw [Oper.semAt_plain Fe a.eval o (defer_plain hp0)]
      unfold actN at h
      rw [nilQ_plain hp0] at h
      replace h : actD P G o (ev G sl) ob ct _ := h
      unfold actD at h
      rw [goCall_plain hp0] at h
      obtain ⟨v, us, x, w', D', β', h1, h2, h3, h4, h5⟩ := act_sound (E := ⟨D, β, ob, ct⟩) (ρ := a.eval) hs.mem (fun x => (show a.eval x = (⟨a.tmps, []⟩ : Act).eval x by cases x <;> rfl) ▸ ev_rel hs x) h
      obtain ⟨sl', hk, hs'⟩ := setd_sound h1 hs h5 h4 h3
      rcases h2 with h2 | ⟨h2, rfl⟩
      · rw [h2]
        exact runOps_in hFe hQ r hp2 sl' _ _ D' β' _ w' hk (by cases hdst : o.dst <;> rw [hdst] at hs' <;> exact hs') (by cases o.dst <;> exact hd) (keep _)
      · rw [h2]
        exact runOps_in hFe hQ r hp2 sl' _ _ D' β' _ w' hk (by cases hdst : o.dst <;> rw [hdst] at hs' <;> exact hs') (by cases o.dst <;> exact hd) (keep _)
    · replace hw : Region.wanted o (yielded ops a.tmps) = false := hw
      rw [if_neg (by rw [hw]; simp)]
      obtain ⟨sl', hk, hs'⟩ := setd_sound h hs (Env.le.refl _) hs.mem (undef_rel _)
      exact ⟨fun f _ => hFe f, runOps_in hFe hQ r hp2 sl' ob ct D β (a.put o.dst undef) w hk (by cases hdst : o.dst <;> rw [hdst] at hs' <;> exact hs') (by cases o.dst <;> exact hd) (keep _)⟩

/-- The first k operations of a list. -/
theorem runOps_at (k : Nat) {Fe : Fence} (hFe : ∀ f, Fe.fn f) {n : Nat} (cs : List Nat) {ops : Array Oper} (K : Kont) {Q : Exit → Act → World → Prop} {l : List Oper} {sl : Slots} {ob : Tab} {ct : Cnt} {D : Rom} {β : Nat → Nat → Option (Nat × Nat)} {a : Act} {w : World}
    (hs : Sim G D0 F N ⟨D, β, ob, ct⟩ sl ⟨a.tmps, []⟩ w) (hp : ((l.take k).all fun o => plainB o && !(o.dst.any cs.contains)) = true) (h : runOps P G N ops.toList K (l.take k) sl ob ct)
    (hQ : ∀ sl ob ct D β a' w', K sl ob ct → Sim G D0 F N ⟨D, β, ob, ct⟩ sl ⟨a'.tmps, []⟩ w' → a'.defers = a.defers → (∀ c ∈ cs, a'.tmps.getD c undef = a.tmps.getD c undef) → wpListIn Fe n P ops Q (l.drop k) a' w') :
    wpListIn Fe n P ops Q l a w := by
  have := runOps_in (rest := l.drop k) hFe hQ (l.take k) hp sl ob ct D β a w h hs rfl (fun _ _ => rfl)
  rwa [List.take_append_drop] at this
/-- All of a region's operations. -/
theorem region_in {Fe : Fence} (hFe : ∀ f, Fe.fn f) {n id : Nat} (cs : List Nat) {ops : List Oper} (K : Kont) {Q : Exit → Act → World → Prop} {sl : Slots} {ob : Tab} {ct : Cnt} {D : Rom} {β : Nat → Nat → Option (Nat × Nat)} {a : Act} {w : World}
    (hs : Sim G D0 F N ⟨D, β, ob, ct⟩ sl ⟨a.tmps, []⟩ w) (hp : (ops.all fun o => plainB o && !(o.dst.any cs.contains)) = true) (h : runOps P G N ops K ops sl ob ct)
    (hQ : ∀ sl ob ct D β a' w', K sl ob ct → Sim G D0 F N ⟨D, β, ob, ct⟩ sl ⟨a'.tmps, []⟩ w' → a'.defers = a.defers → (∀ c ∈ cs, a'.tmps.getD c undef = a.tmps.getD c undef) → Q .normal a' w') :
    (Code.region id ops.toArray false).wpIn Fe n P Q a w := by
  refine wpIn_region_lit ?_
  have := runOps_in (n := n) (ops := ops.toArray) (rest := []) hFe (K := K) (Q := Q) (fun sl ob ct D β a w a1 a2 a3 a4 => wpListIn_nil (hQ sl ob ct D β a w a1 a2 a3 a4)) ops hp sl ob ct D β a w (by simpa using h) hs rfl (fun _ _ => rfl)
  rwa [List.append_nil] at this

theorem in_op {Fe : Fence} (hFe : ∀ f, Fe.fn f) {n : Nat} {ops : Array Oper} {Q : Exit → Act → World → Prop} {rest : List Oper} {a : Act} {w w' : World} {o : Oper} {v : Value} (hg : o.guard = none) (hd : ∀ c, o.op ≠ .defer c)
    (hr : (execOp a.eval o).run P w = .ok (.value v) w') (h : wpListIn Fe n P ops Q rest (a.put o.dst v) w') : wpListIn Fe n P ops Q (o :: rest) a w := by
  unfold wpListIn
  rw [if_pos (by simp [Region.wanted, hg])]
  refine ⟨fun f _ => hFe f, ?_⟩
  rw [Oper.semAt_plain Fe a.eval o hd, hr]
  exact h

theorem in_round {Fe : Fence} (hFe : ∀ f, Fe.fn f) (hdp : Fe.depth = none) {n : Nat} {ops : Array Oper} {Q : Exit → Act → World → Prop} {rest : List Oper} {a : Act} {w w' : World} {o : Oper} {l : Nat} {f : FuncId} {tmps : Array Value} {assign body : Code} (hg : o.guard = none) (hd : ∀ c, o.op ≠ .defer c)
    (hr : (execOp a.eval o).run P w = .ok (.round l f tmps assign body) w') (h : RoundIn Fe (n - 1) P l f tmps assign body w' fun e w'' => ∃ v, e = .returned v ∧ wpListIn Fe n P ops Q rest (a.put o.dst v) w'') : wpListIn Fe n P ops Q (o :: rest) a w := by
  unfold wpListIn
  rw [if_pos (by simp [Region.wanted, hg])]
  refine ⟨fun f _ => hFe f, ?_⟩
  rw [Oper.semAt_plain Fe a.eval o hd, hr]
  refine ⟨fun hh => (by rw [hdp] at hh; cases hh), h.mono ?_⟩
  rintro e w'' ⟨v, rfl, h⟩
  exact h
end

/-! ### Memory that has grown -/
structure Ext (w w' : World) : Prop where
  os : w'.os = w.os
  tape : w'.tape = w.tape
  output : w'.output = w.output
  drawn : w.drawn ≤ w'.drawn
  heap : ∀ (b : Nat) (o : Obj), w.heap[b]? = some o → w'.heap[b]? = some o

section
variable {G : Nat → List SV} {E : Env} {F : Nat → Option Obj} {w w' : World}
theorem Mem.ext (hm : Mem G E F w) (h : Ext w w') : Mem G E F w' := by
  refine ⟨h.os.trans hm.os, h.tape.trans hm.tape, h.output.trans hm.output, Nat.le_trans hm.dr h.drawn, fun b o hb => h.heap b o (hm.rom b o hb), fun b o hb => h.heap b o (hm.frm b o hb), hm.apart, hm.glob, fun o b hb => ?_, hm.inj⟩
  have ho := hm.own o b hb
  refine ⟨ho.st, ho.len, ho.nil, ho.fits, fun hk q hq => ?_, ho.dead⟩
  obtain ⟨h1, h2, c, ty, h3, h4⟩ := ho.live hk q hq
  exact ⟨h1, h2, c, ty, h.heap _ _ h3, h4⟩

/-- All of memory, as it lies. -/
def fullD (w : World) : Rom := ⟨fun b => w.heap[b]?, w.os, w.tape, w.output, w.drawn⟩
theorem full_mem (w : World) : Mem G0 (Env.bare (fullD w)) (fun _ => none) w :=
  ⟨rfl, rfl, rfl, Nat.le_refl _, fun _ _ h => h, fun _ _ h => (by cases h), fun _ _ h => (by cases h), fun g => .ptr [] g 0 (fun _ => undef) (fun j s h => by simp at h) (fun j s h => by simp at h), fun o b hb => (by cases hb), fun o o' b b' x y hb => (by cases hb)⟩
theorem full_ext {E' : Env} {F' : Nat → Option Obj} (hle : Env.le (Env.bare (fullD w)) E') (hm : Mem G E' F' w') : Ext w w' :=
  ⟨hm.os.trans hle.D.os, hm.tape.trans hle.D.tape, hm.output.trans hle.D.output, (by have := hm.dr; rw [hle.D.dr] at this; exact this), fun b o h => hm.rom b o (hle.D.heap b o h)⟩
theorem PRel.heap {D D' : Rom} (h : ∀ b o, D.heap b = some o → D'.heap b = some o) {s : SV} {v : Value} (hr : PRel D s v) : PRel D' s v := by
  have hc : ∀ {b off : Nat} {v : Value}, D.cell b off = some v → D'.cell b off = some v := fun {b off v} hx => by
    unfold Rom.cell at *
    cases hb : D.heap b with
    | none => simp [hb] at hx
    | some o => rw [h b o hb]; rw [hb] at hx; exact hx
  induction hr with
  | int k n => exact .int k n
  | bool b => exact .bool b
  | str s => exact .str s
  | nils => exact .nils
  | nilp => exact .nilp
  | nilf => exact .nilf
  | nili => exact .nili
  | sl z xs A cap blk off u hcap hz hA hcl _ ih => exact .sl z xs A cap blk off u hcap hz hA (fun i j e s h1 h2 => hc (hcl i j e s h1 h2)) ih
  | ptr cs blk off u hcl _ ih => exact .ptr cs blk off u (fun j s h1 => hc (hcl j s h1)) ih
  | fn f cs vs hl _ ih => exact .fn f cs vs hl ih

theorem rel_mkS {E : Env} {f : Nat → Value} : ∀ {l : List (Nat × SV)}, (∀ p ∈ l, Rel E p.2 (f p.1)) → ∀ t, Rel E (mkS l t) (f t)
  | [], _, t => trivial
  | (d, v) :: r, h, t => by
    show Rel E (match Nat.beq t d with | true => v | false => mkS r t) (f t)
    cases hb : Nat.beq t d with
    | true => rw [Nat.eq_of_beq_eq_true hb]; exact h (d, v) (by simp)
    | false => exact rel_mkS (fun p hp => h p (by simp [hp])) t

/-- A frame's object is turned. -/
theorem Mem.turn {l : Nat} {o : Obj} (o' : Obj) (hm : Mem G E F w) (hFl : F l = some o) : Mem G E (upd F l (some o')) (w.putObj l o') := by
  have hl := hm.frm l o hFl
  have hlt : l < w.heap.size := (Array.getElem?_eq_some_iff.1 hl).1
  refine ⟨hm.os, hm.tape, hm.output, hm.dr, fun b x hb => ?_, fun b x hb => ?_, fun b x hb => ?_, hm.glob, fun k b hb => ?_, hm.inj⟩
  · have hne : b ≠ l := fun e => by
      subst e
      have := hm.apart b o hFl
      rw [this] at hb; cases hb
    rw [World.putObj_heap_other hne]; exact hm.rom b x hb
  · by_cases e : b = l
    · subst e
      rw [upd_same] at hb
      cases hb
      exact World.putObj_heap_same hlt
    · rw [upd_other _ _ e] at hb
      rw [World.putObj_heap_other e]
      exact hm.frm b x hb
  · by_cases e : b = l
    · subst e; exact hm.apart b o hFl
    · rw [upd_other _ _ e] at hb
      exact hm.apart b x hb
  · have ho := hm.own k b hb
    refine ⟨ho.st, ho.len, ho.nil, ho.fits, fun hk q hq => ?_, ho.dead⟩
    obtain ⟨h1, h2, c, ty, h3, h4⟩ := ho.live hk q hq
    have hne : q.1 ≠ l := fun e => by rw [e, hFl] at h2; cases h2
    refine ⟨h1, ?_, c, ty, ?_, h4⟩
    · rw [upd_other _ _ hne]; exact h2
    · rw [World.putObj_heap_other hne]; exact h3
/-- Less of the frame. -/
theorem Mem.unframe {F' : Nat → Option Obj} (hm : Mem G E F' w) (h : ∀ b o, F b = some o → F' b = some o) : Mem G E F w := by
  refine ⟨hm.os, hm.tape, hm.output, hm.dr, hm.rom, fun b o hb => hm.frm b o (h b o hb), fun b o hb => hm.apart b o (h b o hb), hm.glob, fun k b hb => ?_, hm.inj⟩
  have ho := hm.own k b hb
  refine ⟨ho.st, ho.len, ho.nil, ho.fits, fun hk q hq => ?_, ho.dead⟩
  obtain ⟨h1, h2, h3⟩ := ho.live hk q hq
  refine ⟨h1, ?_, h3⟩
  cases hF : F q.1 with
  | none => rfl
  | some x => rw [h _ _ hF] at h2; cases h2
/-- A new object for the frame. -/
theorem Mem.frame (hm : Mem G E F w) (o : Obj) : Mem G E (upd F w.heap.size (some o)) (w.alloc o) := by
  have old : ∀ {b : Nat} {x : Obj}, w.heap[b]? = some x → b ≠ w.heap.size ∧ (w.alloc o).heap[b]? = some x := fun {b x} h => by
    have hlt : b < w.heap.size := (Array.getElem?_eq_some_iff.1 h).1
    refine ⟨by omega, ?_⟩
    show (w.heap.push o)[b]? = some x
    rw [Array.getElem?_push, if_neg (by omega)]; exact h
  refine ⟨hm.os, hm.tape, hm.output, hm.dr, fun b x hb => (old (hm.rom b x hb)).2, fun b x hb => ?_, fun b x hb => ?_, hm.glob, fun k b hb => ?_, hm.inj⟩
  · by_cases e : b = w.heap.size
    · subst e
      rw [upd_same] at hb
      cases hb
      exact World.alloc_heap_new w o
    · rw [upd_other _ _ e] at hb
      exact (old (hm.frm b x hb)).2
  · by_cases e : b = w.heap.size
    · subst e
      cases hD : E.D.heap w.heap.size with
      | none => rfl
      | some y => exact absurd rfl (old (hm.rom _ _ hD)).1
    · rw [upd_other _ _ e] at hb
      exact hm.apart b x hb
  · have ho := hm.own k b hb
    refine ⟨ho.st, ho.len, ho.nil, ho.fits, fun hk q hq => ?_, ho.dead⟩
    obtain ⟨h1, h2, c, ty, h3, h4⟩ := ho.live hk q hq
    obtain ⟨g1, g2⟩ := old h3
    exact ⟨h1, by rw [upd_other _ _ g1]; exact h2, c, ty, g2, h4⟩
end
end Go.Proofs.Yticandbdabgkeaa.Am

namespace Go.Proofs.Yticandbdabgkeaa.Am
open Go
set_option maxRecDepth 100000

theorem backward_pure (l : List XY) : Pure Try.prog G0 39 [.sl 2 (l.map eP)] (.fn 59 [.ptr [.sl 2 (l.map eP)]]) := by
  refine pure_of mixed Try.func39 rfl rfl (Nat.le_of_ble_eq_true rfl) ?_
  conv => whnf
  repeat (refine And.intro ?_ ?_; (first | (with_reducible show okR _ _ _ _ = true; kernel_rfl) | (with_reducible show addC _ _ _ = _; kernel_rfl) | rfl | trivial | kernel_rfl | omega | exact Nat.le_of_ble_eq_true rfl | exact lt_len0 rfl | exact lt_len1 rfl); conv => whnf)
  exact rfl

section
variable {J : Nat → World → Prop}

/-- What a round of the loop over the iterator gets: the element's number, the element. -/
def ptV (p : XY) : Value := .agg #[.int .i64 p.x, .int .i64 p.y]

theorem backIter (l : List XY) (hl : l.length ≤ 1000000) (D : Rom) (pv : Value) (lp : Nat) (J : Nat → World → Prop)
    (hD : ∀ k W, J k W → ∀ b o, D.heap b = some o → W.heap[b]? = some o) (hp : PRel D (.ptr [.sl 2 (l.map eP)]) pv)
    (hext : ∀ k W W', J k W → Ext W W' → J k W')
    (hround : ∀ k p W, l[k]? = some p → J (k + 1) W → ∃ fn tmps assign body, (Instr.yield lp #[.int .i64 (k : Int), ptV p]).run Try.prog W = .ok (.round lp fn tmps assign body) W ∧
      RoundIn Fence.wide 0 Try.prog lp fn tmps assign body W fun e W' => e = .returned (.bool true) ∧ J k W')
    (W : World) (h0 : J l.length W) :
    Calls Try.prog 59 #[.func (.yield lp) #[] #[], pv] W fun e W' => (∃ v, e = .returned v) ∧ J 0 W' := by
  have hF : ∀ f, Fence.wide.fn f := fun _ => trivial
  have simOf : ∀ (w : World) (a : Act) (m : List (Nat × SV)), a.tmps.size = 19 → (∀ p ∈ m, Rel (Env.bare (fullD w)) p.2 (a.tmps.getD p.1 undef)) →
      Sim G0 (Env.bare (fullD w)) (fun _ => none) 19 ⟨fullD w, fun _ _ => none, fun _ => none, fun _ => 0⟩ (mkS m) ⟨a.tmps, []⟩ w := fun w a m hsz hm =>
    ⟨Env.le.refl _, full_mem w, hsz, rfl, rel_mkS hm⟩
  have ptrOf : ∀ k w, J k w → Rel (Env.bare (fullD w)) (.ptr [.sl 2 (l.map eP)]) pv := fun k w hj => Rel.of0 (Rel0.of_pure (PRel.heap (D' := fullD w) (fun b o h => hD k w hj b o h) hp))
  have intOf : ∀ (w : World) (n : Int), Rel (Env.bare (fullD w)) (.i n) (.int .i64 n) := fun w n => Rel.of0 (Rel0.of_pure (.int _ _))
  refine calls_of_wp Try.func59 rfl ?_
  obtain ⟨a0, ha0⟩ : ∃ a0 : Act, a0 = { tmps := [Value.func (.yield lp) #[] #[], pv].toArray ++ Array.replicate (19 - [Value.func (.yield lp) #[] #[], pv].toArray.size) undef, defers := [] } := ⟨_, rfl⟩
  have hsz0 : a0.tmps.size = 19 := by rw [ha0]; exact enter_size _ 19 (Nat.le_of_ble_eq_true rfl)
  have hd0 : a0.defers = [] := by rw [ha0]
  have h00 : a0.tmps.getD 0 undef = .func (.yield lp) #[] #[] := by rw [ha0]; exact enter_get _ 19 0
  have h01 : a0.tmps.getD 1 undef = pv := by rw [ha0]; exact enter_get _ 19 1
  show Code.wp Try.prog _ _ { tmps := [Value.func (.yield lp) #[] #[], pv].toArray ++ Array.replicate (19 - [Value.func (.yield lp) #[] #[], pv].toArray.size) undef, defers := [] } W
  rw [← ha0]
  clear ha0
  refine (wpIn_wide (n := 0)).1 (wpIn_seq ?_)
  refine region_in hF [0, 1] (fun sl _ _ => sl 3 = .i ((l.length : Int) - 1)) (simOf W a0 [(1, .ptr [.sl 2 (l.map eP)])] hsz0 (by simp only [List.mem_singleton]; rintro p rfl; rw [h01]; exact ptrOf _ W h0)) rfl ?_ ?_
  · conv => whnf
    repeat (refine And.intro ?_ ?_; (first | (with_reducible show okR _ _ _ _ = true; kernel_rfl) | (with_reducible show addC _ _ _ = _; kernel_rfl) | rfl | trivial | kernel_rfl | omega | exact Nat.le_of_ble_eq_true rfl | exact lt_len0 rfl | exact lt_len1 rfl); conv => whnf)
    refine inI (by simp only [List.length_map]; omega) (by simp only [List.length_map]; omega) ?_
    conv => whnf
    repeat (refine And.intro ?_ ?_; (first | (with_reducible show okR _ _ _ _ = true; kernel_rfl) | (with_reducible show addC _ _ _ = _; kernel_rfl) | rfl | trivial | kernel_rfl | omega | exact Nat.le_of_ble_eq_true rfl | exact lt_len0 rfl | exact lt_len1 rfl); conv => whnf)
    show SV.i _ = SV.i _
    rw [List.length_map]
  · intro sl1 ob1 ct1 D1 β1 a1 W1 hK1 hs1 hd1 ht1
    have hj1 : J l.length W1 := hext _ _ _ h0 (full_ext hs1.le hs1.mem)
    have hr3 := hs1.rel 3
    rw [hK1] at hr3
    have h13 : a1.tmps.getD 3 undef = .int .i64 ((l.length : Int) - 1) := rel_int hr3
    refine wpIn_block (wpIn_wide.2 (wp_loop_ghost (fun n a w => a.tmps.size = 19 ∧ a.defers = [] ∧ a.tmps.getD 0 undef = .func (.yield lp) #[] #[] ∧ a.tmps.getD 1 undef = pv ∧ a.tmps.getD 3 undef = .int .i64 ((n : Int) - 1) ∧ n ≤ l.length ∧ J n w) l.length
      ⟨hs1.size, hd1.trans hd0, (ht1 0 (by simp)).trans h00, (ht1 1 (by simp)).trans h01, h13, Nat.le_refl _, hj1⟩ ?_))
    rintro n a w ⟨hsz, hd, h0', h1', h3', hn, hj⟩
    refine (wpIn_wide (n := 0)).1 (wpIn_seq (wpIn_seq ?_))
    have hs0 := simOf w a [(1, .ptr [.sl 2 (l.map eP)]), (3, .i ((n : Int) - 1))] hsz (by
      intro p hp
      simp only [List.mem_cons, List.not_mem_nil, or_false] at hp
      rcases hp with rfl | rfl
      · rw [h1']; exact ptrOf _ w hj
      · rw [h3']; exact intOf w _)
    refine region_in hF [0, 1, 3] (fun sl _ _ => sl 8 = .bool (decide (0 < n))) hs0 rfl ?_ ?_
    · conv => whnf
      repeat (refine And.intro ?_ ?_; (first | (with_reducible show okR _ _ _ _ = true; kernel_rfl) | (with_reducible show addC _ _ _ = _; kernel_rfl) | rfl | trivial | kernel_rfl | omega | exact Nat.le_of_ble_eq_true rfl | exact lt_len0 rfl | exact lt_len1 rfl); conv => whnf)
      show SV.bool (decide (0 ≤ (n : Int) - 1)) = _
      rw [show decide (0 ≤ (n : Int) - 1) = decide (0 < n) from decide_eq_decide.2 (by omega)]
    intro sl2 ob2 ct2 D2 β2 a2 w2 hK2 hs2 hd2 ht2
    have hj2 : J n w2 := hext _ _ _ hj (full_ext hs2.le hs2.mem)
    have hr8 := hs2.rel 8
    rw [hK2] at hr8
    have h28 : a2.eval (.tmp 8) = .bool (decide (0 < n)) := rel_bool hr8
    have e0 := (ht2 0 (by simp)).trans h0'
    have e1 := (ht2 1 (by simp)).trans h1'
    have e3 := (ht2 3 (by simp)).trans h3'
    cases n with
    | zero =>
      refine wpIn_cond_false h28 (wpIn_exit ?_)
      exact ⟨hd2.trans hd, _, results_none rfl _ _ _, ⟨_, rfl⟩, hj2⟩
    | succ n =>
      refine wpIn_cond_true h28 (wpIn_skip ?_)
      refine wpIn_seq (wpIn_block (wpIn_seq (wpIn_region_lit ?_)))
      obtain ⟨p, hp⟩ := get_lt (show n < l.length by omega)
      have hsz2 : a2.tmps.size = 19 := hs2.size
      refine in_op hF rfl (fun c h => by cases h) (v := a2.eval (.tmp 0)) (w' := w2) rfl ?_
      obtain ⟨a3, ha3⟩ : ∃ a3, a3 = a2.put (some 11) (a2.eval (.tmp 0)) := ⟨_, rfl⟩
      have g3 : ∀ t, a3.tmps.getD t undef = if t = 11 then .func (.yield lp) #[] #[] else a2.tmps.getD t undef := fun t => by rw [ha3, put_get a2 11 _ (by rw [hsz2]; omega) t]; rw [show a2.eval (.tmp 0) = _ from e0]
      have hsz3 : a3.tmps.size = 19 := by rw [ha3]; simpa [Act.put] using hsz2
      have hd3 : a3.defers = [] := by rw [ha3]; exact hd2.trans hd
      show wpListIn _ _ _ _ _ _ (a2.put (some 11) (a2.eval (.tmp 0))) w2
      rw [← ha3]
      clear ha3
      have f1 : a3.tmps.getD 1 undef = pv := (g3 1).trans e1
      have f0 : a3.tmps.getD 0 undef = .func (.yield lp) #[] #[] := (g3 0).trans e0
      have f3 : a3.tmps.getD 3 undef = .int .i64 (n : Int) := ((g3 3).trans e3).trans (by congr 1; omega)
      have f11 : a3.tmps.getD 11 undef = .func (.yield lp) #[] #[] := g3 11
      have hs3 := simOf w2 a3 [(1, .ptr [.sl 2 (l.map eP)]), (3, .i (n : Int))] hsz3 (by
        intro q hq
        simp only [List.mem_cons, List.not_mem_nil, or_false] at hq
        rcases hq with rfl | rfl
        · rw [f1]; exact ptrOf _ w2 hj2
        · rw [f3]; exact intOf w2 _)
      refine runOps_at 5 hF [0, 1, 3, 11] (fun sl _ _ => sl 12 = .i (n : Int) ∧ sl 16 = .agg (eP p)) hs3 rfl ?_ ?_
      · conv => whnf
        repeat (refine And.intro ?_ ?_; (first | (with_reducible show okR _ _ _ _ = true; kernel_rfl) | (with_reducible show addC _ _ _ = _; kernel_rfl) | rfl | trivial | kernel_rfl | omega | exact Nat.le_of_ble_eq_true rfl | exact lt_len0 rfl | exact lt_len1 rfl); conv => whnf)
        refine ⟨_, get_map hp, ?_⟩
        conv => whnf
        repeat (refine And.intro ?_ ?_; (first | (with_reducible show okR _ _ _ _ = true; kernel_rfl) | (with_reducible show addC _ _ _ = _; kernel_rfl) | rfl | trivial | kernel_rfl | omega | exact Nat.le_of_ble_eq_true rfl | exact lt_len0 rfl | exact lt_len1 rfl); conv => whnf)
        exact rfl
      intro sl4 ob4 ct4 D4 β4 a4 w4 hK4 hs4 hd4 ht4
      have hj4 : J (n + 1) w4 := hext _ _ _ hj2 (full_ext hs4.le hs4.mem)
      have hr12 := hs4.rel 12
      rw [hK4.1] at hr12
      have k12 : a4.tmps.getD 12 undef = .int .i64 (n : Int) := rel_int hr12
      have k16 : a4.tmps.getD 16 undef = ptV p := by
        have hr16 := hs4.rel 16
        rw [hK4.2] at hr16
        obtain ⟨vs, h1, h2, h3⟩ := (show RelA _ (.agg (eP p)) _ from hr16)
        have ez : ∀ (i : Nat) (n : Int) (v : Value), (eP p)[i]? = some (.i n) → vs[i]? = some v → v = .int .i64 n := fun i n v a b => rel_int (Rel.of0 (h3 i _ v a b))
        match vs, h1, h2, ez with
        | [x, y], h1, _, ez =>
          refine (show a4.tmps.getD 16 undef = _ from h1).trans ?_
          rw [ez 0 p.x x rfl rfl, ez 1 p.y y rfl rfl]
          rfl
      obtain ⟨fn, tmps, assign, body, hy, hR⟩ := hround n p w4 hp hj4
      refine in_round hF rfl rfl (fun c h => by cases h) (l := lp) (f := fn) (tmps := tmps) (assign := assign) (body := body) (w' := w4) ?_ (hR.mono ?_)
      · have k11 : a4.tmps.getD 11 undef = .func (.yield lp) #[] #[] := (ht4 11 (by simp)).trans f11
        have c12 : a4.eval (.tmp 12) = .int .i64 (n : Int) := k12
        have c16 : a4.eval (.tmp 16) = ptV p := k16
        have c11 : a4.eval (.tmp 11) = .func (.yield lp) #[] #[] := k11
        simp [execOp, resolve, c11, c12, c16, Deferred.ofValue, invoke, hy]
      rintro e w5 ⟨rfl, hj5⟩
      refine ⟨_, rfl, ?_⟩
      obtain ⟨a5, ha5⟩ : ∃ a5, a5 = a4.put (some 17) (.bool true) := ⟨_, rfl⟩
      have hsz4 : a4.tmps.size = 19 := hs4.size
      have g5 : ∀ t, a5.tmps.getD t undef = if t = 17 then .bool true else a4.tmps.getD t undef := fun t => by rw [ha5, put_get a4 17 _ (by rw [hsz4]; omega) t]
      have hsz5 : a5.tmps.size = 19 := by rw [ha5]; simpa [Act.put] using hsz4
      have hd5 : a5.defers = [] := by rw [ha5]; exact hd4.trans hd3
      show wpListIn _ _ _ _ _ _ (a4.put (some 17) (.bool true)) w5
      rw [← ha5]
      clear ha5
      have b0 : a5.tmps.getD 0 undef = .func (.yield lp) #[] #[] := (g5 0).trans ((ht4 0 (by simp)).trans f0)
      have b1 : a5.tmps.getD 1 undef = pv := (g5 1).trans ((ht4 1 (by simp)).trans f1)
      have b3 : a5.tmps.getD 3 undef = .int .i64 (n : Int) := (g5 3).trans ((ht4 3 (by simp)).trans f3)
      have hs5 := simOf w5 a5 [(17, .bool true)] hsz5 (by
        intro q hq
        simp only [List.mem_singleton] at hq
        subst hq
        rw [show a5.tmps.getD (17, SV.bool true).1 undef = _ from g5 17]
        exact Rel.of0 (Rel0.of_pure (.bool true)))
      refine runOps_at 1 hF [0, 1, 3] (fun sl _ _ => sl 18 = .bool false) hs5 rfl ?_ ?_
      · conv => whnf
        repeat (refine And.intro ?_ ?_; (first | (with_reducible show okR _ _ _ _ = true; kernel_rfl) | (with_reducible show addC _ _ _ = _; kernel_rfl) | rfl | trivial | kernel_rfl | omega | exact Nat.le_of_ble_eq_true rfl | exact lt_len0 rfl | exact lt_len1 rfl); conv => whnf)
        exact rfl
      intro sl6 ob6 ct6 D6 β6 a6 w6 hK6 hs6 hd6 ht6
      have hj6 : J n w6 := hext _ _ _ hj5 (full_ext hs6.le hs6.mem)
      have hr18 := hs6.rel 18
      rw [hK6] at hr18
      refine wpListIn_nil (wpIn_cond_false (show a6.eval (.tmp 18) = .bool false from rel_bool hr18) (wpIn_skip ?_))
      have hs7 := simOf w6 a6 [(3, .i (n : Int))] hs6.size (by
        intro q hq
        simp only [List.mem_singleton] at hq
        subst hq
        rw [show a6.tmps.getD (3, SV.i (n : Int)).1 undef = _ from (ht6 3 (by simp)).trans b3]
        exact intOf w6 _)
      refine region_in hF [0, 1] (fun sl _ _ => sl 3 = .i ((n : Int) - 1)) hs7 rfl ?_ ?_
      · conv => whnf
        repeat (refine And.intro ?_ ?_; (first | (with_reducible show okR _ _ _ _ = true; kernel_rfl) | (with_reducible show addC _ _ _ = _; kernel_rfl) | rfl | trivial | kernel_rfl | omega | exact Nat.le_of_ble_eq_true rfl | exact lt_len0 rfl | exact lt_len1 rfl); conv => whnf)
        refine inI (by omega) (by omega) ?_
        conv => whnf
        repeat (refine And.intro ?_ ?_; (first | (with_reducible show okR _ _ _ _ = true; kernel_rfl) | (with_reducible show addC _ _ _ = _; kernel_rfl) | rfl | trivial | kernel_rfl | omega | exact Nat.le_of_ble_eq_true rfl | exact lt_len0 rfl | exact lt_len1 rfl); conv => whnf)
      intro sl8 ob8 ct8 D8 β8 a8 w8 hK8 hs8 hd8 ht8
      have hj8 : J n w8 := hext _ _ _ hj6 (full_ext hs8.le hs8.mem)
      have hr83 := hs8.rel 3
      rw [hK8] at hr83
      exact ⟨n, Nat.lt_succ_self n, hs8.size, hd8.trans (hd6.trans hd5), (ht8 0 (by simp)).trans ((ht6 0 (by simp)).trans b0), (ht8 1 (by simp)).trans ((ht6 1 (by simp)).trans b1), rel_int hr83, by omega, hj8⟩
end
end Go.Proofs.Yticandbdabgkeaa.Am

namespace Go.Proofs.Yticandbdabgkeaa.Am
open Go
set_option maxRecDepth 100000

section
variable {P : Program} {G : Nat → List SV} {F : Nat → Option Obj} {D0 : Env} {N : Nat}
/-- A text's first parts on the abstract machine, what lies behind them by hand. -/
theorem pre4 (hm : P.follows .mixedOrders = true) {A B C D X Y : Code} {n : Nat} {Qf : QK} {Qc : Exit → Act → World → Prop} {sl : Slots} {ob : Tab} {ct : Cnt} {R : Rom} {β : Nat → Nat → Option (Nat × Nat)} {a : Act} {w : World}
    (hs : Sim G D0 F N ⟨R, β, ob, ct⟩ sl a w) (h : wpC P G N (A.seq (B.seq (C.seq D))) Qf sl ob ct)
    (hx : ∀ e sl ob ct R β a w, e ≠ .normal → Qf e sl ob ct → Sim G D0 F N ⟨R, β, ob, ct⟩ sl a w → Qc e a w)
    (hn : ∀ sl ob ct R β a w, Qf .normal sl ob ct → Sim G D0 F N ⟨R, β, ob, ct⟩ sl a w → X.wpIn Fence.wide n P (Exit.then (Y.wpIn Fence.wide n P Qc) Qc) a w) :
    (A.seq (B.seq (C.seq ((D.seq X).seq Y)))).wpIn Fence.wide n P Qc a w := by
  have go : ∀ (c : Code) (K : Kont) (Qd : Exit → Act → World → Prop), (∀ e a w, e ≠ .normal → Qc e a w → Qd e a w) → ∀ (sl : Slots) (ob : Tab) (ct : Cnt) (R : Rom) (β : Nat → Nat → Option (Nat × Nat)) (a : Act) (w : World), wpC P G N c (thenK K Qf) sl ob ct → Sim G D0 F N ⟨R, β, ob, ct⟩ sl a w →
      (∀ sl ob ct R β a w, K sl ob ct → Sim G D0 F N ⟨R, β, ob, ct⟩ sl a w → Qd .normal a w) → c.wpIn Fence.wide n P Qd a w := fun c K Qd hQ sl ob ct R β a w h hs hk => by
    refine wpIn_wide.2 (wpC_sound hm c _ sl ob ct h D0 F R β a w _ hs fun e sl' ob' ct' R' β' a' w' hh hs' => ?_)
    cases e with
    | normal => exact hk _ _ _ _ _ _ _ hh hs'
    | exit id => exact hQ _ _ _ (by simp) (hx _ _ _ _ _ _ _ _ (by simp) hh hs')
    | goto l => exact hQ _ _ _ (by simp) (hx _ _ _ _ _ _ _ _ (by simp) hh hs')
    | ret => exact hQ _ _ _ (by simp) (hx _ _ _ _ _ _ _ _ (by simp) hh hs')
    | panic ch => exact hQ _ _ _ (by simp) (hx _ _ _ _ _ _ _ _ (by simp) hh hs')
    | outgrown => exact hQ _ _ _ (by simp) (hx _ _ _ _ _ _ _ _ (by simp) hh hs')
  have thenQ : ∀ (K : Act → World → Prop) {Qc : Exit → Act → World → Prop} e a w, e ≠ .normal → Qc e a w → Exit.then K Qc e a w := fun K Qc e a w he hq => by
    cases e <;> first | exact absurd rfl he | exact hq
  refine wpIn_seq (go A _ _ (thenQ _) sl ob ct R β a w h hs fun sl ob ct R β a w h hs => ?_)
  refine wpIn_seq (go B _ _ (thenQ _) sl ob ct R β a w h hs fun sl ob ct R β a w h hs => ?_)
  refine wpIn_seq (go C _ _ (thenQ _) sl ob ct R β a w h hs fun sl ob ct R β a w h hs => ?_)
  refine wpIn_seq (wpIn_seq (go D (Qf .normal) _ (fun e a w he hq => ?_) sl ob ct R β a w ?_ hs fun sl ob ct R β a w h hs => hn sl ob ct R β a w h hs))
  · exact thenQ _ e a w he (thenQ _ e a w he hq)
  · exact wpC_mono D h fun e sl ob ct hh => by cases e <;> exact hh
end

/-- **A loop over slices.Backward**, from what its rounds keep. -/
theorem range_back (l : List XY) (hl : l.length ≤ 1000000) {g : Operand} {i1 i2 : Nat} {assign body : Code} {Q : Exit → Act → World → Prop} {a : Act} {w : World} {F : Nat → Option Obj} {R1 : Rom} {pv : Value}
    (hg : a.eval g = .func (.func 59) #[] #[pv]) (hpv : PRel R1 (.ptr [.sl 2 (l.map eP)]) pv)
    (I : Nat → (Nat → Option Obj) → World → Prop) (I1 : Nat → XY → (Nat → Option Obj) → Act → World → Prop)
    (hrom : ∀ k F' W, I k F' W → ∀ b o, R1.heap b = some o → W.heap[b]? = some o)
    (hext : ∀ k F' W W', I k F' W → Ext W W' → I k F' W')
    (hturn : ∀ k F' W b o o', I k F' W → F' b = some o → I k (upd F' b (some o')) (W.putObj b o'))
    (hturn1 : ∀ k p F' a W b o o', I1 k p F' a W → F' b = some o → I1 k p (upd F' b (some o')) a (W.putObj b o'))
    (hun : ∀ k F' F'' W, I k F' W → (∀ b o, F'' b = some o → F' b = some o) → I k F'' W)
    (hfrm : ∀ k F' W, I k F' W → ∀ b o, F' b = some o → W.heap[b]? = some o)
    (hfrm1 : ∀ k p F' a W, I1 k p F' a W → ∀ b o, F' b = some o → W.heap[b]? = some o)
    (hnew : ∀ k F' W o, I k F' W → I k (upd F' W.heap.size (some o)) (W.alloc o))
    (h0 : I l.length F w)
    (hassign : ∀ lp k p F' W, l[k]? = some p → I (k + 1) F' W → assign.wpIn (Fence.wide.inRound lp) 0 Try.prog (Exit.then (fun a1 W1 => I1 k p F' a1 W1) (fun _ _ _ => False)) { tmps := (a.tmps.setIfInBounds i1 (.int .i64 (k : Int))).setIfInBounds i2 (ptV p), defers := [] } W)
    (hbody : ∀ lp k p F' a1 W1, l[k]? = some p → I1 k p F' a1 W1 → body.wpIn (Fence.wide.inRound lp) 0 Try.prog (fun e _ W' => e = .normal ∧ I k F' W') a1 W1)
    (hdone : ∀ mk W, (∀ o, F mk ≠ some o) → I 0 (upd F mk (some (.deferred (some [])))) W → Q .normal { a with defers := { target := .collected mk, args := #[] } :: a.defers } W) :
    (Code.rangeFunc g #[i1, i2] assign body).wpIn Fence.wide 0 Try.prog Q a w := by
  refine wpIn_rangeFunc fun fn hfn => ?_
  obtain ⟨m, hm⟩ : ∃ m, m = w.heap.size := ⟨_, rfl⟩
  obtain ⟨rec, hrec⟩ : ∃ rec : LoopState → Option Code → Loop, rec = fun st pe => { state := st, pending := pe, fn, tmps := a.tmps, params := #[i1, i2], assign, body, defers := m } := ⟨_, rfl⟩
  obtain ⟨W1, hW1⟩ : ∃ W1, (w.alloc (.deferred (some []))).alloc (.loop (rec .ready none)) = W1 := ⟨_, rfl⟩
  obtain ⟨Fr, hFr⟩ : ∃ Fr : Nat → Option Obj, Fr = upd (upd F m (some (.deferred (some [])))) (m + 1) (some (.loop (rec .ready none))) := ⟨_, rfl⟩
  have hFm : ∀ b, m ≤ b → ∀ o, F b ≠ some o := fun b hb o ho => by
    have := (Array.getElem?_eq_some_iff.1 (hfrm _ _ _ h0 b o ho)).1
    omega
  have hFl : Fr (m + 1) = some (.loop (rec .ready none)) := by rw [hFr]; exact upd_same _ _ _
  have hFk : Fr m = some (.deferred (some [])) := by rw [hFr, upd_other _ _ (by omega)]; exact upd_same _ _ _
  have h1 : I l.length Fr W1 := by
    have := hnew _ _ _ (.loop (rec .ready none)) (hnew _ _ _ (.deferred (some [])) h0)
    rw [hW1, World.size_alloc, ← hm] at this
    rw [hFr]; exact this
  -- the record turned and turned back
  have back : ∀ (o1 : Obj) b o, Fr b = some o → upd (upd Fr (m + 1) (some o1)) (m + 1) (some (.loop (rec .ready none))) b = some o := fun o1 b o h => by
    by_cases e : b = m + 1
    · subst e; rw [upd_same, ← hFl]; exact h
    · rw [upd_other _ _ e, upd_other _ _ e]; exact h
  refine ⟨m + 1, [{ target := .collected m, args := #[] }], W1, { target := .fn (.func 59) #[pv], args := #[.func (.yield (m + 1)) #[] #[]] }, W1, 59,
    #[.func (.yield (m + 1)) #[] #[]] ++ #[pv], W1, ?_, ?_, fun _ _ => trivial, ?_, fun h => (by cases h), callsIn_wide.2 ?_⟩
  · rw [← hW1, hrec, hm]; exact run_enterLoop_outer _ _ _ _ _
  · simp only [resolve, hg]
    simp [go_sem]
  · have h1 : Try.f59.body.isNone = false := rfl
    have h2 : (Try.f59.name == "runtime.NumGoroutine") = false := rfl
    simp [invoke, callFunc, Try.func59, show Try.f59.body ≠ none from fun e => (by rw [e] at h1; cases h1), show ¬ (Try.f59.name = "runtime.NumGoroutine") from fun h => by rw [h] at h2; simp at h2]
  · have := backIter l hl R1 pv (m + 1) (fun k W => I k Fr W) (fun k W h => hrom k _ W h) hpv (fun k W W' h he => hext k _ W W' h he) ?_ W1 h1
    · refine this.mono ?_
      rintro e W2 ⟨⟨v, rfl⟩, h2⟩
      have hl2 : W2.heap[m + 1]? = some (.loop (rec .ready none)) := hfrm _ _ _ h2 _ _ hFl
      have hend : (Instr.endLoop (m + 1)).run Try.prog W2 = .ok none (W2.putObj (m + 1) (.loop { rec .ready none with state := .exhausted })) := by
        have := run_endLoop (P := Try.prog) hl2 (by rw [hrec]; simp)
        rw [hrec] at this ⊢
        exact this
      refine ⟨none, _, hend, ?_⟩
      show Q .normal { a with defers := { target := .collected m, args := #[] } :: a.defers } _
      refine hdone m _ (hFm m (Nat.le_refl m)) (hun _ _ _ _ (hturn 0 _ _ _ _ _ h2 hFl) ?_)
      intro b o hb
      by_cases e : b = m
      · subst e
        rw [upd_same] at hb
        rw [upd_other _ _ (by omega), hFk]; exact hb
      · rw [upd_other _ _ e] at hb
        have : b < m := by
          rcases Nat.lt_or_ge b m with h | h
          · exact h
          · exact absurd hb (hFm b h o)
        rw [upd_other _ _ (by omega), hFr, upd_other _ _ (by omega), upd_other _ _ e]; exact hb
    · intro k p W hp hi
      have hl1 : W.heap[m + 1]? = some (.loop (rec .ready none)) := hfrm _ _ _ hi _ _ hFl
      have hy := run_yield (P := Try.prog) (args := #[.int .i64 (k : Int), ptV p]) hl1 (by rw [hrec]; rfl)
      have hfold : ((#[i1, i2].zip #[Value.int .i64 (k : Int), ptV p]).foldl (fun (t : Array Value) (q : Tmp × Value) => t.setIfInBounds q.1 q.2) a.tmps) = (a.tmps.setIfInBounds i1 (.int .i64 (k : Int))).setIfInBounds i2 (ptV p) := by simp
      replace hy : (Instr.yield (m + 1) #[.int .i64 (k : Int), ptV p]).run Try.prog W = .ok (.round (m + 1) fn ((a.tmps.setIfInBounds i1 (.int .i64 (k : Int))).setIfInBounds i2 (ptV p)) assign body) W := by
        rw [← hfold, hy, hrec]
      refine ⟨fn, _, assign, body, hy, roundIn_of_wpIn hfn (wpIn_mono (hassign _ k p _ W hp hi) ?_)⟩
      intro e a1 W1 h
      cases e <;> first | exact h.elim | skip
      replace h : I1 k p Fr a1 W1 := h
      have hl2 : W1.heap[m + 1]? = some (.loop (rec .ready none)) := hfrm1 _ _ _ _ _ h _ _ hFl
      refine ⟨_, run_beginRound hl2 (by rw [hrec]), wpIn_mono (hbody _ k p _ a1 _ hp (hturn1 k p _ a1 _ _ _ (.loop { rec .ready none with state := .busy }) h hFl)) ?_⟩
      rintro e a2 W2 ⟨rfl, h2⟩
      have hl3 : W2.heap[m + 1]? = some (.loop { rec .ready none with state := .busy }) := hfrm _ _ _ h2 _ _ (upd_same _ _ _)
      have hend : (Instr.endRound (m + 1) none).run Try.prog W2 = .ok (.bool true) (W2.putObj (m + 1) (.loop (rec .ready none))) := by
        have := run_endRound (P := Try.prog) none hl3
        rw [hrec] at this ⊢
        exact this
      refine ⟨_, _, hend, rfl, ?_⟩
      have := hturn k _ _ _ _ (.loop (rec .ready none)) h2 (upd_same _ _ _)
      refine hun _ _ _ _ (show I k (upd (upd Fr (m + 1) (some (.loop { rec .ready none with state := .busy }))) (m + 1) (some (.loop (rec .ready none)))) (W2.putObj (m + 1) (.loop (rec .ready none))) from this) ?_
      intro b o hb
      exact back _ b o hb

theorem mirror_pure (l : List XY) (hl : l.length ≤ 1000000) (hf : ∀ x ∈ l, x.Fit) : Pure Try.prog G0 22 [.sl 2 (l.map eP)] (.sl 2 ((mirrorN l).map eP)) := by
  refine ⟨⟨Try.f22, Try.func22, rfl, rfl⟩, fun D F w vs hmem hlen hargs => ?_⟩
  refine callsIn_wide.1 (callsIn_of_wp_marks (n := 0) Try.func22 rfl trivial ?_)
  have hs : Sim G0 (Env.bare D) F 23 ⟨D, fun _ _ => none, fun _ => none, fun _ => 0⟩ (argS [.sl 2 (l.map eP)]) { tmps := vs.toArray ++ Array.replicate (23 - vs.toArray.size) undef, defers := [] } w := by
    refine ⟨Env.le.refl _, hmem, enter_size vs _ (by rw [hlen]; exact Nat.le_of_ble_eq_true rfl), rfl, fun t => ?_⟩
    rw [argS_get]
    show Rel _ _ ((vs.toArray ++ Array.replicate (23 - vs.toArray.size) undef).getD t undef)
    rw [enter_get]
    cases ha : [SV.sl 2 (l.map eP)][t]? with
    | none =>
      rw [List.getElem?_eq_none (by rw [hlen]; exact List.getElem?_eq_none_iff.1 ha)]
      exact undef_rel _
    | some s =>
      have ht : t < vs.length := by rw [hlen]; exact (List.getElem?_eq_some_iff.1 ha).1
      rw [List.getElem?_eq_getElem ht]
      exact Rel.ofA (PRelA.rel (hargs t s _ ha (List.getElem?_eq_getElem ht)))
  refine pre4 mixed (Qf := fun e sl ob ct => match e with
    | .normal => ¬ l.any leastN = true ∧ WeakTo G0 23 (fun s => [(3, .lptr 3 (s 3) 0 0), (10, .fn 59 [.ptr [.sl 2 (l.map eP)]])]) (fun s => [(3, ⟨s 3, 0, 1, [[.lrow 21 (s 21)]]⟩), (21, ⟨s 21, 1, 2, []⟩)]) sl ob ct
    | .ret => retK Try.prog Try.f22.results.toList (fun s => goodV s (.sl 2 ((mirrorN l).map eP))) .ret sl ob ct
    | _ => False) hs ?_ ?_ ?_
  · conv => whnf
    repeat (refine And.intro ?_ ?_; (first | (with_reducible show okR _ _ _ _ = true; kernel_rfl) | (with_reducible show addC _ _ _ = _; kernel_rfl) | rfl | trivial | kernel_rfl | omega | exact Nat.le_of_ble_eq_true rfl | exact lt_len0 rfl | exact lt_len1 rfl); conv => whnf)
    refine callP_of (negatable_pure l (by omega)) ?_
    conv => whnf
    repeat (refine And.intro ?_ ?_; (first | (with_reducible show okR _ _ _ _ = true; kernel_rfl) | (with_reducible show addC _ _ _ = _; kernel_rfl) | rfl | trivial | kernel_rfl | omega | exact Nat.le_of_ble_eq_true rfl | exact lt_len0 rfl | exact lt_len1 rfl); conv => whnf)
    refine ifB_intro (fun h => ?_) (fun h => ?_) <;> try dsimp only at h
    · have h : l.any leastN = true := by simpa using h
      conv => whnf
      repeat (refine And.intro ?_ ?_; (first | (with_reducible show okR _ _ _ _ = true; kernel_rfl) | (with_reducible show addC _ _ _ = _; kernel_rfl) | rfl | trivial | kernel_rfl | omega | exact Nat.le_of_ble_eq_true rfl | exact lt_len0 rfl | exact lt_len1 rfl); conv => whnf)
      rw [mirrorN, if_pos h]
      rfl
    · have h : ¬ l.any leastN = true := by simpa using h
      conv => whnf
      repeat (refine And.intro ?_ ?_; (first | (with_reducible show okR _ _ _ _ = true; kernel_rfl) | (with_reducible show addC _ _ _ = _; kernel_rfl) | rfl | trivial | kernel_rfl | omega | exact Nat.le_of_ble_eq_true rfl | exact lt_len0 rfl | exact lt_len1 rfl); conv => whnf)
      refine callP_of (backward_pure l) ?_
      conv => whnf
      repeat (refine And.intro ?_ ?_; (first | (with_reducible show okR _ _ _ _ = true; kernel_rfl) | (with_reducible show addC _ _ _ = _; kernel_rfl) | rfl | trivial | kernel_rfl | omega | exact Nat.le_of_ble_eq_true rfl | exact lt_len0 rfl | exact lt_len1 rfl); conv => whnf)
      refine weakTo_weak (weak_nil_box 3 21 2 0 rfl rfl (by decide)) (weakTo_cov ?_ ?_)
      · conv => whnf
        repeat (refine And.intro ?_ ?_; (first | exact rfl | exact Or.inl rfl | exact congrArg (SV.int .i64) (by first | rfl | omega | (simp; done) | (simp; omega))); conv => whnf)
        exact trivial
      · conv => whnf
        repeat (refine And.intro ?_ ?_; (first | exact rfl | exact Or.inl rfl | exact congrArg (SV.int .i64) (by first | rfl | omega | (simp; done) | (simp; omega))); conv => whnf)
        exact trivial
  · intro e sl ob ct R β a w hne hq hs
    cases e <;> first | exact absurd rfl hne | exact hq.elim | skip
    obtain ⟨v, D', s, g1, g2, g3, g4, g5⟩ := retK_sound (fn := Try.f22) (k := fun s => goodV s (.sl 2 ((mirrorN l).map eP))) hs hq
    show LeavesInM _ _ _ _ a.tmps _ a.defers .returning w
    rw [hs.defers]
    exact ⟨v, g1, D', v, hs.le.D.trans g2, g3, rfl, leV_prelT (goodV_le g5) g4⟩
  · intro sl ob ct R β a w ⟨hneg, s, ct', hw⟩ hs
    obtain ⟨R1, β1, hs1⟩ := hw _ _ _ _ _ _ hs
    clear hs hw hmem hlen hargs
    have hnn : ∀ x ∈ l, x.Neg := fun x hx => by
      have h1 := hf x hx
      have h2 : ¬ leastN x = true := fun e => hneg (List.any_eq_true.2 ⟨x, hx, e⟩)
      simp [leastN] at h2
      unfold XY.Fit at h1
      unfold XY.Neg
      omega
    have hsz : a.tmps.size = 23 := hs1.size
    have hd : a.defers = [] := hs1.defers
    obtain ⟨pv, h10, hpv⟩ : ∃ pv, a.tmps.getD 10 undef = .func (.func 59) #[] #[pv] ∧ PRel R1 (.ptr [.sl 2 (l.map eP)]) pv := by
      have h := hs1.rel 10
      replace h : PRel R1 (.fn 59 [.ptr [.sl 2 (l.map eP)]]) (a.tmps.getD 10 undef) := h
      generalize a.tmps.getD 10 undef = v at h
      cases h with
      | fn _ _ vs hl hr =>
        match vs, hl, hr with
        | [pv], _, hr => exact ⟨pv, rfl, hr 0 _ _ rfl rfl⟩
    let OO : Nat → (Nat → Nat) → List (Nat × Ob) := fun k s => [(3, ⟨s 3, 0, 1, [[.lrow 21 (s 21)]]⟩), (21, ⟨s 21, 1, 2, ((l.drop k).reverse.map mirN).map eP⟩)]
    let I : Nat → (Nat → Option Obj) → World → Prop := fun k F' W => ∃ (R : Rom) (β : Nat → Nat → Option (Nat × Nat)) (s : Nat → Nat) (ct : Cnt), Rom.le R1 R ∧ Mem G0 ⟨R, β, mkO (OO k s), ct⟩ F' W ∧ Rel ⟨R, β, mkO (OO k s), ct⟩ (.lptr 3 (s 3) 0 0) (a.tmps.getD 3 undef)
    let S1 : (Nat → Nat) → List (Nat × SV) := fun s => [(3, .lptr 3 (s 3) 0 0), (5, .lptr 5 (s 5) 0 0)]
    let O1 : Nat → XY → (Nat → Nat) → List (Nat × Ob) := fun k p s => [(3, ⟨s 3, 0, 1, [[.lrow 21 (s 21)]]⟩), (5, ⟨s 5, 0, 2, [eP p]⟩), (21, ⟨s 21, 1, 2, ((l.drop (k + 1)).reverse.map mirN).map eP⟩)]
    let I1 : Nat → XY → (Nat → Option Obj) → Act → World → Prop := fun k p F' a1 W => ∃ (R : Rom) (β : Nat → Nat → Option (Nat × Nat)) (s : Nat → Nat) (ct : Cnt), Sim G0 (Env.bare R1) F' 23 ⟨R, β, mkO (O1 k p s), ct⟩ (mkS (S1 s)) ⟨a1.tmps, []⟩ W ∧ a1.tmps.getD 3 undef = a.tmps.getD 3 undef
    have bareLe : ∀ {R : Rom} {E : Env}, Rom.le R E.D → Env.le (Env.bare R) E := fun h => ⟨h, fun _ => Nat.zero_le _, fun o b' _ hlt => absurd hlt (Nat.not_lt_zero _)⟩
    refine wpIn_block (range_back l hl (R1 := R1) (pv := pv) (F := F) h10 hpv I I1 ?_ ?_ ?_ ?_ ?_ ?_ ?_ ?_ ?_ ?_ ?_ ?_)
    · rintro k F' W ⟨R, β, s, ct, h1, h2, h3⟩ b o hb
      exact h2.rom b o (h1.heap b o hb)
    · rintro k F' W W' ⟨R, β, s, ct, h1, h2, h3⟩ he
      exact ⟨R, β, s, ct, h1, h2.ext he, h3⟩
    · rintro k F' W b o o' ⟨R, β, s, ct, h1, h2, h3⟩ hb
      exact ⟨R, β, s, ct, h1, h2.turn o' hb, h3⟩
    · rintro k p F' a1 W b o o' ⟨R, β, s, ct, h1, h2⟩ hb
      exact ⟨R, β, s, ct, ⟨h1.le, h1.mem.turn o' hb, h1.size, h1.defers, h1.rel⟩, h2⟩
    · rintro k F' F'' W ⟨R, β, s, ct, h1, h2, h3⟩ hb
      exact ⟨R, β, s, ct, h1, h2.unframe hb, h3⟩
    · rintro k F' W ⟨R, β, s, ct, h1, h2, h3⟩ b o hb
      exact h2.frm b o hb
    · rintro k p F' a1 W ⟨R, β, s, ct, h1, h2⟩ b o hb
      exact h1.mem.frm b o hb
    · rintro k F' W o ⟨R, β, s, ct, h1, h2, h3⟩
      exact ⟨R, β, s, ct, h1, h2.frame o, h3⟩
    · refine ⟨R1, β1, s, ct', Rom.le.refl _, ?_, ?_⟩
      · have e : OO l.length s = [(3, ⟨s 3, 0, 1, [[.lrow 21 (s 21)]]⟩), (21, ⟨s 21, 1, 2, []⟩)] := by simp [OO]
        rw [e]; exact hs1.mem
      · have e : OO l.length s = [(3, ⟨s 3, 0, 1, [[.lrow 21 (s 21)]]⟩), (21, ⟨s 21, 1, 2, []⟩)] := by simp [OO]
        rw [e]; exact hs1.rel 3
    · -- the round's variable
      rintro lp k p F' W hp ⟨R, β, s, ct, h1, h2, h3⟩
      have hF : ∀ f, (Fence.wide.inRound lp).fn f := fun _ => trivial
      let a' : Act := ({ tmps := a.tmps, defers := [] } : Act)
      have g : ∀ t, ((a.tmps.setIfInBounds 11 (.int .i64 (k : Int))).setIfInBounds 12 (ptV p)).getD t undef = if t = 12 then ptV p else if t = 11 then .int .i64 (k : Int) else a.tmps.getD t undef := fun t => by
        have e1 := put_get { tmps := a.tmps, defers := [] } 11 (.int .i64 (k : Int)) (by rw [hsz]; omega) t
        have e2 := put_get { tmps := a.tmps.setIfInBounds 11 (.int .i64 (k : Int)), defers := [] } 12 (ptV p) (by simp; omega) t
        simp only [Act.put] at e1 e2
        rw [e2, e1]
      have hs2 : Sim G0 (Env.bare R1) F' 23 ⟨R, β, mkO (OO (k + 1) s), ct⟩ (mkS [(12, .agg (eP p)), (3, .lptr 3 (s 3) 0 0)]) ⟨(a.tmps.setIfInBounds 11 (.int .i64 (k : Int))).setIfInBounds 12 (ptV p), []⟩ W := by
        refine ⟨bareLe h1, h2, by simpa using hsz, rfl, rel_mkS ?_⟩
        intro q hq
        simp only [List.mem_cons, List.not_mem_nil, or_false] at hq
        rcases hq with rfl | rfl
        · rw [show ((a.tmps.setIfInBounds 11 (.int .i64 (k : Int))).setIfInBounds 12 (ptV p)).getD (12, SV.agg (eP p)).1 undef = ptV p from g 12]
          refine ⟨[.int .i64 p.x, .int .i64 p.y], rfl, rfl, fun i s v a b => ?_⟩
          match i, a, b with
          | 0, a, b => cases a; cases b; exact Rel0.of_pure (.int _ _)
          | 1, a, b => cases a; cases b; exact Rel0.of_pure (.int _ _)
        · rw [show ((a.tmps.setIfInBounds 11 (.int .i64 (k : Int))).setIfInBounds 12 (ptV p)).getD (3, SV.lptr 3 (s 3) 0 0).1 undef = a.tmps.getD 3 undef from g 3]
          exact h3
      refine region_in hF [3] (fun sl ob ct => WeakTo G0 23 S1 (O1 k p) sl ob ct) hs2 rfl ?_ ?_
      · conv => whnf
        repeat (refine And.intro ?_ ?_; (first | (with_reducible show okR _ _ _ _ = true; kernel_rfl) | (with_reducible show addC _ _ _ = _; kernel_rfl) | rfl | trivial | kernel_rfl | omega | exact Nat.le_of_ble_eq_true rfl | exact lt_len0 rfl | exact lt_len1 rfl); conv => whnf)
        refine weakTo_cov ?_ ?_
        · conv => whnf
          repeat (refine And.intro ?_ ?_; (first | exact rfl | exact Or.inl rfl | exact congrArg (SV.int .i64) (by first | rfl | omega | (simp; done) | (simp; omega))); conv => whnf)
          exact trivial
        · conv => whnf
          repeat (refine And.intro ?_ ?_; (first | exact rfl | exact Or.inl rfl | exact congrArg (SV.int .i64) (by first | rfl | omega | (simp; done) | (simp; omega))); conv => whnf)
          exact trivial
      intro sl2 ob2 ct2 D2 β2 a2 W2 hK hs3 hd3 ht3
      obtain ⟨s', ct'', hw⟩ := hK
      obtain ⟨D3, β3, hs4⟩ := hw _ _ _ _ _ _ hs3
      exact ⟨D3, β3, s', ct'', hs4, (ht3 3 (by simp)).trans (g 3)⟩
    · rintro lp k p F' a1 W hp ⟨R, β, s, ct, hs2, ht⟩
      have hF : ∀ f, (Fence.wide.inRound lp).fn f := fun _ => trivial
      refine wpIn_block (region_in hF [3] (fun sl ob ct => WeakTo G0 23 (fun s => [(3, .lptr 3 (s 3) 0 0)]) (OO k) sl ob ct) hs2 rfl ?_ ?_)
      · have hr := hnn p (List.mem_of_getElem? hp)
        unfold XY.Neg at hr
        conv => whnf
        repeat (refine And.intro ?_ ?_; (first | (with_reducible show okR _ _ _ _ = true; kernel_rfl) | (with_reducible show addC _ _ _ = _; kernel_rfl) | rfl | trivial | kernel_rfl | omega | exact Nat.le_of_ble_eq_true rfl | exact lt_len0 rfl | exact lt_len1 rfl); conv => whnf)
        refine inI (by omega) (by omega) ?_
        conv => whnf
        repeat (refine And.intro ?_ ?_; (first | (with_reducible show okR _ _ _ _ = true; kernel_rfl) | (with_reducible show addC _ _ _ = _; kernel_rfl) | rfl | trivial | kernel_rfl | omega | exact Nat.le_of_ble_eq_true rfl | exact lt_len0 rfl | exact lt_len1 rfl); conv => whnf)
        refine And.intro (bytes_le (b := 16) rfl ?_) ?_
        · first | omega | (simp; done) | (simp; omega)
        conv => whnf
        repeat (refine And.intro ?_ ?_; (first | (with_reducible show okR _ _ _ _ = true; kernel_rfl) | (with_reducible show addC _ _ _ = _; kernel_rfl) | rfl | trivial | kernel_rfl | omega | exact Nat.le_of_ble_eq_true rfl | exact lt_len0 rfl | exact lt_len1 rfl); conv => whnf)
        have hrows : ((l.drop (k + 1)).reverse.map mirN).map eP ++ [eP (mirN p)] = ((l.drop k).reverse.map mirN).map eP := by
          rw [drop_cons hp]; simp
        refine weakTo_cov ?_ ?_
        · conv => whnf
          repeat (refine And.intro ?_ ?_; (first | exact rfl | exact Or.inl rfl | exact congrArg (SV.int .i64) (by first | rfl | omega | (simp; done) | (simp; omega))); conv => whnf)
          exact trivial
        · conv => whnf
          repeat (refine And.intro ?_ ?_; (first | exact rfl | exact Or.inl rfl | exact congrArg (SV.int .i64) (by first | rfl | omega | (simp; done) | (simp; omega)) | exact congrArg (SV.int .i64) (hrows) | exact congrArg (fun l => some (Ob.mk _ 1 _ l)) (hrows) | exact (hrows)); conv => whnf)
          exact trivial
      intro sl2 ob2 ct2 D2 β2 a2 W2 hK hs3 hd3 ht3
      obtain ⟨s', ct'', hw⟩ := hK
      obtain ⟨D3, β3, hs4⟩ := hw _ _ _ _ _ _ hs3
      have hr := hs4.rel 3
      rw [show (⟨a2.tmps, []⟩ : Act).tmps.getD 3 undef = a.tmps.getD 3 undef from (ht3 3 (by simp)).trans ht] at hr
      exact ⟨rfl, D3, β3, s', ct'', hs4.le.D, hs4.mem, hr⟩
    · rintro mk W hmk ⟨R, β, s, ct, h1, h2, h3⟩
      have hs2 : Sim G0 (Env.bare R1) (upd F mk (some (.deferred (some [])))) 23 ⟨R, β, mkO (OO 0 s), ct⟩ (mkS [(3, .lptr 3 (s 3) 0 0)]) ⟨a.tmps, []⟩ W := by
        refine ⟨bareLe h1, h2, hsz, rfl, rel_mkS ?_⟩
        intro q hq
        simp only [List.mem_singleton] at hq
        subst hq
        exact h3
      show Code.wpIn _ _ _ _ _ _ _
      refine wpIn_seq (region_in (fun _ => trivial) [] (fun sl ob ct => retK Try.prog Try.f22.results.toList (fun s => goodV s (.sl 2 ((mirrorN l).map eP))) .ret sl ob ct) hs2 rfl ?_ ?_)
      · conv => whnf
        repeat (refine And.intro ?_ ?_; (first | (with_reducible show okR _ _ _ _ = true; kernel_rfl) | (with_reducible show addC _ _ _ = _; kernel_rfl) | rfl | trivial | kernel_rfl | omega | exact Nat.le_of_ble_eq_true rfl | exact lt_len0 rfl | exact lt_len1 rfl); conv => whnf)
        rw [mirrorN, if_neg hneg]
        rfl
      intro sl2 ob2 ct2 D2 β2 a2 W2 hK hs3 hd3 ht3
      refine wpIn_ret ?_
      obtain ⟨v, D', s2, g1, g2, g3, g4, g5⟩ := retK_sound (fn := Try.f22) (k := fun s => goodV s (.sl 2 ((mirrorN l).map eP))) hs3 hK
      have hv := results_tmp (fn := Try.f22) (t := 2) rfl a2.tmps Try.prog W2
      have hv2 : v = a2.tmps.getD 2 undef := by
        have := g1.symm.trans hv
        injection this
      have hk := g3.frm mk _ (upd_same _ _ _)
      show LeavesInM _ _ _ _ a2.tmps _ a2.defers .returning W2
      rw [hd3, hd]
      refine ⟨by simp, .inl ⟨mk, _, rfl, run_takeDeferred hk, ?_⟩⟩
      have hle : Rom.le D R1 := hs1.le.D
      refine ⟨a2.tmps.getD 2 undef, results_tmp (fn := Try.f22) (t := 2) rfl _ _ _, D', _, hle.trans (hs3.le.D.trans g2), (g3.turn (.deferred none) (upd_same _ _ _)).unframe ?_, rfl, ?_⟩
      · intro b o hb
        have hne : b ≠ mk := fun e => hmk o (e ▸ hb)
        rw [upd_other _ _ hne, upd_other _ _ hne]; exact hb
      · rw [← hv2]; exact leV_prelT (goodV_le g5) g4
end Go.Proofs.Yticandbdabgkeaa.Am
