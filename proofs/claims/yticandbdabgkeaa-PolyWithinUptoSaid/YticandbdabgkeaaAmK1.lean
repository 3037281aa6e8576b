/- What is claimed of a function that is called, and why a call by such a claim is sound. No condition: definitions and lemmas. -/
import Derived.Test.YticandbdabgkeaaAmC4
import Derived.Deep.LoopGhost
namespace Go.Proofs.Yticandbdabgkeaa.Am
open Go

/-! ### What is claimed of a function -/
def PRelT (D : Rom) (s : SV) (v : Value) : Prop :=
  match s with
  | .tup ss => ∃ vs : List Value, v = .tuple vs.toArray ∧ vs.length = ss.length ∧ ∀ (i : Nat) (s : SV) (v : Value), ss[i]? = some s → vs[i]? = some v → PRelA D s v
  | s => PRelA D s v

theorem PRelT.rel {E : Env} {s : SV} {v : Value} (h : PRelT E.D s v) : Rel E s v := by
  have one : ∀ {s : SV} {v : Value}, PRelA E.D s v → Rel E s v := fun h => Rel.ofA (PRelA.rel h)
  cases s <;> try exact one h
  case tup ss =>
    obtain ⟨vs, h1, h2, h3⟩ := h
    exact ⟨vs, h1, h2, fun i s v a b => PRelA.rel (h3 i s v a b)⟩

/-- No objects of the call's own. -/
def Env.bare (D : Rom) : Env := ⟨D, fun _ _ => none, fun _ => none, fun _ => 0⟩
/-- One row, by the name 0. -/
def Env.one (D : Rom) (p : Option (Nat × Nat)) (z : Nat) (xs : List (List SV)) : Env := ⟨D, setβ (fun _ _ => none) 0 0 p, Am.upd (fun _ => none) 0 (some ⟨0, 1, z, xs⟩), Am.upd (fun _ => 0) 0 1⟩

theorem Env.one_β (D : Rom) (p : Option (Nat × Nat)) (z : Nat) (xs : List (List SV)) : (Env.one D p z xs).β 0 0 = p := setβ_same (fun _ _ => none) 0 0 p
theorem Env.one_ob (D : Rom) (p : Option (Nat × Nat)) (z : Nat) (xs : List (List SV)) : (Env.one D p z xs).ob 0 = some ⟨0, 1, z, xs⟩ := upd_same (fun _ => none) 0 _

def Callable (P : Program) (f : FuncId) : Prop := ∃ fn, P.funcs[f]? = some fn ∧ fn.body.isNone = false ∧ (fn.name == "runtime.NumGoroutine") = false

/-- Called with these arguments the function returns this value; of the memory that was there nothing has changed. -/
def Pure (P : Program) (G : Nat → List SV) (f : FuncId) (args : List SV) (r : SV) : Prop :=
  Callable P f ∧ ∀ (D : Rom) (F : Nat → Option Obj) (w : World) (vs : List Value), Mem G (Env.bare D) F w → vs.length = args.length →
    (∀ (i : Nat) (s : SV) (v : Value), args[i]? = some s → vs[i]? = some v → PRelA D s v) →
    Calls P f vs.toArray w fun e w' => ∃ D' v, Rom.le D D' ∧ Mem G (Env.bare D') F w' ∧ e = .returned v ∧ PRelT D' r v

/-- It returns a row that is new, and that may still change. -/
def FreshC (P : Program) (G : Nat → List SV) (f : FuncId) (args : List SV) (z : Nat) (xs : List (List SV)) (r : SV) : Prop :=
  Callable P f ∧ ∀ (D : Rom) (F : Nat → Option Obj) (w : World) (vs : List Value), Mem G (Env.bare D) F w → vs.length = args.length →
    (∀ (i : Nat) (s : SV) (v : Value), args[i]? = some s → vs[i]? = some v → PRelA D s v) →
    Calls P f vs.toArray w fun e w' => ∃ D' p v, Rom.le D D' ∧ Mem G (Env.one D' p z xs) F w' ∧ e = .returned v ∧ Rel (Env.one D' p z xs) r v

/-- It is handed a row, and changes its elements. -/
def RowC (P : Program) (G : Nat → List SV) (f : FuncId) (args : List SV) (z : Nat) (xs : List (List SV)) (r : SV) (ys : List (List SV)) : Prop :=
  Callable P f ∧ ∀ (D : Rom) (F : Nat → Option Obj) (w : World) (p : Option (Nat × Nat)) (vs : List Value), Mem G (Env.one D p z xs) F w → vs.length = args.length + 1 →
    (∀ v, vs[0]? = some v → Rel0 (Env.one D p z xs) (.lrow 0 0) v) →
    (∀ (i : Nat) (s : SV) (v : Value), args[i]? = some s → vs[i + 1]? = some v → PRelA D s v) →
    Calls P f vs.toArray w fun e w' => ∃ D' v, Rom.le D D' ∧ Mem G (Env.one D' p z ys) F w' ∧ e = .returned v ∧ Rel (Env.one D' p z ys) r v

/-- The row by another name. -/
def ren1 (o st : Nat) : SV → SV
  | .lrow _ _ => .lrow o st
  | .lsl _ _ lo n => .lsl o st lo n
  | .lptr _ _ i j => .lptr o st i j
  | s => s
def renL (o st : Nat) : List SV → List SV
  | [] => []
  | s :: r => ren1 o st s :: renL o st r
def renA (o st : Nat) : SV → SV
  | .agg cs => .agg (renL o st cs)
  | s => ren1 o st s
def renAL (o st : Nat) : List SV → List SV
  | [] => []
  | s :: r => renA o st s :: renAL o st r
def renV (o st : Nat) : SV → SV
  | .tup ss => .tup (renAL o st ss)
  | s => renA o st s

def callP (P : Program) (G : Nat → List SV) (fid : FuncId) (caps args : List SV) (ob : Tab) (R : SV → List Upd → Prop) : Prop :=
  purALK ob args fun xs us => ∃ ys r, leAL (xs ++ caps) ys ∧ Pure P G fid ys r ∧ R r us
def callF (P : Program) (G : Nat → List SV) (fid : FuncId) (caps args : List SV) (d : Option Nat) (ob : Tab) (ct : Cnt) (R : SV → List Upd → Prop) : Prop :=
  match d with
  | some d => purALK ob args fun xs us => ∃ ys z es r, leAL (xs ++ caps) ys ∧ FreshC P G fid ys z es r ∧ R (renV d (ct d) r) (us ++ [⟨d, ⟨ct d, 1, z, es⟩, true⟩])
  | none => False
def callR (P : Program) (G : Nat → List SV) (fid : FuncId) (caps args : List SV) (ob : Tab) (R : SV → List Upd → Prop) : Prop :=
  match args with
  | .lrow o st :: rest => match ob o with
    | some ⟨st', 1, z, xs⟩ => st = st' ∧ (refsAL rest).contains o = false ∧ purALK ob rest fun ps us => ∃ qs r ys, leAL (ps ++ caps) qs ∧ RowC P G fid qs z xs r ys ∧ xs.length = ys.length ∧ R (renV o st r) (us ++ [⟨o, ⟨st, 1, z, ys⟩, false⟩])
    | _ => False
  | _ => False

/-- A call by a contract, its arguments read for the call's time; nothing but numbers, bools and strings comes back. -/
def callB (P : Program) (G : Nat → List SV) (fid : FuncId) (caps args : List SV) (ob : Tab) (R : SV → List Upd → Prop) : Prop :=
  borALK ob args fun xs => ∃ ys r, leAL (xs ++ caps) ys ∧ scalV r = true ∧ Pure P G fid ys r ∧ R r []
def callBF (P : Program) (G : Nat → List SV) (fid : FuncId) (caps args : List SV) (d : Option Nat) (ob : Tab) (ct : Cnt) (R : SV → List Upd → Prop) : Prop :=
  match d with
  | some d => borALK ob args fun xs => ∃ ys z es r, leAL (xs ++ caps) ys ∧ scalFV r = true ∧ allB (allB scalB) es = true ∧ FreshC P G fid ys z es r ∧ R (renV d (ct d) r) [⟨d, ⟨ct d, 1, z, es⟩, true⟩]
  | none => False

/-- A call whose function's contract is known. -/
def callD (P : Program) (G : Nat → List SV) (o : Oper) (g : Operand → SV) (ob : Tab) (ct : Cnt) (R : SV → List Upd → Prop) : Prop :=
  match o.op with
  | .call c => match c.callee with
    | .value f => match g f with
      | .fn fid caps => callP P G fid caps (c.args.toList.map g) ob R ∨ callF P G fid caps (c.args.toList.map g) o.dst ob ct R ∨ callR P G fid caps (c.args.toList.map g) ob R ∨
        callB P G fid caps (c.args.toList.map g) ob R ∨ callBF P G fid caps (c.args.toList.map g) o.dst ob ct R
      | _ => False
    | _ => False
  | _ => False

def actD (P : Program) (G : Nat → List SV) (o : Oper) (g : Operand → SV) (ob : Tab) (ct : Cnt) (R : SV → List Upd → Prop) : Prop :=
  match goCall o.op with
  | true => callD P G o g ob ct R
  | false => act P o g ob ct R

/-! ### Lending memory -/
section
open Classical in
/-- What a callee has to leave alone: the frame, and the caller's objects but for those that are lent. -/
noncomputable def lendF (E : Env) (F : Nat → Option Obj) (w : World) (T : Nat → Prop) : Nat → Option Obj := fun k =>
  if (∃ o b q, ¬ T o ∧ E.ob o = some b ∧ b.kind < 2 ∧ E.β o b.st = some q ∧ q.1 = k) then w.heap[k]? else F k

variable {G : Nat → List SV} {E E1 E2 : Env} {F : Nat → Option Obj} {w w' : World} {T : Nat → Prop}

theorem lendF_own (hm : Mem G E F w) {o : Nat} {b : Ob} {q : Nat × Nat} (hT : ¬ T o) (hb : E.ob o = some b) (hk : b.kind < 2) (hq : E.β o b.st = some q) : lendF E F w T q.1 = w.heap[q.1]? ∧ ∃ x, w.heap[q.1]? = some x := by
  unfold lendF
  rw [if_pos ⟨o, b, q, hT, hb, hk, hq, rfl⟩]
  obtain ⟨_, _, c, ty, h, _⟩ := (hm.own o b hb).live hk q hq
  exact ⟨rfl, _, h⟩

theorem lendF_frm (hm : Mem G E F w) {k : Nat} {x : Obj} (h : F k = some x) : lendF E F w T k = some x := by
  unfold lendF
  split
  · rename_i hh
    obtain ⟨o, b, q, _, hb, hk, hq, rfl⟩ := hh
    rw [((hm.own o b hb).live hk q hq).2.1] at h
    cases h
  · exact h

theorem lendF_none (hm : Mem G E F w) {k : Nat} (h : lendF E F w T k = none) : F k = none ∧ ∀ o b q, ¬ T o → E.ob o = some b → b.kind < 2 → E.β o b.st = some q → q.1 ≠ k := by
  refine ⟨?_, fun o b q hT hb hk hq e => ?_⟩
  · cases hF : F k with
    | none => rfl
    | some x => rw [lendF_frm hm hF] at h; cases h
  · obtain ⟨h1, x, h2⟩ := lendF_own hm hT hb hk hq
    rw [e] at h1 h2
    rw [h1, h2] at h
    cases h

theorem lendF_spec (hm : Mem G E F w) {k : Nat} {x : Obj} (h : lendF E F w T k = some x) : w.heap[k]? = some x ∧ E.D.heap k = none := by
  unfold lendF at h
  split at h
  · rename_i hh
    obtain ⟨o, b, q, _, hb, hk, hq, rfl⟩ := hh
    exact ⟨h, ((hm.own o b hb).live hk q hq).1⟩
  · exact ⟨hm.frm k x h, hm.apart k x h⟩

/-- A callee to which nothing is lent. -/
theorem Mem.lend0 (hm : Mem G E F w) : Mem G (Env.bare E.D) (lendF E F w fun _ => False) w :=
  ⟨hm.os, hm.tape, hm.output, hm.dr, hm.rom, fun k x h => (lendF_spec hm h).1, fun k x h => (lendF_spec hm h).2, hm.glob, fun o b hb => (by cases hb), fun o o' b b' x y hb => (by cases hb)⟩

/-- A callee to which one row is lent. -/
theorem Mem.lend1 (hm : Mem G E F w) {o st z : Nat} {xs : List (List SV)} (hb : E.ob o = some ⟨st, 1, z, xs⟩) : Mem G (Env.one E.D (E.β o st) z xs) (lendF E F w fun k => k = o) w := by
  have ho := hm.own o _ hb
  have hβ : (Env.one E.D (E.β o st) z xs).β 0 0 = E.β o st := Env.one_β _ _ _ _
  refine ⟨hm.os, hm.tape, hm.output, hm.dr, hm.rom, fun k x h => (lendF_spec hm h).1, fun k x h => (lendF_spec hm h).2, hm.glob, fun o' b' hb' => ?_, fun o1 o2 b1 b2 x y h1 h2 _ _ _ _ _ => ?_⟩
  · replace hb' : upd (fun _ => none) 0 (some ⟨0, 1, z, xs⟩) o' = some b' := hb'
    by_cases h : o' = 0
    · subst h
      rw [upd_same] at hb'
      cases hb'
      refine ⟨by show 0 < upd (fun _ => 0) 0 1 0; rw [upd_same]; exact Nat.zero_lt_one, ho.len, fun hn => ho.nil (by rw [← hβ]; exact hn), fun q hq => ho.fits q (by rw [← hβ]; exact hq), fun _ q hq => ?_, fun hk => absurd hk (by simp)⟩
      rw [hβ] at hq
      obtain ⟨h1, h2, c, ty, h3, h4, h5⟩ := ho.live (by simp) q hq
      refine ⟨h1, ?_, c, ty, h3, h4, fun i j e s hi hj => ?_⟩
      · unfold lendF
        split
        · rename_i hh
          obtain ⟨o2, b2, q2, hne, hb2, hk2, hq2, he⟩ := hh
          exact absurd (hm.inj o2 o b2 _ q2 q hb2 hb hk2 (by simp) hq2 hq he) hne
        · exact h2
      · obtain ⟨v, g1, g2, g3⟩ := h5 i j e s hi hj
        exact ⟨v, g1, Rel0.of_pure (g3 rfl), g3⟩
    · rw [upd_other _ _ h] at hb'
      cases hb'
  · replace h1 : upd (fun _ => none) 0 (some ⟨0, 1, z, xs⟩) o1 = some b1 := h1
    replace h2 : upd (fun _ => none) 0 (some ⟨0, 1, z, xs⟩) o2 = some b2 := h2
    by_cases e1 : o1 = 0
    · by_cases e2 : o2 = 0
      · rw [e1, e2]
      · rw [upd_other _ _ e2] at h2; cases h2
    · rw [upd_other _ _ e1] at h1; cases h1

/-- What is lent comes back: at most the object s has changed. -/
theorem Mem.rejoin (hm : Mem G E F w) (hm1 : Mem G E1 (lendF E F w T) w') (s : Nat) (h2D : E2.D = E1.D) (hle : Env.le E E2)
    (hoth : ∀ o b, E2.ob o = some b → (¬ T o ∧ E.ob o = some b ∧ E2.β o b.st = E.β o b.st) ∨ (o = s ∧ Own E2 (lendF E F w T) w' s b)) : Mem G E2 F w' := by
  refine ⟨by rw [h2D]; exact hm1.os, by rw [h2D]; exact hm1.tape, by rw [h2D]; exact hm1.output, by rw [h2D]; exact hm1.dr, fun k x h => hm1.rom k x (by rw [← h2D]; exact h), fun k x h => hm1.frm k x (lendF_frm hm h), fun k x h => by rw [h2D]; exact hm1.apart k x (lendF_frm hm h), fun g => by rw [h2D]; exact hm1.glob g, fun o b hb => ?_, ?_⟩
  · rcases hoth o b hb with ⟨hT, hb0, hβ⟩ | ⟨rfl, ho⟩
    · have ho := hm.own o b hb0
      refine ⟨Nat.lt_of_lt_of_le ho.st (hle.ct o), ho.len, fun hn => ho.nil (by rw [← hβ]; exact hn), fun q hq => ho.fits q (by rw [← hβ]; exact hq), fun hk q hq => ?_, fun hk q hq i j e t hi hj => ?_⟩
      · rw [hβ] at hq
        obtain ⟨h1, h2, c, ty, h3, h4, h5⟩ := ho.live hk q hq
        have hF := (lendF_own (T := T) hm hT hb0 hk hq).1
        refine ⟨by rw [h2D]; exact hm1.apart q.1 _ (hF.trans h3), h2, c, ty, hm1.frm _ _ (hF.trans h3), h4, fun i j e t hi hj => ?_⟩
        obtain ⟨v, g1, g2, g3⟩ := h5 i j e t hi hj
        exact ⟨v, g1, g2.mono hle, fun hk => (g3 hk).mono hle.D⟩
      · obtain ⟨v, g1, g2⟩ := ho.dead hk q (by rw [← hβ]; exact hq) i j e t hi hj
        exact ⟨v, hle.D.cell g1, g2.mono hle.D⟩
    · exact ⟨ho.st, ho.len, ho.nil, ho.fits, fun hk q hq => (by obtain ⟨h1, h2, h3⟩ := ho.live hk q hq; exact ⟨h1, (lendF_none hm h2).1, h3⟩), ho.dead⟩
  · intro o o' b b' x y hb hb' hk hk' hx hy he
    rcases hoth o b hb with ⟨hT, hb0, hβ⟩ | ⟨rfl, ho⟩
    · rw [hβ] at hx
      rcases hoth o' b' hb' with ⟨hT', hb0', hβ'⟩ | ⟨rfl, ho'⟩
      · rw [hβ'] at hy
        exact hm.inj o o' b b' x y hb0 hb0' hk hk' hx hy he
      · exact absurd he ((lendF_none hm ((ho'.live hk' y hy).2.1)).2 o b x hT hb0 hk hx)
    · rcases hoth o' b' hb' with ⟨hT', hb0', hβ'⟩ | ⟨rfl, ho'⟩
      · rw [hβ'] at hy
        exact absurd he.symm ((lendF_none hm ((ho.live hk x hx).2.1)).2 o' b' y hT' hb0' hk' hy)
      · rfl

/-- The row that comes back, by its name here. -/
theorem Own.one {p : Option (Nat × Nat)} {z : Nat} {xs : List (List SV)} {D' : Rom} {F' : Nat → Option Obj} (hm1 : Mem G (Env.one D' p z xs) F' w') {o st : Nat} (h2D : E2.D = D') (hβ : E2.β o st = p) (hst : st < E2.ct o) : Own E2 F' w' o ⟨st, 1, z, xs⟩ := by
  have ho := hm1.own 0 ⟨0, 1, z, xs⟩ (Env.one_ob _ _ _ _)
  have e : (Env.one D' p z xs).β 0 0 = E2.β o st := (Env.one_β _ _ _ _).trans hβ.symm
  have ed : (Env.one D' p z xs).D = E2.D := h2D.symm
  refine ⟨hst, ho.len, fun hn => ho.nil (e.trans hn), fun q hq => ho.fits q (e.trans hq), fun _ q hq => ?_, fun hk => absurd hk (by simp)⟩
  obtain ⟨h1, h2, c, ty, h3, h4, h5⟩ := ho.live (by simp) q (e.trans hq)
  rw [ed] at h1 h5
  refine ⟨h1, h2, c, ty, h3, h4, fun i j e s hi hj => ?_⟩
  obtain ⟨v, g1, _, g3⟩ := h5 i j e s hi hj
  exact ⟨v, g1, Rel0.of_pure (g3 rfl), g3⟩

theorem ren1_rel {p : Option (Nat × Nat)} {z : Nat} {xs : List (List SV)} {D' : Rom} {o st : Nat} (h2D : E2.D = D') (hβ : E2.β o st = p) (hst : st < E2.ct o) (hob : E2.ob o = some ⟨st, 1, z, xs⟩) {s : SV} {v : Value} (h : Rel0 (Env.one D' p z xs) s v) : Rel0 E2 (ren1 o st s) v := by
  have key : ∀ o' st', st' < (Env.one D' p z xs).ct o' → o' = 0 ∧ st' = 0 := fun o' st' h => by
    replace h : st' < upd (fun _ => 0) 0 1 o' := h
    by_cases e : o' = 0
    · subst e; rw [upd_same] at h; exact ⟨rfl, by omega⟩
    · rw [upd_other _ _ e] at h; omega
  have e0 : (Env.one D' p z xs).β 0 0 = p := Env.one_β _ _ _ _
  have eo : (Env.one D' p z xs).ob 0 = some ⟨0, 1, z, xs⟩ := Env.one_ob _ _ _ _
  cases s <;> try (subst h2D; exact h)
  case lrow o' st' =>
    obtain ⟨h1, h2, h3⟩ := h
    obtain ⟨rfl, rfl⟩ := key o' st' h1
    refine ⟨hst, h2, fun b hb _ => ?_⟩
    rw [hob] at hb
    cases hb
    have := h3 _ eo rfl
    rw [e0] at this
    rw [hβ]
    exact RowAt.congr rfl rfl this
  case lsl o' st' lo n =>
    obtain ⟨h1, h2, h3⟩ := h
    obtain ⟨rfl, rfl⟩ := key o' st' h1
    refine ⟨hst, h2, fun b hb _ => ?_⟩
    rw [hob] at hb
    cases hb
    have := h3 _ eo rfl
    rw [e0] at this
    rw [hβ]
    exact SlAt.congr rfl this
  case lptr o' st' i j =>
    obtain ⟨h1, h2, h3⟩ := h
    obtain ⟨rfl, rfl⟩ := key o' st' h1
    refine ⟨hst, h2, fun b hb _ => ?_⟩
    rw [hob] at hb
    cases hb
    have := h3 _ eo rfl
    rw [e0] at this
    rw [hβ]
    exact this

theorem renL_get (o st : Nat) : ∀ (l : List SV), (renL o st l).length = l.length ∧ ∀ (i : Nat) (s : SV), (renL o st l)[i]? = some s → ∃ t, l[i]? = some t ∧ s = ren1 o st t
  | [] => ⟨rfl, fun i s h => by simp [renL] at h⟩
  | a :: l => by
    obtain ⟨h1, h2⟩ := renL_get o st l
    refine ⟨by simp [renL, h1], fun i s h => ?_⟩
    cases i with
    | zero => simp [renL] at h; exact ⟨a, rfl, h.symm⟩
    | succ i => exact h2 i s (by simpa [renL] using h)
theorem renAL_get (o st : Nat) : ∀ (l : List SV), (renAL o st l).length = l.length ∧ ∀ (i : Nat) (s : SV), (renAL o st l)[i]? = some s → ∃ t, l[i]? = some t ∧ s = renA o st t
  | [] => ⟨rfl, fun i s h => by simp [renAL] at h⟩
  | a :: l => by
    obtain ⟨h1, h2⟩ := renAL_get o st l
    refine ⟨by simp [renAL, h1], fun i s h => ?_⟩
    cases i with
    | zero => simp [renAL] at h; exact ⟨a, rfl, h.symm⟩
    | succ i => exact h2 i s (by simpa [renAL] using h)

theorem renA_rel {p : Option (Nat × Nat)} {z : Nat} {xs : List (List SV)} {D' : Rom} {o st : Nat} (h2D : E2.D = D') (hβ : E2.β o st = p) (hst : st < E2.ct o) (hob : E2.ob o = some ⟨st, 1, z, xs⟩) {s : SV} {v : Value} (h : RelA (Env.one D' p z xs) s v) : RelA E2 (renA o st s) v := by
  rcases h.split with h | ⟨cs, rfl, vs, h1, h2, h3⟩
  · have := ren1_rel h2D hβ hst hob h
    cases s <;> first | exact RelA.of0 this | exact h.elim
  · obtain ⟨g1, g2⟩ := renL_get o st cs
    refine ⟨vs, h1, h2.trans g1.symm, fun i s v hs hv => ?_⟩
    obtain ⟨t, ht, rfl⟩ := g2 i s hs
    exact ren1_rel h2D hβ hst hob (h3 i t v ht hv)

theorem renV_rel {p : Option (Nat × Nat)} {z : Nat} {xs : List (List SV)} {D' : Rom} {o st : Nat} (h2D : E2.D = D') (hβ : E2.β o st = p) (hst : st < E2.ct o) (hob : E2.ob o = some ⟨st, 1, z, xs⟩) {s : SV} {v : Value} (h : Rel (Env.one D' p z xs) s v) : Rel E2 (renV o st s) v := by
  rcases h.split with h | rfl | ⟨rfl, h⟩ | ⟨ss, rfl, vs, h1, h2, h3⟩
  · have := renA_rel h2D hβ hst hob h
    cases s <;> first | exact Rel.ofA this | exact h.elim
  · trivial
  · exact h
  · obtain ⟨g1, g2⟩ := renAL_get o st ss
    refine ⟨vs, h1, h2.trans g1.symm, fun i s v hs hv => ?_⟩
    obtain ⟨t, ht, rfl⟩ := g2 i s hs
    exact renA_rel h2D hβ hst hob (h3 i t v ht hv)
end
end Go.Proofs.Yticandbdabgkeaa.Am
