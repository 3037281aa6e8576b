/- What the abstract machine's values and states mean in the model: relations and their monotony. No condition: definitions and lemmas. -/
import Derived.Test.YticandbdabgkeaaAmA
import Derived.Laws.AppendOwn
import Derived.Laws.StructEq
import Derived.Below
namespace Go.Proofs.Yticandbdabgkeaa.Am
open Go

/-- Memory that no longer changes. -/
structure Rom where
  heap : Nat → Option Obj
  os : Os
  tape : Nat → Question → Nat
  output : Array (Nat × ByteArray)
  dr : Nat

def Rom.cell (D : Rom) (b off : Nat) : Option Value :=
  match D.heap b with
  | some (.cells c _ _) => c[off]?
  | _ => none

structure Rom.le (D D' : Rom) : Prop where
  os : D'.os = D.os
  tape : D'.tape = D.tape
  output : D'.output = D.output
  dr : D'.dr = D.dr
  heap : ∀ b o, D.heap b = some o → D'.heap b = some o

theorem Rom.le.refl (D : Rom) : Rom.le D D := ⟨rfl, rfl, rfl, rfl, fun _ _ h => h⟩
theorem Rom.le.trans {A B C : Rom} (h : Rom.le A B) (k : Rom.le B C) : Rom.le A C :=
  ⟨k.os.trans h.os, k.tape.trans h.tape, k.output.trans h.output, k.dr.trans h.dr, fun b o x => k.heap b o (h.heap b o x)⟩
theorem Rom.le.cell {D D' : Rom} (h : Rom.le D D') {b off : Nat} {v : Value} (hc : D.cell b off = some v) : D'.cell b off = some v := by
  unfold Rom.cell at *
  cases hb : D.heap b with
  | none => simp [hb] at hc
  | some o => rw [h.heap b o hb]; rw [hb] at hc; exact hc

/-- A value without references to objects of the call's own. -/
inductive PRel (D : Rom) : SV → Value → Prop
  | int (k : IntKind) (n : Int) : PRel D (.int k n) (.int k n)
  | bool (b : Bool) : PRel D (.bool b) (.bool b)
  | str (s : ByteArray) : PRel D (.str s) (.string s)
  | nils : PRel D .nils (.slice none 0 0)
  | nilp : PRel D .nilp (.pointer none)
  | nilf : PRel D .nilf .nilFunc
  | nili : PRel D .nili .nilIface
  | sl (z : Nat) (xs : List (List SV)) (A : Option Addr) (cap blk off : Nat) (u : Nat → Nat → Value)
      (hcap : xs.length ≤ cap)
      (hz : ∀ (i : Nat) (e : List SV), xs[i]? = some e → e.length = z)
      (hA : xs = [] ∨ A = some ⟨blk, off, none⟩)
      (hc : ∀ (i j : Nat) (e : List SV) (s : SV), xs[i]? = some e → e[j]? = some s → D.cell blk (off + (i * z + j)) = some (u i j))
      (hr : ∀ (i j : Nat) (e : List SV) (s : SV), xs[i]? = some e → e[j]? = some s → PRel D s (u i j)) :
      PRel D (.sl z xs) (.slice A xs.length cap)
  | ptr (cs : List SV) (blk off : Nat) (u : Nat → Value)
      (hc : ∀ (j : Nat) (s : SV), cs[j]? = some s → D.cell blk (off + j) = some (u j))
      (hr : ∀ (j : Nat) (s : SV), cs[j]? = some s → PRel D s (u j)) :
      PRel D (.ptr cs) (.pointer (some ⟨blk, off, none⟩))
  | fn (f : FuncId) (cs : List SV) (vs : List Value) (hl : vs.length = cs.length)
      (hr : ∀ (i : Nat) (s : SV) (v : Value), cs[i]? = some s → vs[i]? = some v → PRel D s v) :
      PRel D (.fn f cs) (.func (.func f) #[] vs.toArray)

theorem PRel.mono {D D' : Rom} (h : Rom.le D D') {s : SV} {v : Value} (hr : PRel D s v) : PRel D' s v := by
  induction hr with
  | int k n => exact .int k n
  | bool b => exact .bool b
  | str s => exact .str s
  | nils => exact .nils
  | nilp => exact .nilp
  | nilf => exact .nilf
  | nili => exact .nili
  | sl z xs A cap blk off u hcap hz hA hc _ ih => exact .sl z xs A cap blk off u hcap hz hA (fun i j e s h1 h2 => h.cell (hc i j e s h1 h2)) ih
  | ptr cs blk off u hc _ ih => exact .ptr cs blk off u (fun j s h1 => h.cell (hc j s h1)) ih
  | fn f cs vs hl _ ih => exact .fn f cs vs hl ih

theorem PRel.oneCell {D : Rom} {s : SV} {v : Value} (h : PRel D s v) : v.oneCell' = true := by cases h <;> rfl
theorem PRel.cellB {D : Rom} {s : SV} {v : Value} (h : PRel D s v) : cellB s = true := by cases h <;> rfl
theorem PRel.pureB {D : Rom} {s : SV} {v : Value} (h : PRel D s v) : pureB s = true := by cases h <;> rfl

/-- Persistent memory, where the objects of the call's own lie (block and number of cells), the objects, the counters. -/
structure Env where
  D : Rom
  β : Nat → Nat → Option (Nat × Nat)
  ob : Tab
  ct : Cnt

def RowAt (p : Option (Nat × Nat)) (b : Ob) (v : Value) : Prop :=
  match p with
  | none => b.xs = [] ∧ v = .slice none 0 0
  | some q => ∃ cap, v = .slice (some ⟨q.1, 0, none⟩) b.xs.length cap ∧ cap * b.z ≤ q.2 ∧ b.xs.length ≤ cap

def SlAt (p : Option (Nat × Nat)) (b : Ob) (lo n : Nat) (v : Value) : Prop :=
  match p with
  | none => lo = 0 ∧ n = 0 ∧ v = .slice none 0 0
  | some q => ∃ A cap, v = .slice A n cap ∧ n ≤ cap ∧ (lo + cap) * b.z ≤ q.2 ∧ ((n = 0 ∧ lo ≠ 0) ∨ A = some ⟨q.1, lo * b.z, none⟩)

/-- A value of one cell. -/
def Rel0 (E : Env) (s : SV) (v : Value) : Prop :=
  match s with
  | .lptr o st i j => st < E.ct o ∧ v.oneCell' = true ∧ ∀ b, E.ob o = some b → b.st = st → ∃ q, E.β o st = some q ∧ v = .pointer (some ⟨q.1, i * b.z + j, none⟩)
  | .lrow o st => st < E.ct o ∧ v.oneCell' = true ∧ ∀ b, E.ob o = some b → b.st = st → RowAt (E.β o st) b v
  | .lsl o st lo n => st < E.ct o ∧ v.oneCell' = true ∧ ∀ b, E.ob o = some b → b.st = st → SlAt (E.β o st) b lo n v
  | .junk | .undef | .agg _ | .tup _ => False
  | s => PRel E.D s v

def RelA (E : Env) (s : SV) (v : Value) : Prop :=
  match s with
  | .agg cs => ∃ vs : List Value, v = .agg vs.toArray ∧ vs.length = cs.length ∧ ∀ (i : Nat) (s : SV) (v : Value), cs[i]? = some s → vs[i]? = some v → Rel0 E s v
  | s => Rel0 E s v

def Rel (E : Env) (s : SV) (v : Value) : Prop :=
  match s with
  | .junk => True
  | .undef => v = undef
  | .tup ss => ∃ vs : List Value, v = .tuple vs.toArray ∧ vs.length = ss.length ∧ ∀ (i : Nat) (s : SV) (v : Value), ss[i]? = some s → vs[i]? = some v → RelA E s v
  | s => RelA E s v

theorem Rel0.of_pure {E : Env} {s : SV} {v : Value} (h : PRel E.D s v) : Rel0 E s v := by
  cases h
  case sl z xs A cap blk off u a1 a2 a3 a4 a5 => exact PRel.sl z xs A cap blk off u a1 a2 a3 a4 a5
  case ptr cs blk off u a1 a2 => exact PRel.ptr cs blk off u a1 a2
  case fn f cs vs a1 a2 => exact PRel.fn f cs vs a1 a2
  all_goals constructor

theorem Rel0.pure {E : Env} {s : SV} {v : Value} (h : Rel0 E s v) (hp : pureB s = true) : PRel E.D s v := by
  cases s <;> first | exact h | (simp [pureB] at hp)

theorem Rel0.oneCell {E : Env} {s : SV} {v : Value} (h : Rel0 E s v) : v.oneCell' = true := by
  cases s <;> first | exact h.2.1 | exact PRel.oneCell (D := E.D) h | exact False.elim h

theorem Rel0.cellB {E : Env} {s : SV} {v : Value} (h : Rel0 E s v) : cellB s = true := by
  cases s <;> first | rfl | exact False.elim h

theorem RelA.of0 {E : Env} {s : SV} {v : Value} (h : Rel0 E s v) : RelA E s v := by
  cases s <;> first | exact h | exact False.elim h

theorem Rel.ofA {E : Env} {s : SV} {v : Value} (h : RelA E s v) : Rel E s v := by
  cases s <;> first | exact h | exact False.elim h

theorem Rel.of0 {E : Env} {s : SV} {v : Value} (h : Rel0 E s v) : Rel E s v := Rel.ofA (RelA.of0 h)

/-- What is known stays known. -/
structure Env.le (E E' : Env) : Prop where
  D : Rom.le E.D E'.D
  ct : ∀ o, E.ct o ≤ E'.ct o
  keep : ∀ o b', E'.ob o = some b' → b'.st < E.ct o → (∃ b, E.ob o = some b ∧ b.st = b'.st ∧ b.z = b'.z ∧ b.xs.length = b'.xs.length) ∧ E'.β o b'.st = E.β o b'.st

theorem Env.le.refl (E : Env) : Env.le E E := ⟨Rom.le.refl _, fun _ => Nat.le_refl _, fun _ b' h _ => ⟨⟨b', h, rfl, rfl, rfl⟩, rfl⟩⟩

theorem Env.le.trans {A B C : Env} (h : Env.le A B) (k : Env.le B C) : Env.le A C := by
  refine ⟨h.D.trans k.D, fun o => Nat.le_trans (h.ct o) (k.ct o), fun o b' hb hlt => ?_⟩
  obtain ⟨⟨b, hb1, e1, e2, e3⟩, e4⟩ := k.keep o b' hb (Nat.lt_of_lt_of_le hlt (h.ct o))
  obtain ⟨⟨a, ha, f1, f2, f3⟩, f4⟩ := h.keep o b hb1 (by rw [e1]; exact hlt)
  exact ⟨⟨a, ha, f1.trans e1, f2.trans e2, f3.trans e3⟩, by rw [e4, ← e1, f4]⟩

theorem RowAt.congr {p : Option (Nat × Nat)} {b b' : Ob} {v : Value} (hz : b.z = b'.z) (hl : b.xs.length = b'.xs.length) (h : RowAt p b v) : RowAt p b' v := by
  unfold RowAt at *
  cases p with
  | none => exact ⟨List.eq_nil_of_length_eq_zero (by rw [← hl, h.1]; rfl), h.2⟩
  | some q => obtain ⟨cap, h1, h2, h3⟩ := h; exact ⟨cap, by rw [← hl]; exact h1, by rw [← hz]; exact h2, by rw [← hl]; exact h3⟩

theorem SlAt.congr {p : Option (Nat × Nat)} {b b' : Ob} {lo n : Nat} {v : Value} (hz : b.z = b'.z) (h : SlAt p b lo n v) : SlAt p b' lo n v := by
  unfold SlAt at *
  cases p with
  | none => exact h
  | some q => simp only [← hz]; exact h

theorem Rel0.mono {E E' : Env} (h : Env.le E E') {s : SV} {v : Value} (hr : Rel0 E s v) : Rel0 E' s v := by
  cases s with
  | lptr o st i j =>
    obtain ⟨h1, h2, h3⟩ := hr
    refine ⟨Nat.lt_of_lt_of_le h1 (h.ct o), h2, fun b' hb' hst => ?_⟩
    obtain ⟨⟨b, hb, e1, e2, _⟩, e4⟩ := h.keep o b' hb' (by rw [hst]; exact h1)
    obtain ⟨q, hq, hv⟩ := h3 b hb (e1.trans hst)
    rw [hst] at e4
    exact ⟨q, by rw [e4]; exact hq, by rw [← e2]; exact hv⟩
  | lrow o st =>
    obtain ⟨h1, h2, h3⟩ := hr
    refine ⟨Nat.lt_of_lt_of_le h1 (h.ct o), h2, fun b' hb' hst => ?_⟩
    obtain ⟨⟨b, hb, e1, e2, e3⟩, e4⟩ := h.keep o b' hb' (by rw [hst]; exact h1)
    rw [hst] at e4
    rw [e4]
    exact RowAt.congr e2 e3 (h3 b hb (e1.trans hst))
  | lsl o st lo n =>
    obtain ⟨h1, h2, h3⟩ := hr
    refine ⟨Nat.lt_of_lt_of_le h1 (h.ct o), h2, fun b' hb' hst => ?_⟩
    obtain ⟨⟨b, hb, e1, e2, _⟩, e4⟩ := h.keep o b' hb' (by rw [hst]; exact h1)
    rw [hst] at e4
    rw [e4]
    exact SlAt.congr e2 (h3 b hb (e1.trans hst))
  | junk => exact False.elim hr
  | undef => exact False.elim hr
  | agg _ => exact False.elim hr
  | tup _ => exact False.elim hr
  | _ => exact PRel.mono h.D hr

theorem RelA.split {E : Env} {s : SV} {v : Value} (h : RelA E s v) : Rel0 E s v ∨ ∃ cs, s = .agg cs ∧ RelA E (.agg cs) v := by
  cases s <;> first | exact .inl h | exact .inr ⟨_, rfl, h⟩

theorem RelA.mono {E E' : Env} (h : Env.le E E') {s : SV} {v : Value} (hr : RelA E s v) : RelA E' s v := by
  rcases hr.split with hr | ⟨cs, rfl, vs, h1, h2, h3⟩
  · exact RelA.of0 (hr.mono h)
  · exact ⟨vs, h1, h2, fun i s v a b => (h3 i s v a b).mono h⟩

theorem Rel.split {E : Env} {s : SV} {v : Value} (h : Rel E s v) : RelA E s v ∨ s = .junk ∨ (s = .undef ∧ v = undef) ∨ ∃ ss, s = .tup ss ∧ Rel E (.tup ss) v := by
  cases s <;> first | exact .inl h | exact .inr (.inl rfl) | exact .inr (.inr (.inl ⟨rfl, h⟩)) | exact .inr (.inr (.inr ⟨_, rfl, h⟩))

theorem Rel.mono {E E' : Env} (h : Env.le E E') {s : SV} {v : Value} (hr : Rel E s v) : Rel E' s v := by
  rcases hr.split with hr | rfl | ⟨rfl, rfl⟩ | ⟨ss, rfl, vs, h1, h2, h3⟩
  · exact Rel.ofA (hr.mono h)
  · trivial
  · rfl
  · exact ⟨vs, h1, h2, fun i s v a b => (h3 i s v a b).mono h⟩

/-- An object of the call's own, in memory. -/
structure Own (E : Env) (F : Nat → Option Obj) (w : World) (o : Nat) (b : Ob) : Prop where
  st : b.st < E.ct o
  len : ∀ (i : Nat) (e : List SV), b.xs[i]? = some e → e.length = b.z
  nil : E.β o b.st = none → b.xs = [] ∧ b.kind ≠ 0
  fits : ∀ q, E.β o b.st = some q → b.xs.length * b.z ≤ q.2
  live : b.kind < 2 → ∀ q, E.β o b.st = some q → E.D.heap q.1 = none ∧ F q.1 = none ∧ ∃ c ty, w.heap[q.1]? = some (.cells c ty (0, 0)) ∧ c.size = q.2 ∧
    ∀ (i j : Nat) (e : List SV) (s : SV), b.xs[i]? = some e → e[j]? = some s → ∃ v, c[i * b.z + j]? = some v ∧ Rel0 E s v ∧ (b.kind = 1 → PRel E.D s v)
  dead : 2 ≤ b.kind → ∀ q, E.β o b.st = some q → ∀ (i j : Nat) (e : List SV) (s : SV), b.xs[i]? = some e → e[j]? = some s → ∃ v, E.D.cell q.1 (i * b.z + j) = some v ∧ PRel E.D s v

structure Mem (G : Nat → List SV) (E : Env) (F : Nat → Option Obj) (w : World) : Prop where
  os : w.os = E.D.os
  tape : w.tape = E.D.tape
  output : w.output = E.D.output
  dr : E.D.dr ≤ w.drawn
  rom : ∀ b o, E.D.heap b = some o → w.heap[b]? = some o
  frm : ∀ b o, F b = some o → w.heap[b]? = some o
  apart : ∀ b o, F b = some o → E.D.heap b = none
  glob : ∀ g, PRel E.D (.ptr (G g)) (.pointer (some ⟨g, 0, none⟩))
  own : ∀ o b, E.ob o = some b → Own E F w o b
  inj : ∀ o o' b b' x y, E.ob o = some b → E.ob o' = some b' → b.kind < 2 → b'.kind < 2 → E.β o b.st = some x → E.β o' b'.st = some y → x.1 = y.1 → o = o'

/-- Abstract and concrete state. 'N': the number of slots. -/
structure Sim (G : Nat → List SV) (D0 : Env) (F : Nat → Option Obj) (N : Nat) (E : Env) (sl : Slots) (a : Act) (w : World) : Prop where
  le : Env.le D0 E
  mem : Mem G E F w
  size : a.tmps.size = N
  defers : a.defers = []
  rel : ∀ t, Rel E (sl t) (a.tmps.getD t undef)

theorem Mem.drawn {G : Nat → List SV} {E : Env} {F : Nat → Option Obj} {w : World} (h : Mem G E F w) (n : Nat) (hn : w.drawn ≤ n) : Mem G E F { w with drawn := n } :=
  ⟨h.os, h.tape, h.output, Nat.le_trans h.dr hn, h.rom, h.frm, h.apart, h.glob, fun o b hb => ⟨(h.own o b hb).st, (h.own o b hb).len, (h.own o b hb).nil, (h.own o b hb).fits, (h.own o b hb).live, (h.own o b hb).dead⟩, h.inj⟩

theorem Mem.drawn1 {G : Nat → List SV} {E : Env} {F : Nat → Option Obj} {w : World} (h : Mem G E F w) : Mem G E F { w with drawn := w.drawn + 1 } := h.drawn _ (Nat.le_succ _)

theorem cell_at {w : World} {blk : Nat} {c : Array Value} {ty : TypeId} {fr : Nat × Nat} (h : w.heap[blk]? = some (.cells c ty fr)) (j : Nat) : w.cell? ⟨blk, j, none⟩ = c[j]? := by
  simp [World.cell?, h]

theorem Mem.romCell {G : Nat → List SV} {E : Env} {F : Nat → Option Obj} {w : World} (h : Mem G E F w) {b off : Nat} {v : Value} (hc : E.D.cell b off = some v) : w.cell? ⟨b, off, none⟩ = some v := by
  unfold Rom.cell at hc
  cases hb : E.D.heap b with
  | none => simp [hb] at hc
  | some o =>
    have hw := h.rom b o hb
    rw [hb] at hc
    cases o <;> simp at hc
    simp [World.cell?, hw, hc]

/-- Cells that lie one behind another. -/
def CellsAt (E : Env) (w : World) (blk off : Nat) (cs : List SV) : Prop :=
  ∀ (j : Nat) (s : SV), cs[j]? = some s → ∃ v, w.cell? ⟨blk, off + j, none⟩ = some v ∧ Rel0 E s v

theorem CellsAt.drop {E : Env} {w : World} {blk off : Nat} {cs : List SV} (h : CellsAt E w blk off cs) (k : Nat) : CellsAt E w blk (off + k) (cs.drop k) := by
  intro j s hs
  rw [List.getElem?_drop] at hs
  rw [Nat.add_assoc]
  exact h (k + j) s hs

theorem Own.cells {G : Nat → List SV} {E : Env} {F : Nat → Option Obj} {w : World} (hm : Mem G E F w) {o : Nat} {b : Ob} (hb : E.ob o = some b) {q : Nat × Nat} (hq : E.β o b.st = some q) {i : Nat} {e : List SV} (he : b.xs[i]? = some e) :
    CellsAt E w q.1 (i * b.z) e := by
  intro j s hs
  have ho := hm.own o b hb
  rcases Nat.lt_or_ge b.kind 2 with hk | hk
  · obtain ⟨_, _, c, ty, hc, _, hcell⟩ := ho.live hk q hq
    obtain ⟨v, h1, h2, _⟩ := hcell i j e s he hs
    exact ⟨v, by rw [cell_at hc]; exact h1, h2⟩
  · obtain ⟨v, h1, h2⟩ := ho.dead hk q hq i j e s he hs
    exact ⟨v, hm.romCell h1, Rel0.of_pure h2⟩

theorem ptr_cells {G : Nat → List SV} {E : Env} {F : Nat → Option Obj} {w : World} (hm : Mem G E F w) {cs : List SV} {v : Value} (h : PRel E.D (.ptr cs) v) : ∃ blk off, v = .pointer (some ⟨blk, off, none⟩) ∧ CellsAt E w blk off cs := by
  cases h with
  | ptr _ blk off u hc hr => exact ⟨blk, off, rfl, fun j s hs => ⟨u j, hm.romCell (hc j s hs), Rel0.of_pure (hr j s hs)⟩⟩

theorem exists_list {α : Type} {p : Nat → α → Prop} : ∀ n, (∀ j, j < n → ∃ v, p j v) → ∃ vs : List α, vs.length = n ∧ ∀ (j : Nat) (v : α), vs[j]? = some v → p j v
  | 0, _ => ⟨[], rfl, fun j v h => by simp at h⟩
  | n + 1, h => by
    obtain ⟨vs, h1, h2⟩ := exists_list n (fun j hj => h j (by omega))
    obtain ⟨v, hv⟩ := h n (by omega)
    refine ⟨vs ++ [v], by simp [h1], fun j u hu => ?_⟩
    by_cases hj : j < vs.length
    · rw [List.getElem?_append_left hj] at hu; exact h2 j u hu
    · rw [List.getElem?_append_right (by omega)] at hu
      have : j = n := by
        have h3 := (List.getElem?_eq_some_iff.1 hu).1
        simp at h3; omega
      subst this
      simp [h1] at hu
      subst hu; exact hv

theorem takeK_spec {k : List SV → Prop} : ∀ (n : Nat) (e : List SV), takeK n e k → n ≤ e.length ∧ k (e.take n) := by
  intro n
  induction n generalizing k with
  | zero => intro e h; exact ⟨Nat.zero_le _, by rw [List.take_zero]; exact h⟩
  | succ n ih =>
    intro e h
    cases e with
    | nil => exact h.elim
    | cons x r =>
      obtain ⟨h1, h2⟩ := ih (k := fun l => k (x :: l)) r h
      exact ⟨by simp; omega, by simpa using h2⟩

theorem run_isAgg_true {P : Program} {t : TypeId} {d : TypeDesc} (h : P.underlying t = some d) (hd : (match d with | .struct _ | .array _ _ => true | _ => false) = true) (w : World) : (isAgg t).run P w = .ok true w := by
  unfold isAgg
  rw [Sem.run_bind, run_underlying h w]
  cases d <;> simp_all
theorem run_isAgg_false {P : Program} {t : TypeId} {d : TypeDesc} (h : P.underlying t = some d) (hd : (match d with | .struct _ | .array _ _ => true | _ => false) = false) (w : World) : (isAgg t).run P w = .ok false w := by
  unfold isAgg
  rw [Sem.run_bind, run_underlying h w]
  cases d <;> simp_all
theorem run_sizeOf {P : Program} {t : TypeId} {i : TypeInfo} (h : P.info? t = some i) (w : World) : (sizeOf t).run P w = .ok i.size w := by simp [sizeOf, typeInfo, h]

theorem aggK_spec {P : Program} {t : TypeId} {k : Bool → Prop} (h : aggK P t k) : ∃ b, k b ∧ ∀ w, (isAgg t).run P w = .ok b w := by
  unfold aggK at h
  cases hu : P.underlying t with
  | none => simp [hu] at h
  | some d =>
    rw [hu] at h
    cases d with
    | struct fs => exact ⟨true, h, run_isAgg_true hu rfl⟩
    | array n e => exact ⟨true, h, run_isAgg_true hu rfl⟩
    | _ => exact ⟨false, h, run_isAgg_false hu rfl⟩

theorem sizeK_spec {P : Program} {t : TypeId} {k : Nat → Prop} (h : sizeK P t k) : ∃ i, P.info? t = some i ∧ k i.size := by
  unfold sizeK at h
  cases hi : P.info? t with
  | none => simp [hi] at h
  | some i => rw [hi] at h; exact ⟨i, rfl, h⟩

theorem ifB_spec {t : Bool} {A B : Prop} (h : ifB t A B) : (t = true ∧ A) ∨ (t = false ∧ B) := by
  cases t with
  | true => exact .inl ⟨rfl, h⟩
  | false => exact .inr ⟨rfl, h⟩
theorem ifB_true {t : Bool} {A : Prop} (h : ifB t A False) : t = true ∧ A := by
  rcases ifB_spec h with h | h
  · exact h
  · exact h.2.elim

theorem add_addr (b o n : Nat) : (⟨b, o, none⟩ : Addr).add n = ⟨b, o + n, none⟩ := Addr.add_lit b o n

/-- What a variable reads as. -/
theorem readK_sound {P : Program} {t : TypeId} {cs : List SV} {k : SV → Prop} {E : Env} {w : World} {blk off : Nat} (h : readK P t cs k) (hc : CellsAt E w blk off cs) :
    ∃ s v, k s ∧ (loadVar t ⟨blk, off, none⟩).run P w = .ok v w ∧ RelA E s v := by
  obtain ⟨b, h1, hagg⟩ := aggK_spec h
  cases b with
  | true =>
    obtain ⟨i, hi, h2⟩ := sizeK_spec (h1 : sizeK P t _)
    obtain ⟨hlen, h3⟩ := takeK_spec _ _ h2
    obtain ⟨vs, hvl, hvs⟩ := exists_list (p := fun j v => w.cell? ⟨blk, off + j, none⟩ = some v ∧ ∀ s, cs[j]? = some s → Rel0 E s v) i.size (fun j hj => by
      have hj' : j < cs.length := by omega
      obtain ⟨v, hv1, hv2⟩ := hc j cs[j] (List.getElem?_eq_getElem hj')
      exact ⟨v, hv1, fun s hs => by rw [List.getElem?_eq_getElem hj'] at hs; cases hs; exact hv2⟩)
    refine ⟨_, .agg vs.toArray, h3, ?_, vs, rfl, by simp [hvl]; omega, fun j s v hs hv => ?_⟩
    · have hl := run_loadCells_list (P := P) w ⟨blk, off, none⟩ vs (fun j v hv => by rw [add_addr]; exact (hvs j v hv).1)
      rw [hvl] at hl
      simp [loadVar, hagg, run_sizeOf hi, hl]
    · rw [List.getElem?_take] at hs
      split at hs
      · exact (hvs j v hv).2 s hs
      · cases hs
  | false =>
    cases cs with
    | nil => exact (h1 : False).elim
    | cons c r =>
      obtain ⟨v, hv1, hv2⟩ := hc 0 c rfl
      exact ⟨c, v, h1, by simp only [Nat.add_zero] at hv1; simp [loadVar, hagg, hv1], RelA.of0 hv2⟩
end Go.Proofs.Yticandbdabgkeaa.Am
