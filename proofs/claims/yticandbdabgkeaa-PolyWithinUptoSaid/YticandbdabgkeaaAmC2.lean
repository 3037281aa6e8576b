/- Running a statement's operations on the abstract machine, and why that says what the program does. No condition: definitions and lemmas. -/
import Derived.Test.YticandbdabgkeaaAmK3
namespace Go.Proofs.Yticandbdabgkeaa.Am
open Go

/-! ### Running -/
/-- Is it a comparison of an empty slice with nil, whose outcome is not known? -/
def nilQ (P : Program) (o : Oper) (g : Operand → SV) : Bool := match o.op with
  | .binOp op t x y _ => (match g x with
    | .sl _ xs => (match g y with
      | .nils => (match P.underlying t with
        | some (.slice _) => (match xs with
          | [] => (match op with | .eql => true | .neq => true | _ => false)
          | _ :: _ => false)
        | _ => false)
      | _ => false)
    | _ => false)
  | _ => false
def actN (P : Program) (G : Nat → List SV) (o : Oper) (g : Operand → SV) (ob : Tab) (ct : Cnt) (R : SV → List Upd → Prop) : Prop :=
  match nilQ P o g with
  | true => R (.bool true) [] ∧ R (.bool false) []
  | false => actD P G o g ob ct R

def runOps (P : Program) (G : Nat → List SV) (N : Nat) (ops : List Oper) (K : Kont) (l : List Oper) : Kont :=
  @List.rec Oper (fun _ => Kont) K (fun o _ ih sl ob ct => gateK ops o sl
    (fun sl => actN P G o (ev G sl) ob ct fun v us => setd N sl o.dst v fun sl' => ih sl' (addO ob us) (addC ct us))
    (fun sl => setd N sl o.dst .undef fun sl' => ih sl' ob ct)) l

theorem runOps_cons (P : Program) (G : Nat → List SV) (N : Nat) (ops : List Oper) (K : Kont) (o : Oper) (r : List Oper) (sl : Slots) (ob : Tab) (ct : Cnt) : runOps P G N ops K (o :: r) sl ob ct = gateK ops o sl
    (fun sl => actN P G o (ev G sl) ob ct fun v us => setd N sl o.dst v fun sl' => runOps P G N ops K r sl' (addO ob us) (addC ct us))
    (fun sl => setd N sl o.dst .undef fun sl' => runOps P G N ops K r sl' ob ct) := rfl

def thenK (a : Kont) (Q : QK) : QK := fun e => match e with | .normal => a | e => Q e
def blockK (id : Nat) (Q : QK) : QK := fun e => match e with
  | .exit j => (match Nat.beq j id with | true => Q .normal | false => Q (.exit j))
  | e => Q e

section
variable {P : Program} {G : Nat → List SV} {F : Nat → Option Obj} {D0 : Env} {N : Nat} {E : Env} {sl : Slots} {a : Act} {w : World}

theorem ev_rel (hs : Sim G D0 F N E sl a w) (x : Operand) : Rel E (ev G sl x) (a.eval x) := by
  cases x with
  | tmp t => exact hs.rel t
  | const v =>
    show Rel E (ofV v) v
    have one : ∀ v : Value, Rel E (ofC v) v := fun v => by
      cases hc : cellB (ofC v) with
      | true => exact Rel.of0 (Rel0.of_pure (ofC_rel E.D hc))
      | false =>
        have : ofC v = .junk := by
          unfold ofC at hc ⊢
          split at hc <;> first | rfl | (simp [cellB] at hc)
        rw [this]
        trivial
    have two : (∃ cs, v = .agg cs) ∨ ofV v = ofC v := by cases v <;> first | exact .inl ⟨_, rfl⟩ | exact .inr rfl
    rcases two with ⟨cs, rfl⟩ | h
    · show Rel E (match allB cellB (ofCs cs.toList) with | true => .agg (ofCs cs.toList) | false => .junk) _
      cases hb : allB cellB (ofCs cs.toList) with
      | true => exact ⟨cs.toList, by simp, (ofCs_length _).symm, fun i s v hs hv => Rel0.of_pure (ofCs_rel E.D _ hb i s v hs hv)⟩
      | false => trivial
    · rw [h]; exact one v
  | global g => exact Rel.of0 (Rel0.of_pure (hs.mem.glob g))
  | func f => exact Rel.of0 (Rel0.of_pure (PRel.fn f [] [] rfl (fun i s v h => by simp at h)))

theorem put_get (a : Act) (d : Nat) (x : Value) (hd : d < a.tmps.size) (t : Nat) : (a.put (some d) x).tmps.getD t undef = if t = d then x else a.tmps.getD t undef := by
  show (a.tmps.setIfInBounds d x).getD t undef = _
  rw [Array.getD_eq_getD_getElem?, Array.getElem?_setIfInBounds]
  by_cases h : d = t
  · subst h; simp [hd]
  · rw [if_neg h, if_neg (fun e => h e.symm), Array.getD_eq_getD_getElem?]

theorem setd_sound {dst : Option Nat} {v : SV} {x : Value} {k : Slots → Prop} {E' : Env} {w' : World} (h : setd N sl dst v k) (hs : Sim G D0 F N E sl a w) (hle : Env.le E E') (hm : Mem G E' F w') (hr : Rel E' v x) :
    ∃ sl', k sl' ∧ Sim G D0 F N E' sl' (a.put dst x) w' := by
  cases dst with
  | none => exact ⟨sl, h, hs.le.trans hle, hm, hs.size, hs.defers, fun t => (hs.rel t).mono hle⟩
  | some d =>
    obtain ⟨hd, h⟩ := ifB_true h
    rw [forceK_eq] at h
    have hd : d < N := by simp [Nat.blt] at hd; omega
    refine ⟨_, h, hs.le.trans hle, hm, by simpa [Act.put] using hs.size, hs.defers, fun t => ?_⟩
    rw [put_get a d x (by rw [hs.size]; exact hd)]
    by_cases ht : t = d
    · subst ht; rw [upd_same, if_pos rfl]; exact hr
    · rw [upd_other _ _ ht, if_neg ht]; exact (hs.rel t).mono hle

theorem lit_slot {t : Nat} {b : Bool} (h : sl t = .bool b) : upd sl t (.bool b) = sl := by
  rw [← h]; exact upd_self sl t

theorem gate_sound {ops : Array Oper} {o : Oper} {yes no : Slots → Prop} (hs : Sim G D0 F N E sl a w) (h : gateK ops.toList o sl yes no) :
    (Region.wanted o (yielded ops a.tmps) = true ∧ yes sl) ∨ (Region.wanted o (yielded ops a.tmps) = false ∧ no sl) := by
  unfold gateK at h
  unfold Region.wanted
  cases hg : o.guard with
  | none => rw [hg] at h; exact .inl ⟨rfl, h⟩
  | some jw =>
    obtain ⟨j, want⟩ := jw
    rw [hg] at h
    simp only at h ⊢
    have hlist : ops.toList[j]? = ops[j]? := by simp
    rw [hlist] at h
    cases hd : (ops[j]?).bind (·.dst) with
    | none =>
      rw [hd] at h
      refine .inr ⟨?_, h⟩
      simp [yielded, hd]
    | some t =>
      rw [hd] at h
      simp only at h
      have hr := hs.rel t
      cases ht : sl t <;> rw [ht] at h hr <;> try exact h.elim
      case undef =>
        refine .inr ⟨?_, h⟩
        have hu : a.tmps.getD t undef = undef := hr
        unfold yielded
        rw [hd]
        cases hq : a.tmps[t]? with
        | none => simp [hq]
        | some v =>
          rw [Array.getD_eq_getD_getElem?, hq] at hu
          simp only [Option.getD_some] at hu
          subst hu
          simp [hq, undef]
      case bool b =>
        have hb := rel_bool hr
        have hq : a.tmps[t]? = some (.bool b) := by
          cases hq : a.tmps[t]? with
          | none => rw [Array.getD_eq_getD_getElem?, hq] at hb; simp [undef] at hb
          | some v => rw [Array.getD_eq_getD_getElem?, hq] at hb; simp at hb; rw [hb]
        have hy : yielded ops a.tmps j = some b := by simp [yielded, hd, hq]
        rw [hy]
        cases b <;> cases want <;> simp only at h
        · exact .inl ⟨by simp, by rw [lit_slot ht] at h; exact h⟩
        · exact .inr ⟨by simp, by rw [lit_slot ht] at h; exact h⟩
        · exact .inr ⟨by simp, by rw [lit_slot ht] at h; exact h⟩
        · exact .inl ⟨by simp, by rw [lit_slot ht] at h; exact h⟩

theorem undef_rel (E : Env) : Rel E .undef undef := rfl

theorem actN_wp {g : Operand → SV} {o : Oper} {a : Act} {R : SV → List Upd → Prop} {next : Act → World → Prop} {Q : Exit → Act → World → Prop} (hm : Mem G E F w) (hg : ∀ x, Rel E (g x) (a.eval x)) (h : actN P G o g E.ob E.ct R)
    (hn : ∀ v us x w' D' β', R v us → Rel (E.upd D' β' us) v x → Mem G (E.upd D' β' us) F w' → Env.le E (E.upd D' β' us) → next (a.put o.dst x) w') : o.wp P a w next Q := by
  unfold actN at h
  cases hq : nilQ P o g with
  | false => rw [hq] at h; exact actD_wp hm hg h hn
  | true =>
    rw [hq] at h
    have hgood : Good G F E R ((execOp a.eval o).run P w) := by
      obtain ⟨dst, op, type, pos, after, guard⟩ := o
      unfold nilQ at hq
      cases op <;> simp only at hq <;> try (cases hq; done)
      rename_i op t x y yt
      have hx := hg x
      have hy := hg y
      cases hgx : g x <;> rw [hgx] at hq hx <;> simp only at hq <;> try (cases hq; done)
      rename_i z xs
      cases hgy : g y <;> rw [hgy] at hq hy <;> simp only at hq <;> try (cases hq; done)
      cases hu : P.underlying t with
      | none => rw [hu] at hq; cases hq
      | some d =>
        rw [hu] at hq
        cases d <;> simp only at hq <;> try (cases hq; done)
        rename_i el
        cases xs with
        | cons _ _ => simp only at hq; cases hq
        | nil =>
          have hv : ∃ A cap, a.eval x = .slice A 0 cap := by
            generalize a.eval x = v at hx
            cases (show PRel E.D (.sl z []) v from hx)
            exact ⟨_, _, rfl⟩
          obtain ⟨A, cap, hv⟩ := hv
          have hnk : nilEqK op A.isNone R := by
            simp only at hq
            cases op <;> simp only at hq <;> try (cases hq; done)
            · cases A <;> simp [nilEqK, h.1, h.2]
            · cases A <;> simp [nilEqK, h.1, h.2]
          have := nilEq_slice (A := A) (n := 0) (cap := cap) hm hu hnk (by cases A <;> simp) x y
          rw [← hv, ← rel_nils hy] at this
          exact GoodV.toGood this
    obtain ⟨v, us, x, w', D', β', h1, h2, h3, h4, h5⟩ := hgood
    unfold Oper.wp
    rcases h2 with h2 | ⟨h2, rfl⟩
    · rw [h2]; exact hn v us x w' D' β' h1 h3 h4 h5
    · rw [h2]; exact hn v us undef w' D' β' h1 h3 h4 h5

theorem runOps_sound {ops : Array Oper} {K : Kont} {Q : Exit → Act → World → Prop}
    (hQ : ∀ sl ob ct D β a w, K sl ob ct → Sim G D0 F N ⟨D, β, ob, ct⟩ sl a w → Q .normal a w) :
    ∀ (l : List Oper) (sl : Slots) (ob : Tab) (ct : Cnt) (D : Rom) (β : Nat → Nat → Option (Nat × Nat)) (a : Act) (w : World), runOps P G N ops.toList K l sl ob ct → Sim G D0 F N ⟨D, β, ob, ct⟩ sl a w → wpList P ops Q l a w
  | [], sl, ob, ct, D, β, a, w, h, hs => hQ sl ob ct D β a w h hs
  | o :: r, sl, ob, ct, D, β, a, w, h, hs => by
    unfold wpList
    rw [runOps_cons] at h
    rcases gate_sound hs h with ⟨hw, h⟩ | ⟨hw, h⟩
    · rw [if_pos hw]
      refine .inl ?_
      refine actN_wp hs.mem (ev_rel hs) h fun v us x w' D' β' hR hrel hm hle => ?_
      obtain ⟨sl', hk, hs'⟩ := setd_sound hR hs hle hm hrel
      exact runOps_sound hQ r sl' _ _ D' β' _ w' hk hs'
    · rw [if_neg (by rw [hw]; simp)]
      obtain ⟨sl', hk, hs'⟩ := setd_sound h hs (Env.le.refl _) hs.mem (undef_rel _)
      exact runOps_sound hQ r sl' ob ct D β _ w hk hs'
end
end Go.Proofs.Yticandbdabgkeaa.Am
