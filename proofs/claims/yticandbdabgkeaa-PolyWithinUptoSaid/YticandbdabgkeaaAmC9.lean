/- Loops by an invariant, results, and functions. No condition: definitions and lemmas. -/
import Derived.Test.YticandbdabgkeaaAmC8
namespace Go.Proofs.Yticandbdabgkeaa.Am
open Go

section
variable {P : Program} {G : Nat → List SV} {N : Nat}

/-- A state can be forgotten down to what is written out. -/
def WeakTo (G : Nat → List SV) (N : Nat) (S : (Nat → Nat) → List (Nat × SV)) (O : (Nat → Nat) → List (Nat × Ob)) : Kont := fun sl ob ct =>
  ∃ s ct', Weak G N sl ob ct (mkS (S s)) (mkO (O s)) ct'

theorem weakTo_cov {S : (Nat → Nat) → List (Nat × SV)} {O : (Nat → Nat) → List (Nat × Ob)} {sl : Slots} {ob : Tab} {ct : Cnt} (hs : covS sl ob (S (stOf ob))) (ho : covO ob (O (stOf ob))) : WeakTo G N S O sl ob ct :=
  ⟨stOf ob, ct, weak_cov hs ho⟩

theorem loop_rule (hm : P.follows .mixedOrders = true) {c : Code} {Q : QK} {sl : Slots} {ob : Tab} {ct : Cnt} {ι : Type} (S : ι → (Nat → Nat) → List (Nat × SV)) (O : ι → (Nat → Nat) → List (Nat × Ob)) (pre : ι → Prop) (μ : ι → Nat) (i0 : ι)
    (h0 : pre i0) (hw : WeakTo G N (S i0) (O i0) sl ob ct)
    (round : ∀ i, pre i → ∀ s ct, wpC P G N c (thenK (fun sl ob ct => ∃ j, pre j ∧ μ j < μ i ∧ WeakTo G N (S j) (O j) sl ob ct) Q) (mkS (S i s)) (mkO (O i s)) ct) : LoopW P G N c Q sl ob ct := by
  unfold LoopW
  intro D0 F D β a w Qc hs hQ
  refine wp_loop_ghost (fun n a w => ∃ i s ct D β, pre i ∧ μ i = n ∧ Sim G D0 F N ⟨D, β, mkO (O i s), ct⟩ (mkS (S i s)) a w) (μ i0) ?_ fun n a w ⟨i, s, ct, D, β, hp, hμ, hs⟩ => ?_
  · obtain ⟨s, ct', hw⟩ := hw
    obtain ⟨D1, β1, hs1⟩ := hw D0 F D β a w hs
    exact ⟨i0, s, ct', D1, β1, h0, rfl, hs1⟩
  · refine wpC_sound hm c _ _ _ _ (round i hp s ct) D0 F D β a w _ hs fun e sl' ob' ct' D' β' a' w' hh hs' => ?_
    cases e with
    | normal =>
      obtain ⟨j, hpj, hlt, s', ct2, hw2⟩ := hh
      obtain ⟨D1, β1, hs1⟩ := hw2 D0 F D' β' a' w' hs'
      exact ⟨μ j, by rw [← hμ]; exact hlt, j, s', ct2, D1, β1, hpj, rfl, hs1⟩
    | exit id => exact hQ _ _ _ _ D' β' a' w' hh hs'
    | goto l => exact hQ _ _ _ _ D' β' a' w' hh hs'
    | ret => exact hQ _ _ _ _ D' β' a' w' hh hs'
    | panic ch => exact hQ _ _ _ _ D' β' a' w' hh hs'
    | outgrown => exact hQ _ _ _ _ D' β' a' w' hh hs'
end

/-! ### Results -/
def resK (P : Program) (sl : Slots) (ob : Tab) : List ResultVar → (List SV → Prop) → Prop
  | [], k => k []
  | .tmp t :: r, k => resK P sl ob r fun l => k (sl t :: l)
  | .cell a t :: r, k => match sl a with
    | .lptr o' st i j => match ob o' with
      | some b => st = b.st ∧ elemK b i fun e => readK P t (e.drop j) fun v => resK P sl ob r fun l => k (v :: l)
      | none => False
    | _ => False

def retK (P : Program) (rs : List ResultVar) (k : SV → Prop) : QK := fun e sl ob _ => match e with
  | .ret | .normal => resK P sl ob rs fun vs => match vs with
    | [v] => purAK ob v fun r _ => k r
    | vs => purALK ob vs fun l _ => k (.tup l)
  | _ => False

def refsV : SV → List Nat
  | .tup ss => refsAL ss
  | s => refsA s
def only1 (o st : Nat) : SV → Bool
  | .lrow o' st' => Nat.beq o' o && Nat.beq st' st
  | .lsl o' st' _ _ => Nat.beq o' o && Nat.beq st' st
  | s => pureB s
def onlyA (o st : Nat) : SV → Bool
  | .agg cs => allB (only1 o st) cs
  | s => only1 o st s
def onlyV (o st : Nat) : SV → Bool
  | .tup ss => allB (onlyA o st) ss
  | s => onlyA o st s

def oneK (ob : Tab) (v : SV) (o : Nat) (k : SV → Nat → List (List SV) → Prop) : Prop :=
  match ob o with
  | some ⟨st, 1, z, xs⟩ => ifB (onlyV o st v) (k (renV 0 0 v) z xs) False
  | _ => False

/-- The result is, or holds, a row that may still change. -/
def retF (P : Program) (rs : List ResultVar) (k : SV → Nat → List (List SV) → Prop) : QK := fun e sl ob _ => match e with
  | .ret | .normal => resK P sl ob rs fun vs => match vs with
    | [v] => (match refsV v with | o :: _ => oneK ob v o k | [] => False)
    | vs => (match refsAL vs with | o :: _ => oneK ob (.tup vs) o k | [] => False)
  | _ => False

/-- The row that came in, by the name 0, goes back. -/
def retR (P : Program) (rs : List ResultVar) (k : SV → Nat → List (List SV) → Prop) : QK := fun e sl ob _ => match e with
  | .ret | .normal => resK P sl ob rs fun vs => match ob 0 with
    | some ⟨0, 1, z, xs⟩ => (match vs with
      | [v] => ifB (onlyV 0 0 v) (k v z xs) False
      | vs => ifB (onlyV 0 0 (.tup vs)) (k (.tup vs) z xs) False)
    | _ => False
  | _ => False

def argS : List SV → Slots
  | [], _ => .undef
  | v :: _, 0 => v
  | _ :: r, t + 1 => argS r t

section
variable {P : Program} {G : Nat → List SV} {N : Nat} {D0 : Env} {F : Nat → Option Obj} {E : Env} {sl : Slots} {a : Act} {w : World}

def resRun (tmps : Array Value) : ResultVar → Sem Value
  | .tmp t => pure (tmps.getD t undef)
  | .cell a t => do loadVar t (← asAddr (tmps.getD a undef))

def resV : List Value → Value
  | [v] => v
  | vs => .tuple vs.toArray

theorem results_run {fn : Func} {vs : List Value} (h : (fn.results.toList.mapM (resRun a.tmps)).run P w = .ok vs w) :
    (results fn a.tmps).run P w = .ok (resV vs) w := by
  have e : fn.results.mapM (resRun a.tmps) = List.toArray <$> fn.results.toList.mapM (resRun a.tmps) := Array.mapM_eq_mapM_toList ..
  have h2 : (fn.results.mapM (resRun a.tmps)).run P w = .ok vs.toArray w := by
    rw [e, Sem.run_map, h]
    rfl
  have e2 : results fn a.tmps = (do
      let vs ← fn.results.mapM (resRun a.tmps)
      pure (if h : vs.size = 1 then vs[0] else .tuple vs)) := by
    unfold results
    congr 1
  rw [e2]
  simp only [Sem.run_bind, h2, Result.andThen_ok, Sem.run_pure]
  match vs with
  | [] => rfl
  | [v] => rfl
  | _ :: _ :: _ => simp [resV]

theorem resK_sound (hs : Sim G D0 F N E sl a w) : ∀ (rs : List ResultVar) (k : List SV → Prop), resK P sl E.ob rs k →
    ∃ ss vs, k ss ∧ (rs.mapM (resRun a.tmps)).run P w = .ok vs w ∧ vs.length = ss.length ∧ ∀ (i : Nat) (s : SV) (v : Value), ss[i]? = some s → vs[i]? = some v → Rel E s v
  | [], k, h => ⟨[], [], h, by simp, rfl, fun i s v hi => by simp at hi⟩
  | .tmp t :: r, k, h => by
    obtain ⟨ss, vs, h1, h2, h3, h4⟩ := resK_sound hs r _ h
    refine ⟨_, a.tmps.getD t undef :: vs, h1, ?_, by simp [h3], fun i s v hi hv => ?_⟩
    · simp [List.mapM_cons, resRun, h2]
    · cases i with
      | zero => simp at hi hv; subst hi; subst hv; simpa using hs.rel t
      | succ i => exact h4 i s v (by simpa using hi) (by simpa using hv)
  | .cell x t :: r, k, h => by
    simp only [resK] at h
    have hr := hs.rel x
    cases hx : sl x <;> rw [hx] at h hr <;> try exact h.elim
    rename_i o' st i j
    cases hb : E.ob o' with
    | none => simp only [hb] at h
    | some b =>
      simp only [hb] at h
      obtain ⟨rfl, h⟩ := h
      obtain ⟨e, he, h⟩ := elemK_spec h
      obtain ⟨q, hq, hv⟩ := hr.2.2 b hb rfl
      obtain ⟨s, v, g1, g2, g3⟩ := readK_sound (P := P) h ((Own.cells hs.mem hb hq he).drop j)
      obtain ⟨ss, vs, h1, h2, h3, h4⟩ := resK_sound hs r _ g1
      refine ⟨_, v :: vs, h1, ?_, by simp [h3], fun i s' v' hi hv' => ?_⟩
      · simp [List.mapM_cons, resRun, h2, hv, asAddr, g2]
      · cases i with
        | zero => simp at hi hv'; subst hi; subst hv'; exact Rel.ofA g3
        | succ i => exact h4 i s' v' (by simpa using hi) (by simpa using hv')
end
end Go.Proofs.Yticandbdabgkeaa.Am
