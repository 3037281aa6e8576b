/- What may be forgotten of a state: for the heads of loops. No condition: lemmas. -/
import Derived.Test.YticandbdabgkeaaAmC7
namespace Go.Proofs.Yticandbdabgkeaa.Am
open Go

section
variable {G : Nat → List SV} {N : Nat} {F : Nat → Option Obj} {D : Rom} {β : Nat → Nat → Option (Nat × Nat)} {ob ob' : Tab} {ct : Cnt} {w : World}

/-- Objects may be forgotten. -/
theorem Mem.less (hm : Mem G ⟨D, β, ob, ct⟩ F w) (h : ∀ o b, ob' o = some b → ob o = some b) : Mem G ⟨D, β, ob', ct⟩ F w ∧ Env.le ⟨D, β, ob, ct⟩ ⟨D, β, ob', ct⟩ := by
  have hle : Env.le ⟨D, β, ob, ct⟩ ⟨D, β, ob', ct⟩ := ⟨Rom.le.refl _, fun _ => Nat.le_refl _, fun o b hb _ => ⟨⟨b, h o b hb, rfl, rfl, rfl⟩, rfl⟩⟩
  refine ⟨⟨hm.os, hm.tape, hm.output, hm.dr, hm.rom, hm.frm, hm.apart, hm.glob, fun o b hb => ?_, fun o o' b b' x y hb hb' => hm.inj o o' b b' x y (h o b hb) (h o' b' hb')⟩, hle⟩
  have ho := hm.own o b (h o b hb)
  refine ⟨ho.st, ho.len, ho.nil, ho.fits, fun hk q hq => ?_, ho.dead⟩
  obtain ⟨h1, h2, c, ty, h3, h4, h5⟩ := ho.live hk q hq
  refine ⟨h1, h2, c, ty, h3, h4, fun i j e s hi hj => ?_⟩
  obtain ⟨v, g1, g2, g3⟩ := h5 i j e s hi hj
  exact ⟨v, g1, g2.mono hle, g3⟩

theorem Rel.junk (E : Env) (v : Value) : Rel E .junk v := trivial

theorem leS_rel (hm : Mem G ⟨D, β, ob, ct⟩ F w) {a v : SV} {x : Value} (h : leS ob a v) (hr : Rel ⟨D, β, ob, ct⟩ a x) : Rel ⟨D, β, ob, ct⟩ v x := by
  have other : ∀ {a v : SV}, a = v → Rel ⟨D, β, ob, ct⟩ a x → Rel ⟨D, β, ob, ct⟩ v x := fun e hr => e ▸ hr
  cases v <;> try exact other h hr
  case junk => trivial
  case sl z xs =>
    rcases h with rfl | h
    · exact hr
    · cases a <;> try exact h.elim
      case nils =>
        have h : xs = [] := h
        subst h
        have hr : PRel D .nils x := hr
        have hx : x = .slice none 0 0 := by cases hr; rfl
        subst hx
        exact Rel.of0 (Rel0.of_pure (PRel.empty D z none 0))
      case lrow o st =>
        have h : ob o = some ⟨st, 2, z, xs⟩ := h
        obtain ⟨_, _, h3⟩ := hr
        have hrow := h3 _ h rfl
        have hd : DeadAt D (β o st) ⟨st, 2, z, xs⟩ := Own.deadAt (E := ⟨D, β, ob, ct⟩) hm h (Nat.le_refl _)
        exact Rel.of0 (Rel0.of_pure (DeadAt.row hd hrow))
  case lsl o st lo n =>
    rcases h with rfl | h
    · exact hr
    · cases a <;> try exact h.elim
      case lrow o' st' =>
        obtain ⟨rfl, rfl, rfl, h⟩ := h
        cases hb : ob o with
        | none => rw [hb] at h; exact h.elim
        | some b =>
          rw [hb] at h
          obtain ⟨h1, h2, h3⟩ := hr
          refine ⟨h1, h2, fun b' hb' hst => ?_⟩
          have hb' : ob o = some b' := hb'
          have hrow := h3 b' hb' hst
          rw [hb] at hb'
          cases hb'
          have h : n = b.xs.length := h
          subst h
          show SlAt (β o st) b 0 b.xs.length x
          replace hrow : RowAt (β o st) b x := hrow
          unfold RowAt at hrow
          unfold SlAt
          cases hq : β o st with
          | none =>
            rw [hq] at hrow
            obtain ⟨g1, g2⟩ := hrow
            exact ⟨rfl, by rw [g1]; rfl, g2⟩
          | some q =>
            rw [hq] at hrow
            obtain ⟨cap, g1, g2, g3⟩ := hrow
            exact ⟨some ⟨q.1, 0, none⟩, cap, g1, g3, by simpa using g2, .inr (by simp)⟩

theorem covS_get {sl : Slots} : ∀ {l : List (Nat × SV)}, covS sl ob l → ∀ t, leS ob (sl t) (mkS l t)
  | [], _, t => trivial
  | (d, v) :: r, h, t => by
    show leS ob (sl t) (match Nat.beq t d with | true => v | false => mkS r t)
    cases hb : Nat.beq t d with
    | true => rw [Nat.eq_of_beq_eq_true hb]; exact h.1
    | false => exact covS_get h.2 t
theorem covO_get : ∀ {l : List (Nat × Ob)}, covO ob l → ∀ o b, mkO l o = some b → ob o = some b
  | [], _, o, b, hb => by cases hb
  | (d, v) :: r, h, o, b, hb => by
    replace hb : (match Nat.beq o d with | true => some v | false => mkO r o) = some b := hb
    cases hd : Nat.beq o d with
    | true => rw [hd] at hb; rw [Nat.eq_of_beq_eq_true hd]; cases hb; exact h.1
    | false => rw [hd] at hb; exact covO_get h.2 o b hb

/-- **A state is at least what is written out of it.** -/
theorem weak_cov {sl : Slots} {l : List (Nat × SV)} {m : List (Nat × Ob)} (hs : covS sl ob l) (ho : covO ob m) : Weak G N sl ob ct (mkS l) (mkO m) ct := fun D0 F D β a w hsim => by
  obtain ⟨hm', hle⟩ := Mem.less hsim.mem (covO_get ho)
  exact ⟨D, β, hsim.le.trans hle, hm', hsim.size, hsim.defers, fun t => (leS_rel hsim.mem (covS_get hs t) (hsim.rel t)).mono hle⟩

/-- A row that is nil and has no memory yet, by a name. -/
theorem ghostRow (hm : Mem G ⟨D, β, ob, ct⟩ F w) (o z : Nat) :
    Mem G ⟨D, setβ β o (ct o) none, upd ob o (some ⟨ct o, 1, z, []⟩), upd ct o (ct o + 1)⟩ F w ∧ Env.le ⟨D, β, ob, ct⟩ ⟨D, setβ β o (ct o) none, upd ob o (some ⟨ct o, 1, z, []⟩), upd ct o (ct o + 1)⟩ ∧
      Rel0 ⟨D, setβ β o (ct o) none, upd ob o (some ⟨ct o, 1, z, []⟩), upd ct o (ct o + 1)⟩ (.lrow o (ct o)) (.slice none 0 0) := by
  have hno : ¬ ct o < ct o := Nat.lt_irrefl _
  have hput : Mem G ((⟨D, β, ob, ct⟩ : Env).put o ⟨ct o, 1, z, []⟩ none (ct o + 1)) F w := by
    refine Mem.put hm (Nat.le_succ _) (fun h => absurd h hno) rfl rfl rfl (fun k _ => .inl rfl) (fun q hq => by cases hq) ?_
    have hβ : ((⟨D, β, ob, ct⟩ : Env).put o ⟨ct o, 1, z, []⟩ none (ct o + 1)).β o (ct o) = none := setβ_same _ _ _ _
    refine ⟨?_, fun i e he => by simp at he, fun _ => ⟨rfl, by simp⟩, fun q hq => (by rw [show Ob.st ⟨ct o, 1, z, []⟩ = ct o from rfl, hβ] at hq; cases hq), fun _ q hq => (by rw [show Ob.st ⟨ct o, 1, z, []⟩ = ct o from rfl, hβ] at hq; cases hq), fun hk => absurd hk (by simp)⟩
    show ct o < upd ct o (ct o + 1) o
    rw [upd_same]; exact Nat.lt_succ_self _
  refine ⟨hput, Env.put_le (E := ⟨D, β, ob, ct⟩) (o := o) (b := ⟨ct o, 1, z, []⟩) (p := none) (n := ct o + 1) (Nat.le_succ _) (fun h => absurd h hno), ?_, rfl, fun b hb hst => ?_⟩
  · show ct o < upd ct o (ct o + 1) o
    rw [upd_same]; exact Nat.lt_succ_self _
  · replace hb : upd ob o (some ⟨ct o, 1, z, []⟩) o = some b := hb
    rw [upd_same] at hb
    cases hb
    show RowAt (setβ β o (ct o) none o (ct o)) _ _
    rw [setβ_same]
    exact ⟨rfl, rfl⟩

theorem weak_nil_slot {sl : Slots} (t o z : Nat) (h : sl t = .nils) : Weak G N sl ob ct (upd sl t (.lrow o (ct o))) (upd ob o (some ⟨ct o, 1, z, []⟩)) (upd ct o (ct o + 1)) := fun D0 F D β a w hsim => by
  obtain ⟨h1, h2, h3⟩ := ghostRow hsim.mem o z
  refine ⟨D, _, hsim.le.trans h2, h1, hsim.size, hsim.defers, fun t' => ?_⟩
  have hr := hsim.rel t'
  by_cases e : t' = t
  · subst e
    rw [h] at hr
    have hr : PRel D .nils _ := hr
    have hx : a.tmps.getD t' undef = .slice none 0 0 := by
      generalize a.tmps.getD t' undef = v at hr
      cases hr; rfl
    rw [upd_same, hx]
    exact Rel.of0 h3
  · rw [upd_other _ _ e]
    exact hr.mono h2

/-- A nil slice in a variable. -/
theorem weak_nil_box {sl : Slots} (b o z j : Nat) {st z0 : Nat} {e : List SV} (hb : ob b = some ⟨st, 0, z0, [e]⟩) (hj : e[j]? = some .nils) (hne : b ≠ o) :
    Weak G N sl ob ct sl (upd (upd ob o (some ⟨ct o, 1, z, []⟩)) b (some ⟨st, 0, z0, [e.set j (.lrow o (ct o))]⟩)) (upd ct o (ct o + 1)) := fun D0 F D β a w hsim => by
  obtain ⟨h1, h2, h3⟩ := ghostRow hsim.mem o z
  let E1 : Env := ⟨D, setβ β o (ct o) none, upd ob o (some ⟨ct o, 1, z, []⟩), upd ct o (ct o + 1)⟩
  have hb1 : E1.ob b = some ⟨st, 0, z0, [e]⟩ := (upd_other _ _ hne).trans hb
  have ho := h1.own b _ hb1
  have hjl : j < e.length := (List.getElem?_eq_some_iff.1 hj).1
  have hput : Mem G (E1.put b ⟨st, 0, z0, [e.set j (.lrow o (ct o))]⟩ (E1.β b st) (E1.ct b)) F w := by
    have hst : st < E1.ct b := ho.st
    have hle : Env.le E1 (E1.put b ⟨st, 0, z0, [e.set j (.lrow o (ct o))]⟩ (E1.β b st) (E1.ct b)) := Env.put_le (Nat.le_refl _) (fun _ => ⟨⟨_, hb1, rfl, rfl, rfl⟩, rfl⟩)
    refine Mem.put h1 (Nat.le_refl _) (fun _ => ⟨⟨_, hb1, rfl, rfl, rfl⟩, rfl⟩) rfl rfl rfl (fun k _ => .inl rfl) (fun q hq => ?_) ?_
    · obtain ⟨g1, g2, _⟩ := ho.live (by simp) q hq
      refine ⟨g1, g2, fun o' b' x hno hb' hk' hx he => hno (h1.inj o' b b' _ x q hb' hb1 hk' (by simp) hx hq he)⟩
    · have hβ : (E1.put b ⟨st, 0, z0, [e.set j (.lrow o (ct o))]⟩ (E1.β b st) (E1.ct b)).β b st = E1.β b st := setβ_same _ _ _ _
      have hct : (E1.put b ⟨st, 0, z0, [e.set j (.lrow o (ct o))]⟩ (E1.β b st) (E1.ct b)).ct b = E1.ct b := upd_same _ _ _
      refine ⟨by rw [hct]; exact hst, fun i e' he' => ?_, fun hn => ?_, fun q hq => ?_, fun hk q hq => ?_, fun hk => absurd hk (by simp)⟩
      · cases i with
        | zero => simp at he'; subst he'; simpa using ho.len 0 e rfl
        | succ i => simp at he'
      · exact absurd rfl (ho.nil (hβ ▸ hn)).2
      · exact ho.fits q (hβ ▸ hq)
      · obtain ⟨g1, g2, c, ty, g3, g4, g5⟩ := ho.live (by simp) q (hβ ▸ hq)
        refine ⟨g1, g2, c, ty, g3, g4, fun i k e' s hi hk => ?_⟩
        cases i with
        | succ i => simp at hi
        | zero =>
          simp at hi
          subst hi
          by_cases hkj : j = k
          · subst hkj
            rw [List.getElem?_set_self hjl] at hk
            cases hk
            obtain ⟨v, f1, f2, _⟩ := g5 0 j e .nils rfl hj
            have f2 : PRel E1.D .nils v := f2
            have hv : v = .slice none 0 0 := by cases f2; rfl
            subst hv
            exact ⟨_, f1, h3.mono hle, fun h => by cases h⟩
          · rw [List.getElem?_set_ne hkj] at hk
            obtain ⟨v, f1, f2, _⟩ := g5 0 k e s rfl hk
            exact ⟨v, f1, f2.mono hle, fun h => by cases h⟩
  have hle2 : Env.le E1 (E1.put b ⟨st, 0, z0, [e.set j (.lrow o (ct o))]⟩ (E1.β b st) (E1.ct b)) := Env.put_le (Nat.le_refl _) (fun _ => ⟨⟨_, hb1, rfl, rfl, rfl⟩, rfl⟩)
  have ect : (E1.put b ⟨st, 0, z0, [e.set j (.lrow o (ct o))]⟩ (E1.β b st) (E1.ct b)).ct = E1.ct := upd_self _ _
  refine ⟨D, (E1.put b ⟨st, 0, z0, [e.set j (.lrow o (ct o))]⟩ (E1.β b st) (E1.ct b)).β, ?_⟩
  have eE : (⟨D, (E1.put b ⟨st, 0, z0, [e.set j (.lrow o (ct o))]⟩ (E1.β b st) (E1.ct b)).β, upd (upd ob o (some ⟨ct o, 1, z, []⟩)) b (some ⟨st, 0, z0, [e.set j (.lrow o (ct o))]⟩), upd ct o (ct o + 1)⟩ : Env) = E1.put b ⟨st, 0, z0, [e.set j (.lrow o (ct o))]⟩ (E1.β b st) (E1.ct b) := by
    show _ = (⟨D, _, _, (E1.put b ⟨st, 0, z0, [e.set j (.lrow o (ct o))]⟩ (E1.β b st) (E1.ct b)).ct⟩ : Env)
    rw [ect]
    rfl
  rw [eE]
  exact ⟨hsim.le.trans (h2.trans hle2), hput, hsim.size, hsim.defers, fun t => (hsim.rel t).mono (h2.trans hle2)⟩
end
end Go.Proofs.Yticandbdabgkeaa.Am
