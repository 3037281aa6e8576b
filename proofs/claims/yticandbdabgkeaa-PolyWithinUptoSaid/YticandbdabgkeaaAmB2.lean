/- Changing memory: one object put, one object frozen, values made pure. No condition: lemmas. -/
import Derived.Test.YticandbdabgkeaaAmB1
import Derived.Laws.CopyRow
namespace Go.Proofs.Yticandbdabgkeaa.Am
open Go

theorem upd_same {α : Type} (f : Nat → α) (d : Nat) (v : α) : upd f d v d = v := by
  show (match Nat.beq d d with | true => v | false => f d) = v
  rw [show Nat.beq d d = true from Nat.beq_refl d]
theorem upd_other {α : Type} (f : Nat → α) {d t : Nat} (v : α) (h : t ≠ d) : upd f d v t = f t := by
  show (match Nat.beq t d with | true => v | false => f t) = f t
  rw [show Nat.beq t d = false from by cases hb : Nat.beq t d with | false => rfl | true => exact absurd (Nat.eq_of_beq_eq_true hb) h]
theorem upd_self {α : Type} (f : Nat → α) (d : Nat) : upd f d (f d) = f := by
  funext t
  by_cases h : t = d
  · subst h; exact upd_same f t (f t)
  · exact upd_other f (f d) h
theorem upd_comm {α : Type} (f : Nat → α) {d e : Nat} (h : d ≠ e) (u v : α) : upd (upd f d u) e v = upd (upd f e v) d u := by
  funext t
  by_cases h1 : t = d
  · subst h1; rw [upd_other _ _ h, upd_same, upd_same]
  · by_cases h2 : t = e
    · subst h2; rw [upd_same, upd_other _ _ h1, upd_same]
    · rw [upd_other _ _ h2, upd_other _ _ h1, upd_other _ _ h1, upd_other _ _ h2]

theorem addO_append (ob : Tab) (us ws : List Upd) : addO ob (us ++ ws) = addO (addO ob us) ws := by
  induction us generalizing ob with
  | nil => rfl
  | cons u r ih => exact ih _
theorem addC_append (ct : Cnt) (us ws : List Upd) : addC ct (us ++ ws) = addC (addC ct us) ws := by
  induction us generalizing ct with
  | nil => rfl
  | cons u r ih => exact ih _

/-- The place of an object, laid anew. -/
def setβ (β : Nat → Nat → Option (Nat × Nat)) (o st : Nat) (p : Option (Nat × Nat)) : Nat → Nat → Option (Nat × Nat) :=
  fun o' st' => if o' = o ∧ st' = st then p else β o' st'
theorem setβ_same (β : Nat → Nat → Option (Nat × Nat)) (o st : Nat) (p : Option (Nat × Nat)) : setβ β o st p o st = p := by simp [setβ]
theorem setβ_other (β : Nat → Nat → Option (Nat × Nat)) {o st o' st' : Nat} (p : Option (Nat × Nat)) (h : o' ≠ o ∨ st' ≠ st) : setβ β o st p o' st' = β o' st' := by
  unfold setβ
  rw [if_neg (by rintro ⟨rfl, rfl⟩; exact h.elim (fun e => e rfl) (fun e => e rfl))]

/-- The environment in which object o is b, at place p. -/
def Env.put (E : Env) (o : Nat) (b : Ob) (p : Option (Nat × Nat)) (n : Nat) : Env := ⟨E.D, setβ E.β o b.st p, upd E.ob o (some b), upd E.ct o n⟩

theorem Env.put_le {E : Env} {o : Nat} {b : Ob} {p : Option (Nat × Nat)} {n : Nat} (hn : E.ct o ≤ n)
    (hst : b.st < E.ct o → (∃ b0, E.ob o = some b0 ∧ b0.st = b.st ∧ b0.z = b.z ∧ b0.xs.length = b.xs.length) ∧ E.β o b.st = p) : Env.le E (E.put o b p n) := by
  refine ⟨Rom.le.refl _, fun o' => ?_, fun o' b' hb' hlt => ?_⟩
  · show E.ct o' ≤ upd E.ct o n o'
    by_cases h : o' = o
    · subst h; rw [upd_same]; exact hn
    · rw [upd_other _ _ h]; exact Nat.le_refl _
  · replace hb' : upd E.ob o (some b) o' = some b' := hb'
    show _ ∧ setβ E.β o b.st p o' b'.st = _
    by_cases h : o' = o
    · subst h
      rw [upd_same] at hb'
      cases hb'
      obtain ⟨h1, h2⟩ := hst hlt
      exact ⟨h1, by rw [setβ_same, h2]⟩
    · rw [upd_other _ _ h] at hb'
      exact ⟨⟨b', hb', rfl, rfl, rfl⟩, setβ_other _ _ (.inl h)⟩

/-- One object put: memory. -/
theorem Mem.put {G : Nat → List SV} {E : Env} {F : Nat → Option Obj} {w w' : World} (hm : Mem G E F w) {o : Nat} {b : Ob} {p : Option (Nat × Nat)} {n : Nat} (hn : E.ct o ≤ n)
    (hst : b.st < E.ct o → (∃ b0, E.ob o = some b0 ∧ b0.st = b.st ∧ b0.z = b.z ∧ b0.xs.length = b.xs.length) ∧ E.β o b.st = p)
    (hos : w'.os = w.os) (htape : w'.tape = w.tape) (hout : (w'.output, w'.drawn) = (w.output, w.drawn))
    (hheap : ∀ k, (∀ q, p = some q → k ≠ q.1) → w'.heap[k]? = w.heap[k]? ∨ (w.heap[k]? = none))
    (hfree : ∀ q, p = some q → E.D.heap q.1 = none ∧ F q.1 = none ∧ ∀ o' b' x, o' ≠ o → E.ob o' = some b' → b'.kind < 2 → E.β o' b'.st = some x → x.1 ≠ q.1)
    (hown : Own (E.put o b p n) F w' o b) : Mem G (E.put o b p n) F w' := by
  have hle := Env.put_le (p := p) hn hst
  have keep : ∀ k x, w.heap[k]? = some x → (∀ q, p = some q → k ≠ q.1) → w'.heap[k]? = some x := fun k x hx hne => by
    rcases hheap k hne with h | h
    · rw [h]; exact hx
    · rw [h] at hx; cases hx
  refine ⟨hos.trans hm.os, htape.trans hm.tape, (congrArg Prod.fst hout).trans hm.output, by have h5 : w'.drawn = w.drawn := congrArg Prod.snd hout; rw [h5]; exact hm.dr, fun k x hx => ?_, fun k x hx => ?_, hm.apart, hm.glob, fun o' b' hb' => ?_, ?_⟩
  · exact keep k x (hm.rom k x hx) fun q hq he => by have := (hfree q hq).1; rw [← he] at this; rw [show E.D.heap k = some x from hx] at this; cases this
  · exact keep k x (hm.frm k x hx) fun q hq he => by have := (hfree q hq).2.1; rw [← he, hx] at this; cases this
  · replace hb' : upd E.ob o (some b) o' = some b' := hb'
    by_cases h : o' = o
    · subst h
      rw [upd_same] at hb'
      cases hb'
      exact hown
    · rw [upd_other _ _ h] at hb'
      have ho := hm.own o' b' hb'
      have hβ : (E.put o b p n).β o' b'.st = E.β o' b'.st := setβ_other _ _ (.inl h)
      refine ⟨Nat.lt_of_lt_of_le ho.st (hle.ct o'), ho.len, fun hn => ho.nil (by rw [← hβ]; exact hn), fun q hq => ho.fits q (by rw [← hβ]; exact hq), fun hk q hq => ?_, fun hk q hq => ho.dead hk q (by rw [← hβ]; exact hq)⟩
      rw [hβ] at hq
      obtain ⟨h1, h2, c, ty, h3, h4, h5⟩ := ho.live hk q hq
      refine ⟨h1, h2, c, ty, keep _ _ h3 fun q' hq' he => (hfree q' hq').2.2 o' b' q h hb' hk hq he, h4, fun i j e s hi hj => ?_⟩
      obtain ⟨v, g1, g2, g3⟩ := h5 i j e s hi hj
      exact ⟨v, g1, g2.mono hle, g3⟩
  · intro o1 o2 b1 b2 x y h1 h2 k1 k2 e1 e2 hxy
    replace h1 : upd E.ob o (some b) o1 = some b1 := h1
    replace h2 : upd E.ob o (some b) o2 = some b2 := h2
    replace e1 : setβ E.β o b.st p o1 b1.st = some x := e1
    replace e2 : setβ E.β o b.st p o2 b2.st = some y := e2
    by_cases a1 : o1 = o
    · by_cases a2 : o2 = o
      · rw [a1, a2]
      · subst a1
        rw [upd_same] at h1
        cases h1
        rw [setβ_same] at e1
        rw [upd_other _ _ a2] at h2
        rw [setβ_other _ _ (.inl a2)] at e2
        exact absurd hxy.symm ((hfree x e1).2.2 o2 b2 y a2 h2 k2 e2)
    · rw [upd_other _ _ a1] at h1
      rw [setβ_other _ _ (.inl a1)] at e1
      by_cases a2 : o2 = o
      · subst a2
        rw [upd_same] at h2
        cases h2
        rw [setβ_same] at e2
        exact absurd hxy ((hfree y e2).2.2 o1 b1 x a1 h1 k1 e1)
      · rw [upd_other _ _ a2] at h2
        rw [setβ_other _ _ (.inl a2)] at e2
        exact hm.inj o1 o2 b1 b2 x y h1 h2 k1 k2 e1 e2 hxy

/-! ### Freezing -/
def Rom.add (D : Rom) (w : World) (blk : Nat) : Rom := { D with heap := fun k => if k = blk then w.heap[k]? else D.heap k }

theorem Rom.add_le {D : Rom} {w : World} {blk : Nat} (h : D.heap blk = none) : Rom.le D (D.add w blk) :=
  ⟨rfl, rfl, rfl, rfl, fun b o hb => by
    show (if b = blk then w.heap[b]? else D.heap b) = some o
    by_cases e : b = blk
    · subst e; rw [h] at hb; cases hb
    · rw [if_neg e]; exact hb⟩

/-- From E0 to E some objects were frozen, and nothing else. -/
structure Frz (E0 E : Env) : Prop where
  le : Env.le E0 E
  β : E.β = E0.β
  ct : E.ct = E0.ct
  ob : ∀ o, E.ob o = E0.ob o ∨ ∃ b, E0.ob o = some b ∧ E.ob o = some { b with kind := 2 }

theorem Frz.refl (E : Env) : Frz E E := ⟨Env.le.refl E, rfl, rfl, fun _ => .inl rfl⟩

theorem Frz.trans {A B C : Env} (h : Frz A B) (k : Frz B C) : Frz A C := by
  refine ⟨h.le.trans k.le, k.β.trans h.β, k.ct.trans h.ct, fun o => ?_⟩
  rcases k.ob o with e | ⟨b, e1, e2⟩
  · rcases h.ob o with f | ⟨a, f1, f2⟩
    · exact .inl (e.trans f)
    · exact .inr ⟨a, f1, e.trans f2⟩
  · rcases h.ob o with f | ⟨a, f1, f2⟩
    · exact .inr ⟨b, f ▸ e1, e2⟩
    · rw [f2] at e1; cases e1; exact .inr ⟨a, f1, e2⟩

/-- An object whose cells are pure can be frozen. -/
theorem freeze {G : Nat → List SV} {E : Env} {F : Nat → Option Obj} {w : World} (hm : Mem G E F w) {o : Nat} {b : Ob} (hb : E.ob o = some b)
    (hp : b.kind < 2 → ∀ q, E.β o b.st = some q → ∀ c ty, w.heap[q.1]? = some (.cells c ty (0, 0)) → ∀ (i j : Nat) (e : List SV) (s : SV) (v : Value), b.xs[i]? = some e → e[j]? = some s → c[i * b.z + j]? = some v → Rel0 E s v → PRel E.D s v)
    (hk0 : E.β o b.st = none → b.kind ≠ 0) :
    ∃ D', Mem G ⟨D', E.β, upd E.ob o (some { b with kind := 2 }), E.ct⟩ F w ∧ Frz E ⟨D', E.β, upd E.ob o (some { b with kind := 2 }), E.ct⟩ ∧
      ∀ q, E.β o b.st = some q → ∀ (i j : Nat) (e : List SV) (s : SV), b.xs[i]? = some e → e[j]? = some s → ∃ v, D'.cell q.1 (i * b.z + j) = some v ∧ PRel D' s v := by
  have ho := hm.own o b hb
  -- the environment's part
  have frz : ∀ D', Rom.le E.D D' → Frz E ⟨D', E.β, upd E.ob o (some { b with kind := 2 }), E.ct⟩ := fun D' hD => by
    refine ⟨⟨hD, fun _ => Nat.le_refl _, fun o' b' hb' _ => ?_⟩, rfl, rfl, fun o' => ?_⟩
    · replace hb' : upd E.ob o (some { b with kind := 2 }) o' = some b' := hb'
      by_cases h : o' = o
      · subst h; rw [upd_same] at hb'; cases hb'; exact ⟨⟨b, hb, rfl, rfl, rfl⟩, rfl⟩
      · rw [upd_other _ _ h] at hb'; exact ⟨⟨b', hb', rfl, rfl, rfl⟩, rfl⟩
    · by_cases h : o' = o
      · subst h; exact .inr ⟨b, hb, upd_same _ _ _⟩
      · exact .inl (upd_other _ _ h)
  -- memory's part, once D' is known
  have build : ∀ D', Rom.le E.D D' → (∀ k x, D'.heap k = some x → w.heap[k]? = some x) → (∀ k x, F k = some x → D'.heap k = none) →
      (∀ o' b' q, o' ≠ o → E.ob o' = some b' → b'.kind < 2 → E.β o' b'.st = some q → D'.heap q.1 = none) →
      (∀ q, E.β o b.st = some q → ∀ (i j : Nat) (e : List SV) (s : SV), b.xs[i]? = some e → e[j]? = some s → ∃ v, D'.cell q.1 (i * b.z + j) = some v ∧ PRel D' s v) →
      Mem G ⟨D', E.β, upd E.ob o (some { b with kind := 2 }), E.ct⟩ F w := fun D' hD hrom hap hoth hcell => by
    have hle := (frz D' hD).le
    refine ⟨hm.os.trans hD.os.symm, hm.tape.trans hD.tape.symm, hm.output.trans hD.output.symm, by show D'.dr ≤ _; rw [hD.dr]; exact hm.dr, hrom, hm.frm, hap, fun g => (hm.glob g).mono hD, fun o' b' hb' => ?_, ?_⟩
    · replace hb' : upd E.ob o (some { b with kind := 2 }) o' = some b' := hb'
      by_cases h : o' = o
      · subst h
        rw [upd_same] at hb'
        cases hb'
        exact ⟨ho.st, ho.len, fun hn => ⟨(ho.nil hn).1, by simp⟩, ho.fits, fun hk => absurd hk (by simp), fun _ => hcell⟩
      · rw [upd_other _ _ h] at hb'
        have ho' := hm.own o' b' hb'
        refine ⟨ho'.st, ho'.len, ho'.nil, ho'.fits, fun hk q hq => ?_, fun hk q hq i j e s hi hj => ?_⟩
        · obtain ⟨h1, h2, c, ty, h3, h4, h5⟩ := ho'.live hk q hq
          refine ⟨hoth o' b' q h hb' hk hq, h2, c, ty, h3, h4, fun i j e s hi hj => ?_⟩
          obtain ⟨v, g1, g2, g3⟩ := h5 i j e s hi hj
          exact ⟨v, g1, g2.mono hle, fun k => (g3 k).mono hD⟩
        · obtain ⟨v, g1, g2⟩ := ho'.dead hk q hq i j e s hi hj
          exact ⟨v, hD.cell g1, g2.mono hD⟩
    · intro o1 o2 b1 b2 x y h1 h2 k1 k2 e1 e2 hxy
      replace h1 : upd E.ob o (some { b with kind := 2 }) o1 = some b1 := h1
      replace h2 : upd E.ob o (some { b with kind := 2 }) o2 = some b2 := h2
      by_cases a1 : o1 = o
      · subst a1; rw [upd_same] at h1; cases h1; exact absurd k1 (by simp)
      · by_cases a2 : o2 = o
        · subst a2; rw [upd_same] at h2; cases h2; exact absurd k2 (by simp)
        · rw [upd_other _ _ a1] at h1
          rw [upd_other _ _ a2] at h2
          exact hm.inj o1 o2 b1 b2 x y h1 h2 k1 k2 e1 e2 hxy
  rcases Nat.lt_or_ge b.kind 2 with hk | hk
  · cases hβ : E.β o b.st with
    | none =>
      have hx := (ho.nil hβ).1
      refine ⟨E.D, build E.D (Rom.le.refl _) hm.rom hm.apart (fun o' b' q _ h1 h2 h3 => ((hm.own o' b' h1).live h2 q h3).1) (fun q hq => by rw [hβ] at hq; cases hq), frz E.D (Rom.le.refl _), fun q hq => by cases hq⟩
    | some q =>
      obtain ⟨h1, h2, c, ty, h3, h4, h5⟩ := ho.live hk q hβ
      have hD := Rom.add_le (w := w) h1
      have hcell : ∀ q', some q = some q' → ∀ (i j : Nat) (e : List SV) (s : SV), b.xs[i]? = some e → e[j]? = some s → ∃ v, (E.D.add w q.1).cell q'.1 (i * b.z + j) = some v ∧ PRel (E.D.add w q.1) s v := fun q' hq' i j e s hi hj => by
        cases hq'
        obtain ⟨v, g1, g2, _⟩ := h5 i j e s hi hj
        refine ⟨v, ?_, (hp hk q hβ c ty h3 i j e s v hi hj g1 g2).mono hD⟩
        show (match (if q.1 = q.1 then w.heap[q.1]? else E.D.heap q.1) with | some (.cells c _ _) => c[i * b.z + j]? | _ => none) = some v
        rw [if_pos rfl, h3]
        exact g1
      refine ⟨E.D.add w q.1, build _ hD (fun k x hx => ?_) (fun k x hx => ?_) (fun o' b' q' hne hb' hk' hq' => ?_) (fun q' hq' => hcell q' (by rw [← hβ]; exact hq')), frz _ hD, fun q' hq' => hcell q' hq'⟩
      · replace hx : (if k = q.1 then w.heap[k]? else E.D.heap k) = some x := hx
        by_cases e : k = q.1
        · rw [if_pos e] at hx; exact hx
        · rw [if_neg e] at hx; exact hm.rom k x hx
      · show (if k = q.1 then w.heap[k]? else E.D.heap k) = none
        by_cases e : k = q.1
        · rw [e, h2] at hx; cases hx
        · rw [if_neg e]; exact hm.apart k x hx
      · show (if q'.1 = q.1 then w.heap[q'.1]? else E.D.heap q'.1) = none
        by_cases e : q'.1 = q.1
        · exact absurd (hm.inj o' o b' b q' q hb' hb hk' hk hq' hβ e) hne
        · rw [if_neg e]; exact ((hm.own o' b' hb').live hk' q' hq').1
  · refine ⟨E.D, build E.D (Rom.le.refl _) hm.rom hm.apart (fun o' b' q _ h1 h2 h3 => ((hm.own o' b' h1).live h2 q h3).1) (fun q hq => ho.dead hk q hq), frz E.D (Rom.le.refl _), fun q hq => ho.dead hk q hq⟩
end Go.Proofs.Yticandbdabgkeaa.Am
