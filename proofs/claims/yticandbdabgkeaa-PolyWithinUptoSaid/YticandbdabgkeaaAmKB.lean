/- Memory that is read for the time of a call: rows and variables of the call's own. No condition: definitions and lemmas. -/
import Derived.Test.YticandbdabgkeaaAmK2
namespace Go.Proofs.Yticandbdabgkeaa.Am
open Go

section
variable {P : Program} {G : Nat → List SV} {F : Nat → Option Obj} {E : Env} {w w' : World} {g : Operand → SV}

/-- Objects that hold nothing but pure cells. -/
def Still (E : Env) (o : Nat) : Prop := ∃ b, E.ob o = some b ∧ (b.kind = 1 ∨ (b.kind = 0 ∧ ∃ e, b.xs = [e] ∧ allB pureB e = true))

open Classical in
/-- The memory that does not change, with those objects. -/
noncomputable def borD (E : Env) (w : World) : Rom := { E.D with heap := fun k =>
  if (∃ o b q, Still E o ∧ E.ob o = some b ∧ b.kind < 2 ∧ E.β o b.st = some q ∧ q.1 = k) then w.heap[k]? else E.D.heap k }

theorem borD_in {o : Nat} {b : Ob} {q : Nat × Nat} (hs : Still E o) (hb : E.ob o = some b) (hk : b.kind < 2) (hq : E.β o b.st = some q) : (borD E w).heap q.1 = w.heap[q.1]? := by
  unfold borD
  simp only
  rw [if_pos ⟨o, b, q, hs, hb, hk, hq, rfl⟩]

theorem borD_le (hm : Mem G E F w) : Rom.le E.D (borD E w) := by
  refine ⟨rfl, rfl, rfl, rfl, fun k x h => ?_⟩
  unfold borD
  simp only
  split
  · exact hm.rom k x h
  · exact h

theorem borD_spec (hm : Mem G E F w) {k : Nat} {x : Obj} (h : (borD E w).heap k = some x) : w.heap[k]? = some x := by
  unfold borD at h
  simp only at h
  split at h
  · exact h
  · exact hm.rom k x h

/-- What is framed is one or the other. -/
theorem lend_or {k : Nat} {x : Obj} (h : lendF E F w (fun _ => False) k = some x) : (borD E w).heap k = some x ∨ lendF E F w (Still E) k = some x := by
  unfold lendF at h
  split at h
  · rename_i hh
    obtain ⟨o, b, q, _, hb, hk, hq, rfl⟩ := hh
    by_cases hs : Still E o
    · left
      rw [borD_in hs hb hk hq]
      exact h
    · right
      unfold lendF
      rw [if_pos ⟨o, b, q, hs, hb, hk, hq, rfl⟩]
      exact h
  · rename_i hno
    right
    unfold lendF
    rw [if_neg]
    · exact h
    · rintro ⟨o, b, q, _, hb, hk, hq, e⟩
      exact hno ⟨o, b, q, id, hb, hk, hq, e⟩

theorem Mem.borrow (hm : Mem G E F w) : Mem G (Env.bare (borD E w)) (lendF E F w (Still E)) w := by
  refine ⟨hm.os, hm.tape, hm.output, hm.dr, fun k x h => borD_spec hm h, fun k x h => (lendF_spec hm h).1, fun k x h => ?_, fun g => (hm.glob g).mono (borD_le hm), fun o b hb => (by cases hb), fun o o' b b' x y hb => (by cases hb)⟩
  show (borD E w).heap k = none
  unfold borD
  simp only
  split
  · rename_i hh
    exfalso
    obtain ⟨o, b, q, hs, hb, hk, hq, rfl⟩ := hh
    unfold lendF at h
    split at h
    · rename_i hh
      obtain ⟨o2, b2, q2, hns, hb2, hk2, hq2, e⟩ := hh
      have := hm.inj o2 o b2 b q2 q hb2 hb hk2 hk hq2 hq e
      subst this
      exact hns hs
    · obtain ⟨_, h2, _⟩ := (hm.own o b hb).live hk q hq
      rw [h2] at h
      cases h
  · exact (lendF_spec hm h).2

theorem single_of {xs : List (List SV)} {k : List SV → Prop} (h : match xs with | [e] => k e | _ => False) : ∃ e, xs = [e] ∧ k e := by
  match xs, h with
  | [e], h => exact ⟨e, rfl, h⟩

theorem bor1K_sound (hm : Mem G E F w) {v : SV} {x : Value} {k : SV → Prop} (h : bor1K E.ob v k) (hr : Rel0 E v x) : ∃ s, k s ∧ PRel (borD E w) s x := by
  have hle := borD_le hm
  have cell : ∀ {o : Nat} {b : Ob} {q : Nat × Nat} (hb : E.ob o = some b) (hs : b.kind < 2 → Still E o) (hk : b.kind ≠ 0 ∨ Still E o) (hq : E.β o b.st = some q) (i j : Nat) (e : List SV) (s : SV), b.xs[i]? = some e → e[j]? = some s → pureB s = true ∨ b.kind ≠ 0 →
      ∃ u, (borD E w).cell q.1 (i * b.z + j) = some u ∧ PRel (borD E w) s u := fun {o b q} hb hs hk hq i j e s hi hj hp => by
    rcases Nat.lt_or_ge b.kind 2 with hk2 | hk2
    · obtain ⟨_, _, c, ty, h3, _, h5⟩ := (hm.own o b hb).live hk2 q hq
      obtain ⟨u, g1, g2, g3⟩ := h5 i j e s hi hj
      refine ⟨u, ?_, ?_⟩
      · unfold Rom.cell
        rw [borD_in (hs hk2) hb hk2 hq, h3]
        exact g1
      · rcases hp with hp | hp
        · exact (g2.pure hp).mono hle
        · exact (g3 (by omega)).mono hle
    · obtain ⟨u, g1, g2⟩ := (hm.own o b hb).dead hk2 q hq i j e s hi hj
      exact ⟨u, hle.cell g1, g2.mono hle⟩
  cases v with
  | lrow o st =>
    simp only [bor1K] at h
    cases hb : E.ob o with
    | none => rw [hb] at h; exact h.elim
    | some b =>
      obtain ⟨st', kd, z, xs⟩ := b
      rw [hb] at h
      obtain ⟨rfl, h⟩ := h
      match kd, h, hb with
      | kd + 1, h, hb =>
        refine ⟨_, h, ?_⟩
        have hrow : RowAt (E.β o st) ⟨st, kd + 1, z, xs⟩ x := hr.2.2 _ hb rfl
        have hs : (⟨st, kd + 1, z, xs⟩ : Ob).kind < 2 → Still E o := fun hk => ⟨_, hb, .inl (by simp at hk ⊢; omega)⟩
        unfold RowAt at hrow
        cases hq : E.β o st with
        | none =>
          rw [hq] at hrow
          obtain ⟨hx, rfl⟩ := hrow
          replace hx : xs = [] := hx
          subst hx
          exact PRel.empty _ z none 0
        | some q =>
          rw [hq] at hrow
          obtain ⟨cap, rfl, _, hc⟩ := hrow
          exact PRel.ofCells (A := some ⟨q.1, 0, none⟩) (blk := q.1) (off := 0) hc (hm.own o _ hb).len (.inr rfl) (fun i j e s hi hj => by
            rw [Nat.zero_add]
            exact cell hb hs (.inl (by simp)) hq i j e s hi hj (.inr (by simp)))
  | lsl o st lo n =>
    simp only [bor1K] at h
    cases hb : E.ob o with
    | none => rw [hb] at h; exact h.elim
    | some b =>
      obtain ⟨st', kd, z, xs⟩ := b
      rw [hb] at h
      obtain ⟨rfl, hfit, h⟩ := h
      match kd, h, hb with
      | kd + 1, h, hb =>
        refine ⟨_, h, ?_⟩
        have hrow : SlAt (E.β o st) ⟨st, kd + 1, z, xs⟩ lo n x := hr.2.2 _ hb rfl
        have hs : (⟨st, kd + 1, z, xs⟩ : Ob).kind < 2 → Still E o := fun hk => ⟨_, hb, .inl (by simp at hk ⊢; omega)⟩
        have hdl : ((xs.drop lo).take n).length = n := by simp; omega
        have hget : ∀ (i : Nat) (e : List SV), ((xs.drop lo).take n)[i]? = some e → xs[lo + i]? = some e := fun i e hi => by
          rw [List.getElem?_take] at hi
          split at hi
          · rw [List.getElem?_drop] at hi; exact hi
          · cases hi
        unfold SlAt at hrow
        cases hq : E.β o st with
        | none =>
          rw [hq] at hrow
          obtain ⟨rfl, rfl, rfl⟩ := hrow
          rw [List.take_zero]
          exact PRel.empty _ z none 0
        | some q =>
          rw [hq] at hrow
          obtain ⟨A, cap, rfl, hc, _, hA⟩ := hrow
          have := PRel.ofCells (D := borD E w) (z := z) (xs := (xs.drop lo).take n) (A := A) (cap := cap) (blk := q.1) (off := lo * z) (by rw [hdl]; exact hc) (fun i e hi => (hm.own o _ hb).len _ e (hget i e hi)) (by
            rcases hA with ⟨h0, _⟩ | hA
            · left; rw [h0, List.take_zero]
            · exact .inr hA) (fun i j e s hi hj => by
            obtain ⟨u, g1, g2⟩ := cell hb hs (.inl (by simp)) hq (lo + i) j e s (hget i e hi) hj (.inr (by simp))
            refine ⟨u, ?_, g2⟩
            rw [← g1]
            show (borD E w).cell q.1 (lo * z + (i * z + j)) = (borD E w).cell q.1 ((lo + i) * z + j)
            rw [Nat.add_mul, Nat.add_assoc])
          rw [hdl] at this
          exact this
  | lptr o st i j =>
    simp only [bor1K] at h
    cases hb : E.ob o with
    | none => rw [hb] at h; exact h.elim
    | some b =>
      obtain ⟨st', kd, z, xs⟩ := b
      rw [hb] at h
      obtain ⟨rfl, h⟩ := h
      obtain ⟨q, hq, rfl⟩ := hr.2.2 _ hb rfl
      match kd, h, hb with
      | 0, h, hb =>
        obtain ⟨hi0, h2⟩ := h
        subst hi0
        obtain ⟨e, rfl, h3⟩ := single_of (k := fun e => ifB (allB pureB e) (k (.ptr (e.drop j))) False) h2
        obtain ⟨hp, h4⟩ := ifB_true h3
        refine ⟨_, h4, PRel.ofPtr fun k s hk => ?_⟩
        rw [List.getElem?_drop] at hk
        obtain ⟨u, g1, g2⟩ := cell hb (fun _ => ⟨_, hb, .inr ⟨rfl, e, rfl, hp⟩⟩) (.inr ⟨_, hb, .inr ⟨rfl, e, rfl, hp⟩⟩) hq 0 (j + k) e s rfl hk (.inl (allB_spec hp s (List.mem_of_getElem? hk)))
        exact ⟨u, by rw [← g1]; congr 1; omega, g2⟩
      | kd + 1, h, hb =>
        obtain ⟨e, he, h⟩ := h
        refine ⟨_, h, PRel.ofPtr fun k s hk => ?_⟩
        rw [List.getElem?_drop] at hk
        obtain ⟨u, g1, g2⟩ := cell hb (fun hk => ⟨_, hb, .inl (by simp at hk ⊢; omega)⟩) (.inl (by simp)) hq i (j + k) e s he hk (.inr (by simp))
        exact ⟨u, by rw [← g1]; congr 1; omega, g2⟩
  | agg _ => exact h.elim
  | tup _ => exact h.elim
  | junk => exact h.elim
  | undef => exact h.elim
  | _ => exact ⟨_, h, (hr.pure rfl).mono hle⟩

theorem borLK_sound (hm : Mem G E F w) : ∀ {cs : List SV} {vs : List Value} {k : List SV → Prop}, borLK E.ob cs k → vs.length = cs.length → (∀ (i : Nat) (s : SV) (v : Value), cs[i]? = some s → vs[i]? = some v → Rel0 E s v) →
    ∃ ps, k ps ∧ ps.length = cs.length ∧ ∀ (i : Nat) (s : SV) (v : Value), ps[i]? = some s → vs[i]? = some v → PRel (borD E w) s v
  | [], _, k, h, _, _ => ⟨[], h, rfl, fun i s v hi => by simp at hi⟩
  | c :: r, [], k, h, hl, _ => by simp at hl
  | c :: r, v :: vs, k, h, hl, hr => by
    obtain ⟨s, h1, h2⟩ := bor1K_sound hm h (hr 0 c v rfl rfl)
    obtain ⟨ps, g1, g2, g3⟩ := borLK_sound hm h1 (vs := vs) (by simpa using hl) (fun i s v a b => hr (i + 1) s v (by simpa using a) (by simpa using b))
    refine ⟨s :: ps, g1, by simp [g2], fun i t u ht hu => ?_⟩
    cases i with
    | zero => simp at ht hu; subst ht; subst hu; exact h2
    | succ i => exact g3 i t u (by simpa using ht) (by simpa using hu)

theorem borAK_sound (hm : Mem G E F w) {v : SV} {x : Value} {k : SV → Prop} (h : borAK E.ob v k) (hr : RelA E v x) : ∃ s, k s ∧ PRelA (borD E w) s x := by
  rcases hr.split with hr | ⟨cs, rfl, vs, h1, h2, h3⟩
  · have h' : bor1K E.ob v k := by cases v <;> first | exact h | exact hr.elim
    obtain ⟨s, g1, g2⟩ := bor1K_sound hm h' hr
    exact ⟨s, g1, PRelA.of1 g2⟩
  · obtain ⟨ps, g1, g2, g3⟩ := borLK_sound hm (show borLK E.ob cs _ from h) h2 h3
    exact ⟨_, g1, vs, h1, h2.trans g2.symm, g3⟩

theorem borALK_sound (hm : Mem G E F w) : ∀ {cs : List SV} {vs : List Value} {k : List SV → Prop}, borALK E.ob cs k → vs.length = cs.length → (∀ (i : Nat) (s : SV) (v : Value), cs[i]? = some s → vs[i]? = some v → RelA E s v) →
    ∃ ps, k ps ∧ ps.length = cs.length ∧ ∀ (i : Nat) (s : SV) (v : Value), ps[i]? = some s → vs[i]? = some v → PRelA (borD E w) s v
  | [], _, k, h, _, _ => ⟨[], h, rfl, fun i s v hi => by simp at hi⟩
  | c :: r, [], k, h, hl, _ => by simp at hl
  | c :: r, v :: vs, k, h, hl, hr => by
    obtain ⟨s, h1, h2⟩ := borAK_sound hm h (hr 0 c v rfl rfl)
    obtain ⟨ps, g1, g2, g3⟩ := borALK_sound hm h1 (vs := vs) (by simpa using hl) (fun i s v a b => hr (i + 1) s v (by simpa using a) (by simpa using b))
    refine ⟨s :: ps, g1, by simp [g2], fun i t u ht hu => ?_⟩
    cases i with
    | zero => simp at ht hu; subst ht; subst hu; exact h2
    | succ i => exact g3 i t u (by simpa using ht) (by simpa using hu)

theorem borAK_rel {ob : Tab} {s : SV} {v : Value} {k : SV → Prop} (h : borAK ob s k) (hr : Rel E s v) : RelA E s v := by
  cases s <;> first | exact hr | exact h.elim
theorem borALK_rel {ob : Tab} : ∀ {l : List SV} {vs : List Value} {k : List SV → Prop}, borALK ob l k → (∀ (i : Nat) (s : SV) (v : Value), l[i]? = some s → vs[i]? = some v → Rel E s v) → ∀ (i : Nat) (s : SV) (v : Value), l[i]? = some s → vs[i]? = some v → RelA E s v
  | [], _, _, _, _ => fun i s v h => by simp at h
  | a :: l, [], _, _, _ => fun i s v _ h => by simp at h
  | a :: l, x :: vs, k, h, hr => fun i s v hs hv => by
    cases i with
    | zero => simp at hs hv; subst hs; subst hv; exact borAK_rel h (hr 0 a x rfl rfl)
    | succ i =>
      obtain ⟨p, h', _⟩ := lc_borAK (U := fun _ => True) a (fun _ _ => trivial) ob (fun _ => 0) (fun p => borALK ob l fun q => k (p :: q)) h
      exact borALK_rel h' (fun i s v hs hv => hr (i + 1) s v (by simpa using hs) (by simpa using hv)) i s v (by simpa using hs) (by simpa using hv)
theorem relL {l : List Operand} {ρ : Operand → Value} (hg : ∀ x, Rel E (g x) (ρ x)) : ∀ (i : Nat) (s : SV) (v : Value), (l.map g)[i]? = some s → (l.map ρ)[i]? = some v → Rel E s v := fun i s v hs hv => by
  rw [List.getElem?_map] at hs hv
  cases hx : l[i]? with
  | none => rw [hx] at hs; cases hs
  | some x => rw [hx] at hs hv; cases hs; cases hv; exact hg x

/-! ### What comes back -/
theorem scalB_rel {D D' : Rom} {s : SV} {v : Value} (h : scalB s = true) (hr : PRel D' s v) : PRel D s v := by
  cases hr <;> first | (simp [scalB] at h; done) | constructor
theorem scalA_rel {D D' : Rom} {s : SV} {v : Value} (h : scalA s = true) (hr : PRelA D' s v) : PRelA D s v := by
  rcases hr.split with hr | ⟨cs, rfl, vs, h1, h2, h3⟩
  · have h' : scalB s = true := by cases hr <;> exact h
    exact PRelA.of1 (scalB_rel h' hr)
  · exact ⟨vs, h1, h2, fun i s v hs hv => scalB_rel (allB_spec h s (List.mem_of_getElem? hs)) (h3 i s v hs hv)⟩
theorem scalV_rel {D D' : Rom} {s : SV} {v : Value} (h : scalV s = true) (hr : PRelT D' s v) : PRelT D s v := by
  have key : (∃ ss, s = .tup ss) ∨ (scalV s = scalA s ∧ ∀ D v, PRelT D s v = PRelA D s v) := by
    cases s <;> first | exact .inl ⟨_, rfl⟩ | exact .inr ⟨rfl, fun _ _ => rfl⟩
  rcases key with ⟨ss, rfl⟩ | ⟨h1, h2⟩
  · obtain ⟨vs, h1, h2, h3⟩ := hr
    exact ⟨vs, h1, h2, fun i s v a b => scalA_rel (allB_spec h s (List.mem_of_getElem? a)) (h3 i s v a b)⟩
  · rw [h2] at hr ⊢
    rw [h1] at h
    exact scalA_rel h hr

theorem scalF1_rel {D D' : Rom} {p : Option (Nat × Nat)} {z : Nat} {es : List (List SV)} {s : SV} {v : Value} (h : scalF1 s = true) (hr : Rel0 (Env.one D' p z es) s v) : Rel0 (Env.one D p z es) s v := by
  cases s <;> first | exact hr | exact Rel0.of_pure (scalB_rel (D' := D') (by exact h) (Rel0.pure hr rfl)) | (simp [scalF1, scalB] at h; done)
theorem scalFA_rel {D D' : Rom} {p : Option (Nat × Nat)} {z : Nat} {es : List (List SV)} {s : SV} {v : Value} (h : scalFA s = true) (hr : RelA (Env.one D' p z es) s v) : RelA (Env.one D p z es) s v := by
  rcases hr.split with hr | ⟨cs, rfl, vs, h1, h2, h3⟩
  · have h' : scalF1 s = true := by cases s <;> first | exact h | exact hr.elim
    exact RelA.of0 (scalF1_rel h' hr)
  · exact ⟨vs, h1, h2, fun i s v hs hv => scalF1_rel (allB_spec h s (List.mem_of_getElem? hs)) (h3 i s v hs hv)⟩
theorem scalFV_rel {D D' : Rom} {p : Option (Nat × Nat)} {z : Nat} {es : List (List SV)} {s : SV} {v : Value} (h : scalFV s = true) (hr : Rel (Env.one D' p z es) s v) : Rel (Env.one D p z es) s v := by
  rcases hr.split with hr | rfl | ⟨rfl, hr⟩ | ⟨ss, rfl, vs, h1, h2, h3⟩
  · have h' : scalFA s = true := by cases s <;> first | exact h | exact hr.elim
    exact Rel.ofA (scalFA_rel h' hr)
  · trivial
  · exact hr
  · exact ⟨vs, h1, h2, fun i s v hs hv => scalFA_rel (allB_spec h s (List.mem_of_getElem? hs)) (h3 i s v hs hv)⟩

theorem Mem.back0 (hm : Mem G E F w) {D' : Rom} (hD : Rom.le (borD E w) D') (hm2 : Mem G (Env.bare D') (lendF E F w (Still E)) w') : Mem G (Env.bare E.D) (lendF E F w fun _ => False) w' := by
  refine ⟨hm2.os.trans hD.os, hm2.tape.trans hD.tape, hm2.output.trans hD.output, by have := hm2.dr; rwa [show (Env.bare D').D.dr = E.D.dr from hD.dr] at this, fun k x h => hm2.rom k x (hD.heap k x ((borD_le hm).heap k x h)), fun k x h => ?_, fun k x h => (lendF_spec hm h).2, hm.glob, fun o b hb => (by cases hb), fun o o' b b' x y hb => (by cases hb)⟩
  rcases lend_or h with h | h
  · exact hm2.rom k x (hD.heap k x h)
  · exact hm2.frm k x h

theorem Mem.back1 (hm : Mem G E F w) {D' : Rom} {p : Option (Nat × Nat)} {z : Nat} {es : List (List SV)} (hes : allB (allB scalB) es = true) (hD : Rom.le (borD E w) D') (hm2 : Mem G (Env.one D' p z es) (lendF E F w (Still E)) w') :
    Mem G (Env.one E.D p z es) (lendF E F w fun _ => False) w' := by
  have hle := (borD_le hm).trans hD
  have ho := hm2.own 0 ⟨0, 1, z, es⟩ (Env.one_ob _ _ _ _)
  have e1 : (Env.one D' p z es).β 0 0 = p := Env.one_β _ _ _ _
  have e2 : (Env.one E.D p z es).β 0 0 = p := Env.one_β _ _ _ _
  refine ⟨hm2.os.trans hle.os, hm2.tape.trans hle.tape, hm2.output.trans hle.output, by have := hm2.dr; rwa [show (Env.one D' p z es).D.dr = E.D.dr from hle.dr] at this, fun k x h => hm2.rom k x (hle.heap k x h), fun k x h => ?_, fun k x h => (lendF_spec hm h).2, hm.glob, fun o b hb => ?_, fun o1 o2 b1 b2 x y h1 h2 _ _ _ _ _ => ?_⟩
  · rcases lend_or h with h | h
    · exact hm2.rom k x (hD.heap k x h)
    · exact hm2.frm k x h
  · replace hb : upd (fun _ => none) 0 (some ⟨0, 1, z, es⟩) o = some b := hb
    by_cases h : o = 0
    · subst h
      rw [upd_same] at hb
      cases hb
      refine ⟨by show 0 < upd (fun _ => 0) 0 1 0; rw [upd_same]; exact Nat.zero_lt_one, ho.len, fun hn => ho.nil (by rw [e1]; rw [e2] at hn; exact hn), fun q hq => ho.fits q (by rw [e1]; rw [e2] at hq; exact hq), fun _ q hq => ?_, fun hk => absurd hk (by simp)⟩
      rw [e2] at hq
      obtain ⟨h1, h2, c, ty, h3, h4, h5⟩ := ho.live (by simp) q (by rw [e1]; exact hq)
      have hDn : E.D.heap q.1 = none := by
        cases hh : E.D.heap q.1 with
        | none => rfl
        | some x =>
          have h1 : D'.heap q.1 = none := h1
          rw [hle.heap _ _ hh] at h1; cases h1
      refine ⟨hDn, ?_, c, ty, h3, h4, fun i j e s hi hj => ?_⟩
      · cases hh : lendF E F w (fun _ => False) q.1 with
        | none => rfl
        | some x =>
          rcases lend_or hh with hh | hh
          · have h1 : D'.heap q.1 = none := h1
            rw [hD.heap _ _ hh] at h1; cases h1
          · rw [h2] at hh; cases hh
      · obtain ⟨v, g1, _, g3⟩ := h5 i j e s hi hj
        have hp : PRel E.D s v := scalB_rel (allB_spec (allB_spec hes e (List.mem_of_getElem? hi)) s (List.mem_of_getElem? hj)) (g3 rfl)
        exact ⟨v, g1, Rel0.of_pure hp, fun _ => hp⟩
    · rw [upd_other _ _ h] at hb
      cases hb
  · replace h1 : upd (fun _ => none) 0 (some ⟨0, 1, z, es⟩) o1 = some b1 := h1
    replace h2 : upd (fun _ => none) 0 (some ⟨0, 1, z, es⟩) o2 = some b2 := h2
    by_cases e1 : o1 = 0
    · by_cases e2 : o2 = 0
      · rw [e1, e2]
      · rw [upd_other _ _ e2] at h2; cases h2
    · rw [upd_other _ _ e1] at h1; cases h1
end
end Go.Proofs.Yticandbdabgkeaa.Am
