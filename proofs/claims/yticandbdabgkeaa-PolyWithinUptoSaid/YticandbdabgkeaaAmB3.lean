/- Values made pure: their objects are frozen. No condition: lemmas. -/
import Derived.Test.YticandbdabgkeaaAmB2
namespace Go.Proofs.Yticandbdabgkeaa.Am
open Go

theorem allB_spec {α : Type} {p : α → Bool} : ∀ {l : List α}, allB p l = true → ∀ x, x ∈ l → p x = true
  | [], _, x, hx => by cases hx
  | a :: r, h, x, hx => by
    simp only [allB, Bool.and_eq_true] at h
    rcases List.mem_cons.1 hx with rfl | hx
    · exact h.1
    · exact allB_spec h.2 x hx

theorem lenIs_spec {α : Type} : ∀ {l : List α} {n : Nat}, lenIs l n = true → l.length = n
  | [], 0, _ => rfl
  | [], _ + 1, h => by cases h
  | _ :: _, 0, h => by cases h
  | _ :: r, n + 1, h => by simp only [List.length_cons]; rw [lenIs_spec (l := r) (n := n) h]

/-- The cell, or nothing in particular. -/
def Rom.u (D : Rom) (blk off : Nat) : Value := (D.cell blk off).getD undef
theorem Rom.u_of {D : Rom} {blk off : Nat} {v : Value} (h : D.cell blk off = some v) : D.cell blk off = some (D.u blk off) := by simp [Rom.u, h]

theorem PRel.ofCells {D : Rom} {z : Nat} {xs : List (List SV)} {A : Option Addr} {cap blk off : Nat} (hcap : xs.length ≤ cap) (hz : ∀ (i : Nat) (e : List SV), xs[i]? = some e → e.length = z) (hA : xs = [] ∨ A = some ⟨blk, off, none⟩)
    (h : ∀ (i j : Nat) (e : List SV) (s : SV), xs[i]? = some e → e[j]? = some s → ∃ v, D.cell blk (off + (i * z + j)) = some v ∧ PRel D s v) : PRel D (.sl z xs) (.slice A xs.length cap) :=
  .sl z xs A cap blk off (fun i j => D.u blk (off + (i * z + j))) hcap hz hA
    (fun i j e s hi hj => by obtain ⟨v, h1, _⟩ := h i j e s hi hj; exact Rom.u_of h1)
    (fun i j e s hi hj => by obtain ⟨v, h1, h2⟩ := h i j e s hi hj; simp only [Rom.u, h1, Option.getD_some]; exact h2)

theorem PRel.ofPtr {D : Rom} {cs : List SV} {blk off : Nat} (h : ∀ (j : Nat) (s : SV), cs[j]? = some s → ∃ v, D.cell blk (off + j) = some v ∧ PRel D s v) : PRel D (.ptr cs) (.pointer (some ⟨blk, off, none⟩)) :=
  .ptr cs blk off (fun j => D.u blk (off + j)) (fun j s hj => by obtain ⟨v, h1, _⟩ := h j s hj; exact Rom.u_of h1)
    (fun j s hj => by obtain ⟨v, h1, h2⟩ := h j s hj; simp only [Rom.u, h1, Option.getD_some]; exact h2)

theorem PRel.empty (D : Rom) (z : Nat) (A : Option Addr) (cap : Nat) : PRel D (.sl z []) (.slice A 0 cap) :=
  .sl z [] A cap 0 0 (fun _ _ => undef) (Nat.zero_le _) (fun i e h => by simp at h) (.inl rfl) (fun i j e s h => by simp at h) (fun i j e s h => by simp at h)

theorem Frz.obj {E0 E : Env} (h : Frz E0 E) {o : Nat} {b : Ob} (hb : E0.ob o = some b) : ∃ kd, E.ob o = some { b with kind := kd } ∧ (kd = b.kind ∨ kd = 2) := by
  rcases h.ob o with e | ⟨b', e1, e2⟩
  · exact ⟨b.kind, by rw [e, hb], .inl rfl⟩
  · rw [hb] at e1; cases e1; exact ⟨2, e2, .inr rfl⟩

/-- What a row holds, once it is frozen. -/
def DeadAt (D : Rom) (p : Option (Nat × Nat)) (b : Ob) : Prop :=
  (p = none → b.xs = []) ∧ (∀ (i : Nat) (e : List SV), b.xs[i]? = some e → e.length = b.z) ∧
  ∀ q, p = some q → ∀ (i j : Nat) (e : List SV) (s : SV), b.xs[i]? = some e → e[j]? = some s → ∃ v, D.cell q.1 (i * b.z + j) = some v ∧ PRel D s v

theorem DeadAt.row {D : Rom} {p : Option (Nat × Nat)} {b : Ob} {v : Value} (h : DeadAt D p b) (hr : RowAt p b v) : PRel D (.sl b.z b.xs) v := by
  cases p with
  | none =>
    obtain ⟨h1, rfl⟩ := hr
    rw [h1]
    exact PRel.empty D b.z none 0
  | some q =>
    obtain ⟨cap, rfl, _, hc⟩ := hr
    refine PRel.ofCells (blk := q.1) (off := 0) hc h.2.1 (.inr rfl) fun i j e s hi hj => ?_
    rw [Nat.zero_add]
    exact h.2.2 q rfl i j e s hi hj

theorem DeadAt.part {D : Rom} {p : Option (Nat × Nat)} {b : Ob} {lo n : Nat} {v : Value} (h : DeadAt D p b) (hl : lo + n ≤ b.xs.length) (hr : SlAt p b lo n v) : PRel D (.sl b.z ((b.xs.drop lo).take n)) v := by
  have hlen : ((b.xs.drop lo).take n).length = n := by simp; omega
  have hget : ∀ (i : Nat) (e : List SV), ((b.xs.drop lo).take n)[i]? = some e → b.xs[lo + i]? = some e := fun i e hi => by
    rw [List.getElem?_take] at hi
    split at hi
    · rw [List.getElem?_drop] at hi; exact hi
    · cases hi
  cases p with
  | none =>
    obtain ⟨rfl, rfl, rfl⟩ := hr
    rw [List.take_zero]
    exact PRel.empty D b.z none 0
  | some q =>
    obtain ⟨A, cap, rfl, hc, _, hA⟩ := hr
    have := PRel.ofCells (D := D) (z := b.z) (xs := (b.xs.drop lo).take n) (A := A) (cap := cap) (blk := q.1) (off := lo * b.z) (by rw [hlen]; exact hc)
      (fun i e hi => h.2.1 _ e (hget i e hi))
      (by
        rcases hA with ⟨h0, _⟩ | hA
        · left; rw [h0, List.take_zero]
        · exact .inr hA)
      (fun i j e s hi hj => by
        obtain ⟨u, h1, h2⟩ := h.2.2 q rfl (lo + i) j e s (hget i e hi) hj
        refine ⟨u, ?_, h2⟩
        rw [← h1, Nat.add_mul]
        congr 1
        omega)
    rw [hlen] at this
    exact this

section
variable {G : Nat → List SV} {E0 E : Env} {F : Nat → Option Obj} {w : World}

theorem Own.deadAt (hm : Mem G E F w) {o : Nat} {b : Ob} (hb : E.ob o = some b) (hk : 2 ≤ b.kind) : DeadAt E.D (E.β o b.st) b :=
  ⟨fun h => ((hm.own o b hb).nil h).1, (hm.own o b hb).len, fun q hq => (hm.own o b hb).dead hk q hq⟩

/-- Freezing a row. -/
theorem freezeRow (hm : Mem G E F w) {o : Nat} {b : Ob} (hb : E.ob o = some b) (hk : b.kind ≠ 0) :
    ∃ D', Mem G ⟨D', E.β, upd E.ob o (some { b with kind := 2 }), E.ct⟩ F w ∧ Frz E ⟨D', E.β, upd E.ob o (some { b with kind := 2 }), E.ct⟩ ∧ DeadAt D' (E.β o b.st) b := by
  have ho := hm.own o b hb
  obtain ⟨D', h1, h2, h3⟩ := freeze hm hb (fun hk2 q hq c ty hc i j e s v hi hj hv _ => by
    obtain ⟨_, _, c', ty', hc', _, h5⟩ := ho.live hk2 q hq
    rw [hc] at hc'
    cases hc'
    obtain ⟨v', g1, _, g3⟩ := h5 i j e s hi hj
    rw [hv] at g1
    cases g1
    exact g3 (by omega)) (fun _ => hk)
  exact ⟨D', h1, h2, fun h => (ho.nil h).1, ho.len, h3⟩

/-- Freezing a variable. -/
theorem freezeBox (hm : Mem G E F w) {o : Nat} {b : Ob} (hb : E.ob o = some b) {e : List SV} (hx : b.xs = [e]) (hp : allB pureB e = true) {q : Nat × Nat} (hq : E.β o b.st = some q) :
    ∃ D', Mem G ⟨D', E.β, upd E.ob o (some { b with kind := 2 }), E.ct⟩ F w ∧ Frz E ⟨D', E.β, upd E.ob o (some { b with kind := 2 }), E.ct⟩ ∧ DeadAt D' (E.β o b.st) b := by
  have ho := hm.own o b hb
  obtain ⟨D', h1, h2, h3⟩ := freeze hm hb (fun _ q hq c ty hc i j e' s v hi hj hv hr => by
    refine hr.pure (allB_spec hp s ?_)
    rw [hx] at hi
    have : e' = e := by
      cases i with
      | zero => simpa using hi.symm
      | succ i => simp at hi
    subst this
    exact List.mem_of_getElem? hj) (fun h => by rw [hq] at h; cases h)
  exact ⟨D', h1, h2, fun h => (ho.nil h).1, ho.len, h3⟩

theorem pur1K_pure {ob : Tab} {v : SV} {k : SV → List Upd → Prop} (hp : pureB v = true) (h : pur1K ob v k) : k v [] := by
  cases v <;> first | exact h | (simp [pureB] at hp)

theorem pur1K_sound (hF : Frz E0 E) (hm : Mem G E F w) {v : SV} {x : Value} {k : SV → List Upd → Prop} (h : pur1K E0.ob v k) (hr : Rel0 E v x) :
    ∃ s us D', k s us ∧ Mem G ⟨D', E.β, addO E.ob us, addC E.ct us⟩ F w ∧ Frz E ⟨D', E.β, addO E.ob us, addC E.ct us⟩ ∧ PRel D' s x := by
  by_cases hp : pureB v = true
  · exact ⟨v, [], E.D, pur1K_pure hp h, hm, Frz.refl E, hr.pure hp⟩
  · cases v with
    | lrow o st =>
      simp only [pur1K] at h
      cases hb0 : E0.ob o with
      | none => simp [hb0] at h
      | some b0 =>
        obtain ⟨st', kd, z, xs⟩ := b0
        rw [hb0] at h
        obtain ⟨rfl, h⟩ := h
        obtain ⟨kd', hb, hkd⟩ := hF.obj hb0
        have hrow := hr.2.2 _ hb rfl
        match kd, h, hkd with
        | 1, h, hkd =>
          obtain ⟨D', h1, h2, h3⟩ := freezeRow hm hb (by rcases hkd with rfl | rfl <;> simp)
          exact ⟨_, _, D', h, h1, h2, DeadAt.row (b := ⟨st, 2, z, xs⟩) h3 hrow⟩
        | kd + 2, h, hkd =>
          exact ⟨_, _, E.D, h, hm, Frz.refl E, DeadAt.row (Own.deadAt hm hb (by rcases hkd with rfl | rfl <;> simp)) hrow⟩
    | lsl o st lo n =>
      simp only [pur1K] at h
      cases hb0 : E0.ob o with
      | none => simp [hb0] at h
      | some b0 =>
        obtain ⟨st', kd, z, xs⟩ := b0
        rw [hb0] at h
        obtain ⟨rfl, hl, h⟩ := h
        obtain ⟨kd', hb, hkd⟩ := hF.obj hb0
        have hrow := hr.2.2 _ hb rfl
        match kd, h, hkd with
        | 1, h, hkd =>
          obtain ⟨D', h1, h2, h3⟩ := freezeRow hm hb (by rcases hkd with rfl | rfl <;> simp)
          exact ⟨_, _, D', h, h1, h2, DeadAt.part (b := ⟨st, 2, z, xs⟩) h3 hl hrow⟩
        | kd + 2, h, hkd =>
          exact ⟨_, _, E.D, h, hm, Frz.refl E, DeadAt.part (Own.deadAt hm hb (by rcases hkd with rfl | rfl <;> simp)) hl hrow⟩
    | lptr o st i j =>
      simp only [pur1K] at h
      cases hb0 : E0.ob o with
      | none => simp [hb0] at h
      | some b0 =>
        obtain ⟨st', kd, z, xs⟩ := b0
        rw [hb0] at h
        obtain ⟨rfl, h⟩ := h
        obtain ⟨kd', hb, hkd⟩ := hF.obj hb0
        obtain ⟨q, hq, rfl⟩ := hr.2.2 _ hb rfl
        replace hq : E.β o st = some q := hq
        match kd, h, hkd with
        | 0, h, hkd =>
          obtain ⟨rfl, hh⟩ := h
          match xs, hh, hb with
          | [e], hh, hb =>
            obtain ⟨hp, hh⟩ := ifB_true hh
            obtain ⟨D', h1, h2, h3⟩ := freezeBox hm hb rfl hp hq
            refine ⟨_, _, D', hh, h1, h2, PRel.ofPtr fun k s hk => ?_⟩
            rw [List.getElem?_drop] at hk
            obtain ⟨v, g1, g2⟩ := h3.2.2 q hq 0 (j + k) e s rfl hk
            refine ⟨v, ?_, g2⟩
            rw [← g1]
            show D'.cell q.1 (0 * z + j + k) = D'.cell q.1 (0 * z + (j + k))
            rw [Nat.add_assoc]
        | kd + 2, h, hkd =>
          obtain ⟨e, he, h⟩ := h
          have hd := Own.deadAt hm hb (by rcases hkd with rfl | rfl <;> simp)
          refine ⟨_, _, E.D, h, hm, Frz.refl E, PRel.ofPtr fun k s hk => ?_⟩
          rw [List.getElem?_drop] at hk
          obtain ⟨v, g1, g2⟩ := hd.2.2 q hq i (j + k) e s he hk
          refine ⟨v, ?_, g2⟩
          rw [← g1]
          show E.D.cell q.1 (i * z + j + k) = E.D.cell q.1 (i * z + (j + k))
          rw [Nat.add_assoc]
    | junk => exact h.elim
    | undef => exact h.elim
    | agg _ => exact h.elim
    | tup _ => exact h.elim
    | _ => exact absurd rfl hp

theorem purLK_sound : ∀ {cs : List SV} {vs : List Value} {k : List SV → List Upd → Prop} {E0 E : Env}, Frz E0 E → Mem G E F w → purLK E0.ob cs k → vs.length = cs.length → (∀ (i : Nat) (s : SV) (v : Value), cs[i]? = some s → vs[i]? = some v → Rel0 E s v) →
    ∃ ps us D', k ps us ∧ Mem G ⟨D', E.β, addO E.ob us, addC E.ct us⟩ F w ∧ Frz E ⟨D', E.β, addO E.ob us, addC E.ct us⟩ ∧ ps.length = cs.length ∧ ∀ (i : Nat) (s : SV) (v : Value), ps[i]? = some s → vs[i]? = some v → PRel D' s v
  | [], vs, k, E0, E, hF, hm, h, hl, hr => ⟨[], [], E.D, h, hm, Frz.refl E, rfl, fun i s v hs => by simp at hs⟩
  | c :: r, [], k, E0, E, hF, hm, h, hl, hr => by simp at hl
  | c :: r, x :: vs, k, E0, E, hF, hm, h, hl, hr => by
    obtain ⟨s, us, D1, h1, hm1, hF1, hp1⟩ := pur1K_sound hF hm h (hr 0 c x rfl rfl)
    obtain ⟨ps, ws, D2, h2, hm2, hF2, hl2, hp2⟩ := purLK_sound (hF.trans hF1) hm1 h1 (by simpa using hl) (fun i s v hs hv => (hr (i + 1) s v hs hv).mono hF1.le)
    refine ⟨s :: ps, us ++ ws, D2, h2, by rw [addO_append, addC_append]; exact hm2, by rw [addO_append, addC_append]; exact hF1.trans hF2, by simp [hl2], fun i t v ht hv => ?_⟩
    cases i with
    | zero => simp at ht hv; subst ht; subst hv; exact hp1.mono hF2.le.D
    | succ i => exact hp2 i t v (by simpa using ht) (by simpa using hv)

/-- Pure values of several cells. -/
def PRelA (D : Rom) (s : SV) (v : Value) : Prop :=
  match s with
  | .agg cs => ∃ vs : List Value, v = .agg vs.toArray ∧ vs.length = cs.length ∧ ∀ (i : Nat) (s : SV) (v : Value), cs[i]? = some s → vs[i]? = some v → PRel D s v
  | s => PRel D s v

theorem PRelA.of1 {D : Rom} {s : SV} {v : Value} (h : PRel D s v) : PRelA D s v := by cases s <;> first | exact h | cases h
theorem PRelA.split {D : Rom} {s : SV} {v : Value} (h : PRelA D s v) : PRel D s v ∨ ∃ cs, s = .agg cs ∧ PRelA D (.agg cs) v := by
  cases s <;> first | exact .inl h | exact .inr ⟨_, rfl, h⟩
theorem PRelA.mono {D D' : Rom} (h : Rom.le D D') {s : SV} {v : Value} (hr : PRelA D s v) : PRelA D' s v := by
  rcases hr.split with hr | ⟨cs, rfl, vs, h1, h2, h3⟩
  · exact .of1 (hr.mono h)
  · exact ⟨vs, h1, h2, fun i s v a b => (h3 i s v a b).mono h⟩
theorem PRelA.rel {E : Env} {s : SV} {v : Value} (h : PRelA E.D s v) : RelA E s v := by
  rcases h.split with h | ⟨cs, rfl, vs, h1, h2, h3⟩
  · exact RelA.of0 (Rel0.of_pure h)
  · exact ⟨vs, h1, h2, fun i s v a b => Rel0.of_pure (h3 i s v a b)⟩

theorem purAK_scalar {ob : Tab} {v : SV} {k : SV → List Upd → Prop} (h : purAK ob v k) : (∃ cs, v = .agg cs ∧ purLK ob cs fun l us => k (.agg l) us) ∨ ((∀ cs, v ≠ .agg cs) ∧ pur1K ob v k) := by
  cases v <;> first | exact .inl ⟨_, rfl, h⟩ | exact .inr ⟨(fun _ e => by cases e), h⟩

theorem purAK_sound (hF : Frz E0 E) (hm : Mem G E F w) {v : SV} {x : Value} {k : SV → List Upd → Prop} (h : purAK E0.ob v k) (hr : RelA E v x) :
    ∃ s us D', k s us ∧ Mem G ⟨D', E.β, addO E.ob us, addC E.ct us⟩ F w ∧ Frz E ⟨D', E.β, addO E.ob us, addC E.ct us⟩ ∧ PRelA D' s x := by
  rcases purAK_scalar h with ⟨cs, rfl, h⟩ | ⟨hne, h⟩
  · obtain ⟨vs, rfl, hl, hc⟩ := hr
    obtain ⟨ps, us, D', h1, h2, h3, h4, h5⟩ := purLK_sound hF hm h hl hc
    exact ⟨_, us, D', h1, h2, h3, vs, rfl, by rw [hl, h4], h5⟩
  · rcases hr.split with hr | ⟨cs, rfl, _⟩
    · obtain ⟨s, us, D', h1, h2, h3, h4⟩ := pur1K_sound hF hm h hr
      exact ⟨s, us, D', h1, h2, h3, .of1 h4⟩
    · exact absurd rfl (hne cs)

theorem purALK_sound : ∀ {cs : List SV} {vs : List Value} {k : List SV → List Upd → Prop} {E0 E : Env}, Frz E0 E → Mem G E F w → purALK E0.ob cs k → vs.length = cs.length → (∀ (i : Nat) (s : SV) (v : Value), cs[i]? = some s → vs[i]? = some v → RelA E s v) →
    ∃ ps us D', k ps us ∧ Mem G ⟨D', E.β, addO E.ob us, addC E.ct us⟩ F w ∧ Frz E ⟨D', E.β, addO E.ob us, addC E.ct us⟩ ∧ ps.length = cs.length ∧ ∀ (i : Nat) (s : SV) (v : Value), ps[i]? = some s → vs[i]? = some v → PRelA D' s v
  | [], vs, k, E0, E, hF, hm, h, hl, hr => ⟨[], [], E.D, h, hm, Frz.refl E, rfl, fun i s v hs => by simp at hs⟩
  | c :: r, [], k, E0, E, hF, hm, h, hl, hr => by simp at hl
  | c :: r, x :: vs, k, E0, E, hF, hm, h, hl, hr => by
    obtain ⟨s, us, D1, h1, hm1, hF1, hp1⟩ := purAK_sound hF hm h (hr 0 c x rfl rfl)
    obtain ⟨ps, ws, D2, h2, hm2, hF2, hl2, hp2⟩ := purALK_sound (hF.trans hF1) hm1 h1 (by simpa using hl) (fun i s v hs hv => (hr (i + 1) s v hs hv).mono hF1.le)
    refine ⟨s :: ps, us ++ ws, D2, h2, by rw [addO_append, addC_append]; exact hm2, by rw [addO_append, addC_append]; exact hF1.trans hF2, by simp [hl2], fun i t v ht hv => ?_⟩
    cases i with
    | zero => simp at ht hv; subst ht; subst hv; exact hp1.mono hF2.le.D
    | succ i => exact hp2 i t v (by simpa using ht) (by simpa using hv)
end
end Go.Proofs.Yticandbdabgkeaa.Am
