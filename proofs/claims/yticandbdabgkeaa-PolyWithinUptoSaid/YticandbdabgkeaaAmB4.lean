/- What single operations come to: loads, stores, new objects. No condition: lemmas. -/
import Derived.Test.YticandbdabgkeaaAmB3
namespace Go.Proofs.Yticandbdabgkeaa.Am
open Go

/-- The environment behind updates. -/
@[reducible] def Env.upd (E : Env) (D : Rom) (β : Nat → Nat → Option (Nat × Nat)) (us : List Upd) : Env := ⟨D, β, addO E.ob us, addC E.ct us⟩

def GoodV (G : Nat → List SV) (F : Nat → Option Obj) (E : Env) (R : SV → List Upd → Prop) (r : Result Value) : Prop :=
  ∃ v us x w' D' β', R v us ∧ r = .ok x w' ∧ Rel (E.upd D' β' us) v x ∧ Mem G (E.upd D' β' us) F w' ∧ Env.le E (E.upd D' β' us)

def Good (G : Nat → List SV) (F : Nat → Option Obj) (E : Env) (R : SV → List Upd → Prop) (r : Result Next) : Prop :=
  ∃ v us x w' D' β', R v us ∧ (r = .ok (.value x) w' ∨ (r = .ok .skip w' ∧ x = undef)) ∧ Rel (E.upd D' β' us) v x ∧ Mem G (E.upd D' β' us) F w' ∧ Env.le E (E.upd D' β' us)

section
variable {P : Program} {G : Nat → List SV} {F : Nat → Option Obj} {E : Env} {R : SV → List Upd → Prop} {w : World}

theorem GoodV.same {v : SV} {x : Value} (hm : Mem G E F w) (h : R v []) (hr : Rel E v x) : GoodV G F E R (.ok x w) :=
  ⟨v, [], x, w, E.D, E.β, h, rfl, hr, hm, Env.le.refl E⟩

theorem GoodV.toGood {s : Sem Value} (h : GoodV G F E R (s.run P w)) : Good G F E R ((do pure (Next.value (← s)) : Sem Next).run P w) := by
  obtain ⟨v, us, x, w', D', β', h1, h2, h3⟩ := h
  exact ⟨v, us, x, w', D', β', h1, .inl (by simp [h2]), h3⟩

theorem rel_int {k : IntKind} {n : Int} {x : Value} (h : Rel E (.int k n) x) : x = .int k n := by cases (show PRel E.D (.int k n) x from h); rfl
theorem rel_bool {b : Bool} {x : Value} (h : Rel E (.bool b) x) : x = .bool b := by cases (show PRel E.D (.bool b) x from h); rfl
theorem rel_str {s : ByteArray} {x : Value} (h : Rel E (.str s) x) : x = .string s := by cases (show PRel E.D (.str s) x from h); rfl
theorem rel_nils {x : Value} (h : Rel E .nils x) : x = .slice none 0 0 := by cases (show PRel E.D .nils x from h); rfl

theorem elemK_spec {b : Ob} {i : Nat} {k : List SV → Prop} (h : elemK b i k) : ∃ e, b.xs[i]? = some e ∧ k e := by
  unfold elemK at h
  obtain ⟨st, kd, z, xs⟩ := b
  match kd, h with
  | 0, h =>
    obtain ⟨rfl, hh⟩ := h
    match xs, hh with
    | [e], hh => exact ⟨e, rfl, hh⟩
  | kd + 1, h => exact h

theorem load_sound (hm : Mem G E F w) {t : TypeId} {s : SV} {x : Value}
    (h : match s with
      | .lptr o' st i j => match E.ob o' with
        | some b => st = b.st ∧ elemK b i fun e => readK P t (e.drop j) fun v => R v []
        | none => False
      | .ptr cs => readK P t cs fun v => R v []
      | _ => False) (hr : Rel E s x) : GoodV G F E R ((Instr.loadAt t x).run P w) := by
  cases s with
  | lptr o' st i j =>
    cases hb : E.ob o' with
    | none => simp [hb] at h
    | some b =>
      simp only [hb] at h
      obtain ⟨rfl, h⟩ := h
      obtain ⟨e, he, h⟩ := elemK_spec h
      obtain ⟨q, hq, rfl⟩ := hr.2.2 b hb rfl
      obtain ⟨s, v, h1, h2, h3⟩ := readK_sound h ((Own.cells hm hb hq he).drop j)
      simp only [Instr.loadAt, Instr.sureAddr, Sem.run_bind, Sem.run_pure, Result.andThen_ok, h2]
      exact GoodV.same hm h1 (Rel.ofA h3)
  | ptr cs =>
    obtain ⟨blk, off, rfl, hc⟩ := ptr_cells hm hr
    obtain ⟨s, v, h1, h2, h3⟩ := readK_sound h hc
    simp only [Instr.loadAt, Instr.sureAddr, Sem.run_bind, Sem.run_pure, Result.andThen_ok, h2]
    exact GoodV.same hm h1 (Rel.ofA h3)
  | _ => exact h.elim

/-- The cells of a value. -/
theorem cellsK_sound {s : SV} {x : Value} {k : List SV → Prop} (h : cellsK s k) (hr : Rel E s x) : ∃ cs, k cs ∧ x.cells.toList.length = cs.length ∧ ∀ (i : Nat) (s : SV) (v : Value), cs[i]? = some s → x.cells.toList[i]? = some v → Rel0 E s v := by
  have one : ∀ {s : SV} {x : Value} {k : List SV → Prop}, k [s] → Rel0 E s x → ∃ cs, k cs ∧ x.cells.toList.length = cs.length ∧ ∀ (i : Nat) (s : SV) (v : Value), cs[i]? = some s → x.cells.toList[i]? = some v → Rel0 E s v := fun {s x k} hk hr => by
    have hx : x.cells = #[x] := by
      have := hr.oneCell
      cases x <;> first | rfl | (simp [Value.oneCell'] at this)
    refine ⟨[s], hk, by rw [hx]; rfl, fun i t v ht hv => ?_⟩
    rw [hx] at hv
    cases i with
    | zero => simp at ht hv; subst ht; subst hv; exact hr
    | succ i => simp at ht
  cases s with
  | agg cs =>
    obtain ⟨_, h⟩ := ifB_true h
    obtain ⟨vs, rfl, hl, hc⟩ := hr
    exact ⟨cs, h, hl, hc⟩
  | junk => exact h.elim
  | undef => exact h.elim
  | tup _ => exact h.elim
  | _ => exact one h hr

theorem oneCells {cs : List SV} {vs : List Value} (hl : vs.length = cs.length) (hc : ∀ (i : Nat) (s : SV) (v : Value), cs[i]? = some s → vs[i]? = some v → Rel0 E s v) : ∀ v ∈ vs, v.oneCell' = true := by
  intro v hv
  obtain ⟨i, hi, rfl⟩ := List.mem_iff_getElem.1 hv
  exact (hc i cs[i] vs[i] (List.getElem?_eq_getElem (by omega)) (List.getElem?_eq_getElem hi)).oneCell

/-! ### New objects -/
theorem heap_push_new (w : World) (o : Obj) : ({ w with heap := w.heap.push o } : World).heap[w.heap.size]? = some o := by simp
theorem heap_push_old (w : World) (o : Obj) (k : Nat) (h : k ≠ w.heap.size) : ({ w with heap := w.heap.push o } : World).heap[k]? = w.heap[k]? := by
  show (w.heap.push o)[k]? = w.heap[k]?
  rw [Array.getElem?_push, if_neg h]
theorem none_of_ge {w : World} {k : Nat} (h : w.heap.size ≤ k) : w.heap[k]? = none := Array.getElem?_eq_none h

/-- A new block, and a new object at it. -/
theorem new_sound (hm : Mem G E F w) (d kd z n : Nat) (xs : List (List SV)) (c : Array Value) (ty : TypeId) (hkd : kd < 2) (hlen : ∀ (i : Nat) (e : List SV), xs[i]? = some e → e.length = z) (hn : c.size = n) (hfit : xs.length * z ≤ n)
    (hc : ∀ (i j : Nat) (e : List SV) (s : SV), xs[i]? = some e → e[j]? = some s → ∃ v, c[i * z + j]? = some v ∧ Rel0 E s v ∧ (kd = 1 → PRel E.D s v)) :
    Mem G (E.put d ⟨E.ct d, kd, z, xs⟩ (some (w.heap.size, n)) (E.ct d + 1)) F { w with heap := w.heap.push (.cells c ty) } ∧ Env.le E (E.put d ⟨E.ct d, kd, z, xs⟩ (some (w.heap.size, n)) (E.ct d + 1)) := by
  have hst : (⟨E.ct d, kd, z, xs⟩ : Ob).st < E.ct d → (∃ b0, E.ob d = some b0 ∧ b0.st = (⟨E.ct d, kd, z, xs⟩ : Ob).st ∧ b0.z = (⟨E.ct d, kd, z, xs⟩ : Ob).z ∧ b0.xs.length = (⟨E.ct d, kd, z, xs⟩ : Ob).xs.length) ∧ E.β d (⟨E.ct d, kd, z, xs⟩ : Ob).st = some (w.heap.size, n) := fun h => absurd h (Nat.lt_irrefl _)
  have hle := Env.put_le (E := E) (o := d) (b := ⟨E.ct d, kd, z, xs⟩) (p := some (w.heap.size, n)) (Nat.le_succ _) hst
  have hD : E.D.heap w.heap.size = none := by
    cases h : E.D.heap w.heap.size with
    | none => rfl
    | some o => have := hm.rom _ _ h; rw [none_of_ge (Nat.le_refl _)] at this; cases this
  have hF : F w.heap.size = none := by
    cases h : F w.heap.size with
    | none => rfl
    | some o => have := hm.frm _ _ h; rw [none_of_ge (Nat.le_refl _)] at this; cases this
  refine ⟨Mem.put hm (Nat.le_succ _) hst rfl rfl rfl (fun k hk => .inl (heap_push_old w _ k (hk _ rfl))) (fun q hq => ?_) ?_, hle⟩
  · cases hq
    refine ⟨hD, hF, fun o' b' x _ hb' hk' hx he => ?_⟩
    obtain ⟨_, _, c', ty', h3, _⟩ := (hm.own o' b' hb').live hk' x hx
    rw [he, none_of_ge (Nat.le_refl _)] at h3
    cases h3
  · have hβ : (E.put d ⟨E.ct d, kd, z, xs⟩ (some (w.heap.size, n)) (E.ct d + 1)).β d (E.ct d) = some (w.heap.size, n) := setβ_same _ _ _ _
    refine ⟨?_, hlen, fun h => ?_, fun q hq => ?_, fun _ q hq => ?_, fun h => absurd h (by simp; omega)⟩
    · show E.ct d < upd E.ct d (E.ct d + 1) d
      rw [upd_same]; omega
    · rw [hβ] at h; cases h
    · rw [hβ] at hq; cases hq; exact hfit
    · rw [hβ] at hq
      cases hq
      refine ⟨hD, hF, c, ty, heap_push_new w _, hn, fun i j e s hi hj => ?_⟩
      obtain ⟨v, h1, h2, h3⟩ := hc i j e s hi hj
      exact ⟨v, h1, h2.mono hle, h3⟩

/-- A new variable. -/
theorem newVar_sound (hm : Mem G E F w) (d : Nat) {cs : List SV} {c : Array Value} {ty : TypeId} (hl : c.toList.length = cs.length) (hc : ∀ (i : Nat) (s : SV) (v : Value), cs[i]? = some s → c.toList[i]? = some v → Rel0 E s v)
    (h : R (.lptr d (E.ct d) 0 0) [⟨d, ⟨E.ct d, 0, cs.length, [cs]⟩, true⟩]) :
    GoodV G F E R (.ok (.pointer (some ⟨w.heap.size, 0, none⟩)) { w with heap := w.heap.push (.cells c ty) }) := by
  have one : ∀ (i : Nat) (e : List SV), ([cs] : List (List SV))[i]? = some e → i = 0 ∧ e = cs := fun i e hi => by
    cases i with
    | zero => simp at hi; exact ⟨rfl, hi.symm⟩
    | succ i => simp at hi
  obtain ⟨h1, h2⟩ := new_sound hm d 0 cs.length cs.length [cs] c ty (by omega) (fun i e hi => by rw [(one i e hi).2]) (by simpa using hl) (by simp) (fun i j e s hi hj => by
    obtain ⟨rfl, rfl⟩ := one i e hi
    have hj' : j < e.length := (List.getElem?_eq_some_iff.1 hj).1
    obtain ⟨v, hv⟩ : ∃ v, c.toList[j]? = some v := ⟨_, List.getElem?_eq_getElem (by omega)⟩
    exact ⟨v, by simpa using hv, hc j s v hj hv, fun h => by cases h⟩)
  refine ⟨_, _, _, _, E.D, _, h, rfl, ?_, h1, h2⟩
  refine Rel.of0 ⟨?_, rfl, fun b hb hst => ?_⟩
  · show E.ct d < upd E.ct d (E.ct d + 1) d
    rw [upd_same]; omega
  · replace hb : upd E.ob d (some ⟨E.ct d, 0, cs.length, [cs]⟩) d = some b := hb
    rw [upd_same] at hb
    cases hb
    exact ⟨_, setβ_same _ _ _ _, by simp⟩

theorem ofC_rel (D : Rom) {v : Value} (h : cellB (ofC v) = true) : PRel D (ofC v) v := by
  unfold ofC at *
  split at h <;> first | constructor | (simp [cellB] at h)

theorem ofCs_length (l : List Value) : (ofCs l).length = l.length := by
  induction l with
  | nil => rfl
  | cons v r ih => simp [ofCs, ih]

theorem ofCs_rel (D : Rom) : ∀ (l : List Value), allB cellB (ofCs l) = true → ∀ (i : Nat) (s : SV) (v : Value), (ofCs l)[i]? = some s → l[i]? = some v → PRel D s v
  | [], _, i, s, v, hs, _ => by simp [ofCs] at hs
  | a :: r, h, i, s, v, hs, hv => by
    simp only [ofCs, allB, Bool.and_eq_true] at h
    cases i with
    | zero => simp [ofCs] at hs hv; subst hs; subst hv; exact ofC_rel D h.1
    | succ i => exact ofCs_rel D r h.2 i s v (by simpa [ofCs] using hs) (by simpa using hv)

theorem zeroK_sound {t : TypeId} {k : List SV → Prop} (D : Rom) (h : zeroK P t k) : ∃ i z, P.info? t = some i ∧ i.zero = some z ∧ k (ofCs z.cells.toList) ∧ z.cells.toList.length = (ofCs z.cells.toList).length ∧ allB cellB (ofCs z.cells.toList) = true ∧
    ∀ (i : Nat) (s : SV) (v : Value), (ofCs z.cells.toList)[i]? = some s → z.cells.toList[i]? = some v → PRel D s v := by
  unfold zeroK at h
  cases hi : P.info? t with
  | none => simp [hi] at h
  | some i =>
    simp only [hi] at h
    cases hz : i.zero with
    | none => simp [hz] at h
    | some z =>
      simp only [hz] at h
      obtain ⟨hall, h⟩ := ifB_true h
      exact ⟨i, z, rfl, hz, h, (ofCs_length _).symm, hall, ofCs_rel D _ hall⟩

theorem alloc_sound (hm : Mem G E F w) {t : TypeId} {d : Nat} (h : zeroK P t fun cs => R (.lptr d (E.ct d) 0 0) [⟨d, ⟨E.ct d, 0, cs.length, [cs]⟩, true⟩]) : GoodV G F E R ((Instr.alloc t true (.tuple #[])).run P w) := by
  obtain ⟨i, z, hi, hz, h1, h2, _, h3⟩ := zeroK_sound E.D h
  have hrun : (Instr.alloc t true (.tuple #[])).run P w = .ok (.pointer (some ⟨w.heap.size, 0, none⟩)) { w with heap := w.heap.push (.cells z.cells t) } := by
    simp [Instr.alloc, zeroValue, typeInfo, hi, hz, newVar, newRow]
  rw [hrun]
  exact newVar_sound hm d (by simpa using h2) (fun i s v hs hv => Rel0.of_pure (h3 i s v hs hv)) h1

theorem box_sound (hm : Mem G E F w) {t : TypeId} {d : Nat} {s : SV} {x : Value} (hr : Rel E s x) (h : cellsK s fun cs => R (.lptr d (E.ct d) 0 0) [⟨d, ⟨E.ct d, 0, cs.length, [cs]⟩, true⟩]) : GoodV G F E R ((Instr.box t x).run P w) := by
  obtain ⟨cs, h1, h2, h3⟩ := cellsK_sound h hr
  have hrun : (Instr.box t x).run P w = .ok (.pointer (some ⟨w.heap.size, 0, none⟩)) { w with heap := w.heap.push (.cells x.cells t) } := by
    simp [Instr.box, newVar, newRow]
  rw [hrun]
  exact newVar_sound hm d h2 h3 h1

/-! ### Stores -/
theorem spliceK_spec : ∀ {j : Nat} {cs e : List SV} {k : List SV → Prop}, spliceK j cs e k → j + cs.length ≤ e.length ∧ k (e.take j ++ cs ++ e.drop (j + cs.length))
  | 0, [], e, k, h => ⟨by simp, by simpa [spliceK] using h⟩
  | 0, c :: cs, x :: e, k, h => by
    obtain ⟨h1, h2⟩ := spliceK_spec (k := fun l => k (c :: l)) (h : spliceK 0 cs e _)
    refine ⟨by simp at h1 ⊢; omega, ?_⟩
    simpa using h2
  | 0, _ :: _, [], k, h => h.elim
  | j + 1, cs, x :: e, k, h => by
    obtain ⟨h1, h2⟩ := spliceK_spec (k := fun l => k (x :: l)) (h : spliceK j cs e _)
    refine ⟨by simp; omega, ?_⟩
    have e1 : j + 1 + cs.length = (j + cs.length) + 1 := by omega
    rw [e1]
    simpa using h2
  | _ + 1, _, [], k, h => h.elim

theorem splice_get {α : Type} {l : List α} {a : Nat} {cs : List α} (h : a + cs.length ≤ l.length) (i : Nat) : (l.take a ++ cs ++ l.drop (a + cs.length))[i]? = if a ≤ i ∧ i < a + cs.length then cs[i - a]? else l[i]? := by
  have hl : (l.take a).length = a := by rw [List.length_take]; omega
  rw [List.append_assoc]
  by_cases h1 : i < a
  · rw [List.getElem?_append_left (by omega), List.getElem?_take, if_pos h1, if_neg (by omega)]
  · rw [List.getElem?_append_right (by omega), hl]
    by_cases h2 : i < a + cs.length
    · rw [List.getElem?_append_left (by omega), if_pos ⟨by omega, h2⟩]
    · rw [List.getElem?_append_right (by omega), if_neg (by omega), List.getElem?_drop]
      congr 1
      omega

/-- Where an element's cell lies: not in another element's cells. -/
theorem row_index {z i i' j j' : Nat} (hj : j < z) (hj' : j' < z) (h : i * z + j = i' * z + j') : i = i' ∧ j = j' := by
  rcases Nat.lt_trichotomy i i' with h1 | h1 | h1
  · have := Nat.mul_le_mul_right z (show i + 1 ≤ i' from h1)
    rw [Nat.add_mul] at this
    omega
  · subst h1; exact ⟨rfl, by omega⟩
  · have := Nat.mul_le_mul_right z (show i' + 1 ≤ i from h1)
    rw [Nat.add_mul] at this
    omega

theorem store_run {t : TypeId} {q : Nat × Nat} {off : Nat} {x : Value} {i : TypeInfo} {c : Array Value} {ty : TypeId} (hi : P.info? t = some i) (hl : x.cells.toList.length = i.size) (hc : w.heap[q.1]? = some (.cells c ty (0, 0))) (hfit : off + x.cells.toList.length ≤ c.size) (h1 : ∀ v ∈ x.cells.toList, v.oneCell' = true) :
    (Instr.storeAt t (.pointer (some ⟨q.1, off, none⟩)) x).run P w = .ok () (w.setRow q.1 (c.toList.take off ++ x.cells.toList ++ c.toList.drop (off + x.cells.toList.length)).toArray) := by
  have hs := run_storeCells_at P q.1 off ty x.cells.toList 0 c w hc (by simpa using hfit) h1
  simp only [Nat.add_zero] at hs
  have hl' : x.cells.size = i.size := by simpa using hl
  simp [Instr.storeAt, Instr.sureAddr, storeVar, run_sizeOf hi, hl', hs]

theorem setRow_other' (w : World) (g k : Nat) (c : Array Value) (h : k ≠ g) : (w.setRow g c).heap[k]? = w.heap[k]? := setRow_other w g k c h

/-- Cells of one element written. -/
theorem put_cells (hm : Mem G E F w) {o st kd z : Nat} {xs : List (List SV)} (hb : E.ob o = some ⟨st, kd, z, xs⟩) (hkd : kd < 2) {q : Nat × Nat} (hq : E.β o st = some q) {i j : Nat} {e : List SV} (he : xs[i]? = some e) {cs : List SV} {vs : List Value}
    (hj : j + cs.length ≤ e.length) (hl : vs.length = cs.length) (hc : ∀ (i : Nat) (s : SV) (v : Value), cs[i]? = some s → vs[i]? = some v → Rel0 E s v ∧ (kd = 1 → PRel E.D s v)) :
    ∃ c ty, w.heap[q.1]? = some (.cells c ty (0, 0)) ∧ i * z + j + vs.length ≤ c.size ∧
      Mem G (E.put o ⟨st, kd, z, xs.set i (e.take j ++ cs ++ e.drop (j + cs.length))⟩ (some q) (E.ct o)) F (w.setRow q.1 (c.toList.take (i * z + j) ++ vs ++ c.toList.drop (i * z + j + vs.length)).toArray) ∧
      Env.le E (E.put o ⟨st, kd, z, xs.set i (e.take j ++ cs ++ e.drop (j + cs.length))⟩ (some q) (E.ct o)) := by
  have ho := hm.own o _ hb
  obtain ⟨h1, h2, c, ty, h3, h4, h5⟩ := ho.live hkd q hq
  have hez : e.length = z := ho.len i e he
  have hilt : i < xs.length := (List.getElem?_eq_some_iff.1 he).1
  have hrow : i * z + z ≤ c.size := by
    have := ho.fits q hq
    have h6 := Nat.mul_le_mul_right z (show i + 1 ≤ xs.length from hilt)
    rw [Nat.add_mul] at h6
    simp only at this
    omega
  have hfit : i * z + j + vs.length ≤ c.size := by omega
  have hst : st < E.ct o → (∃ b0, E.ob o = some b0 ∧ b0.st = st ∧ b0.z = z ∧ b0.xs.length = (xs.set i (e.take j ++ cs ++ e.drop (j + cs.length))).length) ∧ E.β o st = some q := fun _ => ⟨⟨_, hb, rfl, rfl, by simp⟩, hq⟩
  have hle := Env.put_le (E := E) (o := o) (b := ⟨st, kd, z, xs.set i (e.take j ++ cs ++ e.drop (j + cs.length))⟩) (p := some q) (Nat.le_refl _) hst
  refine ⟨c, ty, h3, hfit, Mem.put hm (Nat.le_refl _) hst rfl rfl rfl (fun k hk => .inl (setRow_other' w q.1 k _ (hk q rfl))) (fun q' hq' => ?_) ?_, hle⟩
  · cases hq'
    exact ⟨h1, h2, fun o' b' x hne hb' hk' hx he' => hne (hm.inj o' o b' _ x q hb' hb hk' hkd hx hq he')⟩
  · have hβ : (E.put o ⟨st, kd, z, xs.set i (e.take j ++ cs ++ e.drop (j + cs.length))⟩ (some q) (E.ct o)).β o st = some q := setβ_same _ _ _ _
    have hsp : ∀ k, (e.take j ++ cs ++ e.drop (j + cs.length))[k]? = if j ≤ k ∧ k < j + cs.length then cs[k - j]? else e[k]? := splice_get hj
    have hspl : (e.take j ++ cs ++ e.drop (j + cs.length)).length = z := by
      simp only [List.length_append, List.length_take, List.length_drop]
      omega
    refine ⟨?_, fun k e' hk => ?_, fun h => ?_, fun q' hq' => ?_, fun _ q' hq' => ?_, fun h => absurd h (by simp; omega)⟩
    · show st < upd E.ct o (E.ct o) o
      rw [upd_same]; exact ho.st
    · replace hk : (xs.set i (e.take j ++ cs ++ e.drop (j + cs.length)))[k]? = some e' := hk
      rw [List.getElem?_set] at hk
      split at hk
      · cases hk; exact hspl
      · exact ho.len k e' hk
    · rw [hβ] at h; cases h
    · rw [hβ] at hq'; cases hq'
      show (xs.set i _).length * z ≤ q.2
      rw [List.length_set]
      exact ho.fits q hq
    · rw [hβ] at hq'
      cases hq'
      refine ⟨h1, h2, _, ty, setRow_heap w q.1 c _ ty _ h3, ?_, fun k j' e' s hk hs => ?_⟩
      · simp only [List.size_toArray, List.length_append, List.length_take, List.length_drop, Array.length_toList]
        omega
      · replace hk : (xs.set i (e.take j ++ cs ++ e.drop (j + cs.length)))[k]? = some e' := hk
        show ∃ v, (c.toList.take (i * z + j) ++ vs ++ c.toList.drop (i * z + j + vs.length)).toArray[k * z + j']? = some v ∧ _
        simp only [List.getElem?_toArray]
        rw [splice_get (by simpa using hfit)]
        rw [List.getElem?_set] at hk
        by_cases hki : i = k
        · subst hki
          rw [if_pos rfl, if_pos hilt] at hk
          cases hk
          rw [hsp] at hs
          by_cases hin : j ≤ j' ∧ j' < j + cs.length
          · rw [if_pos hin] at hs
            obtain ⟨v, hv⟩ : ∃ v, vs[j' - j]? = some v := ⟨_, List.getElem?_eq_getElem (by omega)⟩
            refine ⟨v, ?_, (hc _ s v hs hv).1.mono hle, (hc _ s v hs hv).2⟩
            rw [if_pos (by omega), ← hv]
            congr 1
            omega
          · rw [if_neg hin] at hs
            obtain ⟨v, g1, g2, g3⟩ := h5 i j' e s he hs
            refine ⟨v, ?_, g2.mono hle, g3⟩
            rw [if_neg (by omega)]
            simpa using g1
        · rw [if_neg hki] at hk
          obtain ⟨v, g1, g2, g3⟩ := h5 k j' e' s hk hs
          refine ⟨v, ?_, g2.mono hle, g3⟩
          have hj' : j' < z := by
            have := (List.getElem?_eq_some_iff.1 hs).1
            have := ho.len k e' hk
            simp only at this
            omega
          rw [if_neg]
          · simpa using g1
          · rintro ⟨a1, a2⟩
            have := row_index (z := z) (i := i) (i' := k) (j := k * z + j' - i * z) (j' := j') (by omega) hj' (by omega)
            exact hki this.1

def GoodU (G : Nat → List SV) (F : Nat → Option Obj) (E : Env) (R : SV → List Upd → Prop) (r : Result Unit) : Prop :=
  ∃ us w' D' β', R .undef us ∧ r = .ok () w' ∧ Mem G (E.upd D' β' us) F w' ∧ Env.le E (E.upd D' β' us)

theorem GoodU.toGood {s : Sem Unit} (h : GoodU G F E R (s.run P w)) : Good G F E R ((do s; pure Next.skip : Sem Next).run P w) := by
  obtain ⟨us, w', D', β', h1, h2, h3⟩ := h
  exact ⟨.undef, us, undef, w', D', β', h1, .inr ⟨by simp [h2], rfl⟩, rfl, h3⟩

theorem upd_ct_self (E : Env) (o : Nat) : upd E.ct o (E.ct o) = E.ct := upd_self E.ct o

theorem store_sound (hm : Mem G E F w) {t : TypeId} {s y : SV} {x u : Value}
    (h : match s with
      | .lptr o' st i j => match E.ob o' with
        | some ⟨st', kd, z, xs⟩ => st = st' ∧ cellsK y fun cs => sizeK P t fun n => ifB (lenIs cs n) (match kd with
          | 0 => i = 0 ∧ match xs with
            | [e] => spliceK j cs e fun e' => R .undef [⟨o', ⟨st', 0, z, [e']⟩, false⟩]
            | _ => False
          | 1 => ifB (allB pureB cs) (∃ e, xs[i]? = some e ∧ spliceK j cs e fun e' => R .undef [⟨o', ⟨st', 1, z, xs.set i e'⟩, false⟩]) False
          | _ => False) False
        | none => False
      | _ => False) (hr : Rel E s x) (hy : Rel E y u) : GoodU G F E R ((Instr.storeAt t x u).run P w) := by
  cases s with
  | lptr o' st i j =>
    cases hb : E.ob o' with
    | none => simp [hb] at h
    | some b =>
      obtain ⟨st', kd, z, xs⟩ := b
      simp only [hb] at h
      obtain ⟨rfl, h⟩ := h
      obtain ⟨cs, h, hl, hc⟩ := cellsK_sound h hy
      obtain ⟨ti, hi, h⟩ := sizeK_spec h
      obtain ⟨hn, h⟩ := ifB_true h
      have hn := lenIs_spec hn
      obtain ⟨q, hq, rfl⟩ := hr.2.2 _ hb rfl
      have fin : ∀ (kd : Nat) (e : List SV), E.ob o' = some ⟨st, kd, z, xs⟩ → kd < 2 → xs[i]? = some e → j + cs.length ≤ e.length → (kd = 1 → ∀ s ∈ cs, pureB s = true) →
          R .undef [⟨o', ⟨st, kd, z, xs.set i (e.take j ++ cs ++ e.drop (j + cs.length))⟩, false⟩] → GoodU G F E R ((Instr.storeAt t (.pointer (some ⟨q.1, i * z + j, none⟩)) u).run P w) := fun kd e hb hkd he hj hp hR => by
        obtain ⟨c, ty, h1, h2, h3, h4⟩ := put_cells hm hb hkd hq he (cs := cs) (vs := u.cells.toList) hj hl (fun i s v hs hv => ⟨hc i s v hs hv, fun hk => (hc i s v hs hv).pure (hp hk s (List.mem_of_getElem? hs))⟩)
        rw [store_run hi (by rw [hl, hn]) h1 h2 (oneCells hl hc)]
        refine ⟨_, _, E.D, setβ E.β o' st (some q), hR, rfl, ?_, ?_⟩
        · unfold Env.put at h3; rw [upd_ct_self] at h3; exact h3
        · unfold Env.put at h4; rw [upd_ct_self] at h4; exact h4
      match kd, h, hb with
      | 0, h, hb =>
        obtain ⟨rfl, hh⟩ := h
        match xs, hh, hb, fin with
        | [e], hh, hb, fin =>
          obtain ⟨g1, g2⟩ := spliceK_spec hh
          exact fin 0 e hb (by omega) rfl g1 (fun h => by cases h) g2
      | 1, h, hb =>
        obtain ⟨hp, e, he, hh⟩ := ifB_true h
        obtain ⟨g1, g2⟩ := spliceK_spec hh
        exact fin 1 e hb (by omega) he g1 (fun _ => allB_spec hp) g2
  | _ => exact h.elim
end
end Go.Proofs.Yticandbdabgkeaa.Am
