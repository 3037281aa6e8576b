/- What single operations come to: makes, comparisons. No condition: lemmas. -/
import Derived.Test.YticandbdabgkeaaAmB8
namespace Go.Proofs.Yticandbdabgkeaa.Am
open Go

section
variable {P : Program} {G : Nat → List SV} {F : Nat → Option Obj} {E : Env} {R : SV → List Upd → Prop} {w : World}

theorem makeSlice_sound (hm : Mem G E F w) {t el : TypeId} {d : Nat} {n : Int} (hu : P.underlying t = some (.slice el))
    (h : zeroK P el fun zs => sizeK P el fun z => lenIs zs z = true ∧ 0 ≤ n ∧ n * 4096 ≤ 140737488355328 ∧
      (match P.info? el with | some i => i.bytes ≤ 4096 | none => False) ∧ R (.lrow d (E.ct d)) [⟨d, ⟨E.ct d, 1, z, List.replicate n.toNat zs⟩, true⟩]) :
    GoodV G F E R ((Instr.makeSlice t (.int .i64 n) (.int .i64 n)).run P w) := by
  obtain ⟨i, z, hi, hz, h, hl, _, hrel⟩ := zeroK_sound E.D h
  obtain ⟨i', hi', hln, h0, hb, hby, hR⟩ := sizeK_spec h
  rw [hi] at hi' hby
  cases hi'
  have hln := lenIs_spec hln
  replace hby : i.bytes ≤ 4096 := hby
  have hw : IntKind.i64.wrap n = n := wrap_in (by simp [IntKind.min, IntKind.signed, IntKind.bits]; omega) (by simp [IntKind.max, IntKind.signed, IntKind.bits]; omega)
  have hbn : ¬ (281474976710656 < (i.bytes : Int) * n) := by
    have h1 : (i.bytes : Int) * n ≤ 4096 * n := Int.mul_le_mul_of_nonneg_right (by omega) h0
    omega
  have hrow := replicate_row (len := n.toNat) (z := z.cells) hln (by rw [hl]; exact hln) hrel
  have hrun : (Instr.makeSlice t (.int .i64 n) (.int .i64 n)).run P w = .ok (.slice (some ⟨w.heap.size, 0, none⟩) n.toNat n.toNat) { w with heap := w.heap.push (.cells ((Array.range (n.toNat * i.size)).map (z.cells[· % z.cells.size]!)) el) } := by
    have hn0 : ¬ (n < 0) := by omega
    by_cases hz0 : n.toNat * i.size = 0
    · have hc0 : ((Array.range (n.toNat * i.size)).map (z.cells[· % z.cells.size]!)) = #[] := by rw [hz0]; simp
      rw [hc0]
      simp [Instr.makeSlice, run_underlying hu, asInt, asIntOf, typeInfo, hi, hw, hn0, hbn, sizeOf, newRow, hz0, Go.Array.range_zero']
    · simp [Instr.makeSlice, run_underlying hu, asInt, asIntOf, typeInfo, hi, hw, hn0, hbn, sizeOf, newRow, zeroValue, hz]
      exact fun h => absurd h hz0
  rw [hrun]
  obtain ⟨g1, g2, g3⟩ := newRow_sound (len := n.toNat) (cap := n.toNat) (ty := el) hm d hrow (by simp)
  exact ⟨_, _, _, _, E.D, _, hR, rfl, g3 rfl, g1, g2⟩

/-! ### Comparing structs -/
def eqV : List Nat → List Value → List Value → Option Bool
  | [], [], [] => some true
  | 0 :: l, .int k a :: vs, .int k' b :: us => if k = k' then (eqV l vs us).map fun r => (a == b) && r else none
  | 1 :: l, .bool a :: vs, .bool b :: us => (eqV l vs us).map fun r => (a == b) && r
  | 2 :: l, .string a :: vs, .string b :: us => (eqV l vs us).map fun r => (a.toList == b.toList) && r
  | _, _, _ => none

theorem eqV_length : ∀ {l : List Nat} {vs us : List Value} {r : Bool}, eqV l vs us = some r → vs.length = l.length ∧ us.length = l.length
  | [], [], [], _, _ => ⟨rfl, rfl⟩
  | n :: l, v :: vs, u :: us, r, h => by
    have : ∃ r', eqV l vs us = some r' := by
      unfold eqV at h
      split at h
      · simp at *
      · rename_i e1 e2 e3
        cases e1; cases e2; cases e3
        split at h
        · cases hr : eqV l vs us with
          | none => simp [hr] at h
          | some r' => exact ⟨r', rfl⟩
        · cases h
      · rename_i e1 e2 e3
        cases e1; cases e2; cases e3
        cases hr : eqV l vs us with
        | none => simp [hr] at h
        | some r' => exact ⟨r', rfl⟩
      · rename_i e1 e2 e3
        cases e1; cases e2; cases e3
        cases hr : eqV l vs us with
        | none => simp [hr] at h
        | some r' => exact ⟨r', rfl⟩
      · cases h
    obtain ⟨r', hr'⟩ := this
    obtain ⟨h1, h2⟩ := eqV_length hr'
    simp [h1, h2]
  | [], [], _ :: _, _, h => by simp [eqV] at h
  | [], _ :: _, _, _, h => by simp [eqV] at h
  | _ :: _, [], _, _, h => by simp [eqV] at h
  | _ :: _, _ :: _, [], _, h => by simp [eqV] at h

theorem eqV_cons {n : Nat} {l : List Nat} {v u : Value} {vs us : List Value} {r : Bool} (h : eqV (n :: l) (v :: vs) (u :: us) = some r) : ∃ r1 r2, eqV [n] [v] [u] = some r1 ∧ eqV l vs us = some r2 ∧ r = (r1 && r2) := by
  unfold eqV at h
  split at h
  · rename_i e1 _ _; cases e1
  · rename_i e1 e2 e3
    cases e1; cases e2; cases e3
    split at h
    · rename_i hk
      cases hr : eqV l vs us with
      | none => simp [hr] at h
      | some r' => rw [hr] at h; simp at h; exact ⟨_, r', by simp [eqV, hk], rfl, h.symm⟩
    · cases h
  · rename_i e1 e2 e3
    cases e1; cases e2; cases e3
    cases hr : eqV l vs us with
    | none => simp [hr] at h
    | some r' => rw [hr] at h; simp at h; exact ⟨_, r', by simp [eqV], rfl, h.symm⟩
  · rename_i e1 e2 e3
    cases e1; cases e2; cases e3
    cases hr : eqV l vs us with
    | none => simp [hr] at h
    | some r' => rw [hr] at h; simp at h; exact ⟨_, r', by simp [eqV], rfl, h.symm⟩
  · cases h

theorem eqV_put {n : Nat} {l : List Nat} {v u : Value} {vs us : List Value} {r1 r2 : Bool} (h1 : eqV [n] [v] [u] = some r1) (h2 : eqV l vs us = some r2) : eqV (n :: l) (v :: vs) (u :: us) = some (r1 && r2) := by
  unfold eqV at h1
  split at h1
  · rename_i e1 _ _; cases e1
  · rename_i e1 e2 e3
    cases e1; cases e2; cases e3
    split at h1
    · rename_i hk; simp [eqV] at h1; subst h1; simp [eqV, hk, h2]
    · cases h1
  · rename_i e1 e2 e3
    cases e1; cases e2; cases e3
    simp [eqV] at h1; subst h1; simp [eqV, h2]
  · rename_i e1 e2 e3
    cases e1; cases e2; cases e3
    simp [eqV] at h1; subst h1; simp [eqV, h2]
  · cases h1

theorem eqV_append : ∀ (l m : List Nat) (vs us : List Value) (r : Bool), eqV (l ++ m) vs us = some r → ∃ r1 r2, eqV l (vs.take l.length) (us.take l.length) = some r1 ∧ eqV m (vs.drop l.length) (us.drop l.length) = some r2 ∧ r = (r1 && r2)
  | [], m, vs, us, r, h => ⟨true, r, by simp [eqV], by simpa using h, by simp⟩
  | n :: l, m, vs, us, r, h => by
    obtain ⟨hl1, hl2⟩ := eqV_length h
    cases vs with
    | nil => simp at hl1
    | cons v vs =>
      cases us with
      | nil => simp at hl2
      | cons u us =>
        obtain ⟨a, b, h1, h2, rfl⟩ := eqV_cons h
        obtain ⟨c, d, h3, h4, rfl⟩ := eqV_append l m vs us b h2
        exact ⟨a && c, d, by simpa using eqV_put h1 h3, by simpa using h4, by cases a <;> rfl⟩

theorem leavesF_prefix {lv : TypeId → Option (List Nat)} : ∀ (fs : List Field) (acc L : List Nat), leavesF lv fs acc = some L → ∃ m, L = acc ++ m
  | [], acc, L, h => ⟨[], by simp [leavesF] at h; simp [h]⟩
  | f :: r, acc, L, h => by
    simp only [leavesF] at h
    split at h
    · split at h
      · obtain ⟨m, rfl⟩ := leavesF_prefix r _ L h
        exact ⟨_, by rw [List.append_assoc]⟩
      · cases h
    · cases h

def flatB (P : Program) (t : TypeId) : Bool := match P.underlying t with | some (.struct _) => true | _ => false
/-- The cells of a value of type t. -/
def Flat (P : Program) (t : TypeId) (x : Value) (vs : List Value) : Prop := if flatB P t = true then x = .agg vs.toArray else vs = [x]

theorem leaves_size {n : Nat} {t : TypeId} {l : List Nat} (h : leaves P n t = some l) : (flatB P t = true → (∀ w, (isAgg t).run P w = .ok true w) ∧ ∃ i, P.info? t = some i ∧ i.size = l.length) ∧ (flatB P t = false → (∀ w, (isAgg t).run P w = .ok false w) ∧ l.length = 1) := by
  cases n with
  | zero => cases h
  | succ n =>
    unfold leaves at h
    unfold flatB
    cases hu : P.underlying t with
    | none => simp [hu] at h
    | some d =>
      cases d <;> simp only [hu] at h <;> try (cases h; done)
      case bool => cases h; exact ⟨fun h => by simp at h, fun _ => ⟨run_isAgg_false hu rfl, rfl⟩⟩
      case int k => cases h; exact ⟨fun h => by simp at h, fun _ => ⟨run_isAgg_false hu rfl, rfl⟩⟩
      case string => cases h; exact ⟨fun h => by simp at h, fun _ => ⟨run_isAgg_false hu rfl, rfl⟩⟩
      case struct fs =>
        refine ⟨fun _ => ⟨run_isAgg_true hu rfl, ?_⟩, fun h => by simp at h⟩
        split at h
        · rename_i i l' hi hl'
          split at h
          · rename_i hb
            cases h
            exact ⟨i, hi, Nat.eq_of_beq_eq_true hb⟩
          · cases h
        · cases h

theorem part_flat {t : TypeId} {n : Nat} {l : List Nat} (h : leaves P n t = some l) (vs : List Value) (off : Nat) (hfit : off + l.length ≤ vs.length) : ∃ x, (part t vs.toArray off).run P w = .ok x w ∧ Flat P t x ((vs.drop off).take l.length) := by
  obtain ⟨h1, h2⟩ := leaves_size h
  unfold Flat
  cases hb : flatB P t with
  | true =>
    obtain ⟨ha, i, hi, hs⟩ := h1 hb
    refine ⟨.agg (vs.toArray.extract off (off + i.size)), by simp [part, ha, run_sizeOf hi], ?_⟩
    rw [if_pos rfl]
    congr 1
    apply Array.ext'
    simp [List.extract_eq_take_drop, hs]
  | false =>
    obtain ⟨ha, hl⟩ := h2 hb
    have hlt : off < vs.length := by omega
    refine ⟨vs[off], by simp [part, ha, hlt], ?_⟩
    rw [if_neg (by simp), hl, List.drop_eq_getElem_cons hlt]
    rfl

theorem eqFields_run {n d : Nat} (ih : ∀ (t : TypeId) (l : List Nat), leaves P n t = some l → eqOk P n t = true → ∀ (x y : Value) (vs us : List Value) (r : Bool), Flat P t x vs → Flat P t y us → eqV l vs us = some r → (Op.equalIn d t x y).run P w = .ok r w) (vs us : List Value) :
    ∀ (fs : List Field) (acc L : List Nat) (r : Bool), leavesF (leaves P n) fs acc = some L → (∀ f ∈ fs, (f.name != "_" && eqOk P n f.type) = true) → vs.length = L.length → us.length = L.length →
      eqV (L.drop acc.length) (vs.drop acc.length) (us.drop acc.length) = some r → (Op.eqFields d vs.toArray us.toArray fs).run P w = .ok r w
  | [], acc, L, r, h, _, hv, hu, he => by
    simp only [leavesF, Option.some.injEq] at h
    subst h
    rw [List.drop_length, List.drop_of_length_le (by omega), List.drop_of_length_le (by omega)] at he
    simp [eqV] at he
    simp [Op.eqFields, he]
  | f :: fs, acc, L, r, h, hall, hv, hu, he => by
    simp only [leavesF] at h
    split at h
    · rename_i hoff
      have hoff := Nat.eq_of_beq_eq_true hoff
      split at h
      · rename_i l hl
        obtain ⟨m, hm⟩ := leavesF_prefix fs _ L h
        have hf := hall f (by simp)
        simp only [Bool.and_eq_true, bne_iff_ne, ne_eq] at hf
        have hLd : L.drop acc.length = l ++ m := by rw [hm, List.append_assoc, List.drop_left]
        have hLl : L.length = acc.length + l.length + m.length := by rw [hm]; simp [Nat.add_assoc]
        rw [hLd] at he
        obtain ⟨r1, r2, h1, h2, rfl⟩ := eqV_append l m _ _ r he
        obtain ⟨x, hx1, hx2⟩ := part_flat (w := w) hl vs f.offset (by omega)
        obtain ⟨y, hy1, hy2⟩ := part_flat (w := w) hl us f.offset (by omega)
        have hfst := ih f.type l hl hf.2 x y _ _ r1 hx2 hy2 (by rw [hoff]; exact h1)
        have hrest := eqFields_run ih vs us fs (acc ++ l) L r2 h (fun g hg => hall g (by simp [hg])) hv hu (by
          rw [List.drop_drop, List.drop_drop] at h2
          rw [List.length_append, hm, ← List.length_append, List.drop_left, List.length_append]
          exact h2)
        simp only [Op.eqFields, ne_eq, hf.1, not_false_eq_true, if_true, Sem.run_bind, hx1, hy1, hfst, Result.andThen_ok]
        cases r1 with
        | true => simpa using hrest
        | false => simp
      · cases h
    · cases h

theorem eqV_int {x y : Value} {r : Bool} (h : eqV [0] [x] [y] = some r) : ∃ k a b, x = .int k a ∧ y = .int k b ∧ r = (a == b) := by
  unfold eqV at h
  split at h
  · rename_i e1 _ _; cases e1
  · rename_i e1 e2 e3
    cases e1; cases e2; cases e3
    split at h
    · rename_i hk; subst hk; simp [eqV] at h; exact ⟨_, _, _, rfl, rfl, h.symm⟩
    · cases h
  · rename_i e1 _ _; cases e1
  · rename_i e1 _ _; cases e1
  · cases h
theorem eqV_bool {x y : Value} {r : Bool} (h : eqV [1] [x] [y] = some r) : ∃ a b, x = .bool a ∧ y = .bool b ∧ r = (a == b) := by
  unfold eqV at h
  split at h
  · rename_i e1 _ _; cases e1
  · rename_i e1 _ _; cases e1
  · rename_i e1 e2 e3
    cases e1; cases e2; cases e3
    simp [eqV] at h; exact ⟨_, _, rfl, rfl, h.symm⟩
  · rename_i e1 _ _; cases e1
  · cases h
theorem eqV_str {x y : Value} {r : Bool} (h : eqV [2] [x] [y] = some r) : ∃ a b, x = .string a ∧ y = .string b ∧ r = (a.toList == b.toList) := by
  unfold eqV at h
  split at h
  · rename_i e1 _ _; cases e1
  · rename_i e1 _ _; cases e1
  · rename_i e1 _ _; cases e1
  · rename_i e1 e2 e3
    cases e1; cases e2; cases e3
    simp [eqV] at h; exact ⟨_, _, rfl, rfl, h.symm⟩
  · cases h

theorem equalIn_run : ∀ (n d : Nat) (t : TypeId) (l : List Nat), n ≤ d → leaves P n t = some l → eqOk P n t = true → ∀ (x y : Value) (vs us : List Value) (r : Bool), Flat P t x vs → Flat P t y us → eqV l vs us = some r → (Op.equalIn d t x y).run P w = .ok r w
  | 0, _, _, _, _, h, _, _, _, _, _, _, _, _, _ => by cases h
  | n + 1, 0, _, _, hd, _, _, _, _, _, _, _, _, _, _ => by omega
  | n + 1, d + 1, t, l, hd, h, hok, x, y, vs, us, r, hx, hy, he => by
    unfold leaves at h
    unfold eqOk at hok
    unfold Flat flatB at hx hy
    cases hu : P.underlying t with
    | none => simp [hu] at h
    | some dd =>
      cases dd <;> simp only [hu] at h hx hy hok <;> try (cases h; done)
      case int k =>
        cases h
        simp at hx hy
        subst hx; subst hy
        obtain ⟨k', p, q, rfl, rfl, rfl⟩ := eqV_int he
        exact run_equalIn_int w d t _ _ _ _ hu
      case bool =>
        cases h
        simp at hx hy
        subst hx; subst hy
        obtain ⟨p, q, rfl, rfl, rfl⟩ := eqV_bool he
        exact run_equalIn_bool' w d t _ _ hu
      case string =>
        cases h
        simp at hx hy
        subst hx; subst hy
        obtain ⟨p, q, rfl, rfl, rfl⟩ := eqV_str he
        exact run_equalIn_string w d t _ _ hu
      case struct fs =>
        simp at hx hy
        subst hx; subst hy
        simp only [Bool.and_eq_true, Bool.not_eq_true'] at hok
        have hf : P.fieldsOf t = fs := by simp [Program.fieldsOf, hu]
        split at h
        · rename_i i l' hi hl'
          split at h
          · cases h
            obtain ⟨hv, hu'⟩ := eqV_length he
            have hgo := eqFields_run (w := w) (n := n) (d := d) (fun t l h1 h2 x y vs us r => equalIn_run n d t l (by omega) h1 h2 x y vs us r) vs us fs.toList [] l r hl' (by
              have := hok.2
              rw [List.all_eq_true] at this
              exact fun f hf => this f hf) hv hu' (by simpa using he)
            rw [run_equalIn_struct w d t _ _ (by rw [hf]; exact hu) hok.1, hf]
            exact hgo
          · cases h
        · cases h

theorem guard_none : ∀ (n d : Nat) (t : TypeId) (l : List Nat), n ≤ d → leaves P n t = some l → P.eqGuardType d t = false
  | 0, _, _, _, _, h => by cases h
  | n + 1, 0, _, _, hd, _ => by omega
  | n + 1, d + 1, t, l, hd, h => by
    unfold leaves at h
    unfold Go.Program.eqGuardType
    cases hu : P.underlying t with
    | none => simp [hu] at h
    | some dd =>
      cases dd <;> simp only [hu] at h <;> try (first | rfl | (cases h; done))
      case struct fs =>
        split at h
        · rename_i i l' hi hl'
          have key : ∀ (fs : List Field) (acc L : List Nat), leavesF (leaves P n) fs acc = some L → ∀ f ∈ fs, P.eqGuardType d f.type = false := by
            intro fs
            induction fs with
            | nil => intro _ _ _ f hf; cases hf
            | cons g r ih =>
              intro acc L h f hf
              simp only [leavesF] at h
              split at h
              · split at h
                · rename_i l2 hl2
                  rcases List.mem_cons.1 hf with rfl | hf
                  · exact guard_none n d f.type l2 (by omega) hl2
                  · exact ih _ _ h f hf
                · cases h
              · cases h
          have hk := key fs.toList [] l' hl'
          show (fs.any fun f => f.name != "_" && P.eqGuardType d f.type) = false
          rw [Array.any_eq_false]
          intro k hlt
          have := hk fs[k] (by simp)
          simp [this]
        · cases h

def Leaf (n : Nat) (a b : SV) (q : Bool) : Prop :=
  (∃ j x y, a = .int j x ∧ b = .int j y ∧ n = 0 ∧ q = decide (x = y)) ∨ (∃ x y, a = .bool x ∧ b = .bool y ∧ n = 1 ∧ q = (x == y)) ∨ (∃ x y, a = .str x ∧ b = .str y ∧ n = 2 ∧ q = decide (x = y))

theorem eqK_cons {n : Nat} {l : List Nat} {cs ds : List SV} {k : Bool → Prop} (h : eqK (n :: l) cs ds k) :
    ∃ a r b s q, cs = a :: r ∧ ds = b :: s ∧ Leaf n a b q ∧ ((l = [] ∧ r = [] ∧ s = [] ∧ k q) ∨ eqK l r s fun x => k (q && x)) := by
  unfold eqK at h
  split at h
  · simp at *
  · rename_i e1
    cases e1
    obtain ⟨hj, hh⟩ := ifB_true h
    obtain rfl := kEq_spec hj
    refine ⟨_, _, _, _, _, rfl, rfl, .inl ⟨_, _, _, rfl, rfl, rfl, rfl⟩, ?_⟩
    split at hh
    · split at hh
      · exact .inl ⟨rfl, rfl, rfl, hh⟩
      · exact hh.elim
    · exact .inr hh
  · rename_i e1
    cases e1
    refine ⟨_, _, _, _, _, rfl, rfl, .inr (.inl ⟨_, _, rfl, rfl, rfl, rfl⟩), ?_⟩
    split at h
    · split at h
      · exact .inl ⟨rfl, rfl, rfl, h⟩
      · exact h.elim
    · exact .inr h
  · rename_i e1
    cases e1
    refine ⟨_, _, _, _, _, rfl, rfl, .inr (.inr ⟨_, _, rfl, rfl, rfl, rfl⟩), ?_⟩
    split at h
    · split at h
      · exact .inl ⟨rfl, rfl, rfl, h⟩
      · exact h.elim
    · exact .inr h
  · exact h.elim

theorem leaf_eqV {n : Nat} {a b : SV} {q : Bool} {v u : Value} (h : Leaf n a b q) (ha : Rel0 E a v) (hb : Rel0 E b u) : eqV [n] [v] [u] = some q := by
  rcases h with ⟨j, x, y, rfl, rfl, rfl, rfl⟩ | ⟨x, y, rfl, rfl, rfl, rfl⟩ | ⟨x, y, rfl, rfl, rfl, rfl⟩
  · obtain rfl := rel_int (Rel.of0 ha)
    obtain rfl := rel_int (Rel.of0 hb)
    simp [eqV]
    rfl
  · obtain rfl := rel_bool (Rel.of0 ha)
    obtain rfl := rel_bool (Rel.of0 hb)
    simp [eqV]
  · obtain rfl := rel_str (Rel.of0 ha)
    obtain rfl := rel_str (Rel.of0 hb)
    simp only [eqV, Option.map_some, Bool.and_true]
    rw [← beq_toListBytes]
    congr 1
    rw [Bool.eq_iff_iff, beq_toListBytes, decide_eq_true_eq, beq_iff_eq, ByteArray.toList_eq, ByteArray.toList_eq]
    constructor
    · intro h
      obtain ⟨⟨p⟩⟩ := x
      obtain ⟨⟨q⟩⟩ := y
      exact congrArg (fun l => ByteArray.mk (Array.mk l)) h
    · rintro rfl; rfl

theorem eqK_sound {k : Bool → Prop} : ∀ {l : List Nat} {cs ds : List SV} {vs us : List Value}, eqK l cs ds k → vs.length = cs.length → us.length = ds.length → (∀ (i : Nat) (s : SV) (v : Value), cs[i]? = some s → vs[i]? = some v → Rel0 E s v) → (∀ (i : Nat) (s : SV) (v : Value), ds[i]? = some s → us[i]? = some v → Rel0 E s v) →
    ∃ r, k r ∧ eqV l vs us = some r := by
  intro l
  induction l generalizing k with
  | nil =>
    intro cs ds vs us h h1 h2 _ _
    cases cs <;> cases ds <;> try exact h.elim
    cases vs <;> simp at h1
    cases us <;> simp at h2
    exact ⟨true, h, rfl⟩
  | cons n l ih =>
    intro cs ds vs us h h1 h2 hc hd
    obtain ⟨a, r, b, s, q, rfl, rfl, hlf, hk⟩ := eqK_cons h
    cases vs with
    | nil => simp at h1
    | cons v vs =>
      cases us with
      | nil => simp at h2
      | cons u us =>
        have he := leaf_eqV hlf (hc 0 a v rfl rfl) (hd 0 b u rfl rfl)
        rcases hk with ⟨rfl, rfl, rfl, hk⟩ | hk
        · simp at h1 h2
          subst h1; subst h2
          exact ⟨q, hk, he⟩
        · obtain ⟨x, g1, g2⟩ := ih (k := fun x => k (q && x)) hk (by simpa using h1) (by simpa using h2) (fun i s v hs hv => hc (i + 1) s v (by simpa using hs) (by simpa using hv)) (fun i s v hs hv => hd (i + 1) s v (by simpa using hs) (by simpa using hv))
          exact ⟨_, g1, eqV_put he g2⟩

theorem depth_ge (P : Program) : 8 ≤ P.depth := by unfold Program.depth Made.depth; omega

theorem eq_sound {t : TypeId} {l : List Nat} (hl : leaves P 8 t = some l) (hok : eqOk P 8 t = true) (hflat : flatB P t = true) {cs ds : List SV} {x y : Value} (hx : Rel E (.agg cs) x) (hy : Rel E (.agg ds) y) {k : Bool → Prop} (h : eqK l cs ds k) :
    ∃ r, k r ∧ (Op.equal t x y).run P w = .ok r w ∧ ∀ op a b, (eqGuard op t a b x y).run P w = .ok () w := by
  obtain ⟨vs, rfl, h1, h2⟩ := hx
  obtain ⟨us, rfl, h3, h4⟩ := hy
  obtain ⟨r, hk, he⟩ := eqK_sound h h1 h3 h2 h4
  refine ⟨r, hk, ?_, fun op a b => ?_⟩
  · exact equalIn_run 8 _ t l (by unfold Op.maxDepth; omega) hl hok _ _ vs us r (by simp [Flat, hflat]) (by simp [Flat, hflat]) he
  · have hg := guard_none (P := P) 8 P.depth t l (depth_ge P) hl
    cases op <;> simp [eqGuard, hg]
end
end Go.Proofs.Yticandbdabgkeaa.Am
