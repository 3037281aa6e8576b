/- What single operations come to: appends, makes, comparisons. No condition: lemmas. -/
import Derived.Test.YticandbdabgkeaaAmB7
namespace Go.Proofs.Yticandbdabgkeaa.Am
open Go

section
variable {P : Program} {G : Nat → List SV} {F : Nat → Option Obj} {E : Env} {R : SV → List Upd → Prop} {w : World}

/-- The values of a row's cells, one behind another. -/
theorem row_vals {D : Rom} {z : Nat} {ys : List (List SV)} {blk off : Nat} (hz : ∀ (i : Nat) (e : List SV), ys[i]? = some e → e.length = z)
    (hc : ∀ (i j : Nat) (e : List SV) (s : SV), ys[i]? = some e → e[j]? = some s → ∃ v, w.cell? ⟨blk, off + (i * z + j), none⟩ = some v ∧ PRel D s v) :
    ∃ news : List Value, news.length = ys.length * z ∧ (∀ (j : Nat) (v : Value), news[j]? = some v → w.cell? ⟨blk, off + j, none⟩ = some v) ∧
      ∀ (i j : Nat) (e : List SV) (s : SV), ys[i]? = some e → e[j]? = some s → ∃ v, news[i * z + j]? = some v ∧ PRel D s v := by
  obtain ⟨news, h1, h2⟩ := exists_list (p := fun k v => w.cell? ⟨blk, off + k, none⟩ = some v ∧ ∀ (e : List SV) (s : SV), ys[k / z]? = some e → e[k % z]? = some s → PRel D s v) (ys.length * z) (fun k hk => by
    have hzp : 0 < z := by
      rcases Nat.eq_zero_or_pos z with h | h
      · subst h; simp at hk
      · exact h
    have hi : k / z < ys.length := by
      rw [Nat.div_lt_iff_lt_mul hzp]; exact hk
    have hj : k % z < ys[k / z].length := by
      rw [hz _ _ (List.getElem?_eq_getElem hi)]; exact Nat.mod_lt _ hzp
    obtain ⟨v, g1, g2⟩ := hc (k / z) (k % z) _ _ (List.getElem?_eq_getElem hi) (List.getElem?_eq_getElem hj)
    have hk' : k / z * z + k % z = k := Nat.div_add_mod' k z
    rw [hk'] at g1
    refine ⟨v, g1, fun e s he hs => ?_⟩
    rw [List.getElem?_eq_getElem hi] at he
    cases he
    rw [List.getElem?_eq_getElem hj] at hs
    cases hs
    exact g2)
  refine ⟨news, h1, fun j v hv => (h2 j v hv).1, fun i j e s hi hj => ?_⟩
  have hj' : j < z := by
    have := (List.getElem?_eq_some_iff.1 hj).1
    rw [hz i e hi] at this; exact this
  have hi' := (List.getElem?_eq_some_iff.1 hi).1
  have hlt : i * z + j < ys.length * z := by
    have := Nat.mul_le_mul_right z (show i + 1 ≤ ys.length from hi')
    rw [Nat.add_mul] at this
    omega
  obtain ⟨v, hv⟩ : ∃ v, news[i * z + j]? = some v := ⟨_, List.getElem?_eq_getElem (by omega)⟩
  refine ⟨v, hv, (h2 _ v hv).2 e s ?_ ?_⟩
  · rw [show (i * z + j) / z = i from by rw [Nat.add_comm, Nat.add_mul_div_right _ _ (by omega), Nat.div_eq_of_lt hj']; omega]
    exact hi
  · rw [show (i * z + j) % z = j from by rw [Nat.add_comm, Nat.add_mul_mod_self_right, Nat.mod_eq_of_lt hj']]
    exact hj

/-- A slice read as a whole. -/
structure Els (P : Program) (D : Rom) (w : World) (z : Nat) (ys : List (List SV)) (y : Value) (news : List Value) : Prop where
  val : ∃ A cap, y = .slice A ys.length cap
  len : ∀ (i : Nat) (e : List SV), ys[i]? = some e → e.length = z
  size : news.length = ys.length * z
  run : ∀ w' : World, w'.heap = w.heap → (Builtin.firstCells z ys.length y).run P w' = .ok news.toArray w'
  rel : ∀ (i j : Nat) (e : List SV) (s : SV), ys[i]? = some e → e[j]? = some s → ∃ v, news[i * z + j]? = some v ∧ PRel D s v

theorem cell_heap {w w' : World} (h : w'.heap = w.heap) (a : Addr) : w'.cell? a = w.cell? a := by simp [World.cell?, h]

theorem Els.mk' {D : Rom} {z : Nat} {ys : List (List SV)} {A : Option Addr} {cap blk off : Nat} (hz : ∀ (i : Nat) (e : List SV), ys[i]? = some e → e.length = z) (hA : ys = [] ∨ A = some ⟨blk, off, none⟩)
    (hc : ∀ (i j : Nat) (e : List SV) (s : SV), ys[i]? = some e → e[j]? = some s → ∃ v, w.cell? ⟨blk, off + (i * z + j), none⟩ = some v ∧ PRel D s v) : ∃ news, Els P D w z ys (.slice A ys.length cap) news := by
  rcases hA with rfl | rfl
  · refine ⟨[], ⟨_, _, rfl⟩, hz, by simp, fun w' _ => ?_, fun i j e s hi => by simp at hi⟩
    cases A <;> simp [Builtin.firstCells, loadCells, loadCellsFrom]
  · obtain ⟨news, h1, h2, h3⟩ := row_vals hz hc
    refine ⟨news, ⟨_, _, rfl⟩, hz, h1, fun w' hw' => ?_, h3⟩
    exact run_firstCells_some w' z ys.length ⟨blk, off, none⟩ _ _ news h1 (fun j v hv => by rw [add_addr, cell_heap hw']; exact h2 j v hv)

theorem row_pure (hm : Mem G E F w) {o : Nat} {b : Ob} (hb : E.ob o = some b) (hk : b.kind ≠ 0) {q : Nat × Nat} (hq : E.β o b.st = some q) (i j : Nat) (e : List SV) (s : SV) (hi : b.xs[i]? = some e) (hj : e[j]? = some s) :
    ∃ v, w.cell? ⟨q.1, i * b.z + j, none⟩ = some v ∧ PRel E.D s v := by
  have ho := hm.own o b hb
  rcases Nat.lt_or_ge b.kind 2 with h | h
  · obtain ⟨_, _, c, ty, hc, _, h5⟩ := ho.live h q hq
    obtain ⟨v, g1, _, g3⟩ := h5 i j e s hi hj
    exact ⟨v, by rw [cell_at hc]; exact g1, g3 (by omega)⟩
  · obtain ⟨v, g1, g2⟩ := ho.dead h q hq i j e s hi hj
    exact ⟨v, hm.romCell g1, g2⟩

theorem elsK_sound (hm : Mem G E F w) {z : Nat} {s : SV} {y : Value} {k : List (List SV) → Prop} (h : elsK E.ob z s k) (hr : Rel E s y) : ∃ ys news, k ys ∧ Els P E.D w z ys y news := by
  cases s with
  | sl z' xs =>
    obtain ⟨rfl, h⟩ := h
    cases (show PRel E.D (.sl z' xs) y from hr) with
    | sl _ _ A cap blk off u hcap hz hA hc hrr =>
      obtain ⟨news, hn⟩ := Els.mk' (P := P) (w := w) (D := E.D) (cap := cap) hz hA (fun i j e s hi hj => ⟨_, hm.romCell (hc i j e s hi hj), hrr i j e s hi hj⟩)
      exact ⟨xs, news, h, hn⟩
  | nils =>
    obtain rfl := rel_nils hr
    obtain ⟨news, hn⟩ := Els.mk' (P := P) (w := w) (D := E.D) (z := z) (ys := []) (A := none) (cap := 0) (blk := 0) (off := 0) (fun i e h => by simp at h) (.inl rfl) (fun i j e s h => by simp at h)
    exact ⟨[], news, h, hn⟩
  | lrow o st =>
    simp only [elsK] at h
    cases hb : E.ob o with
    | none => simp [hb] at h
    | some b =>
      obtain ⟨st', kd, z', xs⟩ := b
      simp only [hb] at h
      obtain ⟨rfl, rfl, h⟩ := h
      have hrow : RowAt (E.β o st) ⟨st, kd, z', xs⟩ y := hr.2.2 _ hb rfl
      have hlen := (hm.own o _ hb).len
      match kd, h, hb with
      | kd + 1, h, hb =>
        cases hβ : E.β o st with
        | none =>
          rw [hβ] at hrow
          obtain ⟨hx, rfl⟩ := hrow
          replace hx : xs = [] := hx
          subst hx
          obtain ⟨news, hn⟩ := Els.mk' (P := P) (w := w) (D := E.D) (z := z') (ys := []) (A := none) (cap := 0) (blk := 0) (off := 0) (fun i e h => by simp at h) (.inl rfl) (fun i j e s h => by simp at h)
          exact ⟨[], news, h, hn⟩
        | some q =>
          rw [hβ] at hrow
          obtain ⟨cap, rfl, _, _⟩ := hrow
          obtain ⟨news, hn⟩ := Els.mk' (P := P) (w := w) (D := E.D) (z := z') (ys := xs) (A := some ⟨q.1, 0, none⟩) (cap := cap) (blk := q.1) (off := 0) hlen (.inr rfl) (fun i j e s hi hj => by
            rw [Nat.zero_add]; exact row_pure hm hb (by simp) hβ i j e s hi hj)
          exact ⟨xs, news, h, hn⟩
  | lsl o st lo n =>
    simp only [elsK] at h
    cases hb : E.ob o with
    | none => simp [hb] at h
    | some b =>
      obtain ⟨st', kd, z', xs⟩ := b
      simp only [hb] at h
      obtain ⟨rfl, rfl, hl, h⟩ := h
      have hrow : SlAt (E.β o st) ⟨st, kd, z', xs⟩ lo n y := hr.2.2 _ hb rfl
      have hlen := (hm.own o _ hb).len
      have hdl : ((xs.drop lo).take n).length = n := by simp; omega
      have hget : ∀ (i : Nat) (e : List SV), ((xs.drop lo).take n)[i]? = some e → xs[lo + i]? = some e := fun i e hi => by
        rw [List.getElem?_take] at hi
        split at hi
        · rw [List.getElem?_drop] at hi; exact hi
        · cases hi
      match kd, h, hb with
      | kd + 1, h, hb =>
        cases hβ : E.β o st with
        | none =>
          rw [hβ] at hrow
          obtain ⟨rfl, rfl, rfl⟩ := hrow
          obtain ⟨news, hn⟩ := Els.mk' (P := P) (w := w) (D := E.D) (z := z') (ys := []) (A := none) (cap := 0) (blk := 0) (off := 0) (fun i e h => by simp at h) (.inl rfl) (fun i j e s h => by simp at h)
          exact ⟨_, news, h, by rw [List.take_zero]; exact hn⟩
        | some q =>
          rw [hβ] at hrow
          obtain ⟨A, cap, rfl, _, _, hA⟩ := hrow
          obtain ⟨news, hn⟩ := Els.mk' (P := P) (w := w) (D := E.D) (z := z') (ys := (xs.drop lo).take n) (A := A) (cap := cap) (blk := q.1) (off := lo * z') (fun i e hi => hlen _ e (hget i e hi)) (by
              rcases hA with ⟨h0, _⟩ | hA
              · left; rw [h0, List.take_zero]
              · exact .inr hA) (fun i j e s hi hj => by
            obtain ⟨v, g1, g2⟩ := row_pure hm hb (by simp) hβ (lo + i) j e s (hget i e hi) hj
            refine ⟨v, ?_, g2⟩
            rw [← g1]
            show w.cell? _ = w.cell? ⟨q.1, (lo + i) * z' + j, none⟩
            rw [Nat.add_mul, Nat.add_assoc])
          rw [hdl] at hn
          exact ⟨_, news, h, hn⟩
  | _ => exact h.elim

theorem run_append_fit {tx ty rt el : TypeId} {i : TypeInfo} (hx : P.underlying tx = some (.slice el)) {el' : TypeId} (hy : P.underlying ty = some (.slice el')) (hi : P.info? el = some i) (A B : Option Addr) (n m cap c : Nat) (news : Array Value)
    (hf : (Builtin.firstCells i.size m (.slice B m c)).run P w = .ok news w) (hroom : n + m ≤ cap) :
    (Builtin.append_ #[tx, ty] rt #[.slice A n cap, .slice B m c]).run P w =
      (((match A with | some a => storeCells (a.add (n * i.size)) news.toList | none => pure ()) : Sem Unit).run P w).andThen fun _ w' => .ok (.slice A (n + m) cap) w' := by
  cases A with
  | none => simp [Builtin.append_, run_underlying hx, run_underlying hy, run_sizeOf hi, Builtin.lenOf, hroom, hf]
  | some a => simp [Builtin.append_, run_underlying hx, run_underlying hy, run_sizeOf hi, Builtin.lenOf, hroom, hf]

theorem run_append_new {tx ty rt el : TypeId} {i : TypeInfo} {z : Value} (hx : P.underlying tx = some (.slice el)) {el' : TypeId} (hy : P.underlying ty = some (.slice el')) (hi : P.info? el = some i) (hz : i.zero = some z) (A B : Option Addr) (n m cap c : Nat) (olds news : Array Value)
    (hfo : ∀ w' : World, w'.heap = w.heap → (Builtin.firstCells i.size n (.slice A n cap)).run P w' = .ok olds w') (hf : ∀ w' : World, w'.heap = w.heap → (Builtin.firstCells i.size m (.slice B m c)).run P w' = .ok news w')
    (hroom : cap < n + m) (h63 : ((n + m : Nat) : Int) ≤ 9223372036854775807) (hfit : Builtin.nextslicecap (n + m) cap * i.bytes ≤ 281474976710656) :
    (Builtin.append_ #[tx, ty] rt #[.slice A n cap, .slice B m c]).run P w =
      .ok (.slice (some ⟨w.heap.size, 0, none⟩) (n + m) (grownCap w (n + m) cap el))
        { w with drawn := w.drawn + 1, heap := w.heap.push (.cells (olds ++ news ++ Builtin.zeroCells z.cells (grownCap w (n + m) cap el - (n + m))) el) } := by
  have hn : ¬ (n + m ≤ cap) := by omega
  have h63' : ¬ (9223372036854775807 < ((n : Int) + (m : Int))) := by omega
  have h48' : ¬ (281474976710656 < Builtin.nextslicecap (n + m) cap * i.bytes) := by omega
  simp [Builtin.append_, run_underlying hx, run_underlying hy, sizeOf, typeInfo, zeroValue, hi, hz, Builtin.lenOf, hn, h63', h48', Question.forced, hf w.drew rfl, hfo w.drew rfl, newRow, grownCap]
  rfl

/-- A slice of the call's own that may be appended to, and the elements that it has. -/
def OldAt (E : Env) (z : Nat) (o : Nat) (xs0 : List (List SV)) (v : Value) : Prop :=
  (v = .slice none 0 0 ∧ xs0 = []) ∨
  ∃ b q cap, E.ob o = some b ∧ b.kind = 1 ∧ b.z = z ∧ E.β o b.st = some q ∧ v = .slice (some ⟨q.1, 0, none⟩) xs0.length cap ∧ cap * z ≤ q.2 ∧ xs0.length ≤ cap ∧ ∀ (i : Nat) (e : List SV), xs0[i]? = some e → b.xs[i]? = some e

theorem append_core (hm : Mem G E F w) {tx ty rt el el' : TypeId} {i : TypeInfo} {z : Value} (hx : P.underlying tx = some (.slice el)) (hy : P.underlying ty = some (.slice el')) (hi : P.info? el = some i) (hz : i.zero = some z)
    (hzl : z.cells.toList.length = i.size) (hby : 0 < i.bytes) {o : Nat} {xs0 ys : List (List SV)} {v y : Value} {news : List Value} (hold : OldAt E i.size o xs0 v) (hels : Els P E.D w i.size ys y news) (hroomb : (xs0.length + ys.length) * i.bytes ≤ 140737488355328)
    (hR : R (.lrow o (E.ct o)) [⟨o, ⟨E.ct o, 1, i.size, xs0 ++ ys⟩, true⟩]) : GoodV G F E R ((Builtin.append_ #[tx, ty] rt #[v, y]).run P w) := by
  obtain ⟨B, c, rfl⟩ := hels.val
  have hne : xs0.length + ys.length ≤ 140737488355328 := Nat.le_trans (Nat.le_mul_of_pos_right _ hby) hroomb
  have hlen0 : ∀ (k : Nat) (e : List SV), xs0[k]? = some e → e.length = i.size := fun k e hk => by
    rcases hold with ⟨_, h0⟩ | ⟨b, q, cap, hb, _, hbz, _, _, _, _, hpre⟩
    · rw [h0] at hk; simp at hk
    · rw [← hbz]; exact (hm.own o b hb).len k e (hpre k e hk)
  have hlenA : ∀ (k : Nat) (e : List SV), (xs0 ++ ys)[k]? = some e → e.length = i.size := fun k e hk => by
    by_cases h : k < xs0.length
    · rw [List.getElem?_append_left h] at hk; exact hlen0 k e hk
    · rw [List.getElem?_append_right (by omega)] at hk; exact hels.len _ e hk
  -- the old cells
  obtain ⟨olds, hol, horun, horel⟩ : ∃ olds : List Value, olds.length = xs0.length * i.size ∧ (∀ w' : World, w'.heap = w.heap → (Builtin.firstCells i.size xs0.length v).run P w' = .ok olds.toArray w') ∧
      ∀ (k j : Nat) (e : List SV) (s : SV), xs0[k]? = some e → e[j]? = some s → ∃ u, olds[k * i.size + j]? = some u ∧ PRel E.D s u := by
    rcases hold with ⟨rfl, rfl⟩ | ⟨b, q, cap, hb, hbk, hbz, hq, rfl, hcap, hcl, hpre⟩
    · exact ⟨[], by simp, fun w' _ => by simp [Builtin.firstCells], fun k j e s hk => by simp at hk⟩
    · obtain ⟨olds, h1⟩ := Els.mk' (P := P) (w := w) (D := E.D) (z := i.size) (ys := xs0) (A := some ⟨q.1, 0, none⟩) (cap := cap) (blk := q.1) (off := 0) hlen0 (.inr rfl) (fun k j e s hk hj => by
        rw [Nat.zero_add, ← hbz]; exact row_pure hm hb (by omega) hq k j e s (hpre k e hk) hj)
      exact ⟨olds, h1.size, h1.run, h1.rel⟩
  -- the cells behind the append
  have hcells : ∀ (tail : List Value) (k j : Nat) (e : List SV) (s : SV), (xs0 ++ ys)[k]? = some e → e[j]? = some s → ∃ u, (olds ++ news ++ tail)[k * i.size + j]? = some u ∧ PRel E.D s u := fun tail k j e s hk hj => by
    have hj' : j < i.size := by
      have := (List.getElem?_eq_some_iff.1 hj).1
      rw [hlenA k e hk] at this; exact this
    by_cases h : k < xs0.length
    · rw [List.getElem?_append_left h] at hk
      obtain ⟨u, g1, g2⟩ := horel k j e s hk hj
      have := (List.getElem?_eq_some_iff.1 g1).1
      exact ⟨u, by rw [List.append_assoc, List.getElem?_append_left (by omega)]; exact g1, g2⟩
    · rw [List.getElem?_append_right (by omega)] at hk
      obtain ⟨u, g1, g2⟩ := hels.rel (k - xs0.length) j e s hk hj
      have := (List.getElem?_eq_some_iff.1 g1).1
      have hmul : k * i.size = xs0.length * i.size + (k - xs0.length) * i.size := by rw [← Nat.add_mul]; congr 1; omega
      refine ⟨u, ?_, g2⟩
      rw [List.append_assoc, List.getElem?_append_right (by omega), List.getElem?_append_left (by omega), ← g1]
      congr 1
      omega
  have hct1 : E.ct o ≤ E.ct o + 1 := Nat.le_succ _
  have hfresh : ∀ (b : Ob) (p : Option (Nat × Nat)), b.st = E.ct o → b.st < E.ct o → (∃ b0, E.ob o = some b0 ∧ b0.st = b.st ∧ b0.z = b.z ∧ b0.xs.length = b.xs.length) ∧ E.β o b.st = p := fun b p h1 h2 => absurd h2 (by omega)
  -- a new block
  have fresh : ∀ cap0, (∀ A n, v = .slice A n cap0 → n = xs0.length ∧ cap0 < xs0.length + ys.length) → (∃ A, v = .slice A xs0.length cap0) → GoodV G F E R ((Builtin.append_ #[tx, ty] rt #[v, .slice B ys.length c]).run P w) := fun cap0 hv hv' => by
    obtain ⟨A, rfl⟩ := hv'
    have hlt := (hv A _ rfl).2
    rw [run_append_new (rt := rt) hx hy hi hz A B xs0.length ys.length cap0 c olds.toArray news.toArray horun hels.run hlt (by omega) (growslice_fits hlt hroomb)]
    have hge := grownCap_ge w (xs0.length + ys.length) cap0 el
    have hsz : (olds.toArray ++ news.toArray ++ Builtin.zeroCells z.cells (grownCap w (xs0.length + ys.length) cap0 el - (xs0.length + ys.length))).size = grownCap w (xs0.length + ys.length) cap0 el * i.size := by
      have hzs : z.cells.size = i.size := by simpa using hzl
      simp only [Array.size_append, List.size_toArray, size_zeroCells, hzs, hol, hels.size, ← Nat.add_mul]
      congr 1
      omega
    obtain ⟨g1, g2⟩ := new_sound hm.drawn1 o 1 i.size _ (xs0 ++ ys) (olds.toArray ++ news.toArray ++ Builtin.zeroCells z.cells (grownCap w (xs0.length + ys.length) cap0 el - (xs0.length + ys.length))) el (by omega) hlenA hsz
      (Nat.mul_le_mul_right _ (by rw [List.length_append]; exact hge))
      (fun k j e s hk hj => by
        obtain ⟨u, h1, h2⟩ := hcells (Builtin.zeroCells z.cells (grownCap w (xs0.length + ys.length) cap0 el - (xs0.length + ys.length))).toList k j e s hk hj
        refine ⟨u, ?_, Rel0.of_pure h2, fun _ => h2⟩
        rw [← h1, ← Array.getElem?_toList]
        simp)
    refine ⟨_, _, _, _, E.D, _, hR, rfl, ?_, g1, g2⟩
    refine Rel.of0 ⟨?_, rfl, fun b hb _ => ?_⟩
    · show E.ct o < upd E.ct o (E.ct o + 1) o
      rw [upd_same]; omega
    · replace hb : upd E.ob o (some ⟨E.ct o, 1, i.size, xs0 ++ ys⟩) o = some b := hb
      rw [upd_same] at hb
      cases hb
      show RowAt (setβ E.β o (E.ct o) _ o (E.ct o)) _ _
      rw [setβ_same]
      exact ⟨_, by simp, Nat.le_refl _, by simpa using hge⟩
  rcases hold with ⟨rfl, rfl⟩ | ⟨b, q, cap, hb, hbk, hbz, hq, rfl, hcap, hcl, hpre⟩
  · by_cases hys : ys = []
    · subst hys
      have hrun : (Builtin.append_ #[tx, ty] rt #[.slice none 0 0, .slice B ([] : List (List SV)).length c]).run P w = .ok (.slice none 0 0) w := by
        have := run_append_fit (P := P) (w := w) (rt := rt) hx hy hi none B 0 0 0 c _ (hels.run w rfl) (Nat.le_refl _)
        simpa using this
      rw [hrun]
      have hst := hfresh ⟨E.ct o, 1, i.size, [] ++ []⟩ none rfl
      have hle := Env.put_le (E := E) (o := o) (b := ⟨E.ct o, 1, i.size, [] ++ []⟩) (p := none) hct1 hst
      refine ⟨_, _, _, w, E.D, setβ E.β o (E.ct o) none, hR, rfl, ?_, Mem.put (b := ⟨E.ct o, 1, i.size, [] ++ []⟩) (p := none) hm hct1 hst rfl rfl rfl (fun k _ => .inl rfl) (fun q hq => by cases hq) ?_, hle⟩
      · refine Rel.of0 ⟨?_, rfl, fun b hb _ => ?_⟩
        · show E.ct o < upd E.ct o (E.ct o + 1) o
          rw [upd_same]; omega
        · replace hb : upd E.ob o (some ⟨E.ct o, 1, i.size, [] ++ []⟩) o = some b := hb
          rw [upd_same] at hb
          cases hb
          show RowAt (setβ E.β o (E.ct o) none o (E.ct o)) _ _
          rw [setβ_same]
          exact ⟨rfl, rfl⟩
      · have hβ : (E.put o ⟨E.ct o, 1, i.size, [] ++ []⟩ none (E.ct o + 1)).β o (E.ct o) = none := setβ_same _ _ _ _
        refine ⟨?_, fun k e hk => by simp at hk, fun _ => ⟨rfl, by simp⟩, fun q hq => ?_, fun _ q hq => ?_, fun h => absurd h (by simp)⟩
        · show E.ct o < upd E.ct o (E.ct o + 1) o
          rw [upd_same]; omega
        · rw [hβ] at hq; cases hq
        · rw [hβ] at hq; cases hq
    · refine fresh 0 (fun A n hv => ?_) ⟨none, rfl⟩
      cases hv
      exact ⟨rfl, by have := List.length_pos_iff.2 hys; simpa using this⟩
  · by_cases hroom : xs0.length + ys.length ≤ cap
    · have hfit := run_append_fit (P := P) (w := w) (rt := rt) hx hy hi (some ⟨q.1, 0, none⟩) B xs0.length ys.length cap c _ (hels.run w rfl) hroom
      have ho := hm.own o b hb
      obtain ⟨h1, h2, c0, ty0, h3, h4, h5⟩ := ho.live (by omega) q hq
      have hnl : xs0.length * i.size + news.length ≤ c0.size := by
        rw [hels.size, ← Nat.add_mul, h4]
        exact Nat.le_trans (Nat.mul_le_mul_right _ hroom) hcap
      have h1c : ∀ u ∈ news, u.oneCell' = true := fun u hu => by
        obtain ⟨k, hk, rfl⟩ := List.mem_iff_getElem.1 hu
        have hzp : 0 < i.size := by
          rcases Nat.eq_zero_or_pos i.size with h | h
          · rw [hels.size, h] at hk; simp at hk
          · exact h
        have hki : k / i.size < ys.length := by rw [Nat.div_lt_iff_lt_mul hzp, ← hels.size]; exact hk
        have hkj : k % i.size < ys[k / i.size].length := by rw [hels.len _ _ (List.getElem?_eq_getElem hki)]; exact Nat.mod_lt _ hzp
        obtain ⟨u', g1, g2⟩ := hels.rel _ _ _ _ (List.getElem?_eq_getElem hki) (List.getElem?_eq_getElem hkj)
        rw [Nat.div_add_mod' k i.size, List.getElem?_eq_getElem hk] at g1
        cases g1
        exact g2.oneCell
      have hst' := run_storeCells_at P q.1 (xs0.length * i.size) ty0 news 0 c0 w h3 (by simpa using hnl) h1c
      simp only [Nat.add_zero] at hst'
      rw [hfit]
      simp only [add_addr, Nat.zero_add, hst', Result.andThen_ok]
      have hpl : c0.toList.take (xs0.length * i.size) = olds := by
        apply List.ext_getElem?
        intro k
        rw [List.getElem?_take]
        by_cases hk : k < xs0.length * i.size
        · rw [if_pos hk]
          have hrun := horun w rfl
          obtain ⟨u, hu⟩ : ∃ u, olds[k]? = some u := ⟨_, List.getElem?_eq_getElem (by omega)⟩
          rw [hu]
          have hload : (Builtin.firstCells i.size xs0.length (.slice (some ⟨q.1, 0, none⟩) xs0.length cap)).run P w = .ok (c0.toList.take (xs0.length * i.size)).toArray w := by
            refine run_firstCells_some w i.size xs0.length ⟨q.1, 0, none⟩ _ _ _ (by simp; omega) (fun j v hv => ?_)
            rw [add_addr, Nat.zero_add, cell_at h3]
            rw [List.getElem?_take] at hv
            split at hv
            · simpa using hv
            · cases hv
          rw [hload] at hrun
          injection hrun with e1 _
          have e2 : c0.toList.take (xs0.length * i.size) = olds := by
            have := congrArg Array.toList e1
            simpa using this
          rw [← e2, List.getElem?_take, if_pos hk] at hu
          exact hu
        · rw [if_neg hk, List.getElem?_eq_none (by omega)]
      have hst := hfresh ⟨E.ct o, 1, i.size, xs0 ++ ys⟩ (some q) rfl
      have hle := Env.put_le (E := E) (o := o) (b := ⟨E.ct o, 1, i.size, xs0 ++ ys⟩) (p := some q) hct1 hst
      have hβ : (E.put o ⟨E.ct o, 1, i.size, xs0 ++ ys⟩ (some q) (E.ct o + 1)).β o (E.ct o) = some q := setβ_same _ _ _ _
      refine ⟨_, _, _, _, E.D, setβ E.β o (E.ct o) (some q), hR, rfl, ?_, Mem.put (b := ⟨E.ct o, 1, i.size, xs0 ++ ys⟩) (p := some q) hm hct1 hst rfl rfl rfl (fun k hk => .inl (setRow_other' w q.1 k _ (hk q rfl))) (fun q' hq' => ?_) ?_, hle⟩
      · refine Rel.of0 ⟨?_, rfl, fun b' hb' _ => ?_⟩
        · show E.ct o < upd E.ct o (E.ct o + 1) o
          rw [upd_same]; omega
        · replace hb' : upd E.ob o (some ⟨E.ct o, 1, i.size, xs0 ++ ys⟩) o = some b' := hb'
          rw [upd_same] at hb'
          cases hb'
          show RowAt (setβ E.β o (E.ct o) (some q) o (E.ct o)) _ _
          rw [setβ_same]
          exact ⟨cap, by simp, hcap, by simpa using hroom⟩
      · cases hq'
        exact ⟨h1, h2, fun o' b' x hne hb' hk' hx' he' => hne (hm.inj o' o b' b x q hb' hb hk' (by omega) hx' hq he')⟩
      · refine ⟨?_, hlenA, fun h => ?_, fun q' hq' => ?_, fun _ q' hq' => ?_, fun h => absurd h (by simp)⟩
        · show E.ct o < upd E.ct o (E.ct o + 1) o
          rw [upd_same]; omega
        · rw [hβ] at h; cases h
        · rw [hβ] at hq'
          cases hq'
          show (xs0 ++ ys).length * i.size ≤ q.2
          rw [List.length_append]
          exact Nat.le_trans (Nat.mul_le_mul_right _ hroom) hcap
        · rw [hβ] at hq'
          cases hq'
          refine ⟨h1, h2, _, ty0, setRow_heap w q.1 c0 _ ty0 _ h3, ?_, fun k j e s hk hj => ?_⟩
          · simp only [List.size_toArray, List.length_append, List.length_take, List.length_drop, Array.length_toList]
            omega
          · obtain ⟨u, g1, g2⟩ := hcells (c0.toList.drop (xs0.length * i.size + news.length)) k j e s hk hj
            refine ⟨u, ?_, Rel0.of_pure g2, fun _ => g2⟩
            simp only [List.getElem?_toArray]
            rw [hpl]
            exact g1
    · exact fresh cap (fun A n hv => by cases hv; exact ⟨rfl, by omega⟩) ⟨_, rfl⟩

theorem appendK_sound (hm : Mem G E F w) {tx ty rt el el' : TypeId} {i : TypeInfo} {z : Value} (hx : P.underlying tx = some (.slice el)) (hy : P.underlying ty = some (.slice el')) (hi : P.info? el = some i) (hz : i.zero = some z)
    (hzl : z.cells.toList.length = i.size) (hby : 0 < i.bytes) {d : Nat} {ys : List (List SV)} {s : SV} {v y : Value} {news : List Value} (h : appendK E.ob E.ct d i.size i.bytes s ys R) (hr : Rel E s v) (hels : Els P E.D w i.size ys y news) :
    GoodV G F E R ((Builtin.append_ #[tx, ty] rt #[v, y]).run P w) := by
  cases s with
  | nils =>
    obtain rfl := rel_nils hr
    obtain ⟨h1, h2⟩ := h
    exact append_core hm hx hy hi hz hzl hby (.inl ⟨rfl, rfl⟩) hels (by simpa using h1) h2
  | lrow o st =>
    simp only [appendK] at h
    cases hb : E.ob o with
    | none => simp [hb] at h
    | some b =>
      obtain ⟨st', kd, z', xs⟩ := b
      simp only [hb] at h
      obtain ⟨rfl, rfl, hroom, h⟩ := h
      have hrow : RowAt (E.β o st) ⟨st, kd, i.size, xs⟩ v := hr.2.2 _ hb rfl
      match kd, h, hb with
      | 1, h, hb =>
        refine append_core hm hx hy hi hz hzl hby ?_ hels hroom h
        cases hβ : E.β o st with
        | none => rw [hβ] at hrow; exact .inl ⟨hrow.2, hrow.1⟩
        | some q =>
          rw [hβ] at hrow
          obtain ⟨cap, rfl, h1, h2⟩ := hrow
          exact .inr ⟨_, q, cap, hb, rfl, rfl, hβ, rfl, h1, h2, fun _ _ h => h⟩
  | lsl o st lo n =>
    simp only [appendK] at h
    cases hb : E.ob o with
    | none => simp [hb] at h
    | some b =>
      obtain ⟨st', kd, z', xs⟩ := b
      simp only [hb] at h
      obtain ⟨rfl, rfl, rfl, hn, hroom, h⟩ := h
      have hrow : SlAt (E.β o st) ⟨st, kd, i.size, xs⟩ 0 n v := hr.2.2 _ hb rfl
      have htl : (xs.take n).length = n := by simp; omega
      match kd, h, hb with
      | 1, h, hb =>
        refine append_core hm hx hy hi hz hzl hby (xs0 := xs.take n) ?_ hels (by rw [htl]; exact hroom) h
        cases hβ : E.β o st with
        | none => rw [hβ] at hrow; exact .inl ⟨hrow.2.2, by rw [hrow.2.1, List.take_zero]⟩
        | some q =>
          rw [hβ] at hrow
          obtain ⟨A, cap, rfl, h1, h2, h3⟩ := hrow
          rcases h3 with ⟨_, h3⟩ | rfl
          · exact absurd rfl h3
          · refine .inr ⟨_, q, cap, hb, rfl, rfl, hβ, by rw [htl]; simp, by simpa using h2, by rw [htl]; exact h1, fun k e hk => ?_⟩
            rw [List.getElem?_take] at hk
            split at hk
            · exact hk
            · cases hk
  | _ => exact h.elim
end
end Go.Proofs.Yticandbdabgkeaa.Am
