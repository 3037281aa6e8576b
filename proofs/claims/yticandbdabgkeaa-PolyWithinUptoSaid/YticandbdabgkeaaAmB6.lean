/- What single operations come to: literals, slices of slices, appends, comparisons of structs. No condition: lemmas. -/
import Derived.Test.YticandbdabgkeaaAmB5
namespace Go.Proofs.Yticandbdabgkeaa.Am
open Go

section
variable {P : Program} {G : Nat → List SV} {F : Nat → Option Obj} {E : Env} {R : SV → List Upd → Prop} {w : World}

/-! ### Literals -/
theorem foldl_set (off : Nat) : ∀ (l : List Value) (k : Nat) (cs : Array Value) (i : Nat),
    ((l.zipIdx k).foldl (fun cs (p : Value × Nat) => cs.setIfInBounds (off + p.2) p.1) cs)[i]? = if off + k ≤ i ∧ i < off + k + l.length ∧ i < cs.size then l[i - (off + k)]? else cs[i]?
  | [], k, cs, i => by
    rw [List.zipIdx_nil, List.foldl_nil, if_neg (by simp; omega)]
  | v :: r, k, cs, i => by
    rw [List.zipIdx_cons, List.foldl_cons, foldl_set off r (k + 1) _ i]
    simp only [Array.size_setIfInBounds, List.length_cons]
    by_cases h : i = off + k
    · subst h
      rw [if_neg (by omega)]
      by_cases hs : off + k < cs.size
      · rw [if_pos (by omega)]
        simp [hs]
      · rw [if_neg (by omega)]
        simp [hs]
    · have hne : off + k ≠ i := fun e => h e.symm
      rw [Array.getElem?_setIfInBounds_ne hne]
      by_cases hin : off + (k + 1) ≤ i ∧ i < off + (k + 1) + r.length ∧ i < cs.size
      · rw [if_pos hin, if_pos (by omega)]
        rw [show i - (off + k) = (i - (off + (k + 1))) + 1 by omega, List.getElem?_cons_succ]
      · rw [if_neg hin, if_neg (by omega)]

theorem foldl_set_size (off : Nat) : ∀ (l : List Value) (k : Nat) (cs : Array Value),
    ((l.zipIdx k).foldl (fun cs (p : Value × Nat) => cs.setIfInBounds (off + p.2) p.1) cs).size = cs.size
  | [], k, cs => rfl
  | v :: r, k, cs => by rw [List.zipIdx_cons, List.foldl_cons, foldl_set_size off r (k + 1) _]; simp

/-- An array of cells and what they stand for. -/
def ArrRel (E : Env) (c : Array Value) (cs : List SV) : Prop := c.size = cs.length ∧ ∀ (i : Nat) (s : SV) (v : Value), cs[i]? = some s → c[i]? = some v → Rel0 E s v

theorem fill_one {place : Nat → Option (Nat × Nat)} {i off n : Nat} {v : Value} {rest : List (Nat × Value)} {c : Array Value} (hp : place i = some (off, n)) (hn : v.cells.size = n) (hfit : off + v.cells.size ≤ c.size) :
    Instr.fill place c ((i, v) :: rest) = Instr.fill place ((v.cells.toList.zipIdx 0).foldl (fun cs (p : Value × Nat) => cs.setIfInBounds (off + p.2) p.1) c) rest := by
  simp only [Instr.fill, hp]
  rw [if_neg (by simp [hn]; omega)]
  congr 1
  rw [← Array.foldl_toList, Array.toList_zipIdx]

theorem ArrRel.splice {c : Array Value} {cs vs : List SV} {v : Value} {off : Nat} (h : ArrRel E c cs) (hl : v.cells.toList.length = vs.length) (hv : ∀ (i : Nat) (s : SV) (u : Value), vs[i]? = some s → v.cells.toList[i]? = some u → Rel0 E s u) (hfit : off + vs.length ≤ cs.length) :
    ArrRel E ((v.cells.toList.zipIdx 0).foldl (fun cs (p : Value × Nat) => cs.setIfInBounds (off + p.2) p.1) c) (cs.take off ++ vs ++ cs.drop (off + vs.length)) := by
  refine ⟨?_, fun i s u hs hu => ?_⟩
  · rw [foldl_set_size, h.1]
    simp only [List.length_append, List.length_take, List.length_drop]
    omega
  · rw [foldl_set] at hu
    rw [splice_get hfit] at hs
    simp only [Nat.add_zero] at hu
    by_cases hin : off ≤ i ∧ i < off + vs.length
    · have hlt : i < c.size := by rw [h.1]; omega
      rw [if_pos hin] at hs
      rw [if_pos ⟨hin.1, by omega, hlt⟩] at hu
      exact hv _ s u hs hu
    · rw [if_neg hin] at hs
      rw [if_neg (by omega)] at hu
      exact h.2 i s u hs hu

theorem placeK_spec {t : TypeId} {i : Nat} {k : Nat → Nat → Prop} {place : Nat → Option (Nat × Nat)} (h : placeK P t i k)
    (hs : ∀ (fs : Array Field) (fld : Field) (ti : TypeInfo) (j : Nat), P.underlying t = some (.struct fs) → fs[j]? = some fld → P.info? fld.type = some ti → place j = some (fld.offset, ti.size))
    (ha : ∀ n el ti j, P.underlying t = some (.array n el) → P.info? el = some ti → place j = some (j * ti.size, ti.size)) : ∃ off n, place i = some (off, n) ∧ k off n := by
  unfold placeK at h
  cases hu : P.underlying t with
  | none => simp [hu] at h
  | some d =>
    cases d <;> simp only [hu] at h <;> try exact h.elim
    case array n el =>
      obtain ⟨ti, hi, h⟩ := sizeK_spec h
      exact ⟨_, _, ha n el ti i hu hi, h⟩
    case struct fs =>
      cases hf : fs[i]? with
      | none => simp [hf] at h
      | some fld =>
        simp only [hf] at h
        obtain ⟨ti, hi, h⟩ := sizeK_spec h
        exact ⟨_, _, hs fs fld ti i hu hf hi, h⟩

theorem fillK_sound {t : TypeId} {g : Operand → SV} {ρ : Operand → Value} (hg : ∀ x, Rel E (g x) (ρ x)) {place : Nat → Option (Nat × Nat)} 
    (hs : ∀ (fs : Array Field) (fld : Field) (ti : TypeInfo) (j : Nat), P.underlying t = some (.struct fs) → fs[j]? = some fld → P.info? fld.type = some ti → place j = some (fld.offset, ti.size))
    (ha : ∀ n el ti j, P.underlying t = some (.array n el) → P.info? el = some ti → place j = some (j * ti.size, ti.size)) :
    ∀ (l : List (Nat × Operand)) (cs : List SV) (c : Array Value) (k : List SV → Prop), fillK P t g l cs k → ArrRel E c cs →
      ∃ c' cs', Instr.fill place c (l.map fun p => (p.1, ρ p.2)) = some c' ∧ k cs' ∧ ArrRel E c' cs'
  | [], cs, c, k, h, hr => ⟨c, cs, rfl, h, hr⟩
  | (i, x) :: r, cs, c, k, h, hr => by
    obtain ⟨off, n, hp, h⟩ := placeK_spec (place := place) h hs ha
    obtain ⟨vs, h, hl, hv⟩ := cellsK_sound h (hg x)
    obtain ⟨hn, h⟩ := ifB_true h
    have hn := lenIs_spec hn
    obtain ⟨hfit, h⟩ := spliceK_spec h
    obtain ⟨c', cs', h1, h2, h3⟩ := fillK_sound hg hs ha r _ _ k h (hr.splice hl hv hfit)
    refine ⟨c', cs', ?_, h2, h3⟩
    have hcs : (ρ x).cells.size = vs.length := by simpa using hl
    rw [List.map_cons, fill_one hp (by rw [← hn, ← hl]; simp) (by show off + (ρ x).cells.size ≤ c.size; rw [hr.1]; omega)]
    exact h1

theorem mapM_places {P : Program} {w : World} : ∀ (l : List Field), (∀ f ∈ l, (P.info? f.type).isSome = true) →
    (l.mapM fun f => do pure (f.offset, ← sizeOf f.type) : Sem (List (Nat × Nat))).run P w = .ok (l.map fun f => (f.offset, ((P.info? f.type).map (·.size)).getD 0)) w
  | [], _ => by simp
  | f :: r, h => by
    have hf := h f (by simp)
    cases hi : P.info? f.type with
    | none => simp [hi] at hf
    | some i =>
      have ih := mapM_places (P := P) (w := w) r (fun x hx => h x (by simp [hx]))
      rw [List.mapM_cons]
      simp only [Sem.run_bind, run_sizeOf hi, Result.andThen_ok, Sem.run_pure, ih, List.map_cons, hi, Option.map_some, Option.getD_some]

theorem build_sound (hm : Mem G E F w) {t : TypeId} {g : Operand → SV} {ρ : Operand → Value} (hg : ∀ x, Rel E (g x) (ρ x)) {parts : Array (Nat × Operand)}
    (h : ifB (sizedB P t) (zeroK P t fun zs => fillK P t g parts.toList zs fun cs => R (.agg cs) []) False) : GoodV G F E R ((Instr.build t (parts.map fun (i, x) => (i, ρ x))).run P w) := by
  obtain ⟨hsz, h⟩ := ifB_true h
  obtain ⟨i, z, hi, hz, h, hl, _, hrel⟩ := zeroK_sound E.D h
  have hmap : (parts.map fun (i, x) => (i, ρ x)).toList = parts.toList.map fun p => (p.1, ρ p.2) := by simp
  unfold sizedB at hsz
  cases hu : P.underlying t with
  | none => simp [hu] at hsz
  | some d =>
    cases d <;> simp only [hu] at hsz <;> try (cases hsz; done)
    case struct fs =>
      have hall := allB_spec hsz
      obtain ⟨c', cs', h1, h2, h3⟩ := fillK_sound (place := fun j => (fs.toList.map fun f => (f.offset, ((P.info? f.type).map (·.size)).getD 0)).toArray[j]?) hg
        (fun fs' fld ti j hu' hf hi' => by
          rw [hu] at hu'
          cases hu'
          simp [hf, hi'])
        (fun n el ti j hu' _ => by rw [hu] at hu'; cases hu') _ _ z.cells _ h ⟨by simpa using hl, fun i s v hs hv => Rel0.of_pure (hrel i s v hs (by simpa using hv))⟩
      have hrun : (Instr.build t (parts.map fun (i, x) => (i, ρ x))).run P w = .ok (.agg c') w := by
        have hmm : (fs.mapM fun f => do pure (f.offset, ← sizeOf f.type) : Sem (Array (Nat × Nat))).run P w = .ok (fs.toList.map fun f => (f.offset, ((P.info? f.type).map (·.size)).getD 0)).toArray w := by
          rw [Array.mapM_eq_mapM_toList, Sem.run_map, mapM_places fs.toList hall, Result.andThen_ok]
        simp only [Instr.build, Sem.run_bind, zeroValue, typeInfo, run_program, Result.andThen_ok, hi, hz, Sem.run_pure, run_underlying hu]
        rw [hmm]
        simp only [Result.andThen_ok]
        rw [hmap, h1]
        simp
      rw [hrun]
      exact GoodV.same hm h2 (Rel.ofA ⟨c'.toList, by simp, by simpa using h3.1, fun i s v hs hv => h3.2 i s v hs (by simpa using hv)⟩)
    case array n el =>
      cases hel : P.info? el with
      | none => simp [hel] at hsz
      | some ti =>
        obtain ⟨c', cs', h1, h2, h3⟩ := fillK_sound (place := fun j => some (j * ti.size, ti.size)) hg
          (fun fs' fld ti j hu' _ _ => by rw [hu] at hu'; cases hu')
          (fun n' el' ti' j hu' hi' => by
            rw [hu] at hu'
            cases hu'
            rw [hel] at hi'
            cases hi'
            rfl) _ _ z.cells _ h ⟨by simpa using hl, fun i s v hs hv => Rel0.of_pure (hrel i s v hs (by simpa using hv))⟩
        have hrun : (Instr.build t (parts.map fun (i, x) => (i, ρ x))).run P w = .ok (.agg c') w := by
          simp only [Instr.build, Sem.run_bind, zeroValue, typeInfo, run_program, Result.andThen_ok, hi, hz, Sem.run_pure, run_underlying hu, run_sizeOf hel]
          rw [hmap, h1]
          simp
        rw [hrun]
        exact GoodV.same hm h2 (Rel.ofA ⟨c'.toList, by simp, by simpa using h3.1, fun i s v hs hv => h3.2 i s v hs (by simpa using hv)⟩)

/-! ### Rows -/
/-- The cells of pure elements, in an array. -/
def RowRel (D : Rom) (n : Nat) (c : Array Value) (es : List (List SV)) : Prop :=
  c.size = es.length * n ∧ (∀ (i : Nat) (e : List SV), es[i]? = some e → e.length = n) ∧
  ∀ (i j : Nat) (e : List SV) (s : SV), es[i]? = some e → e[j]? = some s → ∃ v, c[i * n + j]? = some v ∧ PRel D s v

theorem RowRel.mono {D D' : Rom} (h : Rom.le D D') {n : Nat} {c : Array Value} {es : List (List SV)} (hr : RowRel D n c es) : RowRel D' n c es :=
  ⟨hr.1, hr.2.1, fun i j e s hi hj => by obtain ⟨v, h1, h2⟩ := hr.2.2 i j e s hi hj; exact ⟨v, h1, h2.mono h⟩⟩

theorem RowRel.set {D : Rom} {n : Nat} {c : Array Value} {es : List (List SV)} (h : RowRel D n c es) {i : Nat} (hi : i < es.length) {ps : List SV} {v : Value} (hl : v.cells.toList.length = ps.length) (hn : ps.length = n)
    (hv : ∀ (j : Nat) (s : SV) (u : Value), ps[j]? = some s → v.cells.toList[j]? = some u → PRel D s u) :
    RowRel D n ((v.cells.toList.zipIdx 0).foldl (fun cs (p : Value × Nat) => cs.setIfInBounds (i * n + p.2) p.1) c) (es.set i ps) := by
  refine ⟨by rw [foldl_set_size, List.length_set]; exact h.1, fun k e hk => ?_, fun k j e s hk hj => ?_⟩
  · rw [List.getElem?_set] at hk
    split at hk
    · cases hk; exact hn
    · exact h.2.1 k e hk
  · rw [foldl_set]
    simp only [Nat.add_zero]
    have hfit : i * n + n ≤ c.size := by
      rw [h.1]
      have := Nat.mul_le_mul_right n (show i + 1 ≤ es.length from hi)
      rw [Nat.add_mul] at this
      omega
    rw [List.getElem?_set] at hk
    by_cases hik : i = k
    · subst hik
      rw [if_pos rfl, if_pos hi] at hk
      cases hk
      have hj' : j < ps.length := (List.getElem?_eq_some_iff.1 hj).1
      obtain ⟨u, hu⟩ : ∃ u, v.cells.toList[j]? = some u := ⟨_, List.getElem?_eq_getElem (by omega)⟩
      refine ⟨u, ?_, hv j s u hj hu⟩
      rw [if_pos (by omega), ← hu]
      congr 1
      omega
    · rw [if_neg hik] at hk
      obtain ⟨u, g1, g2⟩ := h.2.2 k j e s hk hj
      refine ⟨u, ?_, g2⟩
      have hj' : j < n := by
        have := (List.getElem?_eq_some_iff.1 hj).1
        rw [h.2.1 k e hk] at this
        exact this
      rw [if_neg]
      · exact g1
      · rintro ⟨a1, a2, _⟩
        have := row_index (z := n) (i := i) (i' := k) (j := k * n + j - i * n) (j' := j) (by omega) hj' (by omega)
        exact hik this.1

theorem rowsK_sound {n : Nat} {g : Operand → SV} {ρ : Operand → Value} {E0 : Env} (hg : ∀ x, Rel E0 (g x) (ρ x)) :
    ∀ (l : List (Nat × Operand)) (es : List (List SV)) (us : List Upd) (c : Array Value) (k : List (List SV) → List Upd → Prop) (D : Rom),
      Frz E0 (E0.upd D E0.β us) → Mem G (E0.upd D E0.β us) F w → rowsK n E0.ob g l es us k → RowRel D n c es →
      ∃ c' es' us' D', Instr.fill (fun i => some (i * n, n)) c (l.map fun p => (p.1, ρ p.2)) = some c' ∧ k es' us' ∧ RowRel D' n c' es' ∧ Frz E0 (E0.upd D' E0.β us') ∧ Mem G (E0.upd D' E0.β us') F w
  | [], es, us, c, k, D, hF, hm, h, hr => ⟨c, es, us, D, rfl, h, hr, hF, hm⟩
  | (i, x) :: r, es, us, c, k, D, hF, hm, h, hr => by
    obtain ⟨vs, h, hl, hv⟩ := cellsK_sound (h : cellsK (g x) _) (hg x)
    obtain ⟨hn, h⟩ := ifB_true h
    have hn := lenIs_spec hn
    obtain ⟨ps, ws, D', h, hm', hF', hpl, hp⟩ := purLK_sound hF hm h hl (fun i s v hs hv' => (hv i s v hs hv').mono hF.le)
    obtain ⟨hi, h⟩ := h
    have e1 : (E0.upd D E0.β us).upd D' (E0.upd D E0.β us).β ws = E0.upd D' E0.β (us ++ ws) := by
      show (⟨D', E0.β, addO (addO E0.ob us) ws, addC (addC E0.ct us) ws⟩ : Env) = _
      rw [← addO_append, ← addC_append]
    have hm'' : Mem G (E0.upd D' E0.β (us ++ ws)) F w := by rw [← e1]; exact hm'
    have hF'' : Frz E0 (E0.upd D' E0.β (us ++ ws)) := by rw [← e1]; exact hF.trans hF'
    have hr' := (hr.mono hF'.le.D).set hi (ps := ps) (v := ρ x) (by rw [hl, hpl]) (by rw [hpl, hn]) hp
    obtain ⟨c', es', us', D'', g1, g2, g3, g4, g5⟩ := rowsK_sound hg r _ _ _ k D' hF'' hm'' h hr'
    refine ⟨c', es', us', D'', ?_, g2, g3, g4, g5⟩
    have hcs : (ρ x).cells.size = n := by rw [← hn, ← hl]; simp
    rw [List.map_cons, fill_one (off := i * n) (n := n) rfl hcs ?_]
    · exact g1
    · rw [hcs, hr.1]
      have := Nat.mul_le_mul_right n (show i + 1 ≤ es.length from hi)
      rw [Nat.add_mul] at this
      omega

/-- A new row. -/
theorem newRow_sound (hm : Mem G E F w) (d : Nat) {n len cap : Nat} {es : List (List SV)} {c : Array Value} {ty : TypeId} (hr : RowRel E.D n c es) (hlen : es.length = len) :
    Mem G (E.put d ⟨E.ct d, 1, n, es⟩ (some (w.heap.size, c.size)) (E.ct d + 1)) F { w with heap := w.heap.push (.cells c ty) } ∧ Env.le E (E.put d ⟨E.ct d, 1, n, es⟩ (some (w.heap.size, c.size)) (E.ct d + 1)) ∧
      (cap = len → Rel (E.put d ⟨E.ct d, 1, n, es⟩ (some (w.heap.size, c.size)) (E.ct d + 1)) (.lrow d (E.ct d)) (.slice (some ⟨w.heap.size, 0, none⟩) len cap)) := by
  obtain ⟨h1, h2⟩ := new_sound hm d 1 n c.size es c ty (by omega) hr.2.1 rfl (by rw [hr.1]; exact Nat.le_refl _) (fun i j e s hi hj => by
    obtain ⟨v, g1, g2⟩ := hr.2.2 i j e s hi hj
    exact ⟨v, g1, Rel0.of_pure g2, fun _ => g2⟩)
  refine ⟨h1, h2, fun hcap => Rel.of0 ⟨?_, rfl, fun b hb _ => ?_⟩⟩
  · show E.ct d < upd E.ct d (E.ct d + 1) d
    rw [upd_same]; omega
  · replace hb : upd E.ob d (some ⟨E.ct d, 1, n, es⟩) d = some b := hb
    rw [upd_same] at hb
    cases hb
    show RowAt (setβ E.β d (E.ct d) (some (w.heap.size, c.size)) d (E.ct d)) _ _
    rw [setβ_same]
    refine ⟨cap, by rw [hlen], ?_, ?_⟩
    · show cap * n ≤ c.size
      rw [hr.1, hlen, hcap]; exact Nat.le_refl _
    · show es.length ≤ cap
      rw [hlen, hcap]; exact Nat.le_refl _

theorem replicate_row {D : Rom} {n len : Nat} {zs : List SV} {z : Array Value} (hl : zs.length = n) (hz : z.toList.length = n) (hrel : ∀ (i : Nat) (s : SV) (v : Value), zs[i]? = some s → z.toList[i]? = some v → PRel D s v) :
    RowRel D n ((Array.range (len * n)).map (z[· % z.size]!)) (List.replicate len zs) := by
  have hzs : z.size = n := by simpa using hz
  refine ⟨by simp, fun i e hi => ?_, fun i j e s hi hj => ?_⟩
  · rw [List.getElem?_replicate] at hi
    split at hi
    · cases hi; exact hl
    · cases hi
  · rw [List.getElem?_replicate] at hi
    split at hi
    · rename_i hlt
      cases hi
      have hj' : j < n := by have := (List.getElem?_eq_some_iff.1 hj).1; omega
      have hk : i * n + j < len * n := by
        have := Nat.mul_le_mul_right n (show i + 1 ≤ len from hlt)
        rw [Nat.add_mul] at this
        omega
      have hmod : (i * n + j) % z.size = j := by
        rw [hzs, Nat.add_comm, Nat.add_mul_mod_self_right, Nat.mod_eq_of_lt hj']
      have hjz : j < z.size := by omega
      refine ⟨z[j], ?_, hrel j s z[j] hj (by simp [hjz])⟩
      simp [hk, hmod, getElem!_pos z j hjz]
    · cases hi

theorem buildSlice_sound (hm : Mem G E F w) {t el : TypeId} {len d : Nat} {g : Operand → SV} {ρ : Operand → Value} (hg : ∀ x, Rel E (g x) (ρ x)) {parts : Array (Nat × Operand)} (hu : P.underlying t = some (.slice el))
    (h : zeroK P el fun zs => sizeK P el fun n => lenIs zs n = true ∧ len * n ≤ 16777216 ∧ rowsK n E.ob g parts.toList (List.replicate len zs) [] fun es us => es.length = len ∧ R (.lrow d (E.ct d)) (us ++ [⟨d, ⟨E.ct d, 1, n, es⟩, true⟩])) :
    GoodV G F E R ((Instr.buildSlice t len (parts.map fun (i, x) => (i, ρ x))).run P w) := by
  obtain ⟨i, z, hi, hz, h, hl, _, hrel⟩ := zeroK_sound E.D h
  obtain ⟨i', hi', hln, hb, h⟩ := sizeK_spec h
  rw [hi] at hi'
  cases hi'
  have hln := lenIs_spec hln
  have hmap : (parts.map fun (i, x) => (i, ρ x)).toList = parts.toList.map fun p => (p.1, ρ p.2) := by simp
  have h0 := replicate_row (len := len) (z := z.cells) hln (by rw [hl]; exact hln) hrel
  obtain ⟨c', es', us', D', h1, ⟨hel, h2⟩, h3, h4, h5⟩ := rowsK_sound (G := G) (F := F) (w := w) hg parts.toList _ [] _ _ E.D (Frz.refl E) hm h h0
  have hrun : (Instr.buildSlice t len (parts.map fun (i, x) => (i, ρ x))).run P w = .ok (.slice (some ⟨w.heap.size, 0, none⟩) len len) { w with heap := w.heap.push (.cells c' el) } := by
    simp only [Instr.buildSlice, Sem.run_bind, run_underlying hu, Result.andThen_ok, run_sizeOf hi, hmap]
    rw [if_neg (by omega)]
    by_cases hz0 : len * i.size = 0
    · have hc0 : ((Array.range (len * i.size)).map (z.cells[· % z.cells.size]!)) = (Array.range (len * i.size)).map fun x => (#[] : Array Value)[x % (#[] : Array Value).size]! := by
        rw [hz0]; simp
      rw [hc0] at h1
      simp only [hz0, if_true, Sem.run_pure, Result.andThen_ok, Sem.run_bind]
      rw [hz0] at h1
      rw [h1]
      simp [newRow]
    · simp only [hz0, if_false, Sem.run_bind, zeroValue, typeInfo, run_program, Result.andThen_ok, hi, hz, Sem.run_pure]
      rw [h1]
      simp [newRow]
  rw [hrun]
  have hct : (E.upd D' E.β us').ct d = E.ct d := by have := congrFun h4.ct d; exact this
  obtain ⟨g1, g2, g3⟩ := newRow_sound (len := len) (cap := len) (ty := el) h5 d h3 hel
  rw [hct] at g1 g2 g3
  have e1 : (E.upd D' E.β us').put d ⟨E.ct d, 1, i.size, es'⟩ (some (w.heap.size, c'.size)) (E.ct d + 1) = E.upd D' (setβ E.β d (E.ct d) (some (w.heap.size, c'.size))) (us' ++ [⟨d, ⟨E.ct d, 1, i.size, es'⟩, true⟩]) := by
    show (⟨D', _, _, _⟩ : Env) = ⟨D', _, _, _⟩
    rw [addO_append, addC_append]
    show (⟨D', _, _, Am.upd (addC E.ct us') d (E.ct d + 1)⟩ : Env) = ⟨D', _, _, Am.upd (addC E.ct us') d (addC E.ct us' d + 1)⟩
    rw [show addC E.ct us' d = E.ct d from hct]
    rfl
  rw [e1] at g1 g2 g3
  exact ⟨_, _, _, _, D', _, h2, rfl, g3 rfl, g1, h4.le.trans g2⟩
end
end Go.Proofs.Yticandbdabgkeaa.Am
