/- What single operations come to: addresses, arithmetic, slices. No condition: lemmas. -/
import Derived.Test.YticandbdabgkeaaAmB4
import Derived.Laws.BitsAllLaws
namespace Go.Proofs.Yticandbdabgkeaa.Am
open Go

section
variable {P : Program} {G : Nat → List SV} {F : Nat → Option Obj} {E : Env} {R : SV → List Upd → Prop} {w : World}

theorem kEq_spec {k k' : IntKind} (h : kEq k k' = true) : k = k' := by cases k <;> cases k' <;> first | rfl | cases h

theorem wrap_in {k : IntKind} {n : Int} (h1 : k.min ≤ n) (h2 : n ≤ k.max) : k.wrap n = n := by
  cases k <;> simp [IntKind.min, IntKind.max, IntKind.signed, IntKind.bits] at h1 h2 <;> simp [IntKind.wrap, IntKind.signed, IntKind.bits] <;> omega

theorem fieldK_spec {t : TypeId} {f : Nat} {k : Nat → TypeId → Prop} (h : fieldK P t f k) : ∃ fs fld i, P.underlying t = some (.struct fs) ∧ fs[f]? = some fld ∧ P.info? fld.type = some i ∧ i.size ≠ 0 ∧ k fld.offset fld.type := by
  unfold fieldK at h
  cases hu : P.underlying t with
  | none => simp [hu] at h
  | some d =>
    cases d <;> simp only [hu] at h <;> try exact h.elim
    rename_i fs
    cases hf : fs[f]? with
    | none => simp [hf] at h
    | some fld =>
      simp only [hf] at h
      cases hi : P.info? fld.type with
      | none => simp [hi] at h
      | some i =>
        simp only [hi] at h
        refine ⟨fs, fld, i, rfl, hf, hi, ?_, ?_⟩
        · intro h0; rw [h0] at h; exact h
        · split at h
          · exact h.elim
          · exact h

theorem run_fieldAt {t : TypeId} {f : Nat} {fs : Array Field} {fld : Field} {i : TypeInfo} (hu : P.underlying t = some (.struct fs)) (hf : fs[f]? = some fld) (hi : P.info? fld.type = some i) (h0 : i.size ≠ 0) (b o : Nat) :
    (Instr.fieldAt t (.pointer (some ⟨b, o, none⟩)) f).run P w = .ok (.pointer (some ⟨b, o + fld.offset, none⟩)) w := by
  simp [Instr.fieldAt, run_underlying hu, hf, Instr.sureAddr, fieldPlace, run_sizeOf hi, h0, add_addr]

theorem fieldAddr_sound (hm : Mem G E F w) {t : TypeId} {f : Nat} {s : SV} {x : Value}
    (h : fieldK P t f fun off _ => match s with
      | .lptr o' st i j => match E.ob o' with
        | some b => st = b.st ∧ R (.lptr o' st i (j + off)) []
        | none => False
      | .ptr cs => R (.ptr (cs.drop off)) []
      | _ => False) (hr : Rel E s x) : GoodV G F E R ((Instr.fieldAt t x f).run P w) := by
  obtain ⟨fs, fld, i, hu, hf, hi, h0, h⟩ := fieldK_spec h
  cases s with
  | lptr o' st i j =>
    cases hb : E.ob o' with
    | none => simp [hb] at h
    | some b =>
      simp only [hb] at h
      obtain ⟨rfl, h⟩ := h
      obtain ⟨q, hq, rfl⟩ := hr.2.2 b hb rfl
      rw [run_fieldAt hu hf hi h0]
      refine GoodV.same hm h (Rel.of0 ⟨hr.1, rfl, fun b' hb' _ => ?_⟩)
      rw [hb] at hb'
      cases hb'
      exact ⟨q, hq, by rw [Nat.add_assoc]⟩
  | ptr cs =>
    cases (show PRel E.D (.ptr cs) x from hr) with
    | ptr _ blk off u hc hrr =>
      rw [run_fieldAt hu hf hi h0]
      refine GoodV.same hm h (Rel.of0 (Rel0.of_pure (PRel.ofPtr fun j s hj => ?_)))
      rw [List.getElem?_drop] at hj
      exact ⟨_, by rw [Nat.add_assoc]; exact hc _ s hj, hrr _ s hj⟩
  | _ => exact h.elim

theorem nilCheck_sound (hm : Mem G E F w) {s : SV} {x : Value}
    (h : match s with
      | .lptr o' st i j => match E.ob o' with
        | some b => st = b.st ∧ R (.lptr o' st i j) []
        | none => False
      | .ptr cs => R (.ptr cs) []
      | _ => False) (hr : Rel E s x) : ∃ a, x = .pointer (some a) ∧ R s [] := by
  cases s with
  | lptr o' st i j =>
    cases hb : E.ob o' with
    | none => simp [hb] at h
    | some b =>
      simp only [hb] at h
      obtain ⟨rfl, h⟩ := h
      obtain ⟨q, hq, rfl⟩ := hr.2.2 b hb rfl
      exact ⟨_, rfl, h⟩
  | ptr cs =>
    obtain ⟨blk, off, rfl, _⟩ := ptr_cells hm hr
    exact ⟨_, rfl, h⟩
  | _ => exact h.elim

theorem run_part {t : TypeId} {cs : List SV} {k : SV → Prop} {vs : List Value} {off : Nat} (h : readK P t (cs.drop off) k) (hl : vs.length = cs.length) (hc : ∀ (i : Nat) (s : SV) (v : Value), cs[i]? = some s → vs[i]? = some v → Rel0 E s v) :
    ∃ s v, k s ∧ (part t vs.toArray off).run P w = .ok v w ∧ RelA E s v := by
  obtain ⟨b, h1, hagg⟩ := aggK_spec h
  cases b with
  | true =>
    obtain ⟨i, hi, h2⟩ := sizeK_spec (h1 : sizeK P t _)
    obtain ⟨hlen, h3⟩ := takeK_spec _ _ h2
    refine ⟨_, .agg (vs.toArray.extract off (off + i.size)), h3, by simp [part, hagg, run_sizeOf hi], (vs.toArray.extract off (off + i.size)).toList, by simp, ?_, fun j s v hs hv => ?_⟩
    · simp at hlen ⊢; omega
    · rw [List.getElem?_take] at hs
      split at hs
      · rename_i hj
        rw [List.getElem?_drop] at hs
        have hv' : vs[off + j]? = some v := by
          simp only [Array.toList_extract, List.extract_eq_take_drop] at hv
          rw [List.getElem?_take] at hv
          split at hv
          · rw [List.getElem?_drop] at hv; exact hv
          · cases hv
        exact hc _ s v hs hv'
      · cases hs
  | false =>
    have h2 : match cs.drop off with | c :: _ => k c | [] => False := h1
    cases hd : cs.drop off with
    | nil => rw [hd] at h2; exact h2.elim
    | cons c r =>
      rw [hd] at h2
      have hs : cs[off]? = some c := by
        have := congrArg (fun l => l[0]?) hd
        simpa using this
      have hlt : off < cs.length := (List.getElem?_eq_some_iff.1 hs).1
      obtain ⟨v, hv⟩ : ∃ v, vs[off]? = some v := ⟨_, List.getElem?_eq_getElem (by omega)⟩
      exact ⟨c, v, h2, by simp [part, hagg, hv], RelA.of0 (hc off c v hs hv)⟩

theorem field_sound (hm : Mem G E F w) {t : TypeId} {f : Nat} {s : SV} {x : Value}
    (h : fieldK P t f fun off ft => match s with
      | .agg cs => readK P ft (cs.drop off) fun v => R v []
      | _ => False) (hr : Rel E s x) : GoodV G F E R ((Instr.field t x f).run P w) := by
  obtain ⟨fs, fld, i, hu, hf, hi, h0, h⟩ := fieldK_spec h
  cases s with
  | agg cs =>
    obtain ⟨vs, rfl, hl, hc⟩ := hr
    obtain ⟨s, v, h1, h2, h3⟩ := run_part (w := w) h hl hc
    have hrun : (Instr.field t (.agg vs.toArray) f).run P w = .ok v w := by
      simp [Instr.field, run_underlying hu, hf, asAgg, h2]
    rw [hrun]
    exact GoodV.same hm h1 (Rel.ofA h3)
  | _ => exact h.elim

theorem run_indexAt {t el : TypeId} {i : TypeInfo} (hu : P.underlying t = some (.slice el)) (hi : P.info? el = some i) (b o len cap : Nat) (k : IntKind) (n : Int) (h0 : 0 ≤ n) (h1 : n < len) :
    (Instr.indexAt t (.slice (some ⟨b, o, none⟩) len cap) (.int k n)).run P w = .ok (.pointer (some ⟨b, o + n.toNat * i.size, none⟩)) w := by
  simp [Instr.indexAt, asIntOf, run_underlying hu, run_sizeOf hi, h0, h1, add_addr]

theorem run_indexAtA {t el : TypeId} {i : TypeInfo} {len : Nat} (hu : P.underlying t = some (.array len el)) (hi : P.info? el = some i) (b o : Nat) (k : IntKind) (n : Int) (h0 : 0 ≤ n) (h1 : n < len) :
    (Instr.indexAt t (.pointer (some ⟨b, o, none⟩)) (.int k n)).run P w = .ok (.pointer (some ⟨b, o + n.toNat * i.size, none⟩)) w := by
  simp [Instr.indexAt, Instr.sureAddr, asIntOf, run_underlying hu, run_sizeOf hi, h0, h1, add_addr]

theorem indexAddr_sound (hm : Mem G E F w) {t : TypeId} {s y : SV} {x u : Value}
    (h : match y with
    | .int _ n => match P.underlying t with
      | some (.slice el) => sizeK P el fun z' => match s with
        | .sl z xs => z = z' ∧ 0 ≤ n ∧ ∃ e, xs[n.toNat]? = some e ∧ R (.ptr e) []
        | .lrow o' st => match E.ob o' with
          | some ⟨st', _, z, xs⟩ => st = st' ∧ z = z' ∧ 0 ≤ n ∧ n < xs.length ∧ R (.lptr o' st n.toNat 0) []
          | none => False
        | .lsl o' st lo m => match E.ob o' with
          | some ⟨st', _, z, _⟩ => st = st' ∧ z = z' ∧ 0 ≤ n ∧ n < m ∧ R (.lptr o' st (lo + n.toNat) 0) []
          | none => False
        | _ => False
      | some (.array len el) => sizeK P el fun z' => match s with
        | .lptr o' st i j => match E.ob o' with
          | some b => st = b.st ∧ 0 ≤ n ∧ n < len ∧ R (.lptr o' st i (j + n.toNat * z')) []
          | none => False
        | .ptr cs => 0 ≤ n ∧ n < len ∧ R (.ptr (cs.drop (n.toNat * z'))) []
        | _ => False
      | _ => False
    | _ => False) (hr : Rel E s x) (hy : Rel E y u) : GoodV G F E R ((Instr.indexAt t x u).run P w) := by
  cases y with
  | int k n =>
    obtain rfl := rel_int hy
    cases hu : P.underlying t with
    | none => simp [hu] at h
    | some d =>
      cases d <;> simp only [hu] at h <;> try exact h.elim
      case slice el =>
        obtain ⟨i, hi, h⟩ := sizeK_spec h
        cases s with
        | sl z xs =>
          obtain ⟨rfl, h0, e, he, h⟩ := h
          cases (show PRel E.D (.sl i.size xs) x from hr) with
          | sl _ _ A cap blk off u hcap hz hA hc hrr =>
            have hlt : n.toNat < xs.length := (List.getElem?_eq_some_iff.1 he).1
            rcases hA with rfl | rfl
            · simp at hlt
            · rw [run_indexAt hu hi blk off xs.length cap k n h0 (by omega)]
              refine GoodV.same hm h (Rel.of0 (Rel0.of_pure (PRel.ofPtr fun j s hj => ?_)))
              exact ⟨_, by rw [Nat.add_assoc]; exact hc _ _ _ _ he hj, hrr _ _ _ _ he hj⟩
        | lrow o' st =>
          cases hb : E.ob o' with
          | none => simp [hb] at h
          | some b =>
            obtain ⟨st', kd, z, xs⟩ := b
            simp only [hb] at h
            obtain ⟨rfl, rfl, h0, h1, h⟩ := h
            have hrow := hr.2.2 _ hb rfl
            replace hrow : RowAt (E.β o' st) ⟨st, kd, i.size, xs⟩ x := hrow
            cases hβ : E.β o' st with
            | none =>
              rw [hβ] at hrow
              have : xs = [] := hrow.1
              subst this
              simp at h1
              omega
            | some q =>
              rw [hβ] at hrow
              obtain ⟨cap, rfl, _, _⟩ := hrow
              rw [run_indexAt hu hi q.1 0 xs.length cap k n h0 h1]
              refine GoodV.same hm h (Rel.of0 ⟨hr.1, rfl, fun b' hb' _ => ?_⟩)
              rw [hb] at hb'
              cases hb'
              exact ⟨q, hβ, by simp⟩
        | lsl o' st lo m =>
          cases hb : E.ob o' with
          | none => simp [hb] at h
          | some b =>
            obtain ⟨st', kd, z, xs⟩ := b
            simp only [hb] at h
            obtain ⟨rfl, rfl, h0, h1, h⟩ := h
            have hrow := hr.2.2 _ hb rfl
            replace hrow : SlAt (E.β o' st) ⟨st, kd, i.size, xs⟩ lo m x := hrow
            cases hβ : E.β o' st with
            | none =>
              rw [hβ] at hrow
              have : m = 0 := hrow.2.1
              omega
            | some q =>
              rw [hβ] at hrow
              obtain ⟨A, cap, rfl, _, _, hA⟩ := hrow
              rcases hA with ⟨hA, _⟩ | rfl
              · omega
              · rw [run_indexAt hu hi q.1 (lo * i.size) m cap k n h0 h1]
                refine GoodV.same hm h (Rel.of0 ⟨hr.1, rfl, fun b' hb' _ => ?_⟩)
                rw [hb] at hb'
                cases hb'
                exact ⟨q, hβ, by simp [Nat.add_mul]⟩
        | _ => exact h.elim
      case array len el =>
        obtain ⟨i, hi, h⟩ := sizeK_spec h
        cases s with
        | lptr o' st a j =>
          cases hb : E.ob o' with
          | none => simp [hb] at h
          | some b =>
            simp only [hb] at h
            obtain ⟨rfl, h0, h1, h⟩ := h
            obtain ⟨q, hq, rfl⟩ := hr.2.2 b hb rfl
            rw [run_indexAtA hu hi q.1 _ k n h0 h1]
            refine GoodV.same hm h (Rel.of0 ⟨hr.1, rfl, fun b' hb' _ => ?_⟩)
            rw [hb] at hb'
            cases hb'
            exact ⟨q, hq, by rw [Nat.add_assoc]⟩
        | ptr cs =>
          obtain ⟨h0, h1, h⟩ := h
          cases (show PRel E.D (.ptr cs) x from hr) with
          | ptr _ blk off u hc hrr =>
            rw [run_indexAtA hu hi blk off k n h0 h1]
            refine GoodV.same hm h (Rel.of0 (Rel0.of_pure (PRel.ofPtr fun j s hj => ?_)))
            rw [List.getElem?_drop] at hj
            exact ⟨_, by rw [Nat.add_assoc]; exact hc _ s hj, hrr _ s hj⟩
        | _ => exact h.elim
  | _ => exact h.elim

theorem index_sound (hm : Mem G E F w) {t : TypeId} {s y : SV} {x u : Value}
    (h : match y with
    | .int _ n => match P.underlying t with
      | some (.array len el) => sizeK P el fun z => match s with
        | .agg cs => 0 ≤ n ∧ n < len ∧ aggK P el fun a => ifB a (takeK z (cs.drop (n.toNat * z)) fun es => R (.agg es) [])
          (z = 1 ∧ ∃ c, cs[n.toNat]? = some c ∧ R c [])
        | _ => False
      | some .string => match s with
        | .str s => 0 ≤ n ∧ n < s.size ∧ R (.int .u8 ((s.data.getD n.toNat 0).toNat : Int)) []
        | _ => False
      | _ => False
    | _ => False) (hr : Rel E s x) (hy : Rel E y u) : GoodV G F E R ((Instr.index t x u).run P w) := by
  cases y with
  | int k n =>
    obtain rfl := rel_int hy
    cases hu : P.underlying t with
    | none => simp [hu] at h
    | some d =>
      cases d <;> simp only [hu] at h <;> try exact h.elim
      case array len el =>
        obtain ⟨i, hi, h⟩ := sizeK_spec h
        cases s with
        | agg cs =>
          obtain ⟨h0, h1, h⟩ := h
          obtain ⟨vs, rfl, hl, hc⟩ := hr
          have hrd : readK P el (cs.drop (n.toNat * i.size)) fun v => R v [] := by
            unfold readK
            unfold aggK at h ⊢
            have key : ∀ a : Bool, ifB a (takeK i.size (cs.drop (n.toNat * i.size)) fun es => R (.agg es) []) (i.size = 1 ∧ ∃ c, cs[n.toNat]? = some c ∧ R c []) →
                ifB a (sizeK P el fun n' => takeK n' (cs.drop (n.toNat * i.size)) fun cs => R (.agg cs) []) (match cs.drop (n.toNat * i.size) with | c :: _ => R c [] | [] => False) := fun a ha => by
              cases a with
              | true => show sizeK P el _; unfold sizeK; rw [hi]; exact ha
              | false =>
                obtain ⟨h1', c, hcn, hR⟩ := ha
                show match cs.drop (n.toNat * i.size) with | c :: _ => R c [] | [] => False
                rw [h1', Nat.mul_one]
                have hlt := (List.getElem?_eq_some_iff.1 hcn).1
                rw [List.drop_eq_getElem_cons hlt]
                rw [List.getElem?_eq_getElem hlt] at hcn
                cases hcn
                exact hR
            cases hue : P.underlying el with
            | none => rw [hue] at h; exact h.elim
            | some d => rw [hue] at h; cases d <;> exact key _ h
          obtain ⟨s, v, g1, g2, g3⟩ := run_part (w := w) hrd hl hc
          have hrun : (Instr.index t (.agg vs.toArray) (.int k n)).run P w = .ok v w := by
            simp [Instr.index, asIntOf, run_underlying hu, run_sizeOf hi, h0, h1, g2]
          rw [hrun]
          exact GoodV.same hm g1 (Rel.ofA g3)
        | _ => exact h.elim
      case string =>
        cases s with
        | str s =>
          obtain ⟨h0, h1, h⟩ := h
          obtain rfl := rel_str hr
          have hlt : n.toNat < s.size := by omega
          have hrun : (Instr.index t (.string s) (.int k n)).run P w = .ok (.int .u8 ((s.data.getD n.toNat 0).toNat : Int)) w := by
            have hlt' : n.toNat < s.data.size := hlt
            have hs : s[n.toNat]? = some (s.data.getD n.toNat 0) := by
              rw [getElem?_pos s n.toNat hlt]
              simp only [Array.getD_eq_getD_getElem?, Array.getElem?_eq_getElem hlt', Option.getD_some]
              rfl
            simp [Instr.index, asIntOf, run_underlying hu, h0, hs]
          rw [hrun]
          exact GoodV.same hm h (Rel.of0 (Rel0.of_pure (.int _ _)))
        | _ => exact h.elim
  | _ => exact h.elim

theorem extract_sound (hm : Mem G E F w) {s : SV} {x : Value} {i : Nat}
    (h : match s with
      | .tup vs => match vs[i]? with | some v => R v [] | none => False
      | _ => False) (hr : Rel E s x) : GoodV G F E R ((Instr.extract x i).run P w) := by
  cases s with
  | tup ss =>
    obtain ⟨vs, rfl, hl, hc⟩ := hr
    cases hs : ss[i]? with
    | none => simp [hs] at h
    | some s =>
      simp only [hs] at h
      have hlt := (List.getElem?_eq_some_iff.1 hs).1
      obtain ⟨v, hv⟩ : ∃ v, vs[i]? = some v := ⟨_, List.getElem?_eq_getElem (by omega)⟩
      have hrun : (Instr.extract (.tuple vs.toArray) i).run P w = .ok v w := by simp [Instr.extract, hv]
      rw [hrun]
      exact GoodV.same hm h (Rel.ofA (hc i s v hs hv))
  | _ => exact h.elim

theorem int_pure (k : IntKind) (n : Int) : Rel E (.int k n) (.int k n) := Rel.of0 (Rel0.of_pure (.int k n))
theorem bool_pure (b : Bool) : Rel E (.bool b) (.bool b) := Rel.of0 (Rel0.of_pure (.bool b))
theorem str_pure (s : ByteArray) : Rel E (.str s) (.string s) := Rel.of0 (Rel0.of_pure (.str s))

theorem int2K_sound (hm : Mem G E F w) {op : BinOp} {t : TypeId} {k : IntKind} {a b : Int} (h : int2K op k a b fun v => R v []) : GoodV G F E R ((binOp op t (.int k a) (.int k b)).run P w) := by
  have wr : ∀ n : Int, (k.min ≤ n ∧ n ≤ k.max ∧ R (.int k n) []) ∨ R (.int k (k.wrap n)) [] → R (.int k (k.wrap n)) [] := fun n h => by
    rcases h with ⟨h1, h2, h⟩ | h
    · rw [wrap_in h1 h2]; exact h
    · exact h
  cases op <;> simp only [int2K] at h <;> try exact h.elim
  case add => simp only [binOp_add, Op.intArith, Sem.run_pure]; exact GoodV.same hm (wr _ h) (int_pure _ _)
  case sub => simp only [binOp_sub, Op.intArith, Sem.run_pure]; exact GoodV.same hm (wr _ h) (int_pure _ _)
  case mul => simp only [binOp_mul, Op.intArith, Sem.run_pure]; exact GoodV.same hm (wr _ h) (int_pure _ _)
  case quo =>
    obtain ⟨h0, h⟩ := h
    simp only [binOp_quo, Op.intDiv, h0, if_false, Sem.run_pure]
    exact GoodV.same hm h (int_pure _ _)
  case rem =>
    obtain ⟨h0, h⟩ := h
    simp only [binOp_rem, Op.intDiv, h0, if_false, Sem.run_pure]
    exact GoodV.same hm h (int_pure _ _)
  case eql => simp only [binOp_eql, Sem.run_pure]; exact GoodV.same hm h (bool_pure _)
  case neq =>
    simp only [binOp_neq, Sem.run_pure]
    rw [show (a != b) = decide (a ≠ b) from by rw [bne, Bool.eq_iff_iff]; simp]
    exact GoodV.same hm h (bool_pure _)
  case lss => simp only [binOp_lss, Sem.run_pure]; exact GoodV.same hm h (bool_pure _)
  case leq => simp only [binOp_leq, Sem.run_pure]; exact GoodV.same hm h (bool_pure _)
  case gtr => simp only [binOp_gtr, Sem.run_pure]; exact GoodV.same hm h (bool_pure _)
  case geq => simp only [binOp_geq, Sem.run_pure]; exact GoodV.same hm h (bool_pure _)
  case and => simp only [binOp_and, Op.intBits, Sem.run_pure]; exact GoodV.same hm h (int_pure _ _)
  case or => simp only [binOp_or, Op.intBits, Sem.run_pure]; exact GoodV.same hm h (int_pure _ _)
  case xor => simp only [binOp_xor, Op.intBits, Sem.run_pure]; exact GoodV.same hm h (int_pure _ _)
  case shl =>
    obtain ⟨h0, h⟩ := h
    simp only [binOp_shl, Op.shift, Int.not_lt.2 h0, if_false, Sem.run_pure]
    exact GoodV.same hm h (int_pure _ _)
  case shr =>
    obtain ⟨h0, h⟩ := h
    simp only [binOp_shr, Op.shift, Int.not_lt.2 h0, if_false, Sem.run_pure]
    exact GoodV.same hm h (int_pure _ _)

theorem shiftK_sound (hm : Mem G E F w) {op : BinOp} {t : TypeId} {k k' : IntKind} {a b : Int} (h : shiftK op k a b fun v => R v []) : GoodV G F E R ((binOp op t (.int k a) (.int k' b)).run P w) := by
  cases op <;> simp only [shiftK] at h <;> try exact h.elim
  case shl =>
    obtain ⟨h0, h⟩ := h
    simp only [binOp_shl, Op.shift, Int.not_lt.2 h0, if_false, Sem.run_pure]
    exact GoodV.same hm h (int_pure _ _)
  case shr =>
    obtain ⟨h0, h⟩ := h
    simp only [binOp_shr, Op.shift, Int.not_lt.2 h0, if_false, Sem.run_pure]
    exact GoodV.same hm h (int_pure _ _)

theorem unOp_sound (hm : Mem G E F w) {op : UnOp} {s : SV} {x : Value}
    (h : match op, s with
    | .not, .bool b => R (.bool (!b)) []
    | .neg, .int k n => (k.min ≤ -n ∧ -n ≤ k.max ∧ R (.int k (-n)) []) ∨ R (.int k (k.wrap (0 - n))) []
    | _, _ => False) (hr : Rel E s x) : GoodV G F E R ((Op.unary op x).run P w) := by
  cases op <;> cases s <;> try exact h.elim
  case neg.int k n =>
    obtain rfl := rel_int hr
    simp only [Op.unary, Op.intArith, Sem.run_pure]
    refine GoodV.same hm ?_ (int_pure _ _)
    rcases h with ⟨h1, h2, h⟩ | h
    · rw [show (0 : Int) - n = -n by omega, wrap_in h1 h2]; exact h
    · exact h
  case not.bool b =>
    obtain rfl := rel_bool hr
    simp only [Op.unary, Sem.run_pure]
    exact GoodV.same hm h (bool_pure _)

theorem convert_sound (hm : Mem G E F w) {s d : TypeId} {y : SV} {x : Value}
    (h : match P.underlying s, P.underlying d, y with
    | some (.int _), some (.int k), .int _ n => (k.min ≤ n ∧ n ≤ k.max ∧ R (.int k n) []) ∨ R (.int k (k.wrap n)) []
    | _, _, _ => False) (hr : Rel E y x) : GoodV G F E R ((convert s d x).run P w) := by
  cases hs : P.underlying s with
  | none => simp [hs] at h
  | some ds =>
    cases ds <;> simp only [hs] at h <;> try exact h.elim
    rename_i k0
    cases hd : P.underlying d with
    | none => simp [hd] at h
    | some dd =>
      cases dd <;> simp only [hd] at h <;> try exact h.elim
      rename_i k
      cases y <;> try exact h.elim
      rename_i k1 n
      obtain rfl := rel_int hr
      have hrun : (convert s d (.int k1 n)).run P w = .ok (.int k (k.wrap n)) w := by
        simp [convert, run_underlying hs, run_underlying hd, Conv.intToInt]
      rw [hrun]
      refine GoodV.same hm ?_ (int_pure _ _)
      rcases h with ⟨h1, h2, h⟩ | h
      · rw [wrap_in h1 h2]; exact h
      · exact h

theorem maxK_sound (hm : Mem G E F w) {g : Operand → SV} {ρ : Operand → Value} (hg : ∀ x, Rel E (g x) (ρ x)) {pick : Int → Int → Int} {f : Value → Value → Sem Value} (hf : ∀ k a b w, (f (.int k a) (.int k b)).run P w = .ok (.int k (pick a b)) w) :
    ∀ (l : List Operand) (k : IntKind) (a : Int), (maxK pick g l k a fun v => R v []) → GoodV G F E R (((l.map ρ).foldlM f (.int k a)).run P w)
  | [], k, a, h => by simp only [List.map_nil, List.foldlM_nil, Sem.run_pure]; exact GoodV.same hm h (int_pure _ _)
  | x :: r, k, a, h => by
    simp only [maxK] at h
    have hx := hg x
    cases hgx : g x <;> rw [hgx] at h <;> try exact h.elim
    rename_i k' b
    obtain ⟨hk, hh⟩ := ifB_true h
    obtain rfl := kEq_spec hk
    rw [hgx] at hx
    rw [List.map_cons, List.foldlM_cons, rel_int hx, Sem.run_bind, hf]
    exact maxK_sound hm hg hf r k (pick a b) hh

theorem len_sound (hm : Mem G E F w) {t ty : TypeId} {s : SV} {x : Value}
    (h : match P.underlying t, s with
        | some (.slice _), .sl _ xs => R (.i xs.length) []
        | some (.slice _), .nils => R (.i 0) []
        | some (.slice _), .lrow o' st => match E.ob o' with
          | some b => st = b.st ∧ R (.i b.xs.length) []
          | none => False
        | some (.slice _), .lsl o' st _ n => match E.ob o' with
          | some b => st = b.st ∧ R (.i n) []
          | none => False
        | some .string, .str s => R (.i s.size) []
        | some (.array n _), _ => R (.i n) []
        | _, _ => False) (hr : Rel E s x) : GoodV G F E R ((Builtin.len_ #[t] ty #[x]).run P w) := by
  cases hu : P.underlying t with
  | none => simp [hu] at h
  | some d =>
    cases d <;> simp only [hu] at h <;> try exact h.elim
    case string =>
      cases s <;> try exact h.elim
      obtain rfl := rel_str hr
      simp only [Builtin.len_, List.getElem?_toArray, List.getElem?_cons_zero, Sem.run_bind, run_underlying hu, Result.andThen_ok, goInt, Sem.run_pure]
      exact GoodV.same hm h (int_pure _ _)
    case array n e =>
      simp only [Builtin.len_, List.getElem?_toArray, List.getElem?_cons_zero, Sem.run_bind, run_underlying hu, Result.andThen_ok, goInt, Sem.run_pure]
      exact GoodV.same hm h (int_pure _ _)
    case slice e =>
      have fin : ∀ A n c, x = .slice A n c → R (.i n) [] → GoodV G F E R ((Builtin.len_ #[t] ty #[x]).run P w) := fun A n c hx hR => by
        subst hx
        simp only [Builtin.len_, List.getElem?_toArray, List.getElem?_cons_zero, Sem.run_bind, run_underlying hu, Result.andThen_ok, goInt, Sem.run_pure]
        exact GoodV.same hm hR (int_pure _ _)
      cases s with
      | nils => exact fin _ _ _ (rel_nils hr) h
      | sl z xs => cases (show PRel E.D (.sl z xs) x from hr) with | sl _ _ A cap => exact fin _ _ _ rfl h
      | lrow o' st =>
        cases hb : E.ob o' with
        | none => simp [hb] at h
        | some b =>
          simp only [hb] at h
          obtain ⟨rfl, h⟩ := h
          have hrow := hr.2.2 b hb rfl
          unfold RowAt at hrow
          split at hrow
          · obtain ⟨h1, h2⟩ := hrow; rw [h1] at h; exact fin _ _ _ h2 h
          · obtain ⟨cap, h1, _⟩ := hrow; exact fin _ _ _ h1 h
      | lsl o' st lo n =>
        cases hb : E.ob o' with
        | none => simp [hb] at h
        | some b =>
          simp only [hb] at h
          obtain ⟨rfl, h⟩ := h
          have hrow := hr.2.2 b hb rfl
          unfold SlAt at hrow
          split at hrow
          · obtain ⟨_, h1, h2⟩ := hrow; rw [h1] at h; exact fin _ _ _ h2 h
          · obtain ⟨A, cap, h1, _⟩ := hrow; exact fin _ _ _ h1 h
      | _ => exact h.elim
end
end Go.Proofs.Yticandbdabgkeaa.Am
