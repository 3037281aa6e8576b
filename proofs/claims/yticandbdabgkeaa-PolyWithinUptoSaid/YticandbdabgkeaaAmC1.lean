/- Every operation of the abstract machine is sound. No condition: lemmas. -/
import Derived.Test.YticandbdabgkeaaAmBA
namespace Go.Proofs.Yticandbdabgkeaa.Am
open Go

section
variable {P : Program} {G : Nat → List SV} {F : Nat → Option Obj} {E : Env} {R : SV → List Upd → Prop} {w : World}

theorem toList_one {α : Type} {a : Array α} {x : α} (h : a.toList = [x]) : a = #[x] := by
  apply Array.ext'; simpa using h
theorem toList_two {α : Type} {a : Array α} {x y : α} (h : a.toList = [x, y]) : a = #[x, y] := by
  apply Array.ext'; simpa using h

theorem callV {ρ : Operand → Value} {o : Oper} {b : Builtin} {c : Call} (ho : o.op = .call c) (hc : c.callee = .builtin b) {s : Sem Value}
    (hb : builtin b c.argTypes o.type (c.args.map fun | .const _ => true | _ => false) (c.args.map ρ) = (do pure (Next.value (← s)) : Sem Next)) (h : GoodV G F E R (s.run P w)) : Good G F E R ((execOp ρ o).run P w) := by
  have e : (execOp ρ o).run P w = (do pure (Next.value (← s)) : Sem Next).run P w := by
    rw [← hb]
    simp [execOp, ho, resolve, hc, invoke]
    rfl
  rw [e]
  exact GoodV.toGood h

theorem max_fold {P : Program} (k : IntKind) (a b : Int) (w : World) : (Builtin.max2 (.int k a) (.int k b)).run P w = .ok (.int k (max a b)) w := by
  simp only [Builtin.max2, Sem.run_pure]
  congr 2
  rw [Int.max_def]
  by_cases h : a ≤ b
  · rw [if_pos h]
    by_cases h2 : b > a
    · rw [if_pos h2]
    · rw [if_neg h2]; omega
  · rw [if_neg h, if_neg (by omega)]
theorem min_fold {P : Program} (k : IntKind) (a b : Int) (w : World) : (Builtin.min2 (.int k a) (.int k b)).run P w = .ok (.int k (min a b)) w := by
  simp only [Builtin.min2, Sem.run_pure]
  congr 2
  rw [Int.min_def]
  by_cases h : a ≤ b
  · rw [if_pos h]
    by_cases h2 : b < a
    · omega
    · rw [if_neg h2]
  · rw [if_neg h, if_pos (by omega)]

theorem builtin_sound (hm : Mem G E F w) {o : Oper} {c : Call} {b : Builtin} (ho : o.op = .call c) (hc : c.callee = .builtin b) {g : Operand → SV} {ρ : Operand → Value} (hg : ∀ x, Rel E (g x) (ρ x)) (h : act P o g E.ob E.ct R) : Good G F E R ((execOp ρ o).run P w) := by
  obtain ⟨dst, op, type, pos, after, guard⟩ := o
  obtain ⟨callee, args, argTypes⟩ := c
  cases ho
  cases hc
  cases b <;> simp only [act] at h <;> try exact h.elim
  case len =>
    split at h
    · rename_i x t hx ht
      have hx := toList_one hx
      have ht := toList_one ht
      subst hx; subst ht
      exact callV (s := Builtin.len_ #[t] type #[ρ x]) rfl rfl (by simp [builtin]) (len_sound hm h (hg x))
    · exact h.elim
  case append =>
    split at h
    · rename_i x y tx ty d hx ht
      have hx := toList_two hx
      have ht := toList_two ht
      subst hx; subst ht
      split at h
      · rename_i el el' hux huy
        split at h
        · rename_i i hi
          split at h
          · rename_i z hz
            obtain ⟨hsz, h⟩ := ifB_true h
            simp only [Bool.and_eq_true] at hsz
            have hby : 0 < i.bytes := by have := hsz.2; simp [Nat.blt] at this; omega
            obtain ⟨ys, news, h, hels⟩ := elsK_sound (P := P) (w := w) hm h (hg y)
            exact callV (s := Builtin.append_ #[tx, ty] type #[ρ x, ρ y]) rfl rfl (by simp [builtin]) (appendK_sound hm hux huy hi hz (lenIs_spec hsz.1) hby h (hg x) hels)
          · exact h.elim
        · exact h.elim
      · rename_i el k0 hux huy
        split at h
        · rename_i n hgx hgy
          have h1 := hg x
          have h2 := hg y
          rw [hgx] at h1
          rw [hgy] at h2
          refine callV (s := Builtin.append_ #[tx, ty] type #[ρ x, ρ y]) rfl rfl (by simp [builtin]) ?_
          rw [rel_nils h1, rel_int h2]
          exact appendZ_sound hm hux huy h
        · exact h.elim
      · exact h.elim
    · exact h.elim
  case cap =>
    split at h
    · rename_i x t hx ht
      have hx := toList_one hx
      have ht := toList_one ht
      subst hx; subst ht
      refine callV (s := Builtin.cap_ #[t] type #[ρ x]) rfl rfl (by simp [builtin]) ?_
      split at h
      · rename_i el hu hgx
        have h1 := hg x
        rw [hgx] at h1
        rw [rel_nils h1]
        have hrun : (Builtin.cap_ #[t] type #[.slice none 0 0]).run P w = .ok (.int .i64 0) w := by
          simp [Builtin.cap_, run_underlying hu, goInt]
        rw [hrun]
        exact GoodV.same hm h (int_pure _ _)
      · exact h.elim
    · exact h.elim
  case clear =>
    split at h
    · rename_i x t hx ht
      have hx := toList_one hx
      have ht := toList_one ht
      subst hx; subst ht
      refine callV (s := Builtin.clear_ #[t] type #[ρ x]) rfl rfl (by simp [builtin]) ?_
      split at h
      · rename_i el hu
        exact clear_sound hm hu h (hg x)
      · exact h.elim
    · exact h.elim
  case max =>
    split at h
    · rename_i x r hx
      cases hgx : g x <;> rw [hgx] at h <;> try exact h.elim
      rename_i k a
      have hr := hg x
      rw [hgx] at hr
      have hsnd := maxK_sound (P := P) hm hg (f := Builtin.max2) (pick := fun a b => max a b) (fun k a b w => max_fold k a b w) r k a h
      refine callV (s := (r.map ρ).foldlM Builtin.max2 (.int k a)) rfl rfl ?_ hsnd
      simp [builtin, Builtin.max_, hx, rel_int hr]
    · exact h.elim
  case min =>
    split at h
    · rename_i x r hx
      cases hgx : g x <;> rw [hgx] at h <;> try exact h.elim
      rename_i k a
      have hr := hg x
      rw [hgx] at hr
      have hsnd := maxK_sound (P := P) hm hg (f := Builtin.min2) (pick := fun a b => min a b) (fun k a b w => min_fold k a b w) r k a h
      refine callV (s := (r.map ρ).foldlM Builtin.min2 (.int k a)) rfl rfl ?_ hsnd
      simp [builtin, Builtin.min_, hx, rel_int hr]
    · exact h.elim

theorem opt_rel {g : Operand → SV} {ρ : Operand → Value} (hg : ∀ x, Rel E (g x) (ρ x)) (o : Option Operand) : (∀ s, o.map g = some s → ∃ v, o.map ρ = some v ∧ Rel E s v) ∧ (o.map g = none → o.map ρ = none) := by
  cases o with
  | none => exact ⟨fun s h => (by cases h), fun _ => rfl⟩
  | some x => exact ⟨fun s h => (by cases h; exact ⟨_, rfl, hg x⟩), fun h => (by cases h)⟩

theorem agg_flat {t : TypeId} {X : Prop} {l : List Nat} (h : aggK P t fun ag => ifB ag X False) (hl : leaves P 8 t = some l) : flatB P t = true ∧ X := by
  unfold aggK at h
  unfold leaves at hl
  unfold flatB
  cases hu : P.underlying t with
  | none => simp [hu] at hl
  | some d =>
    rw [hu] at h hl
    cases d
    case struct => exact ⟨rfl, h⟩
    case bool => exact False.elim h
    case int => exact False.elim h
    case string => exact False.elim h
    all_goals cases hl

theorem structEq_sound (hm : Mem G E F w) {op : BinOp} {t : TypeId} {cs ds : List SV} {a b : Operand} {x y : Value} (hx : Rel E (.agg cs) x) (hy : Rel E (.agg ds) y)
    (h : aggK P t fun ag => ifB ag (match leaves P 8 t with
      | some l => match op with
        | .eql => eqOk P 8 t = true ∧ eqK l cs ds fun r => R (.bool r) []
        | .neq => eqOk P 8 t = true ∧ eqK l cs ds fun r => R (.bool (!r)) []
        | _ => False
      | none => False) False) : GoodV G F E R ((do eqGuard op t a b x y; binOp op t x y : Sem Value).run P w) := by
  cases hl : leaves P 8 t with
  | none =>
    exfalso
    rw [hl] at h
    obtain ⟨ag, h, _⟩ := aggK_spec h
    exact (ifB_true h).2
  | some l =>
    obtain ⟨hf, h⟩ := agg_flat h hl
    simp only [hl] at h
    have hx' := hx
    have hy' := hy
    obtain ⟨vs, hvs, _⟩ := hx'
    obtain ⟨us, hus, _⟩ := hy'
    split at h
    · obtain ⟨hok, h⟩ := h
      obtain ⟨r, hR, hrun, hgd⟩ := eq_sound (w := w) hl hok hf hx hy h
      rw [Sem.run_bind, hgd, Result.andThen_ok]
      have : (binOp .eql t x y).run P w = .ok (.bool r) w := by
        rw [hvs, hus] at hrun ⊢
        simp [binOp, hrun]
      rw [this]
      exact GoodV.same hm hR (bool_pure _)
    · obtain ⟨hok, h⟩ := h
      obtain ⟨r, hR, hrun, hgd⟩ := eq_sound (w := w) hl hok hf hx hy h
      rw [Sem.run_bind, hgd, Result.andThen_ok]
      have : (binOp .neq t x y).run P w = .ok (.bool (!r)) w := by
        rw [hvs, hus] at hrun ⊢
        simp [binOp, hrun]
      rw [this]
      exact GoodV.same hm hR (bool_pure _)
    · exact h.elim

theorem binOp_sound (hm : Mem G E F w) {op : BinOp} {t : TypeId} {x y : Operand} {g : Operand → SV} {ρ : Operand → Value} (hg : ∀ x, Rel E (g x) (ρ x))
    (h : match g x, g y with
    | .int k a, .int k' b => ifB (kEq k k') (int2K op k a b fun v => R v []) (shiftK op k a b fun v => R v [])
    | .bool a, .bool b => match P.underlying t, op with
      | some .bool, .eql => R (.bool (a == b)) []
      | some .bool, .neq => R (.bool (!(a == b))) []
      | _, _ => False
    | .str a, .str b => match op with
      | .add => ((a.size + b.size : Nat) : Int) ≤ 9223372036854775807 ∧ R (.str (a ++ b)) []
      | .eql => R (.bool (decide (a = b))) []
      | .neq => R (.bool (!decide (a = b))) []
      | _ => False
    | .agg cs, .agg ds => aggK P t fun ag => ifB ag (match leaves P 8 t with
      | some l => match op with
        | .eql => eqOk P 8 t = true ∧ eqK l cs ds fun r => R (.bool r) []
        | .neq => eqOk P 8 t = true ∧ eqK l cs ds fun r => R (.bool (!r)) []
        | _ => False
      | none => False) False
    | .sl _ xs, .nils => match P.underlying t with
      | some (.slice _) => xs ≠ [] ∧ nilEqK op false R
      | _ => False
    | .nils, .nils => match P.underlying t with
      | some (.slice _) => nilEqK op true R
      | _ => False
    | .ptr _, .nilp => match P.underlying t with
      | some (.pointer _) => nilEqK op false R
      | _ => False
    | .lptr o st _ _, .nilp => match P.underlying t with
      | some (.pointer _) => match E.ob o with
        | some b => st = b.st ∧ nilEqK op false R
        | none => False
      | _ => False
    | _, _ => False) : GoodV G F E R ((do eqGuard op t x y (ρ x) (ρ y); binOp op t (ρ x) (ρ y) : Sem Value).run P w) := by
  have hx := hg x
  have hy := hg y
  have heq : ∀ a b : ByteArray, (a.toList == b.toList) = decide (a = b) := fun a b => by
    rw [Bool.eq_iff_iff, decide_eq_true_eq, beq_iff_eq, ByteArray.toList_eq, ByteArray.toList_eq]
    constructor
    · intro h
      obtain ⟨⟨p⟩⟩ := a
      obtain ⟨⟨q⟩⟩ := b
      exact congrArg (fun l => ByteArray.mk (Array.mk l)) h
    · rintro rfl; rfl
  split at h
  · rename_i k a k' b h1 h2
    rw [h1] at hx
    rw [h2] at hy
    rw [rel_int hx, rel_int hy, Sem.run_bind, eqGuard_at_int, Sem.run_pure, Result.andThen_ok]
    rcases ifB_spec h with ⟨hk, hh⟩ | ⟨_, hh⟩
    · obtain rfl := kEq_spec hk
      exact int2K_sound hm hh
    · exact shiftK_sound hm hh
  · rename_i a b h1 h2
    rw [h1] at hx
    rw [h2] at hy
    rw [rel_bool hx, rel_bool hy, Sem.run_bind, eqGuard_at_bool, Sem.run_pure, Result.andThen_ok]
    split at h
    · rename_i hu
      have : (binOp .eql t (.bool a) (.bool b)).run P w = .ok (.bool (a == b)) w := by
        simp [binOp, Op.equal, Op.maxDepth, run_equalIn_bool' w _ t a b hu]
      rw [this]
      exact GoodV.same hm h (bool_pure _)
    · rename_i hu
      have : (binOp .neq t (.bool a) (.bool b)).run P w = .ok (.bool (!(a == b))) w := by
        simp [binOp, Op.equal, Op.maxDepth, run_equalIn_bool' w _ t a b hu]
      rw [this]
      exact GoodV.same hm h (bool_pure _)
    · exact h.elim
  · rename_i a b h1 h2
    rw [h1] at hx
    rw [h2] at hy
    rw [rel_str hx, rel_str hy, Sem.run_bind, eqGuard_at_string, Sem.run_pure, Result.andThen_ok]
    cases op <;> try exact h.elim
    case add =>
      obtain ⟨hsz, h⟩ := h
      have : (binOp .add t (.string a) (.string b)).run P w = .ok (.string (a ++ b)) w := by
        have hno : ¬ (((a.size + b.size : Nat) : Int) > IntKind.i64.max) := by simp only [IntKind.max, IntKind.signed, IntKind.bits]; omega
        simp only [binOp, Op.stringOp]
        rw [if_neg hno]
        rfl
      rw [this]
      exact GoodV.same hm h (str_pure _)
    case eql =>
      have : (binOp .eql t (.string a) (.string b)).run P w = .ok (.bool (decide (a = b))) w := by
        simp only [binOp, Op.stringOp, Sem.run_pure, heq]
      rw [this]
      exact GoodV.same hm h (bool_pure _)
    case neq =>
      have : (binOp .neq t (.string a) (.string b)).run P w = .ok (.bool (!decide (a = b))) w := by
        simp only [binOp, Op.stringOp, Sem.run_pure, heq]
      rw [this]
      exact GoodV.same hm h (bool_pure _)
  · rename_i cs ds h1 h2
    rw [h1] at hx
    rw [h2] at hy
    exact structEq_sound hm hx hy h
  · rename_i z xs h1 h2
    rw [h1] at hx
    rw [h2] at hy
    rw [rel_nils hy]
    split at h
    · rename_i el hu
      obtain ⟨hne, h⟩ := h
      generalize ρ x = vx at hx
      cases (show PRel E.D (.sl z xs) vx from hx) with
      | sl _ _ A cap blk off u hcap hz hA hc hrr =>
        exact nilEq_slice hm hu h (.inr ⟨by rcases hA with e | e; exact absurd e hne; rw [e]; simp, rfl⟩) x y
    · exact h.elim
  · rename_i h1 h2
    rw [h1] at hx
    rw [h2] at hy
    rw [rel_nils hx, rel_nils hy]
    split at h
    · rename_i el hu
      exact nilEq_slice hm hu h (.inl ⟨rfl, rfl⟩) x y
    · exact h.elim
  · rename_i cs h1 h2
    rw [h1] at hx
    rw [h2] at hy
    have e : ρ y = .pointer none := by
      generalize ρ y = vy at hy
      cases (show PRel E.D .nilp vy from hy)
      rfl
    rw [e]
    split at h
    · rename_i el hu
      generalize ρ x = vx at hx
      cases (show PRel E.D (.ptr cs) vx from hx)
      exact nilEq_ptr hm hu h x y
    · exact h.elim
  · rename_i o st i j h1 h2
    rw [h1] at hx
    rw [h2] at hy
    have e : ρ y = .pointer none := by
      generalize ρ y = vy at hy
      cases (show PRel E.D .nilp vy from hy)
      rfl
    rw [e]
    split at h
    · rename_i el hu
      cases hb : E.ob o with
      | none => rw [hb] at h; exact h.elim
      | some b =>
        rw [hb] at h
        obtain ⟨rfl, h⟩ := h
        obtain ⟨q, _, hv⟩ := hx.2.2 b hb rfl
        rw [hv]
        exact nilEq_ptr hm hu h x y
    · exact h.elim
  · exact h.elim

theorem act_sound (hm : Mem G E F w) {o : Oper} {g : Operand → SV} {ρ : Operand → Value} (hg : ∀ x, Rel E (g x) (ρ x)) (h : act P o g E.ob E.ct R) : Good G F E R ((execOp ρ o).run P w) := by
  have h' := h
  obtain ⟨dst, op, type, pos, after, guard⟩ := o
  cases op <;> simp only [act] at h <;> try exact h.elim
  case move x => exact ⟨_, [], ρ x, w, E.D, E.β, h, .inl rfl, hg x, hm, Env.le.refl E⟩
  case assign x => exact ⟨_, [], ρ x, w, E.D, E.β, h, .inl rfl, hg x, hm, Env.le.refl E⟩
  case pick c a b =>
    cases hc : g c <;> rw [hc] at h <;> try exact h.elim
    rename_i t
    have hcr := hg c
    rw [hc] at hcr
    have hcv := rel_bool hcr
    cases t with
    | true => exact ⟨_, [], ρ a, w, E.D, E.β, h, .inl (by simp [execOp, hcv, asBool]), hg a, hm, Env.le.refl E⟩
    | false => exact ⟨_, [], ρ b, w, E.D, E.β, h, .inl (by simp [execOp, hcv, asBool]), hg b, hm, Env.le.refl E⟩
  case alloc t =>
    cases dst with
    | none => exact h.elim
    | some d => exact GoodV.toGood (alloc_sound hm h)
  case box t x =>
    cases dst with
    | none => exact h.elim
    | some d => exact GoodV.toGood (box_sound hm (hg x) h)
  case build t parts => exact GoodV.toGood (build_sound hm hg h)
  case buildSlice t len parts =>
    split at h
    · rename_i d el hd hu
      exact GoodV.toGood (buildSlice_sound hm hg hu h)
    · exact h.elim
  case load t x => exact GoodV.toGood (load_sound hm h (hg x))
  case store t x y => exact GoodU.toGood (store_sound hm h (hg x) (hg y))
  case nilCheck x =>
    obtain ⟨a, hx, hR⟩ := nilCheck_sound (R := R) hm (s := g x) (x := ρ x) (by
      cases hgx : g x <;> rw [hgx] at h <;> exact h) (hg x)
    refine ⟨_, [], ρ x, w, E.D, E.β, hR, .inl ?_, hg x, hm, Env.le.refl E⟩
    simp [execOp, hx]
  case binOp op t x y yt => exact GoodV.toGood (binOp_sound hm hg h)
  case unOp op t x => exact GoodV.toGood (unOp_sound hm h (hg x))
  case convert s d x => exact GoodV.toGood (convert_sound hm h (hg x))
  case makeFunc fn first caps =>
    cases fn <;> try exact h.elim
    rename_i f
    simp only at h
    split at h
    · rename_i hf
      have hf' : first = #[] := by apply Array.ext'; simpa using hf
      subst hf'
      have e : (execOp ρ ⟨dst, .makeFunc (.func f) #[] caps, type, pos, after, guard⟩) = (do pure (Next.value (← Instr.makeFunc (.func f) #[] (caps.map ρ))) : Sem Next) := by
        show (do pure (Next.value (← Instr.makeFunc (.func f) ((#[] : Array Operand).map ρ) (caps.map ρ))) : Sem Next) = _
        simp only [Array.map_empty]
      rw [e]
      exact GoodV.toGood (makeFunc_sound hm hg h)
    · exact h.elim
  case makeSlice t l c =>
    split at h
    · rename_i d el n m hu hl hc
      obtain ⟨rfl, h⟩ := h
      have h1 := hg l
      have h2 := hg c
      rw [hl] at h1
      rw [hc] at h2
      have e : (execOp ρ ⟨some d, .makeSlice t l c, type, pos, after, guard⟩) = (do pure (Next.value (← Instr.makeSlice t (.int .i64 n) (.int .i64 n))) : Sem Next) := by
        show (do pure (Next.value (← Instr.makeSlice t (ρ l) (ρ c))) : Sem Next) = _
        rw [rel_int h1, rel_int h2]
      rw [e]
      exact GoodV.toGood (makeSlice_sound hm hu h)
    · exact h.elim
  case slice t x lo hi mx =>
    cases mx with
    | some _ => exact h.elim
    | none =>
      simp only at h
      obtain ⟨a1, a2⟩ := opt_rel hg lo
      obtain ⟨b1, b2⟩ := opt_rel hg hi
      split at h
      · rename_i el hu
        obtain ⟨i, hi', h⟩ := sizeK_spec h
        exact GoodV.toGood (sliceK_sound hm hu hi' h (hg x) a1 a2 b1 b2)
      · rename_i hu
        exact GoodV.toGood (sliceStr_sound hm hu h (hg x) a1 a2 b1 b2)
      · exact h.elim
  case fieldAddr t x f => exact GoodV.toGood (fieldAddr_sound hm h (hg x))
  case field t x f => exact GoodV.toGood (field_sound hm h (hg x))
  case indexAddr t x y => exact GoodV.toGood (indexAddr_sound hm h (hg x) (hg y))
  case index t x y => exact GoodV.toGood (index_sound hm h (hg x) (hg y))
  case extract x i => exact GoodV.toGood (extract_sound hm h (hg x))
  case call c =>
    cases hc : c.callee with
    | builtin b => exact builtin_sound hm rfl hc hg h'
    | value f => rw [hc] at h; exact h.elim
    | invoke r m => rw [hc] at h; exact h.elim
end
end Go.Proofs.Yticandbdabgkeaa.Am
