/- A statement whose order is open: one order serves for all. No condition: definitions and lemmas. -/
import Derived.Test.YticandbdabgkeaaAmC2
namespace Go.Proofs.Yticandbdabgkeaa.Am
open Go

abbrev FP := List Nat × List Nat

/-! ### An operation looks at its operands alone -/
section
variable {g g' : Operand → SV}

theorem fillK_congr (P : Program) (t : TypeId) : ∀ (l : List (Nat × Operand)), (∀ p ∈ l, g p.2 = g' p.2) → ∀ cs k, fillK P t g l cs k = fillK P t g' l cs k
  | [], _, _, _ => rfl
  | (i, x) :: r, h, cs, k => by
    have hx : g x = g' x := h (i, x) (by simp)
    have ih := fillK_congr P t r (fun p hp => h p (by simp [hp]))
    simp only [fillK, hx, ih]

theorem rowsK_congr (n : Nat) (ob : Tab) : ∀ (l : List (Nat × Operand)), (∀ p ∈ l, g p.2 = g' p.2) → ∀ es us k, rowsK n ob g l es us k = rowsK n ob g' l es us k
  | [], _, _, _, _ => rfl
  | (i, x) :: r, h, es, us, k => by
    have hx : g x = g' x := h (i, x) (by simp)
    have ih := rowsK_congr n ob r (fun p hp => h p (by simp [hp]))
    simp only [rowsK, hx, ih]

theorem maxK_congr (pick : Int → Int → Int) : ∀ (l : List Operand), (∀ x ∈ l, g x = g' x) → ∀ k a R, maxK pick g l k a R = maxK pick g' l k a R
  | [], _, _, _, _ => rfl
  | x :: r, h, k, a, R => by
    have hx : g x = g' x := h x (by simp)
    have ih := maxK_congr pick r (fun y hy => h y (by simp [hy]))
    simp only [maxK, hx, ih]

theorem act_congr (P : Program) (o : Oper) (h : ∀ x ∈ o.op.operands, g x = g' x) (ob : Tab) (ct : Cnt) (R : SV → List Upd → Prop) : act P o g ob ct R = act P o g' ob ct R := by
  obtain ⟨dst, op, type, pos, after, guard⟩ := o
  cases op <;> simp only [Op.operands] at h <;> simp only [act]
  case build t parts =>
    have hp : ∀ p ∈ parts.toList, g p.2 = g' p.2 := fun p hp => h p.2 (by simp only [List.mem_toArray, List.mem_map]; exact ⟨p, hp, rfl⟩)
    simp only [fillK_congr P t parts.toList hp]
  case buildSlice t len parts =>
    have hp : ∀ p ∈ parts.toList, g p.2 = g' p.2 := fun p hp => h p.2 (by simp only [List.mem_toArray, List.mem_map]; exact ⟨p, hp, rfl⟩)
    simp only [rowsK_congr _ ob parts.toList hp]
  case makeFunc fn first caps =>
    have hc : caps.toList.map g = caps.toList.map g' := List.map_congr_left fun x hx => h x (by simp; exact .inr (by simpa using hx))
    cases fn <;> simp only [hc]
  case call c =>
    obtain ⟨callee, args, argTypes⟩ := c
    simp only [Call.operands] at h
    cases callee <;> try rfl
    rename_i b
    have ha : ∀ x ∈ args.toList, g x = g' x := fun x hx => h x (by simp; simpa using hx)
    cases b <;> try rfl
    case len =>
      simp only []
      split
      · rename_i x t hx ht; rw [ha x (by rw [hx]; simp)]
      · rfl
    case append =>
      simp only []
      split
      · rename_i x y tx ty d hx ht; rw [ha x (by rw [hx]; simp), ha y (by rw [hx]; simp)]
      · rfl
    case cap =>
      simp only []
      split
      · rename_i x t hx ht; rw [ha x (by rw [hx]; simp)]
      · rfl
    case clear =>
      simp only []
      split
      · rename_i x t hx ht; rw [ha x (by rw [hx]; simp)]
      · rfl
    case max =>
      simp only []
      split
      · rename_i x r hx
        rw [ha x (by rw [hx]; simp)]
        simp only [maxK_congr _ r (fun y hy => ha y (by rw [hx]; simp [hy]))]
      · rfl
    case min =>
      simp only []
      split
      · rename_i x r hx
        rw [ha x (by rw [hx]; simp)]
        simp only [maxK_congr _ r (fun y hy => ha y (by rw [hx]; simp [hy]))]
      · rfl
  case slice t x lo hi mx =>
    have hx : g x = g' x := h x (by simp)
    have hlo : lo.map g = lo.map g' := by cases lo with | none => rfl | some y => simp [h y (by simp)]
    have hhi : hi.map g = hi.map g' := by cases hi with | none => rfl | some y => simp [h y (by simp)]
    rw [hx, hlo, hhi]
  case pick c a b => rw [h c (by simp), h a (by simp), h b (by simp)]
  case move x => rw [h x (by simp)]
  case assign x => rw [h x (by simp)]
  case box t x => rw [h x (by simp)]
  case load t x => rw [h x (by simp)]
  case store t x y => rw [h x (by simp), h y (by simp)]
  case nilCheck x => rw [h x (by simp)]
  case binOp op t x y yt => rw [h x (by simp), h y (by simp)]
  case unOp op t x => rw [h x (by simp)]
  case convert s d x => rw [h x (by simp)]
  case makeSlice t x y => rw [h x (by simp), h y (by simp)]
  case fieldAddr t x f => rw [h x (by simp)]
  case field t x f => rw [h x (by simp)]
  case indexAddr t x y => rw [h x (by simp), h y (by simp)]
  case index t x y => rw [h x (by simp), h y (by simp)]
  case extract x i => rw [h x (by simp)]

theorem callD_congr (P : Program) (G : Nat → List SV) (o : Oper) (h : ∀ x ∈ o.op.operands, g x = g' x) (ob : Tab) (ct : Cnt) (R : SV → List Upd → Prop) : callD P G o g ob ct R = callD P G o g' ob ct R := by
  obtain ⟨dst, op, type, pos, after, guard⟩ := o
  cases op <;> try rfl
  rename_i c
  obtain ⟨callee, args, argTypes⟩ := c
  cases callee <;> try rfl
  rename_i f
  simp only [Op.operands, Call.operands] at h
  have hf : g f = g' f := h f (by simp)
  have hargs : args.toList.map g = args.toList.map g' := List.map_congr_left fun x hx => h x (by simp; exact .inr (by simpa using hx))
  simp only [callD, hf, hargs]

theorem actD_congr (P : Program) (G : Nat → List SV) (o : Oper) (h : ∀ x ∈ o.op.operands, g x = g' x) (ob : Tab) (ct : Cnt) (R : SV → List Upd → Prop) : actD P G o g ob ct R = actD P G o g' ob ct R := by
  unfold actD
  rw [act_congr P o h, callD_congr P G o h]

theorem foot_congr (o : Oper) (h : ∀ x ∈ o.op.operands, g x = g' x) : foot o g = foot o g' := by
  obtain ⟨dst, op, type, pos, after, guard⟩ := o
  cases op <;> simp only [Op.operands] at h <;> simp only [foot]
  case buildSlice t len parts =>
    have hp : (parts.toList.map fun p => g p.2) = parts.toList.map fun p => g' p.2 := List.map_congr_left fun p hp => h p.2 (by simp only [List.mem_toArray, List.mem_map]; exact ⟨p, hp, rfl⟩)
    rw [hp]
  case makeFunc fn first caps =>
    have hc : caps.toList.map g = caps.toList.map g' := List.map_congr_left fun x hx => h x (by simp; exact .inr (by simpa using hx))
    rw [hc]
  case call c =>
    obtain ⟨callee, args, argTypes⟩ := c
    simp only [Call.operands] at h
    cases callee with
    | value f =>
      have ha : args.toList.map g = args.toList.map g' := List.map_congr_left fun x hx => h x (by simp; exact .inr (by simpa using hx))
      simp only [ha]
    | invoke r m =>
      have ha : args.toList.map g = args.toList.map g' := List.map_congr_left fun x hx => h x (by simp; exact .inr (by simpa using hx))
      simp only [ha]
    | builtin b =>
      have ha : args.toList.map g = args.toList.map g' := List.map_congr_left fun x hx => h x (by simp; simpa using hx)
      cases b <;> simp only [ha]
      split
      · rename_i x r hx
        have : g x = g' x := h x (by simp; rw [← Array.mem_toList_iff, hx]; simp)
        rw [this]
      · rfl
  case binOp op t x y yt => rw [h x (by simp)]
  case load t x => rw [h x (by simp)]
  case store t x y => rw [h x (by simp)]
  case nilCheck x => rw [h x (by simp)]
  case fieldAddr t x f => rw [h x (by simp)]
  case indexAddr t x y => rw [h x (by simp)]
  case slice t x lo hi mx => rw [h x (by simp)]
end

/-! ### One step -/
def wantA (ops : List Oper) (o : Oper) (sl : Slots) : Option Bool :=
  match o.guard with
  | none => some true
  | some (j, want) => match (ops[j]?).bind (·.dst) with
    | some t => match sl t with
      | .bool b => some (b == want)
      | .undef => some false
      | _ => none
    | none => some false

def putS (sl : Slots) (dst : Option Nat) (v : SV) : Slots :=
  match dst with
  | some d => upd sl d v
  | none => sl

theorem gateK_want {ops : List Oper} {o : Oper} {sl : Slots} {yes no : Slots → Prop} (h : gateK ops o sl yes no) : (wantA ops o sl = some true ∧ yes sl) ∨ (wantA ops o sl = some false ∧ no sl) := by
  unfold gateK at h
  unfold wantA
  cases hg : o.guard with
  | none => rw [hg] at h; exact .inl ⟨rfl, h⟩
  | some jw =>
    obtain ⟨j, want⟩ := jw
    rw [hg] at h
    simp only at h ⊢
    cases hd : (ops[j]?).bind (·.dst) with
    | none => rw [hd] at h; exact .inr ⟨rfl, h⟩
    | some t =>
      rw [hd] at h
      simp only at h ⊢
      cases ht : sl t <;> rw [ht] at h <;> try exact h.elim
      case undef => exact .inr ⟨rfl, h⟩
      case bool b =>
        cases b <;> cases want <;> simp only [lit_slot ht] at h
        · exact .inl ⟨rfl, h⟩
        · exact .inr ⟨rfl, h⟩
        · exact .inr ⟨rfl, h⟩
        · exact .inl ⟨rfl, h⟩

def Agree (fp : FP) (ob : Tab) (ct : Cnt) (ob' : Tab) (ct' : Cnt) : Prop := ∀ o, (o ∈ fp.1 ∨ o ∈ fp.2) → ob' o = ob o ∧ ct' o = ct o

def St1 (P : Program) (G : Nat → List SV) (N : Nat) (ops : List Oper) (o : Oper) (fp : FP) (sl : Slots) (ob : Tab) (ct : Cnt) (sl' : Slots) (ob' : Tab) (ct' : Cnt) : Prop :=
  ∃ v us, (∀ d, o.dst = some d → d < N) ∧ sl' = putS sl o.dst v ∧ ob' = addO ob us ∧ ct' = addC ct us ∧ NmIn (fun n => n ∈ fp.2) us ∧
    ((wantA ops o sl = some true ∧ fp = foot o (ev G sl) ∧ ∀ ob1 ct1, Agree fp ob ct ob1 ct1 → actD P G o (ev G sl) ob1 ct1 fun a b => a = v ∧ b = us) ∨
     (wantA ops o sl = some false ∧ v = .undef ∧ us = []))

theorem addO_one {ob : Tab} {n : Nat} {x : Option Ob} : ∀ {us : List Upd}, (∀ u ∈ us, u.nm ≠ n) → addO (upd ob n x) us = upd (addO ob us) n x := by
  intro us
  induction us generalizing ob with
  | nil => intro _; rfl
  | cons u r ih =>
    intro h
    show addO (upd (upd ob n x) u.nm (some u.ob)) r = upd (addO (upd ob u.nm (some u.ob)) r) n x
    rw [upd_comm _ (fun e => h u (by simp) e.symm), ih (fun y hy => h y (by simp [hy]))]
theorem addC_one {ct : Cnt} {n m : Nat} : ∀ {us : List Upd}, (∀ u ∈ us, u.nm ≠ n) → addC (upd ct n m) us = upd (addC ct us) n m := by
  intro us
  induction us generalizing ct with
  | nil => intro _; rfl
  | cons u r ih =>
    intro h
    have hne : u.nm ≠ n := h u (by simp)
    have ih' := fun ct => ih (ct := ct) (fun y hy => h y (by simp [hy]))
    show addC (match u.fresh with | true => upd (upd ct n m) u.nm (upd ct n m u.nm + 1) | false => upd ct n m) r = upd (addC (match u.fresh with | true => upd ct u.nm (ct u.nm + 1) | false => ct) r) n m
    cases u.fresh with
    | true =>
      show addC (upd (upd ct n m) u.nm (upd ct n m u.nm + 1)) r = upd (addC (upd ct u.nm (ct u.nm + 1)) r) n m
      rw [upd_other _ _ hne, upd_comm _ (fun e => hne e.symm), ih']
    | false => exact ih' ct

theorem addO_comm {us ws : List Upd} : ∀ {ob : Tab}, (∀ u ∈ us, ∀ v ∈ ws, u.nm ≠ v.nm) → addO (addO ob us) ws = addO (addO ob ws) us := by
  induction us with
  | nil => intro ob _; rfl
  | cons u r ih =>
    intro ob h
    show addO (addO (upd ob u.nm (some u.ob)) r) ws = addO (upd (addO ob ws) u.nm (some u.ob)) r
    rw [ih (fun a ha b hb => h a (by simp [ha]) b hb), addO_one (fun v hv => fun e => h u (by simp) v hv e.symm)]
theorem addC_comm {us ws : List Upd} : ∀ {ct : Cnt}, (∀ u ∈ us, ∀ v ∈ ws, u.nm ≠ v.nm) → addC (addC ct us) ws = addC (addC ct ws) us := by
  induction us with
  | nil => intro ct _; rfl
  | cons u r ih =>
    intro ct h
    have hu : ∀ v ∈ ws, v.nm ≠ u.nm := fun v hv => fun e => h u (by simp) v hv e.symm
    have ih' := fun ct => ih (ct := ct) (fun a ha b hb => h a (by simp [ha]) b hb)
    show addC (addC (match u.fresh with | true => upd ct u.nm (ct u.nm + 1) | false => ct) r) ws = addC (match u.fresh with | true => upd (addC ct ws) u.nm (addC ct ws u.nm + 1) | false => addC ct ws) r
    cases u.fresh with
    | true =>
      show addC (addC (upd ct u.nm (ct u.nm + 1)) r) ws = addC (upd (addC ct ws) u.nm (addC ct ws u.nm + 1)) r
      rw [ih', addC_one hu, addC_other hu]
    | false => exact ih' ct

def disjF (a b : FP) : Bool := (a.2.all fun o => !b.1.contains o && !b.2.contains o) && (b.2.all fun o => !a.1.contains o)

theorem disjF_spec {a b : FP} (h : disjF a b = true) : (∀ o ∈ a.2, o ∉ b.1 ∧ o ∉ b.2) ∧ ∀ o ∈ b.2, o ∉ a.1 := by
  simp only [disjF, Bool.and_eq_true, List.all_eq_true, Bool.not_eq_true', List.contains_eq_mem, decide_eq_false_iff_not] at h
  exact h

section
variable {P : Program} {G : Nat → List SV} {N : Nat} {ops : Array Oper}

theorem ev_put {sl : Slots} {d : Option Nat} {v : SV} {x : Operand} (h : ∀ n, d = some n → x ≠ .tmp n) : ev G (putS sl d v) x = ev G sl x := by
  cases d with
  | none => rfl
  | some n =>
    cases x with
    | tmp t => exact upd_other _ _ (fun e => h n rfl (by rw [e]))
    | _ => rfl

theorem looks_operand {o : Oper} {n : Nat} (h : Operand.tmp n ∈ o.op.operands) : n ∈ o.looksAt ops :=
  List.mem_append_left _ (List.mem_filterMap.2 ⟨.tmp n, by simpa using h, rfl⟩)

theorem wantA_put {o : Oper} {sl : Slots} {d : Option Nat} {v : SV} (h : ∀ n, d = some n → n ∉ o.looksAt ops) : wantA ops.toList o (putS sl d v) = wantA ops.toList o sl := by
  cases d with
  | none => rfl
  | some n =>
    unfold wantA
    cases hg : o.guard with
    | none => rfl
    | some jw =>
      obtain ⟨j, want⟩ := jw
      have hlist : ops.toList[j]? = ops[j]? := by simp
      simp only [hlist]
      cases ht : (ops[j]?).bind (·.dst) with
      | none => rfl
      | some t =>
        have hne : t ≠ n := fun e => h n rfl (by subst e; simp [Oper.looksAt, hg, ht])
        simp only [putS, upd_other _ _ hne]

/-- Two operations that are apart, and whose footprints are: their order makes no difference. -/
theorem St1.comm {oi oj : Oper} {fi fj : FP} {sl sl1 sl2 : Slots} {ob ob1 ob2 : Tab} {ct ct1 ct2 : Cnt} (hap : oi.apart ops oj = true) (hd : disjF fi fj = true)
    (hi : St1 P G N ops.toList oi fi sl ob ct sl1 ob1 ct1) (hj : St1 P G N ops.toList oj fj sl1 ob1 ct1 sl2 ob2 ct2) :
    ∃ sl' ob' ct', St1 P G N ops.toList oj fj sl ob ct sl' ob' ct' ∧ St1 P G N ops.toList oi fi sl' ob' ct' sl2 ob2 ct2 := by
  obtain ⟨vi, ui, hNi, rfl, rfl, rfl, hui, hci⟩ := hi
  obtain ⟨vj, uj, hNj, rfl, rfl, rfl, huj, hcj⟩ := hj
  obtain ⟨a1, a2, a3⟩ := Oper.apart_spec hap
  obtain ⟨d1, d2⟩ := disjF_spec hd
  have gj : ∀ x ∈ oj.op.operands, ev G (putS sl oi.dst vi) x = ev G sl x := fun x hx => ev_put fun n hn e => a1 n hn (looks_operand (by rw [← e]; exact hx))
  have gi : ∀ x ∈ oi.op.operands, ev G (putS sl oj.dst vj) x = ev G sl x := fun x hx => ev_put fun n hn e => a3 n hn (looks_operand (by rw [← e]; exact hx))
  have nuv : ∀ u ∈ ui, ∀ v ∈ uj, u.nm ≠ v.nm := fun u hu v hv e => (d1 _ (hui u hu)).2 (by rw [e]; exact huj v hv)
  refine ⟨putS sl oj.dst vj, addO ob uj, addC ct uj, ⟨vj, uj, hNj, rfl, rfl, rfl, huj, ?_⟩, ⟨vi, ui, hNi, ?_, ?_, ?_, hui, ?_⟩⟩
  · rcases hcj with ⟨w1, w2, w3⟩ | ⟨w1, w2⟩
    · refine .inl ⟨by rw [← wantA_put (ops := ops) (d := oi.dst) (v := vi) a1]; exact w1, by rw [w2]; exact foot_congr oj gj, fun ob1 ct1 hag => ?_⟩
      rw [← actD_congr P G oj gj]
      refine w3 ob1 ct1 fun n hn => ?_
      have hn' : ∀ u ∈ ui, u.nm ≠ n := fun u hu e => by
        have := d1 _ (hui u hu)
        rw [e] at this
        exact hn.elim this.1 this.2
      rw [addO_other hn', addC_other hn']
      exact hag n hn
    · exact .inr ⟨by rw [← wantA_put (ops := ops) (d := oi.dst) (v := vi) a1]; exact w1, w2⟩
  · cases hdi : oi.dst with
    | none => rfl
    | some d =>
      cases hdj : oj.dst with
      | none => rfl
      | some e => exact upd_comm sl (fun h => a2 d hdi (by rw [hdj, h])) vi vj
  · exact addO_comm nuv
  · exact addC_comm nuv
  · rcases hci with ⟨w1, w2, w3⟩ | ⟨w1, w2⟩
    · refine .inl ⟨by rw [wantA_put (ops := ops) (d := oj.dst) (v := vj) a3]; exact w1, by rw [w2]; exact (foot_congr oi gi).symm, fun ob1 ct1 hag => ?_⟩
      rw [actD_congr P G oi gi]
      refine w3 ob1 ct1 fun n hn => ?_
      have hn' : ∀ u ∈ uj, u.nm ≠ n := fun u hu e => by
        rcases hn with hn | hn
        · exact d2 _ (huj u hu) (by rw [e]; exact hn)
        · exact (d1 n hn).2 (by rw [← e]; exact huj u hu)
      have := hag n hn
      rw [addO_other hn', addC_other hn'] at this
      exact this
    · exact .inr ⟨by rw [wantA_put (ops := ops) (d := oj.dst) (v := vj) a3]; exact w1, w2⟩

/-! ### Any order -/
def anyD (P : Program) (G : Nat → List SV) (N : Nat) (ops : Array Oper) (φ : Nat → FP) (K : Kont) : Nat → Array Bool → Kont
  | 0, listed, sl, ob, ct => Region.ready .any ops listed = [] ∧ K sl ob ct
  | fuel + 1, listed, sl, ob, ct => (Region.ready .any ops listed = [] → K sl ob ct) ∧
    ∀ i ∈ Region.ready .any ops listed, ∃ o sl' ob' ct', ops[i]? = some o ∧ St1 P G N ops.toList o (φ i) sl ob ct sl' ob' ct' ∧ anyD P G N ops φ K fuel (listed.setIfInBounds i true) sl' ob' ct'

/-- One waits for the other, at once or through others. -/
inductive Waits (ops : Array Oper) : Nat → Nat → Prop
  | base {j : Nat} {oj : Oper} {e : Edge} (h : ops[j]? = some oj) (he : e ∈ oj.after) (hb : Region.binds .any e = true) : Waits ops j e.on
  | step {j i : Nat} {oj : Oper} {e : Edge} (h : ops[j]? = some oj) (he : e ∈ oj.after) (hb : Region.binds .any e = true) (hw : Waits ops e.on i) : Waits ops j i

/-- Whatever has come up, what it waits for has come up. -/
def Closed (ops : Array Oper) (listed : Array Bool) : Prop := ∀ (j : Nat) (oj : Oper), ops[j]? = some oj → listed.getD j false = true → ∀ e ∈ oj.after, Region.binds .any e = true → listed.getD e.on false = true

theorem Closed.waits {listed : Array Bool} (hc : Closed ops listed) {j i : Nat} (hw : Waits ops j i) (hj : ∀ oj, ops[j]? = some oj → ∀ e ∈ oj.after, Region.binds .any e = true → listed.getD e.on false = true) : listed.getD i false = true := by
  induction hw with
  | base h he hb => exact hj _ h _ he hb
  | @step j i oj e h he hb hw ih =>
    exact ih fun om hm e' he' hb' => hc e.on om hm (hj _ h _ he hb) e' he' hb'

theorem Closed.list {listed : Array Bool} (hc : Closed ops listed) {i : Nat} (hi : i ∈ Region.ready .any ops listed) : Closed ops (listed.setIfInBounds i true) := fun j oj hj hl e he hb => by
  have up : ∀ n, listed.getD n false = true → (listed.setIfInBounds i true).getD n false = true := fun n h => by
    by_cases hn : i = n
    · subst hn
      rcases Nat.lt_or_ge i listed.size with h' | h'
      · simp [h']
      · simp [Array.getElem?_eq_none h'] at h
    · rw [getD_set_ne false hn]; exact h
  obtain ⟨_, oi, hoi, hall⟩ := mem_ready.1 hi
  by_cases hji : i = j
  · subst hji
    rw [hj] at hoi
    cases hoi
    exact up _ (hall e he hb)
  · rw [getD_set_ne false hji] at hl
    exact up _ (hc j oj hj hl e he hb)

theorem anyD_first {φ : Nat → FP} {K : Kont} {i : Nat} {oi : Oper} (hi : ops[i]? = some oi) :
    ∀ (fuel : Nat) (listed : Array Bool) (sl : Slots) (ob : Tab) (ct : Cnt) (sl1 : Slots) (ob1 : Tab) (ct1 : Cnt),
      Closed ops listed → listed.size = ops.size →
      (∀ (j : Nat) (oj : Oper), ops[j]? = some oj → j ≠ i → listed.getD j true = false → ¬ Waits ops j i → oi.apart ops oj = true ∧ disjF (φ i) (φ j) = true) →
      i ∈ Region.ready .any ops listed → St1 P G N ops.toList oi (φ i) sl ob ct sl1 ob1 ct1 → anyD P G N ops φ K fuel (listed.setIfInBounds i true) sl1 ob1 ct1 → anyD P G N ops φ K (fuel + 1) listed sl ob ct := by
  intro fuel
  induction fuel with
  | zero =>
    intro listed sl ob ct sl1 ob1 ct1 _ _ _ hr hs H
    refine ⟨fun h => (by rw [h] at hr; cases hr), fun j hj => ?_⟩
    by_cases hji : j = i
    · subst hji; exact ⟨oi, sl1, ob1, ct1, hi, hs, H⟩
    · have := ready_mono hj hji
      rw [H.1] at this
      cases this
  | succ fuel ih =>
    intro listed sl ob ct sl1 ob1 ct1 hcl hsz hfree hr hs H
    refine ⟨fun h => (by rw [h] at hr; cases hr), fun j hj => ?_⟩
    by_cases hji : j = i
    · subst hji; exact ⟨oi, sl1, ob1, ct1, hi, hs, H⟩
    · obtain ⟨oj', sl2, ob2, ct2, hoj', hsj, hrest⟩ := H.2 j (ready_mono hj hji)
      obtain ⟨hjun, oj, hoj, hall⟩ := mem_ready.1 hj
      have ej : oj' = oj := by rw [hoj] at hoj'; exact (Option.some.inj hoj').symm
      rw [ej] at hsj
      have hnot : ¬ Waits ops j i := fun hw => by
        have h1 := hcl.waits hw fun om hm e he hb => (by rw [hoj] at hm; cases hm; exact hall e he hb)
        have h0 := (mem_ready.1 hr).1
        rcases Nat.lt_or_ge i listed.size with h' | h'
        · simp [h'] at h0 h1; rw [h0] at h1; cases h1
        · rw [hsz] at h'
          rw [Array.getElem?_eq_none h'] at hi
          cases hi
      obtain ⟨hap, hdj⟩ := hfree j oj hoj hji hjun hnot
      obtain ⟨sl', ob', ct', hj1, hi1⟩ := St1.comm hap hdj hs hsj
      refine ⟨oj, sl', ob', ct', hoj, hj1, ih (listed.setIfInBounds j true) sl' ob' ct' sl2 ob2 ct2 (hcl.list hj) (by simpa using hsz) (fun k ok hk hki hun hno => ?_) (ready_mono hr (Ne.symm hji)) hi1 ?_⟩
      · refine hfree k ok hk hki ?_ hno
        by_cases hjk : j = k
        · subst hjk; exact hjun
        · rw [getD_set_ne true hjk] at hun; exact hun
      · rw [Array.setIfInBounds_comm _ _ hji]
        exact hrest

def chainD (P : Program) (G : Nat → List SV) (N : Nat) (ops : List Oper) (φ : Nat → FP) (K : Kont) : List Oper → Nat → Kont
  | [], _, sl, ob, ct => K sl ob ct
  | o :: r, k, sl, ob, ct => ∃ sl' ob' ct', St1 P G N ops o (φ k) sl ob ct sl' ob' ct' ∧ chainD P G N ops φ K r (k + 1) sl' ob' ct'

theorem anyD_lex {φ : Nat → FP} {K : Kont} (hd : ∀ (i j : Nat) (oj : Oper), i < j → ops[j]? = some oj → ¬ Waits ops j i → disjF (φ i) (φ j) = true) :
    ∀ (l : List Oper) (k : Nat) (listed : Array Bool) (sl : Slots) (ob : Tab) (ct : Cnt), (∀ j, l[j]? = ops[k + j]?) → (∀ j, j < k → listed.getD j true = true) → listed.size = ops.size → Closed ops listed →
      Region.lexFrom .any ops l.length k listed = true → chainD P G N ops.toList φ K l k sl ob ct → anyD P G N ops φ K l.length listed sl ob ct
  | [], k, listed, sl, ob, ct, _, _, _, _, hB, h => ⟨by simpa [Region.lexFrom] using hB, h⟩
  | o :: l, k, listed, sl, ob, ct, hl, hlow, hsz, hcl, hB, h => by
    have h0 : ops[k]? = some o := by simpa using (hl 0).symm
    have hk : k < ops.size := (Array.getElem?_eq_some_iff.1 h0).1
    simp only [List.length_cons, Region.lexFrom, Bool.and_eq_true] at hB
    obtain ⟨⟨hr, hf⟩, hB'⟩ := hB
    obtain ⟨sl', ob', ct', hs, hrest⟩ := h
    refine anyD_first h0 l.length listed sl ob ct sl' ob' ct' hcl hsz (fun j oj hoj hjk hun hno => ⟨Region.free_spec h0 hf j oj hoj hjk hun (fun e he hb heq => hno (heq ▸ .base hoj he hb)), ?_⟩) (by simpa using hr) hs
      (anyD_lex hd l (k + 1) _ _ _ _ (fun j => by have := hl (j + 1); simpa [Nat.add_assoc, Nat.add_comm 1 j] using this) (fun j hj => ?_) (by simpa using hsz) (hcl.list (by simpa using hr)) hB' hrest)
    · refine hd k j oj ?_ hoj hno
      rcases Nat.lt_or_ge j k with h' | h'
      · rw [hlow j h'] at hun; cases hun
      · omega
    · by_cases hjk : j = k
      · subst hjk; simp [hsz, hk]
      · rw [getD_set_ne true (fun e => hjk e.symm)]; exact hlow j (by omega)
end
end Go.Proofs.Yticandbdabgkeaa.Am
