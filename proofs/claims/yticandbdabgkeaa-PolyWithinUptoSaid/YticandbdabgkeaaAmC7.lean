/- Code on the abstract machine, and why that says what the program does. No condition: definitions and lemmas. -/
import Derived.Test.YticandbdabgkeaaAmC6
namespace Go.Proofs.Yticandbdabgkeaa.Am
open Go

def W (P : Program) (G : Nat → List SV) (N : Nat) (c : Code) (Q : QK) : Kont := fun sl ob ct =>
  ∀ (D0 : Env) (F : Nat → Option Obj) (D : Rom) (β : Nat → Nat → Option (Nat × Nat)) (a : Act) (w : World) (Qc : Exit → Act → World → Prop), Sim G D0 F N ⟨D, β, ob, ct⟩ sl a w →
    (∀ e sl' ob' ct' D' β' a' w', Q e sl' ob' ct' → Sim G D0 F N ⟨D', β', ob', ct'⟩ sl' a' w' → Qc e a' w') → c.wp P Qc a w

@[irreducible] def LoopW (P : Program) (G : Nat → List SV) (N : Nat) (c : Code) (Q : QK) : Kont := W P G N (.loop c) Q

def condK (G : Nat → List SV) (c : Operand) (A B : Kont) : Kont := fun sl ob ct => match ev G sl c with
  | .bool t => ifB t (A sl ob ct) (B sl ob ct)
  | _ => False

def wpC (P : Program) (G : Nat → List SV) (N : Nat) (c : Code) : QK → Kont :=
  @Code.rec (fun _ => QK → Kont)
    (fun Q => Q .normal)
    (fun _ ops drawn Q => match drawn with
      | true => fun sl ob ct => Region.lexB .any ops = true ∧ runD P G N ops.toList (Q .normal) ops.toList [] sl ob ct
      | false => runOps P G N ops.toList (Q .normal) ops.toList)
    (fun _ _ ix iy Q => ix (thenK (iy Q) Q))
    (fun c _ _ ix iy Q => condK G c (ix Q) (iy Q))
    (fun id _ ic Q => ic (blockK id Q))
    (fun c _ Q => LoopW P G N c Q)
    (fun _ _ _ _ _ _ _ _ _ _ => False)
    (fun id Q => Q (.exit id))
    (fun _ _ _ _ _ _ => False)
    (fun _ Q => Q .normal)
    (fun _ _ _ _ _ => False)
    (fun Q => Q .ret)
    (fun _ _ _ _ _ => False) c

section
variable {P : Program} {G : Nat → List SV} {N : Nat}

theorem W.mono {c : Code} {Q Q' : QK} {sl : Slots} {ob : Tab} {ct : Cnt} (h : W P G N c Q sl ob ct) (hq : ∀ e sl ob ct, Q e sl ob ct → Q' e sl ob ct) : W P G N c Q' sl ob ct :=
  fun D0 F D β a w Qc hs hQ => h D0 F D β a w Qc hs fun e sl' ob' ct' D' β' a' w' hh => hQ e sl' ob' ct' D' β' a' w' (hq _ _ _ _ hh)

theorem wpC_sound (hm : P.follows .mixedOrders = true) : ∀ (c : Code) (Q : QK) (sl : Slots) (ob : Tab) (ct : Cnt), wpC P G N c Q sl ob ct → W P G N c Q sl ob ct
  | .skip, Q, sl, ob, ct, h => fun D0 F D β a w Qc hs hQ => wp_skip (hQ _ _ _ _ D β a w h hs)
  | .label _, Q, sl, ob, ct, h => fun D0 F D β a w Qc hs hQ => wp_label (hQ _ _ _ _ D β a w h hs)
  | .exit id, Q, sl, ob, ct, h => fun D0 F D β a w Qc hs hQ => wp_exit (hQ _ _ _ _ D β a w h hs)
  | .ret, Q, sl, ob, ct, h => fun D0 F D β a w Qc hs hQ => wp_ret (hQ _ _ _ _ D β a w h hs)
  | .region id ops drawn, Q, sl, ob, ct, h => fun D0 F D β a w Qc hs hQ => by
    cases drawn with
    | true => exact runD_sound hm h.1 (K := Q .normal) (fun sl ob ct D β a w hk hs' => hQ _ _ _ _ D β a w hk hs') h.2 hs
    | false => exact wp_region_list (runOps_sound (K := Q .normal) (fun sl ob ct D β a w hk hs' => hQ _ _ _ _ D β a w hk hs') _ sl ob ct D β a w h hs)
  | .seq x y, Q, sl, ob, ct, h => fun D0 F D β a w Qc hs hQ => by
    refine wp_seq (wpC_sound hm x _ sl ob ct h D0 F D β a w _ hs fun e sl' ob' ct' D' β' a' w' hh hs' => ?_)
    cases e with
    | normal => exact wpC_sound hm y Q sl' ob' ct' hh D0 F D' β' a' w' Qc hs' hQ
    | exit id => exact hQ _ _ _ _ D' β' a' w' hh hs'
    | goto l => exact hQ _ _ _ _ D' β' a' w' hh hs'
    | ret => exact hQ _ _ _ _ D' β' a' w' hh hs'
    | panic ch => exact hQ _ _ _ _ D' β' a' w' hh hs'
    | outgrown => exact hQ _ _ _ _ D' β' a' w' hh hs'
  | .cond c x y, Q, sl, ob, ct, h => fun D0 F D β a w Qc hs hQ => by
    have hr := ev_rel hs c
    replace h : condK G c (wpC P G N x Q) (wpC P G N y Q) sl ob ct := h
    unfold condK at h
    cases hc : ev G sl c <;> rw [hc] at h hr <;> try exact h.elim
    rename_i t
    refine wp_cond (rel_bool hr) ?_
    cases t with
    | true => exact wpC_sound hm x Q sl ob ct h D0 F D β a w Qc hs hQ
    | false => exact wpC_sound hm y Q sl ob ct h D0 F D β a w Qc hs hQ
  | .block id c, Q, sl, ob, ct, h => fun D0 F D β a w Qc hs hQ => by
    refine wp_block (wpC_sound hm c _ sl ob ct h D0 F D β a w _ hs fun e sl' ob' ct' D' β' a' w' hh hs' => ?_)
    cases e with
    | exit j =>
      have hh : (match Nat.beq j id with | true => Q .normal | false => Q (.exit j)) sl' ob' ct' := hh
      show if j = id then Qc .normal a' w' else Qc (.exit j) a' w'
      by_cases hj : j = id
      · rw [if_pos hj]
        rw [show Nat.beq j id = true from by rw [hj]; exact Nat.beq_refl id] at hh
        exact hQ _ _ _ _ D' β' a' w' hh hs'
      · rw [if_neg hj]
        have : Nat.beq j id = false := by
          cases hb : Nat.beq j id with
          | false => rfl
          | true => exact absurd (Nat.eq_of_beq_eq_true hb) hj
        rw [this] at hh
        exact hQ _ _ _ _ D' β' a' w' hh hs'
    | normal => exact hQ _ _ _ _ D' β' a' w' hh hs'
    | goto l => exact hQ _ _ _ _ D' β' a' w' hh hs'
    | ret => exact hQ _ _ _ _ D' β' a' w' hh hs'
    | panic ch => exact hQ _ _ _ _ D' β' a' w' hh hs'
    | outgrown => exact hQ _ _ _ _ D' β' a' w' hh hs'
  | .loop c, Q, sl, ob, ct, h => by
    have h : LoopW P G N c Q sl ob ct := h
    unfold LoopW at h
    exact h
  | .goto _, _, _, _, _, h => h.elim
  | .rangeFunc .., _, _, _, _, h => h.elim
  | .scope _, _, _, _, _, h => h.elim
  | .refuse _, _, _, _, _, h => h.elim

/-! ### Weaker states -/
def Weak (G : Nat → List SV) (N : Nat) (sl : Slots) (ob : Tab) (ct : Cnt) (sl' : Slots) (ob' : Tab) (ct' : Cnt) : Prop :=
  ∀ D0 F D β a w, Sim G D0 F N ⟨D, β, ob, ct⟩ sl a w → ∃ D' β', Sim G D0 F N ⟨D', β', ob', ct'⟩ sl' a w

theorem Weak.refl (sl : Slots) (ob : Tab) (ct : Cnt) : Weak G N sl ob ct sl ob ct := fun _ _ D β _ _ hs => ⟨D, β, hs⟩
theorem Weak.trans {sl sl1 sl2 : Slots} {ob ob1 ob2 : Tab} {ct ct1 ct2 : Cnt} (h : Weak G N sl ob ct sl1 ob1 ct1) (k : Weak G N sl1 ob1 ct1 sl2 ob2 ct2) : Weak G N sl ob ct sl2 ob2 ct2 := fun D0 F D β a w hs => by
  obtain ⟨D1, β1, hs1⟩ := h D0 F D β a w hs
  exact k D0 F D1 β1 a w hs1

theorem W.weak {c : Code} {Q : QK} {sl sl' : Slots} {ob ob' : Tab} {ct ct' : Cnt} (hw : Weak G N sl ob ct sl' ob' ct') (h : W P G N c Q sl' ob' ct') : W P G N c Q sl ob ct := fun D0 F D β a w Qc hs hQ => by
  obtain ⟨D1, β1, hs1⟩ := hw D0 F D β a w hs
  exact h D0 F D1 β1 a w Qc hs1 hQ

theorem loop_weak {c : Code} {Q : QK} {sl sl' : Slots} {ob ob' : Tab} {ct ct' : Cnt} (hw : Weak G N sl ob ct sl' ob' ct') (h : LoopW P G N c Q sl' ob' ct') : LoopW P G N c Q sl ob ct := by
  unfold LoopW at *
  exact W.weak hw h

/-! ### Loops -/
/-- A loop, unrolled so many times at most. -/
def loopN (P : Program) (G : Nat → List SV) (N : Nat) (c : Code) (Q : QK) (n : Nat) : Kont :=
  @Nat.rec (fun _ => Kont) (fun _ _ _ => False) (fun _ ih => wpC P G N c (thenK ih Q)) n

/-- An invariant with a measure of its own. -/
theorem loop_ghost (hm : P.follows .mixedOrders = true) {c : Code} {Q : QK} {sl : Slots} {ob : Tab} {ct : Cnt} (I : Nat → Kont) (n : Nat) (h0 : I n sl ob ct)
    (round : ∀ n sl ob ct, I n sl ob ct → wpC P G N c (thenK (fun sl ob ct => ∃ k, k < n ∧ I k sl ob ct) Q) sl ob ct) : LoopW P G N c Q sl ob ct := by
  unfold LoopW
  intro D0 F D β a w Qc hs hQ
  refine wp_loop_ghost (fun n a w => ∃ sl ob ct D β, I n sl ob ct ∧ Sim G D0 F N ⟨D, β, ob, ct⟩ sl a w) n ⟨sl, ob, ct, D, β, h0, hs⟩ fun n a w ⟨sl, ob, ct, D, β, hI, hs⟩ => ?_
  refine wpC_sound hm c _ sl ob ct (round n sl ob ct hI) D0 F D β a w _ hs fun e sl' ob' ct' D' β' a' w' hh hs' => ?_
  cases e with
  | normal =>
    obtain ⟨k, hk, hI'⟩ := hh
    exact ⟨k, hk, sl', ob', ct', D', β', hI', hs'⟩
  | exit id => exact hQ _ _ _ _ D' β' a' w' hh hs'
  | goto l => exact hQ _ _ _ _ D' β' a' w' hh hs'
  | ret => exact hQ _ _ _ _ D' β' a' w' hh hs'
  | panic ch => exact hQ _ _ _ _ D' β' a' w' hh hs'
  | outgrown => exact hQ _ _ _ _ D' β' a' w' hh hs'

theorem wpC_mono : ∀ (c : Code) {Q Q' : QK} {sl : Slots} {ob : Tab} {ct : Cnt}, wpC P G N c Q sl ob ct → (∀ e sl ob ct, Q e sl ob ct → Q' e sl ob ct) → wpC P G N c Q' sl ob ct := by
  have gate : ∀ {ops : List Oper} {o : Oper} {sl : Slots} {y y' n n' : Slots → Prop}, gateK ops o sl y n → (∀ s, y s → y' s) → (∀ s, n s → n' s) → gateK ops o sl y' n' := fun {ops o sl y y' n n'} h hy hn => by
    have ib : ∀ {t : Bool} {A A' B B' : Prop}, ifB t A B → (A → A') → (B → B') → ifB t A' B' := fun {t A A' B B'} h ha hb => by cases t; exact hb h; exact ha h
    unfold gateK at *
    cases hg : o.guard with
    | none => rw [hg] at h; exact hy _ h
    | some jw =>
      obtain ⟨j, want⟩ := jw
      rw [hg] at h
      simp only at h ⊢
      cases hd : (ops[j]?).bind (·.dst) with
      | none => rw [hd] at h; exact hn _ h
      | some t =>
        rw [hd] at h
        simp only at h ⊢
        cases ht : sl t <;> rw [ht] at h <;> try exact h.elim
        case undef => exact hn _ h
        case bool b => exact ib h (fun h => ib h (hy _) (hn _)) (fun h => ib h (hn _) (hy _))
  have sd : ∀ {sl : Slots} {d : Option Nat} {v : SV} {k k' : Slots → Prop}, setd N sl d v k → (∀ s, k s → k' s) → setd N sl d v k' := fun {sl d v k k'} h hk => by
    cases d with
    | none => exact hk _ h
    | some d =>
      obtain ⟨h1, h2⟩ := ifB_true h
      show ifB (Nat.blt d N) (forceK v fun v => k' _) False
      rw [forceK_eq] at h2
      rw [h1, forceK_eq]
      exact hk _ h2
  have ac : ∀ {o : Oper} {g : Operand → SV} {ob : Tab} {ct : Cnt} {R R' : SV → List Upd → Prop}, actD P G o g ob ct R → (∀ v us, R v us → R' v us) → actD P G o g ob ct R' := fun {o g ob ct R R'} h hR => by
    obtain ⟨p, _, hp, hback⟩ := lcp_actD (P := P) (G := G) (U := fun _ => True) (W := fun _ => True) o g (fun _ _ => trivial) (fun _ _ => trivial) ob ct (fun p => R p.1 p.2) h
    exact hback ob ct (fun p => R' p.1 p.2) (fun _ _ => ⟨rfl, rfl⟩) (hR _ _ hp)
  have an : ∀ {o : Oper} {g : Operand → SV} {ob : Tab} {ct : Cnt} {R R' : SV → List Upd → Prop}, actN P G o g ob ct R → (∀ v us, R v us → R' v us) → actN P G o g ob ct R' := fun {o g ob ct R R'} h hR => by
    unfold actN at *
    cases hq : nilQ P o g with
    | true => rw [hq] at h; exact ⟨hR _ _ h.1, hR _ _ h.2⟩
    | false => rw [hq] at h; exact ac h hR
  have ro : ∀ (ops : List Oper) {K K' : Kont}, (∀ sl ob ct, K sl ob ct → K' sl ob ct) → ∀ (l : List Oper) (sl : Slots) (ob : Tab) (ct : Cnt), runOps P G N ops K l sl ob ct → runOps P G N ops K' l sl ob ct := fun ops K K' hK l => by
    induction l with
    | nil => exact fun sl ob ct h => hK _ _ _ h
    | cons o r ih =>
      intro sl ob ct h
      rw [runOps_cons] at h ⊢
      exact gate h (fun s h => an h fun v us h => sd h fun s h => ih _ _ _ h) (fun s h => sd h fun s h => ih _ _ _ h)
  have rd : ∀ (ops : List Oper) {K K' : Kont}, (∀ sl ob ct, K sl ob ct → K' sl ob ct) → ∀ (l : List Oper) (fs : List FP) (sl : Slots) (ob : Tab) (ct : Cnt), runD P G N ops K l fs sl ob ct → runD P G N ops K' l fs sl ob ct := fun ops K K' hK l => by
    induction l with
    | nil => exact fun fs sl ob ct h => hK _ _ _ h
    | cons o r ih =>
      intro fs sl ob ct h
      rw [runD_cons] at h ⊢
      exact gate h (fun s h => ⟨h.1, ac h.2 fun v us h => sd h fun s h => ih _ _ _ _ h⟩) (fun s h => ⟨h.1, sd h.2 fun s h => ih _ _ _ _ h⟩)
  intro c
  induction c with
  | skip => exact fun h hq => hq _ _ _ _ h
  | label _ => exact fun h hq => hq _ _ _ _ h
  | exit _ => exact fun h hq => hq _ _ _ _ h
  | ret => exact fun h hq => hq _ _ _ _ h
  | region id ops drawn =>
    intro Q Q' sl ob ct h hq
    cases drawn with
    | true => exact ⟨h.1, rd _ (fun _ _ _ h => hq _ _ _ _ h) _ _ _ _ _ h.2⟩
    | false => exact ro _ (fun _ _ _ h => hq _ _ _ _ h) _ _ _ _ h
  | seq x y ihx ihy =>
    intro Q Q' sl ob ct h hq
    refine ihx h fun e sl ob ct hh => ?_
    cases e <;> first | exact hq _ _ _ _ hh | exact ihy hh hq
  | cond c x y ihx ihy =>
    intro Q Q' sl ob ct h hq
    show condK G c _ _ sl ob ct
    replace h : condK G c _ _ sl ob ct := h
    unfold condK at *
    cases hc : ev G sl c <;> rw [hc] at h <;> try exact h.elim
    rename_i t
    cases t
    · exact ihy h hq
    · exact ihx h hq
  | block id c ih =>
    intro Q Q' sl ob ct h hq
    refine ih h fun e sl ob ct hh => ?_
    cases e <;> try exact hq _ _ _ _ hh
    rename_i j
    show (match Nat.beq j id with | true => Q' .normal | false => Q' (.exit j)) sl ob ct
    replace hh : (match Nat.beq j id with | true => Q .normal | false => Q (.exit j)) sl ob ct := hh
    cases hj : Nat.beq j id <;> rw [hj] at hh <;> exact hq _ _ _ _ hh
  | loop c ih =>
    intro Q Q' sl ob ct h hq
    have h : LoopW P G N c Q sl ob ct := h
    show LoopW P G N c Q' sl ob ct
    unfold LoopW at *
    exact W.mono h hq
  | _ => exact fun h => h.elim

/-- A loop, unrolled. -/
theorem loop_unroll (hm : P.follows .mixedOrders = true) (n : Nat) {c : Code} {Q : QK} {sl : Slots} {ob : Tab} {ct : Cnt} (h : loopN P G N c Q n sl ob ct) : LoopW P G N c Q sl ob ct := by
  refine loop_ghost hm (loopN P G N c Q) n h fun n sl ob ct h => ?_
  cases n with
  | zero => exact h.elim
  | succ n =>
    refine wpC_mono c h fun e sl ob ct hh => ?_
    cases e <;> first | exact hh | exact ⟨n, Nat.lt_succ_self n, hh⟩

/-! ### A state, written out -/
def mkS : List (Nat × SV) → Slots
  | [], _ => .junk
  | (d, v) :: r, t => match Nat.beq t d with | true => v | false => mkS r t
def mkO : List (Nat × Ob) → Tab
  | [], _ => none
  | (d, v) :: r, t => match Nat.beq t d with | true => some v | false => mkO r t
def stOf (ob : Tab) : Nat → Nat := fun o => match ob o with | some b => b.st | none => 0

/-- What may be forgotten of a slot's value. -/
def leS (ob : Tab) (a v : SV) : Prop :=
  match v with
  | .junk => True
  | .sl z xs => a = .sl z xs ∨ match a with
    | .nils => xs = []
    | .lrow o st => ob o = some ⟨st, 2, z, xs⟩
    | _ => False
  | .lsl o st lo n => a = .lsl o st lo n ∨ match a with
    | .lrow o' st' => o = o' ∧ st = st' ∧ lo = 0 ∧ match ob o with | some b => n = b.xs.length | none => False
    | _ => False
  | v => a = v
def covS (sl : Slots) (ob : Tab) : List (Nat × SV) → Prop
  | [] => True
  | (t, v) :: r => leS ob (sl t) v ∧ covS sl ob r
def covO (ob : Tab) : List (Nat × Ob) → Prop
  | [] => True
  | (t, v) :: r => ob t = some v ∧ covO ob r
end
end Go.Proofs.Yticandbdabgkeaa.Am
