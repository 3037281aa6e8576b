/- Every operation of the abstract machine looks at, and changes, the objects of its footprint alone. No condition: lemmas. -/
import Derived.Test.YticandbdabgkeaaAmC3
namespace Go.Proofs.Yticandbdabgkeaa.Am
open Go

def LcP {α : Type} (U : Nat → Prop) (Pr : α → Prop) (X : Tab → Cnt → (α → Prop) → Prop) : Prop :=
  ∀ ob ct k, X ob ct k → ∃ a, Pr a ∧ k a ∧ ∀ (ob' : Tab) (ct' : Cnt) (k' : α → Prop), (∀ o, U o → ob' o = ob o ∧ ct' o = ct o) → k' a → X ob' ct' k'

section
variable {U W : Nat → Prop}
theorem LcP.ofLc {α : Type} {Pr : α → Prop} {X : Tab → Cnt → (α → Prop) → Prop} (h : Lc U X) (hp : ∀ a, Pr a) : LcP U Pr X := fun ob ct k hk => by
  obtain ⟨a, h1, h2⟩ := h ob ct k hk
  exact ⟨a, hp a, h1, h2⟩
theorem LcP.ret {α : Type} {Pr : α → Prop} (a : α) (h : Pr a) : LcP U Pr (fun _ _ (k : α → Prop) => k a) := fun _ _ _ hk => ⟨a, h, hk, fun _ _ _ _ hk' => hk'⟩
theorem LcP.retW (v : SV) (us : List Upd) (h : NmIn W us) : LcP U (fun p : SV × List Upd => NmIn W p.2) (fun _ _ (k : SV × List Upd → Prop) => k (v, us)) := LcP.ret (v, us) h
theorem LcP.no {α : Type} {Pr : α → Prop} : LcP U Pr (fun _ _ (_ : α → Prop) => False) := fun _ _ _ h => h.elim
theorem LcP.bind {α β : Type} {Pr : β → Prop} {X : Tab → Cnt → (α → Prop) → Prop} {Y : α → Tab → Cnt → (β → Prop) → Prop} (hX : Lc U X) (hY : ∀ a, LcP U Pr (Y a)) : LcP U Pr (fun ob ct k => X ob ct fun a => Y a ob ct k) := fun ob ct k h => by
  obtain ⟨a, h1, h2⟩ := hX ob ct _ h
  obtain ⟨b, h0, h3, h4⟩ := hY a ob ct k h1
  exact ⟨b, h0, h3, fun ob' ct' k' hag hk => h2 ob' ct' _ hag (h4 ob' ct' k' hag hk)⟩
theorem LcP.bindP {α β : Type} {Pq : α → Prop} {Pr : β → Prop} {X : Tab → Cnt → (α → Prop) → Prop} {Y : α → Tab → Cnt → (β → Prop) → Prop} (hX : LcP U Pq X) (hY : ∀ a, Pq a → LcP U Pr (Y a)) : LcP U Pr (fun ob ct k => X ob ct fun a => Y a ob ct k) := fun ob ct k h => by
  obtain ⟨a, hq, h1, h2⟩ := hX ob ct _ h
  obtain ⟨b, h0, h3, h4⟩ := hY a hq ob ct k h1
  exact ⟨b, h0, h3, fun ob' ct' k' hag hk => h2 ob' ct' _ hag (h4 ob' ct' k' hag hk)⟩
theorem LcP.bindPt {α β : Type} {Pr : β → Prop} {X : (α → Prop) → Prop} {Y : α → Tab → Cnt → (β → Prop) → Prop} (hX : Pt X) (hY : ∀ a, LcP U Pr (Y a)) : LcP U Pr (fun ob ct k => X fun a => Y a ob ct k) := fun ob ct k h => by
  obtain ⟨a, h1, h2⟩ := hX _ h
  obtain ⟨b, h0, h3, h4⟩ := hY a ob ct k h1
  exact ⟨b, h0, h3, fun ob' ct' k' hag hk => h2 _ (h4 ob' ct' k' hag hk)⟩
theorem LcP.ifB {α : Type} {t : Bool} {Pr : α → Prop} {X Y : Tab → Cnt → (α → Prop) → Prop} (hX : LcP U Pr X) (hY : LcP U Pr Y) : LcP U Pr (fun ob ct k => ifB t (X ob ct k) (Y ob ct k)) := by cases t <;> assumption
theorem LcP.and {α : Type} {p : Prop} {Pr : α → Prop} {X : Tab → Cnt → (α → Prop) → Prop} (hX : LcP U Pr X) : LcP U Pr (fun ob ct k => p ∧ X ob ct k) := fun ob ct k h => by
  obtain ⟨a, h0, h1, h2⟩ := hX ob ct k h.2
  exact ⟨a, h0, h1, fun ob' ct' k' hag hk => ⟨h.1, h2 ob' ct' k' hag hk⟩⟩
theorem LcP.ex {α γ : Type} {Pr : α → Prop} {X : γ → Tab → Cnt → (α → Prop) → Prop} (hX : ∀ c, LcP U Pr (X c)) : LcP U Pr (fun ob ct k => ∃ c, X c ob ct k) := fun ob ct k ⟨c, h⟩ => by
  obtain ⟨a, h0, h1, h2⟩ := hX c ob ct k h
  exact ⟨a, h0, h1, fun ob' ct' k' hag hk => ⟨c, h2 ob' ct' k' hag hk⟩⟩
theorem LcP.or {α : Type} {Pr : α → Prop} {X Y : Tab → Cnt → (α → Prop) → Prop} (hX : LcP U Pr X) (hY : LcP U Pr Y) : LcP U Pr (fun ob ct k => X ob ct k ∨ Y ob ct k) := fun ob ct k h => by
  rcases h with h | h
  · obtain ⟨a, h0, h1, h2⟩ := hX ob ct k h; exact ⟨a, h0, h1, fun ob' ct' k' hag hk => .inl (h2 ob' ct' k' hag hk)⟩
  · obtain ⟨a, h0, h1, h2⟩ := hY ob ct k h; exact ⟨a, h0, h1, fun ob' ct' k' hag hk => .inr (h2 ob' ct' k' hag hk)⟩
/-- It looks at one counter. -/
theorem LcP.count {α : Type} {Pr : α → Prop} (o : Nat) (hU : U o) {X : Nat → Tab → Cnt → (α → Prop) → Prop} (hX : ∀ n, LcP U Pr (X n)) : LcP U Pr (fun ob ct k => X (ct o) ob ct k) := fun ob ct k h => by
  obtain ⟨a, h0, h1, h2⟩ := hX (ct o) ob ct k h
  exact ⟨a, h0, h1, fun ob' ct' k' hag hk => by show X (ct' o) ob' ct' k'; rw [(hag o hU).2]; exact h2 ob' ct' k' hag hk⟩
/-- It looks at one object. -/
theorem LcP.look {α : Type} {Pr : α → Prop} (o : Nat) (hU : U o) {X : Option Ob → Tab → Cnt → (α → Prop) → Prop} (hX : ∀ b, LcP U Pr (X b)) : LcP U Pr (fun ob ct k => X (ob o) ob ct k) := fun ob ct k h => by
  obtain ⟨a, h0, h1, h2⟩ := hX (ob o) ob ct k h
  exact ⟨a, h0, h1, fun ob' ct' k' hag hk => by show X (ob' o) ob' ct' k'; rw [(hag o hU).1]; exact h2 ob' ct' k' hag hk⟩

theorem lcp_purLK (cs : List SV) (h : ∀ o ∈ refsL cs, U o) (hw : ∀ o ∈ refsL cs, W o) : LcP U (fun p : List SV × List Upd => NmIn W p.2) (fun ob _ k => purLK ob cs fun l us => k (l, us)) := fun ob ct k hk => by
  obtain ⟨a, h1, h2⟩ := lc_purLK cs h ob ct (fun p => k p ∧ NmIn W p.2) (nm_purLK hw hk)
  exact ⟨a, h1.2, h1.1, h2⟩
theorem lcp_purALK (cs : List SV) (h : ∀ o ∈ refsAL cs, U o) (hw : ∀ o ∈ refsAL cs, W o) : LcP U (fun p : List SV × List Upd => NmIn W p.2) (fun ob _ k => purALK ob cs fun l us => k (l, us)) := fun ob ct k hk => by
  obtain ⟨a, h1, h2⟩ := lc_purALK cs h ob ct (fun p => k p ∧ NmIn W p.2) (nm_purALK hw hk)
  exact ⟨a, h1.2, h1.1, h2⟩

theorem refs1_sub (s : SV) : ∀ o ∈ refs1 s, o ∈ refsA s := by
  cases s <;> first | exact fun o ho => ho | exact fun o ho => by cases ho

theorem refsL_sub : ∀ (l : List SV), ∀ o ∈ refsL l, o ∈ refsAL l
  | [], o, ho => by cases ho
  | a :: r, o, ho => by
    simp only [refsL, refsAL, List.mem_append] at ho ⊢
    exact ho.imp (refs1_sub a o) (refsL_sub r o)

theorem cellsK_refs {s : SV} {k : List SV → Prop} (h : cellsK s k) : ∃ cs, k cs ∧ (∀ k' : List SV → Prop, k' cs → cellsK s k') ∧ ∀ o ∈ refsL cs, o ∈ refsA s := by
  cases s with
  | agg cs =>
    obtain ⟨hb, h⟩ := ifB_true h
    exact ⟨cs, h, fun k' hk => by show Am.ifB (allB cellB cs) (k' cs) False; rw [hb]; exact hk, fun o ho => ho⟩
  | junk => exact h.elim
  | undef => exact h.elim
  | tup _ => exact h.elim
  | _ => exact ⟨_, h, fun _ hk => hk, fun o ho => refs1_sub _ o (by simpa [refsL] using ho)⟩

/-- Binding the cells of a value, with what they refer to. -/
theorem LcP.cells {β : Type} {Pr : β → Prop} {s : SV} {Y : List SV → Tab → Cnt → (β → Prop) → Prop} (hY : ∀ cs, (∀ o ∈ refsL cs, o ∈ refsA s) → LcP U Pr (Y cs)) : LcP U Pr (fun ob ct k => cellsK s fun cs => Y cs ob ct k) := fun ob ct k h => by
  obtain ⟨cs, h1, h2, h3⟩ := cellsK_refs h
  obtain ⟨b, h0, h4, h5⟩ := hY cs h3 ob ct k h1
  exact ⟨b, h0, h4, fun ob' ct' k' hag hk => h2 _ (h5 ob' ct' k' hag hk)⟩

theorem refsAL_mem {l : List SV} {s : SV} (hs : s ∈ l) : ∀ o ∈ refsA s, o ∈ refsAL l := by
  induction l with
  | nil => cases hs
  | cons a r ih =>
    intro o ho
    simp only [refsAL, List.mem_append]
    rcases List.mem_cons.1 hs with rfl | hs
    · exact .inl ho
    · exact .inr (ih hs o ho)

theorem lcp_rowsK (n : Nat) (g : Operand → SV) : ∀ (l : List (Nat × Operand)) (es : List (List SV)) (us : List Upd), (∀ p ∈ l, ∀ o ∈ refsA (g p.2), U o ∧ W o) → NmIn W us →
    LcP U (fun p : List (List SV) × List Upd => NmIn W p.2) (fun ob _ k => rowsK n ob g l es us fun a b => k (a, b))
  | [], es, us, _, hn => LcP.ret (es, us) hn
  | (i, x) :: r, es, us, h, hn => by
    show LcP U _ (fun ob _ k => cellsK (g x) fun vs => Am.ifB (lenIs vs n) (purLK ob vs fun ps ws => i < es.length ∧ rowsK n ob g r (es.set i ps) (us ++ ws) fun a b => k (a, b)) False)
    have hx := h (i, x) (by simp)
    refine LcP.cells (Y := fun vs ob _ (k : List (List SV) × List Upd → Prop) => Am.ifB (lenIs vs n) (purLK ob vs fun ps ws => i < es.length ∧ rowsK n ob g r (es.set i ps) (us ++ ws) fun a b => k (a, b)) False) fun vs hvs => LcP.ifB ?_ LcP.no
    exact LcP.bindP (Y := fun p ob _ (k : List (List SV) × List Upd → Prop) => i < es.length ∧ rowsK n ob g r (es.set i p.1) (us ++ p.2) fun a b => k (a, b)) (lcp_purLK vs (fun o ho => (hx o (hvs o ho)).1) (fun o ho => (hx o (hvs o ho)).2)) fun p hp =>
      LcP.and (lcp_rowsK n g r _ _ (fun q hq => h q (by simp [hq])) (hn.app hp))

theorem lc_elsK (z : Nat) (v : SV) (h : ∀ o ∈ refs1 v, U o) : Lc U (fun ob _ k => elsK ob z v k) := by
  have key : LcP U (fun _ => True) (fun ob _ k => elsK ob z v k) := by
    cases v with
    | sl z' xs => exact LcP.and (LcP.ret _ trivial)
    | nils => exact LcP.ret _ trivial
    | lrow o st =>
      refine LcP.look (X := fun b _ _ (k : List (List SV) → Prop) => match b with
        | some ⟨st', kd, z', xs⟩ => st = st' ∧ z' = z ∧ match kd with | 0 => False | _ => k xs
        | none => False) o (h o (by simp [refs1])) fun b => ?_
      cases b with
      | none => exact LcP.no
      | some b =>
        obtain ⟨st', kd, z', xs⟩ := b
        refine LcP.and (LcP.and ?_)
        match kd with
        | 0 => exact LcP.no
        | kd + 1 => exact LcP.ret _ trivial
    | lsl o st lo n =>
      refine LcP.look (X := fun b _ _ (k : List (List SV) → Prop) => match b with
        | some ⟨st', kd, z', xs⟩ => st = st' ∧ z' = z ∧ lo + n ≤ xs.length ∧ match kd with | 0 => False | _ => k ((xs.drop lo).take n)
        | none => False) o (h o (by simp [refs1])) fun b => ?_
      cases b with
      | none => exact LcP.no
      | some b =>
        obtain ⟨st', kd, z', xs⟩ := b
        refine LcP.and (LcP.and (LcP.and ?_))
        match kd with
        | 0 => exact LcP.no
        | kd + 1 => exact LcP.ret _ trivial
    | _ => exact LcP.no
  intro ob ct k hk
  obtain ⟨a, _, h1, h2⟩ := key ob ct k hk
  exact ⟨a, h1, h2⟩

theorem lcp_appendK (d z bytes : Nat) (x : SV) (ys : List (List SV)) (hd : U d ∧ W d) (hx : ∀ o ∈ refsA x, U o ∧ W o) : LcP U (fun p : SV × List Upd => NmIn W p.2) (fun ob ct k => appendK ob ct d z bytes x ys fun a b => k (a, b)) := by
  have nm : ∀ (o : Nat) (b : Ob) (f : Bool), W o → NmIn W [⟨o, b, f⟩] := fun o b f h u hu => by simp at hu; subst hu; exact h
  cases x with
  | nils => exact LcP.and (LcP.count (X := fun n _ _ (k : SV × List Upd → Prop) => k (.lrow d n, [⟨d, ⟨n, 1, z, ys⟩, true⟩])) d hd.1 fun n => LcP.ret _ (nm _ _ _ hd.2))
  | lrow o st =>
    have ho := hx o (by simp [refsA, refs1])
    refine LcP.look (X := fun b _ ct (k : SV × List Upd → Prop) => match b with
      | some ⟨st', kd, z', xs⟩ => st = st' ∧ z' = z ∧ (xs.length + ys.length) * bytes ≤ 140737488355328 ∧ match kd with
        | 1 => k (.lrow o (ct o), [⟨o, ⟨ct o, 1, z, xs ++ ys⟩, true⟩])
        | _ => False
      | none => False) o ho.1 fun b => ?_
    cases b with
    | none => exact LcP.no
    | some b =>
      obtain ⟨st', kd, z', xs⟩ := b
      refine LcP.and (LcP.and (LcP.and ?_))
      match kd with
      | 0 => exact LcP.no
      | 1 => exact LcP.count (X := fun n _ _ (k : SV × List Upd → Prop) => k (.lrow o n, [⟨o, ⟨n, 1, z, xs ++ ys⟩, true⟩])) o ho.1 fun n => LcP.ret _ (nm _ _ _ ho.2)
      | kd + 2 => exact LcP.no
  | lsl o st lo n =>
    have ho := hx o (by simp [refsA, refs1])
    refine LcP.look (X := fun b _ ct (k : SV × List Upd → Prop) => match b with
      | some ⟨st', kd, z', xs⟩ => st = st' ∧ lo = 0 ∧ z' = z ∧ n ≤ xs.length ∧ (n + ys.length) * bytes ≤ 140737488355328 ∧ match kd with
        | 1 => k (.lrow o (ct o), [⟨o, ⟨ct o, 1, z, xs.take n ++ ys⟩, true⟩])
        | _ => False
      | none => False) o ho.1 fun b => ?_
    cases b with
    | none => exact LcP.no
    | some b =>
      obtain ⟨st', kd, z', xs⟩ := b
      refine LcP.and (LcP.and (LcP.and (LcP.and (LcP.and ?_))))
      match kd with
      | 0 => exact LcP.no
      | 1 => exact LcP.count (X := fun m _ _ (k : SV × List Upd → Prop) => k (.lrow o m, [⟨o, ⟨m, 1, z, xs.take n ++ ys⟩, true⟩])) o ho.1 fun m => LcP.ret _ (nm _ _ _ ho.2)
      | kd + 2 => exact LcP.no
  | _ => exact LcP.no

theorem lcp_sliceK (n : Nat) (x : SV) (lo hi : Option SV) (h : ∀ o ∈ refs1 x, U o) : LcP U (fun p : SV × List Upd => NmIn W p.2) (fun ob _ k => sliceK n x lo hi (fun v => k (v, [])) ob) := by
  have nil : NmIn W [] := fun u hu => by cases hu
  cases x with
  | sl z xs =>
    refine LcP.and ?_
    cases lo with
    | none => cases hi with
      | none => exact LcP.ret _ nil
      | some h => cases h <;> first | exact LcP.no | exact LcP.and (LcP.and (LcP.ret _ nil))
    | some l => cases hi with
      | none => cases l <;> first | exact LcP.no | exact LcP.and (LcP.and (LcP.ret _ nil))
      | some h => cases l <;> first | exact LcP.no | (cases h <;> first | exact LcP.no | exact LcP.and (LcP.and (LcP.and (LcP.ret _ nil))))
  | lrow o st =>
    refine LcP.look (X := fun b _ _ (k : SV × List Upd → Prop) => match b with
      | some ⟨st', _, z, xs⟩ => st = st' ∧ z = n ∧ match lo, hi with
        | none, none => k (.lrow o st, [])
        | some (.int _ l), none => 0 ≤ l ∧ l ≤ xs.length ∧ k (.lsl o st l.toNat (xs.length - l.toNat), [])
        | none, some (.int _ h) => 0 ≤ h ∧ h ≤ xs.length ∧ k (.lsl o st 0 h.toNat, [])
        | some (.int _ l), some (.int _ h) => 0 ≤ l ∧ l ≤ h ∧ h ≤ xs.length ∧ k (.lsl o st l.toNat (h.toNat - l.toNat), [])
        | _, _ => False
      | none => False) o (h o (by simp [refs1])) fun b => ?_
    cases b with
    | none => exact LcP.no
    | some b =>
      obtain ⟨st', kd, z, xs⟩ := b
      refine LcP.and (LcP.and ?_)
      cases lo with
      | none => cases hi with
        | none => exact LcP.ret _ nil
        | some h => cases h <;> first | exact LcP.no | exact LcP.and (LcP.and (LcP.ret _ nil))
      | some l => cases hi with
        | none => cases l <;> first | exact LcP.no | exact LcP.and (LcP.and (LcP.ret _ nil))
        | some h => cases l <;> first | exact LcP.no | (cases h <;> first | exact LcP.no | exact LcP.and (LcP.and (LcP.and (LcP.ret _ nil))))
  | lsl o st lo0 m =>
    refine LcP.look (X := fun b _ _ (k : SV × List Upd → Prop) => match b with
      | some ⟨st', _, z, _⟩ => st = st' ∧ z = n ∧ match lo, hi with
        | none, none => k (.lsl o st lo0 m, [])
        | some (.int _ l), none => 0 ≤ l ∧ l ≤ m ∧ k (.lsl o st (lo0 + l.toNat) (m - l.toNat), [])
        | none, some (.int _ h) => 0 ≤ h ∧ h ≤ m ∧ k (.lsl o st lo0 h.toNat, [])
        | some (.int _ l), some (.int _ h) => 0 ≤ l ∧ l ≤ h ∧ h ≤ m ∧ k (.lsl o st (lo0 + l.toNat) (h.toNat - l.toNat), [])
        | _, _ => False
      | none => False) o (h o (by simp [refs1])) fun b => ?_
    cases b with
    | none => exact LcP.no
    | some b =>
      obtain ⟨st', kd, z, xs⟩ := b
      refine LcP.and (LcP.and ?_)
      cases lo with
      | none => cases hi with
        | none => exact LcP.ret _ nil
        | some h => cases h <;> first | exact LcP.no | exact LcP.and (LcP.and (LcP.ret _ nil))
      | some l => cases hi with
        | none => cases l <;> first | exact LcP.no | exact LcP.and (LcP.and (LcP.ret _ nil))
        | some h => cases l <;> first | exact LcP.no | (cases h <;> first | exact LcP.no | exact LcP.and (LcP.and (LcP.and (LcP.ret _ nil))))
  | nils =>
    cases lo with
    | none => cases hi with
      | none => exact LcP.ret _ nil
      | some h => cases h <;> first | exact LcP.no | exact LcP.and (LcP.ret _ nil)
    | some l => cases hi <;> exact LcP.no
  | _ => exact LcP.no

theorem lcp_nilEqK (op : BinOp) (b : Bool) : LcP U (fun p : SV × List Upd => NmIn W p.2) (fun _ _ k => nilEqK op b fun v us => k (v, us)) := by
  have nil : NmIn W [] := fun u hu => by cases hu
  cases op <;> first | exact LcP.no | exact LcP.ret _ nil

/-- Every operation. -/
theorem lcp_act (P : Program) (o : Oper) (g : Operand → SV) (hU : ∀ n, n ∈ (foot o g).1 ∨ n ∈ (foot o g).2 → U n) (hW : ∀ n, n ∈ (foot o g).2 → W n) :
    LcP U (fun p : SV × List Upd => NmIn W p.2) (fun ob ct k => act P o g ob ct fun a b => k (a, b)) := by
  have nil : NmIn W [] := fun u hu => by cases hu
  have nm : ∀ (o : Nat) (b : Ob) (f : Bool), W o → NmIn W [⟨o, b, f⟩] := fun o b f h u hu => by simp at hu; subst hu; exact h
  have rt : ∀ v : SV, LcP U (fun p : SV × List Upd => NmIn W p.2) (fun _ _ k => k (v, [])) := fun v => LcP.ret (v, []) nil
  obtain ⟨dst, op, type, pos, after, guard⟩ := o
  cases op <;> simp only [act] <;> try exact LcP.no
  case move x => exact rt _
  case assign x => exact rt _
  case pick c a b =>
    cases g c <;> first | exact LcP.no | exact LcP.ifB (rt _) (rt _)
  case alloc t =>
    cases dst with
    | none => exact LcP.no
    | some d =>
      have hd : U d := hU d (.inr (by simp [foot]))
      have hw : W d := hW d (by simp [foot])
      exact LcP.bindPt (Y := fun cs _ ct (k : SV × List Upd → Prop) => k (.lptr d (ct d) 0 0, [⟨d, ⟨ct d, 0, cs.length, [cs]⟩, true⟩])) (pt_zeroK P t) fun cs => LcP.count (X := fun n _ _ (k : SV × List Upd → Prop) => k (.lptr d n 0 0, [⟨d, ⟨n, 0, cs.length, [cs]⟩, true⟩])) d hd fun n => LcP.retW _ _ (nm _ _ _ hw)
  case box t x =>
    cases dst with
    | none => exact LcP.no
    | some d =>
      have hd : U d := hU d (.inr (by simp [foot]))
      have hw : W d := hW d (by simp [foot])
      exact LcP.bindPt (Y := fun cs _ ct (k : SV × List Upd → Prop) => k (.lptr d (ct d) 0 0, [⟨d, ⟨ct d, 0, cs.length, [cs]⟩, true⟩])) (pt_cellsK _) fun cs => LcP.count (X := fun n _ _ (k : SV × List Upd → Prop) => k (.lptr d n 0 0, [⟨d, ⟨n, 0, cs.length, [cs]⟩, true⟩])) d hd fun n => LcP.retW _ _ (nm _ _ _ hw)
  case build t parts => exact LcP.ifB (LcP.bindPt (pt_zeroK P t) fun zs => LcP.bindPt (pt_fillK P t g _ zs) fun cs => rt _) LcP.no
  case buildSlice t len parts =>
    cases dst with
    | none => exact LcP.no
    | some d =>
      have hd : U d := hU d (.inr (by simp [foot]))
      have hw : W d := hW d (by simp [foot])
      cases P.underlying t with
      | none => exact LcP.no
      | some dd =>
        cases dd <;> try exact LcP.no
        rename_i el
        refine LcP.bindPt (Y := fun zs ob ct (k : SV × List Upd → Prop) => sizeK P el fun n => lenIs zs n = true ∧ len * n ≤ 16777216 ∧ rowsK n ob g parts.toList (List.replicate len zs) [] fun es us => es.length = len ∧ k (.lrow d (ct d), us ++ [⟨d, ⟨ct d, 1, n, es⟩, true⟩])) (pt_zeroK P el) fun zs =>
          LcP.bindPt (Y := fun n ob ct (k : SV × List Upd → Prop) => lenIs zs n = true ∧ len * n ≤ 16777216 ∧ rowsK n ob g parts.toList (List.replicate len zs) [] fun es us => es.length = len ∧ k (.lrow d (ct d), us ++ [⟨d, ⟨ct d, 1, n, es⟩, true⟩])) (pt_sizeK P el) fun n => LcP.and (LcP.and ?_)
        refine LcP.bindP (Y := fun p _ ct (k : SV × List Upd → Prop) => p.1.length = len ∧ k (.lrow d (ct d), p.2 ++ [⟨d, ⟨ct d, 1, n, p.1⟩, true⟩])) (lcp_rowsK n g parts.toList _ [] (fun p hp o ho => ?_) nil) fun p hp => LcP.and ?_
        · have hm : o ∈ refsAL (parts.toList.map fun p => g p.2) := refsAL_mem (List.mem_map.2 ⟨p, hp, rfl⟩) o ho
          exact ⟨hU o (.inr (by simp only [foot, List.mem_append]; exact .inr hm)), hW o (by simp only [foot, List.mem_append]; exact .inr hm)⟩
        · exact LcP.count (X := fun m _ _ (k : SV × List Upd → Prop) => k (.lrow d m, p.2 ++ [⟨d, ⟨m, 1, n, p.1⟩, true⟩])) d hd fun m => LcP.retW _ _ (hp.app (nm _ _ _ hw))
  case load t x =>
    have hx : ∀ o ∈ refs1 (g x), U o := fun o ho => hU o (.inl (by simpa [foot] using ho))
    cases hgx : g x <;> try exact LcP.no
    case ptr cs => exact LcP.bindPt (pt_readK P t cs) fun v => rt v
    case lptr o' st i j =>
      rw [hgx] at hx
      refine LcP.look (X := fun b _ _ (k : SV × List Upd → Prop) => match b with
        | some b => st = b.st ∧ elemK b i fun e => readK P t (e.drop j) fun v => k (v, [])
        | none => False) o' (hx o' (by simp [refs1])) fun b => ?_
      cases b with
      | none => exact LcP.no
      | some b => exact LcP.and (LcP.bindPt (pt_elemK b i) fun e => LcP.bindPt (pt_readK P t _) fun v => rt v)
  case store t x y =>
    have hx : ∀ o ∈ refs1 (g x), U o ∧ W o := fun o ho => ⟨hU o (.inr (by simpa [foot] using ho)), hW o (by simpa [foot] using ho)⟩
    cases hgx : g x <;> try exact LcP.no
    case lptr o' st i j =>
      rw [hgx] at hx
      have ho := hx o' (by simp [refs1])
      refine LcP.look (X := fun b _ _ (k : SV × List Upd → Prop) => match b with
        | some ⟨st', kd, z, xs⟩ => st = st' ∧ cellsK (g y) fun cs => sizeK P t fun n => Am.ifB (lenIs cs n) (match kd with
          | 0 => i = 0 ∧ match xs with
            | [e] => spliceK j cs e fun e' => k (.undef, [⟨o', ⟨st', 0, z, [e']⟩, false⟩])
            | _ => False
          | 1 => Am.ifB (allB pureB cs) (∃ e, xs[i]? = some e ∧ spliceK j cs e fun e' => k (.undef, [⟨o', ⟨st', 1, z, xs.set i e'⟩, false⟩])) False
          | _ => False) False
        | none => False) o' ho.1 fun b => ?_
      cases b with
      | none => exact LcP.no
      | some b =>
        obtain ⟨st', kd, z, xs⟩ := b
        refine LcP.and (LcP.bindPt (pt_cellsK _) fun cs => LcP.bindPt (pt_sizeK P t) fun n => LcP.ifB ?_ LcP.no)
        match kd with
        | 0 =>
          refine LcP.and ?_
          match xs with
          | [] => exact LcP.no
          | [e] => exact LcP.bindPt (pt_spliceK _ _ _) fun e' => LcP.ret _ (nm _ _ _ ho.2)
          | _ :: _ :: _ => exact LcP.no
        | 1 => exact LcP.ifB (LcP.ex fun e => LcP.and (LcP.bindPt (pt_spliceK _ _ _) fun e' => LcP.ret _ (nm _ _ _ ho.2))) LcP.no
        | kd + 2 => exact LcP.no
  case nilCheck x =>
    have hx : ∀ o ∈ refs1 (g x), U o := fun o ho => hU o (.inl (by simpa [foot] using ho))
    cases hgx : g x <;> try exact LcP.no
    case ptr cs => exact rt _
    case lptr o' st i j =>
      rw [hgx] at hx
      refine LcP.look (X := fun b _ _ (k : SV × List Upd → Prop) => match b with | some b => st = b.st ∧ k (.lptr o' st i j, []) | none => False) o' (hx o' (by simp [refs1])) fun b => ?_
      cases b with
      | none => exact LcP.no
      | some b => exact LcP.and (rt _)
  case binOp op t x y yt =>
    have hx : ∀ o ∈ refs1 (g x), U o := fun o ho => hU o (.inl (by simpa [foot] using ho))
    cases hgx : g x <;> try exact LcP.no
    case int k a =>
      cases g y <;> first | exact LcP.no | exact LcP.ifB (LcP.bindPt (pt_int2K _ _ _ _) fun v => rt v) (LcP.bindPt (pt_shiftK _ _ _ _) fun v => rt v)
    case bool a =>
      cases g y <;> try exact LcP.no
      cases P.underlying t with
      | none => exact LcP.no
      | some d => cases d <;> first | exact LcP.no | (cases op <;> first | exact LcP.no | exact rt _)
    case str a =>
      cases g y <;> try exact LcP.no
      cases op <;> first | exact LcP.no | exact rt _ | exact LcP.and (rt _)
    case agg cs =>
      cases g y <;> try exact LcP.no
      refine LcP.bindPt (pt_aggK P t) fun a => LcP.ifB ?_ LcP.no
      cases leaves P 8 t with
      | none => exact LcP.no
      | some l => cases op <;> first | exact LcP.no | exact LcP.and (LcP.bindPt (pt_eqK _ _ _) fun r => rt _)
    case sl z xs =>
      cases g y <;> try exact LcP.no
      cases P.underlying t with
      | none => exact LcP.no
      | some d => cases d <;> first | exact LcP.no | exact LcP.and (lcp_nilEqK _ _)
    case nils =>
      cases g y <;> try exact LcP.no
      cases P.underlying t with
      | none => exact LcP.no
      | some d => cases d <;> first | exact LcP.no | exact lcp_nilEqK _ _
    case ptr cs =>
      cases g y <;> try exact LcP.no
      cases P.underlying t with
      | none => exact LcP.no
      | some d => cases d <;> first | exact LcP.no | exact lcp_nilEqK _ _
    case lptr o' st i j =>
      rw [hgx] at hx
      cases g y <;> try exact LcP.no
      cases P.underlying t with
      | none => exact LcP.no
      | some d =>
        cases d <;> try exact LcP.no
        refine LcP.look (X := fun b _ _ (k : SV × List Upd → Prop) => match b with | some b => st = b.st ∧ nilEqK op false (fun v us => k (v, us)) | none => False) o' (hx o' (by simp [refs1])) fun b => ?_
        cases b with
        | none => exact LcP.no
        | some b => exact LcP.and (lcp_nilEqK _ _)
  case unOp op t x =>
    cases op <;> cases g x <;> first | exact LcP.no | exact rt _ | exact LcP.or (LcP.and (LcP.and (rt _))) (rt _)
  case convert s d x =>
    cases P.underlying s with
    | none => exact LcP.no
    | some ds =>
      cases ds <;> try exact LcP.no
      cases P.underlying d with
      | none => exact LcP.no
      | some dd =>
        cases dd <;> try exact LcP.no
        cases g x <;> first | exact LcP.no | exact LcP.or (LcP.and (LcP.and (rt _))) (rt _)
  case makeFunc fn first caps =>
    cases fn <;> try exact LcP.no
    simp only []
    cases first.toList with
    | cons _ _ => exact LcP.no
    | nil =>
      refine LcP.bindP (Y := fun p _ _ (k : SV × List Upd → Prop) => k (.fn _ p.1, p.2)) (lcp_purLK _ (fun o ho => ?_) (fun o ho => ?_)) fun p hp => LcP.retW _ _ hp
      · exact hU o (.inr (by simp only [foot]; exact refsL_sub _ o ho))
      · exact hW o (by simp only [foot]; exact refsL_sub _ o ho)
  case makeSlice t l c =>
    cases dst with
    | none => exact LcP.no
    | some d =>
      have hd : U d := hU d (.inr (by simp [foot]))
      have hw : W d := hW d (by simp [foot])
      cases P.underlying t with
      | none => exact LcP.no
      | some dd =>
        cases dd <;> try exact LcP.no
        rename_i el
        cases g l <;> try exact LcP.no
        rename_i k1 n
        cases k1 <;> try exact LcP.no
        cases g c <;> try exact LcP.no
        rename_i k2 m
        cases k2 <;> try exact LcP.no
        refine LcP.and (LcP.bindPt (Y := fun zs _ ct (k : SV × List Upd → Prop) => sizeK P el fun z => lenIs zs z = true ∧ 0 ≤ n ∧ n * 4096 ≤ 140737488355328 ∧
          (match P.info? el with | some i => i.bytes ≤ 4096 | none => False) ∧ k (.lrow d (ct d), [⟨d, ⟨ct d, 1, z, List.replicate n.toNat zs⟩, true⟩])) (pt_zeroK P el) fun zs =>
          LcP.bindPt (Y := fun z _ ct (k : SV × List Upd → Prop) => lenIs zs z = true ∧ 0 ≤ n ∧ n * 4096 ≤ 140737488355328 ∧
          (match P.info? el with | some i => i.bytes ≤ 4096 | none => False) ∧ k (.lrow d (ct d), [⟨d, ⟨ct d, 1, z, List.replicate n.toNat zs⟩, true⟩])) (pt_sizeK P el) fun z => ?_)
        exact LcP.and (LcP.and (LcP.and (LcP.and (LcP.count (X := fun q _ _ (k : SV × List Upd → Prop) => k (.lrow d q, [⟨d, ⟨q, 1, z, List.replicate n.toNat zs⟩, true⟩])) d hd fun q => LcP.retW _ _ (nm _ _ _ hw)))))
  case slice t x lo hi mx =>
    have hx : ∀ o ∈ refs1 (g x), U o := fun o ho => hU o (.inl (by simpa [foot] using ho))
    cases mx with
    | some _ => exact LcP.no
    | none =>
      simp only []
      cases P.underlying t with
      | none => exact LcP.no
      | some d =>
        cases d <;> try exact LcP.no
        case slice el => exact LcP.bindPt (pt_sizeK P el) fun n => lcp_sliceK n _ _ _ hx
        case string => exact LcP.bindPt (pt_sliceStrK _ _ _) fun v => rt v
  case fieldAddr t x f =>
    have hx : ∀ o ∈ refs1 (g x), U o := fun o ho => hU o (.inl (by simpa [foot] using ho))
    refine LcP.bindPt (Y := fun p ob _ (k : SV × List Upd → Prop) => match g x with
      | .lptr o' st i j => match ob o' with
        | some b => st = b.st ∧ k (.lptr o' st i (j + p.1), [])
        | none => False
      | .ptr cs => k (.ptr (cs.drop p.1), [])
      | _ => False) (pt_fieldK P t f) fun p => ?_
    cases hgx : g x <;> try exact LcP.no
    case ptr cs => exact rt _
    case lptr o' st i j =>
      rw [hgx] at hx
      refine LcP.look (X := fun b _ _ (k : SV × List Upd → Prop) => match b with | some b => st = b.st ∧ k (.lptr o' st i (j + p.1), []) | none => False) o' (hx o' (by simp [refs1])) fun b => ?_
      cases b with
      | none => exact LcP.no
      | some b => exact LcP.and (rt _)
  case field t x f =>
    refine LcP.bindPt (Y := fun p _ _ (k : SV × List Upd → Prop) => match g x with
      | .agg cs => readK P p.2 (cs.drop p.1) fun v => k (v, [])
      | _ => False) (pt_fieldK P t f) fun p => ?_
    cases g x <;> first | exact LcP.no | exact LcP.bindPt (pt_readK P _ _) fun v => rt v
  case indexAddr t x y =>
    have hx : ∀ o ∈ refs1 (g x), U o := fun o ho => hU o (.inl (by simpa [foot] using ho))
    cases g y <;> try exact LcP.no
    rename_i kk n
    cases P.underlying t with
    | none => exact LcP.no
    | some d =>
      cases d <;> try exact LcP.no
      case slice el =>
        refine LcP.bindPt (Y := fun s ob _ (k : SV × List Upd → Prop) => match g x with
          | .sl z xs => z = s ∧ 0 ≤ n ∧ ∃ e, xs[n.toNat]? = some e ∧ k (.ptr e, [])
          | .lrow o' st => match ob o' with
            | some ⟨st', _, z, xs⟩ => st = st' ∧ z = s ∧ 0 ≤ n ∧ n < xs.length ∧ k (.lptr o' st n.toNat 0, [])
            | none => False
          | .lsl o' st lo m => match ob o' with
            | some ⟨st', _, z, _⟩ => st = st' ∧ z = s ∧ 0 ≤ n ∧ n < m ∧ k (.lptr o' st (lo + n.toNat) 0, [])
            | none => False
          | _ => False) (pt_sizeK P el) fun s => ?_
        cases hgx : g x <;> try exact LcP.no
        case sl z xs => exact LcP.and (LcP.and (LcP.ex fun e => LcP.and (rt _)))
        case lrow o' st =>
          rw [hgx] at hx
          refine LcP.look (X := fun b _ _ (k : SV × List Upd → Prop) => match b with
            | some ⟨st', _, z, xs⟩ => st = st' ∧ z = s ∧ 0 ≤ n ∧ n < xs.length ∧ k (.lptr o' st n.toNat 0, [])
            | none => False) o' (hx o' (by simp [refs1])) fun b => ?_
          cases b with
          | none => exact LcP.no
          | some b => exact LcP.and (LcP.and (LcP.and (LcP.and (rt _))))
        case lsl o' st lo m =>
          rw [hgx] at hx
          refine LcP.look (X := fun b _ _ (k : SV × List Upd → Prop) => match b with
            | some ⟨st', _, z, _⟩ => st = st' ∧ z = s ∧ 0 ≤ n ∧ n < m ∧ k (.lptr o' st (lo + n.toNat) 0, [])
            | none => False) o' (hx o' (by simp [refs1])) fun b => ?_
          cases b with
          | none => exact LcP.no
          | some b => exact LcP.and (LcP.and (LcP.and (LcP.and (rt _))))
      case array len el =>
        refine LcP.bindPt (Y := fun s ob _ (k : SV × List Upd → Prop) => match g x with
          | .lptr o' st i j => match ob o' with
            | some b => st = b.st ∧ 0 ≤ n ∧ n < len ∧ k (.lptr o' st i (j + n.toNat * s), [])
            | none => False
          | .ptr cs => 0 ≤ n ∧ n < len ∧ k (.ptr (cs.drop (n.toNat * s)), [])
          | _ => False) (pt_sizeK P el) fun s => ?_
        cases hgx : g x <;> try exact LcP.no
        case ptr cs => exact LcP.and (LcP.and (rt _))
        case lptr o' st i j =>
          rw [hgx] at hx
          refine LcP.look (X := fun b _ _ (k : SV × List Upd → Prop) => match b with | some b => st = b.st ∧ 0 ≤ n ∧ n < len ∧ k (.lptr o' st i (j + n.toNat * s), []) | none => False) o' (hx o' (by simp [refs1])) fun b => ?_
          cases b with
          | none => exact LcP.no
          | some b => exact LcP.and (LcP.and (LcP.and (rt _)))
  case index t x y =>
    cases g y <;> try exact LcP.no
    cases P.underlying t with
    | none => exact LcP.no
    | some d =>
      cases d <;> try exact LcP.no
      case array len el =>
        refine LcP.bindPt (pt_sizeK P el) fun s => ?_
        cases g x <;> first | exact LcP.no | exact LcP.and (LcP.and (LcP.bindPt (pt_aggK P el) fun a => LcP.ifB (LcP.bindPt (pt_takeK _ _) fun es => rt _) (LcP.and (LcP.ex fun c => LcP.and (rt _)))))
      case string => cases g x <;> first | exact LcP.no | exact LcP.and (LcP.and (rt _))
  case extract x i =>
    cases g x <;> try exact LcP.no
    rename_i vs
    simp only []
    cases vs[i]? with
    | none => exact LcP.no
    | some v => exact rt v
  case call c =>
    obtain ⟨callee, args, argTypes⟩ := c
    cases callee <;> try exact LcP.no
    rename_i b
    cases b <;> try exact LcP.no
    case len =>
      have hx : ∀ o ∈ refsAL (args.toList.map g), U o := fun o ho => hU o (.inl (by simpa [foot] using ho))
      simp only []
      split
      · rename_i x t hx' ht'
        cases P.underlying t with
        | none => exact LcP.no
        | some d =>
          cases d <;> try exact LcP.no
          case string => cases g x <;> first | exact LcP.no | exact rt _
          case array n e => exact rt _
          case slice e =>
            have hx2 : ∀ o ∈ refsA (g x), U o := fun o ho => hx o (refsAL_mem (by rw [hx']; simp) o ho)
            cases hgx : g x <;> try exact LcP.no
            case sl z xs => exact rt _
            case nils => exact rt _
            case lrow o' st =>
              rw [hgx] at hx2
              refine LcP.look (X := fun b _ _ (k : SV × List Upd → Prop) => match b with | some b => st = b.st ∧ k (.i b.xs.length, []) | none => False) o' (hx2 o' (by simp [refsA, refs1])) fun b => ?_
              cases b with
              | none => exact LcP.no
              | some b => exact LcP.and (rt _)
            case lsl o' st lo n =>
              rw [hgx] at hx2
              refine LcP.look (X := fun b _ _ (k : SV × List Upd → Prop) => match b with | some b => st = b.st ∧ k (.i n, []) | none => False) o' (hx2 o' (by simp [refsA, refs1])) fun b => ?_
              cases b with
              | none => exact LcP.no
              | some b => exact LcP.and (rt _)
      · exact LcP.no
    case append =>
      simp only []
      split
      · rename_i x y tx ty d hx' ht'
        have hd : U d ∧ W d := ⟨hU d (.inr (by simp [foot])), hW d (by simp [foot])⟩
        have hy : ∀ o ∈ refsA (g y), U o := fun o ho => hU o (.inl (by simp only [foot]; exact refsAL_mem (by rw [hx']; simp) o ho))
        have hx : ∀ o ∈ refsA (g x), U o ∧ W o := fun o ho => ⟨hU o (.inr (by simp only [foot, hx', List.mem_append]; exact .inr ho)), hW o (by simp only [foot, hx', List.mem_append]; exact .inr ho)⟩
        cases P.underlying tx with
        | none => exact LcP.no
        | some dx =>
          cases dx <;> try exact LcP.no
          rename_i el
          cases P.underlying ty with
          | none => exact LcP.no
          | some dy =>
            cases dy <;> try exact LcP.no
            case slice =>
              simp only []
              cases P.info? el with
              | none => exact LcP.no
              | some i =>
                simp only []
                cases i.zero with
                | none => exact LcP.no
                | some z =>
                  refine LcP.ifB (LcP.bind (Y := fun ys ob ct (k : SV × List Upd → Prop) => appendK ob ct d i.size i.bytes (g x) ys fun a b => k (a, b)) (lc_elsK _ _ (fun o ho => hy o ?_)) fun ys => lcp_appendK d _ _ _ ys hd hx) LcP.no
                  cases hgy : g y <;> rw [hgy] at ho <;> first | exact ho | (simp [refs1] at ho)
            case int k0 =>
              cases g x <;> try exact LcP.no
              cases g y <;> try exact LcP.no
              rename_i k1 n
              cases k1 <;> try exact LcP.no
              refine LcP.bindPt (Y := fun zs _ ct (k : SV × List Upd → Prop) => sizeK P el fun z => lenIs zs z = true ∧ 1 ≤ n ∧ n * 4096 ≤ 140737488355328 ∧
                (match P.info? el with | some i => (Nat.blt 0 i.bytes && Nat.blt 0 i.size && Nat.ble i.bytes 4096) = true | none => False) ∧ k (.lrow d (ct d), [⟨d, ⟨ct d, 1, z, List.replicate n.toNat zs⟩, true⟩])) (pt_zeroK P el) fun zs =>
                LcP.bindPt (Y := fun z _ ct (k : SV × List Upd → Prop) => lenIs zs z = true ∧ 1 ≤ n ∧ n * 4096 ≤ 140737488355328 ∧
                (match P.info? el with | some i => (Nat.blt 0 i.bytes && Nat.blt 0 i.size && Nat.ble i.bytes 4096) = true | none => False) ∧ k (.lrow d (ct d), [⟨d, ⟨ct d, 1, z, List.replicate n.toNat zs⟩, true⟩])) (pt_sizeK P el) fun z => ?_
              exact LcP.and (LcP.and (LcP.and (LcP.and (LcP.count (X := fun q _ _ (k : SV × List Upd → Prop) => k (.lrow d q, [⟨d, ⟨q, 1, z, List.replicate n.toNat zs⟩, true⟩])) d hd.1 fun q => LcP.retW _ _ (nm _ _ _ hd.2)))))
      · exact LcP.no
    case cap =>
      simp only []
      split
      · rename_i x t hx' ht'
        cases P.underlying t with
        | none => exact LcP.no
        | some d => cases d <;> first | exact LcP.no | (cases g x <;> first | exact LcP.no | exact rt _)
      · exact LcP.no
    case clear =>
      simp only []
      split
      · rename_i x t hx' ht'
        have hx : ∀ o ∈ refsA (g x), U o ∧ W o := fun o ho => by
          have hm : o ∈ refsAL (args.toList.map g) := refsAL_mem (by rw [hx']; simp) o ho
          exact ⟨hU o (.inr (by simpa [foot] using hm)), hW o (by simpa [foot] using hm)⟩
        cases P.underlying t with
        | none => exact LcP.no
        | some d =>
          cases d <;> try exact LcP.no
          rename_i el
          refine LcP.bindPt (Y := fun zs ob _ (k : SV × List Upd → Prop) => sizeK P el fun z => lenIs zs z = true ∧ match g x with
            | .lsl o' st lo n => match ob o' with
              | some ⟨st', kd, z', xs⟩ => st = st' ∧ z' = z ∧ lo + n ≤ xs.length ∧ match kd with
                | 1 => k (.tup [], [⟨o', ⟨st', 1, z', xs.take lo ++ List.replicate n zs ++ xs.drop (lo + n)⟩, false⟩])
                | _ => False
              | none => False
            | _ => False) (pt_zeroK P el) fun zs => LcP.bindPt (Y := fun z ob _ (k : SV × List Upd → Prop) => lenIs zs z = true ∧ match g x with
            | .lsl o' st lo n => match ob o' with
              | some ⟨st', kd, z', xs⟩ => st = st' ∧ z' = z ∧ lo + n ≤ xs.length ∧ match kd with
                | 1 => k (.tup [], [⟨o', ⟨st', 1, z', xs.take lo ++ List.replicate n zs ++ xs.drop (lo + n)⟩, false⟩])
                | _ => False
              | none => False
            | _ => False) (pt_sizeK P el) fun z => LcP.and ?_
          cases hgx : g x <;> try exact LcP.no
          rename_i o' st lo n
          rw [hgx] at hx
          have ho := hx o' (by simp [refsA, refs1])
          refine LcP.look (X := fun b _ _ (k : SV × List Upd → Prop) => match b with
            | some ⟨st', kd, z', xs⟩ => st = st' ∧ z' = z ∧ lo + n ≤ xs.length ∧ match kd with
              | 1 => k (.tup [], [⟨o', ⟨st', 1, z', xs.take lo ++ List.replicate n zs ++ xs.drop (lo + n)⟩, false⟩])
              | _ => False
            | none => False) o' ho.1 fun b => ?_
          cases b with
          | none => exact LcP.no
          | some b =>
            obtain ⟨st', kd, z', xs⟩ := b
            refine LcP.and (LcP.and (LcP.and ?_))
            match kd with
            | 0 => exact LcP.no
            | 1 => exact LcP.ret _ (nm _ _ _ ho.2)
            | _ + 2 => exact LcP.no
      · exact LcP.no
    case max =>
      simp only []
      cases args.toList with
      | nil => exact LcP.no
      | cons x r =>
        simp only []
        cases g x <;> first | exact LcP.no | exact LcP.bindPt (pt_maxK _ _ _ _ _) fun v => rt v
    case min =>
      simp only []
      cases args.toList with
      | nil => exact LcP.no
      | cons x r =>
        simp only []
        cases g x <;> first | exact LcP.no | exact LcP.bindPt (pt_maxK _ _ _ _ _) fun v => rt v
end
end Go.Proofs.Yticandbdabgkeaa.Am
