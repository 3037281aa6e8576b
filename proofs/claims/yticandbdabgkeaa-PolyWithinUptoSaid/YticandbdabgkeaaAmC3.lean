/- One operation of the abstract machine depends on few objects, and comes to one result: for statements whose order is open. No condition: lemmas. -/
import Derived.Test.YticandbdabgkeaaAmC1
namespace Go.Proofs.Yticandbdabgkeaa.Am
open Go

/-- A computation in passing style that comes to one value. -/
def Pt {α : Type} (X : (α → Prop) → Prop) : Prop := ∀ k, X k → ∃ a, k a ∧ ∀ k' : α → Prop, k' a → X k'

theorem Pt.ret {α : Type} (a : α) : Pt (fun k : α → Prop => k a) := fun _ h => ⟨a, h, fun _ h => h⟩
theorem Pt.no {α : Type} : Pt (fun _ : α → Prop => False) := fun _ h => h.elim
theorem Pt.bind {α β : Type} {X : (α → Prop) → Prop} {Y : α → (β → Prop) → Prop} (hX : Pt X) (hY : ∀ a, Pt (Y a)) : Pt (fun k => X fun a => Y a k) := fun k h => by
  obtain ⟨a, h1, h2⟩ := hX _ h
  obtain ⟨b, h3, h4⟩ := hY a k h1
  exact ⟨b, h3, fun k' hk => h2 _ (h4 k' hk)⟩
theorem Pt.ifB {α : Type} {t : Bool} {X Y : (α → Prop) → Prop} (hX : Pt X) (hY : Pt Y) : Pt (fun k => ifB t (X k) (Y k)) := by cases t <;> assumption
theorem Pt.and {α : Type} {p : Prop} {X : (α → Prop) → Prop} (hX : Pt X) : Pt (fun k => p ∧ X k) := fun k h => by
  obtain ⟨a, h1, h2⟩ := hX k h.2
  exact ⟨a, h1, fun k' hk => ⟨h.1, h2 k' hk⟩⟩
theorem Pt.ex {α γ : Type} {X : γ → (α → Prop) → Prop} (hX : ∀ c, Pt (X c)) : Pt (fun k => ∃ c, X c k) := fun k ⟨c, h⟩ => by
  obtain ⟨a, h1, h2⟩ := hX c k h
  exact ⟨a, h1, fun k' hk => ⟨c, h2 k' hk⟩⟩
theorem Pt.or {α : Type} {X Y : (α → Prop) → Prop} (hX : Pt X) (hY : Pt Y) : Pt (fun k => X k ∨ Y k) := fun k h => by
  rcases h with h | h
  · obtain ⟨a, h1, h2⟩ := hX k h; exact ⟨a, h1, fun k' hk => .inl (h2 k' hk)⟩
  · obtain ⟨a, h1, h2⟩ := hY k h; exact ⟨a, h1, fun k' hk => .inr (h2 k' hk)⟩

theorem pt_cellsK (s : SV) : Pt (cellsK s) := by
  intro k h
  cases s with
  | agg cs =>
    obtain ⟨hb, h⟩ := ifB_true h
    exact ⟨cs, h, fun k' hk => by show ifB (allB cellB cs) (k' cs) False; rw [hb]; exact hk⟩
  | junk => exact h.elim
  | undef => exact h.elim
  | tup _ => exact h.elim
  | _ => exact ⟨_, h, fun _ hk => hk⟩
theorem pt_takeK : ∀ (n : Nat) (e : List SV), Pt (takeK n e)
  | 0, _ => fun _ h => ⟨[], h, fun _ hk => hk⟩
  | n + 1, x :: r => fun k h => by
    obtain ⟨a, h1, h2⟩ := pt_takeK n r _ h
    exact ⟨x :: a, h1, fun k' hk => h2 _ hk⟩
  | _ + 1, [] => fun _ h => h.elim
theorem pt_spliceK : ∀ (j : Nat) (cs e : List SV), Pt (spliceK j cs e)
  | 0, [], e => fun _ h => ⟨e, by simpa [spliceK] using h, fun _ hk => by simpa [spliceK] using hk⟩
  | 0, c :: cs, _ :: e => fun k h => by
    obtain ⟨a, h1, h2⟩ := pt_spliceK 0 cs e _ h
    exact ⟨c :: a, h1, fun k' hk => h2 _ hk⟩
  | 0, _ :: _, [] => fun _ h => h.elim
  | j + 1, cs, x :: e => fun k h => by
    obtain ⟨a, h1, h2⟩ := pt_spliceK j cs e _ h
    exact ⟨x :: a, h1, fun k' hk => h2 _ hk⟩
  | _ + 1, _, [] => fun _ h => h.elim
theorem pt_zeroK (P : Program) (t : TypeId) : Pt (zeroK P t) := by
  unfold zeroK
  cases P.info? t with
  | none => exact Pt.no
  | some i => cases hz : i.zero with
    | none => simp only [hz]; exact Pt.no
    | some z => simp only [hz]; exact Pt.ifB (Pt.ret _) Pt.no
theorem pt_sizeK (P : Program) (t : TypeId) : Pt (sizeK P t) := by
  unfold sizeK
  cases P.info? t with
  | none => exact Pt.no
  | some i => exact Pt.ret _
theorem pt_aggK (P : Program) (t : TypeId) : Pt (aggK P t) := by
  unfold aggK
  cases P.underlying t with
  | none => exact Pt.no
  | some d => cases d <;> exact Pt.ret _
theorem pt_readK (P : Program) (t : TypeId) (e : List SV) : Pt (readK P t e) := by
  unfold readK
  refine Pt.bind (pt_aggK P t) fun a => Pt.ifB (Pt.bind (pt_sizeK P t) fun n => Pt.bind (pt_takeK n e) fun cs => Pt.ret _) ?_
  cases e <;> first | exact Pt.no | exact Pt.ret _
theorem pt_elemK (b : Ob) (i : Nat) : Pt (elemK b i) := by
  obtain ⟨st, kd, z, xs⟩ := b
  unfold elemK
  match kd with
  | 0 =>
    refine Pt.and ?_
    match xs with
    | [] => exact Pt.no
    | [e] => exact Pt.ret _
    | _ :: _ :: _ => exact Pt.no
  | kd + 1 => exact Pt.ex fun e => Pt.and (Pt.ret _)
theorem pt_fieldK (P : Program) (t : TypeId) (f : Nat) : Pt (fun k : Nat × TypeId → Prop => fieldK P t f fun a b => k (a, b)) := by
  unfold fieldK
  cases P.underlying t with
  | none => exact Pt.no
  | some d =>
    cases d <;> try exact Pt.no
    rename_i fs
    cases hf : fs[f]? with
    | none => simp only [hf]; exact Pt.no
    | some fld =>
      simp only [hf]
      cases P.info? fld.type with
      | none => exact Pt.no
      | some i =>
        cases hs : i.size with
        | zero => simp only [hs]; exact Pt.no
        | succ n => simp only [hs]; exact Pt.ret (fld.offset, fld.type)
theorem pt_placeK (P : Program) (t : TypeId) (i : Nat) : Pt (fun k : Nat × Nat → Prop => placeK P t i fun a b => k (a, b)) := by
  unfold placeK
  cases P.underlying t with
  | none => exact Pt.no
  | some d =>
    cases d <;> try exact Pt.no
    · rename_i n el
      exact Pt.bind (pt_sizeK P el) fun n => Pt.ret (i * n, n)
    · rename_i fs
      cases hf : fs[i]? with
      | none => simp only [hf]; exact Pt.no
      | some fld => simp only [hf]; exact Pt.bind (pt_sizeK P _) fun n => Pt.ret (fld.offset, n)
theorem pt_fillK (P : Program) (t : TypeId) (g : Operand → SV) : ∀ (l : List (Nat × Operand)) (cs : List SV), Pt (fillK P t g l cs)
  | [], cs => Pt.ret _
  | (i, x) :: r, cs => by
    show Pt (fun k => placeK P t i fun off n => cellsK (g x) fun vs => ifB (lenIs vs n) (spliceK off vs cs fun cs' => fillK P t g r cs' k) False)
    exact Pt.bind (Y := fun p k => cellsK (g x) fun vs => ifB (lenIs vs p.2) (spliceK p.1 vs cs fun cs' => fillK P t g r cs' k) False) (pt_placeK P t i) fun p => Pt.bind (pt_cellsK _) fun vs => Pt.ifB (Pt.bind (pt_spliceK _ _ _) fun cs' => pt_fillK P t g r cs') Pt.no
theorem pt_eqK : ∀ (l : List Nat) (cs ds : List SV), Pt (eqK l cs ds) := by
  intro l
  induction l with
  | nil =>
    intro cs ds k h
    cases cs <;> cases ds <;> first | exact ⟨true, h, fun _ hk => hk⟩ | exact h.elim
  | cons n l ih =>
    intro cs ds k h
    obtain ⟨a, r, b, s, q, rfl, rfl, hlf, hk⟩ := eqK_cons h
    have back : ∀ k' : Bool → Prop, ((l = [] ∧ r = [] ∧ s = [] ∧ k' q) ∨ (l ≠ [] ∧ eqK l r s fun x => k' (q && x))) → eqK (n :: l) (a :: r) (b :: s) k' := fun k' h' => by
      rcases hlf with ⟨j, x, y, rfl, rfl, rfl, rfl⟩ | ⟨x, y, rfl, rfl, rfl, rfl⟩ | ⟨x, y, rfl, rfl, rfl, rfl⟩
      · have hj : kEq j j = true := by cases j <;> rfl
        rcases h' with ⟨rfl, rfl, rfl, h'⟩ | ⟨hl, h'⟩
        · simp only [eqK, hj]; exact h'
        · cases l with
          | nil => exact absurd rfl hl
          | cons m l => simp only [eqK, hj]; exact h'
      · rcases h' with ⟨rfl, rfl, rfl, h'⟩ | ⟨hl, h'⟩
        · exact h'
        · cases l with
          | nil => exact absurd rfl hl
          | cons m l => exact h'
      · rcases h' with ⟨rfl, rfl, rfl, h'⟩ | ⟨hl, h'⟩
        · exact h'
        · cases l with
          | nil => exact absurd rfl hl
          | cons m l => exact h'
    cases l with
    | nil =>
      rcases hk with ⟨_, rfl, rfl, hk⟩ | hk
      · exact ⟨q, hk, fun k' hk' => back k' (.inl ⟨rfl, rfl, rfl, hk'⟩)⟩
      · cases r <;> cases s <;> try exact False.elim hk
        have hk : k (q && true) := hk
        rw [Bool.and_true] at hk
        exact ⟨q, hk, fun k' hk' => back k' (.inl ⟨rfl, rfl, rfl, hk'⟩)⟩
    | cons m l =>
      rcases hk with ⟨hl, _⟩ | hk
      · cases hl
      · obtain ⟨x, h1, h2⟩ := ih r s _ hk
        exact ⟨q && x, h1, fun k' hk' => back k' (.inr ⟨by simp, h2 _ hk'⟩)⟩
theorem pt_int2K (op : BinOp) (k : IntKind) (a b : Int) : Pt (int2K op k a b) := by
  cases op <;> first | exact Pt.no | exact Pt.ret _ | exact Pt.and (Pt.ret _) | exact Pt.or (Pt.and (Pt.and (Pt.ret _))) (Pt.ret _)
theorem pt_shiftK (op : BinOp) (k : IntKind) (a b : Int) : Pt (shiftK op k a b) := by
  cases op <;> first | exact Pt.no | exact Pt.and (Pt.ret _)
theorem pt_maxK (pick : Int → Int → Int) (g : Operand → SV) : ∀ (l : List Operand) (k : IntKind) (a : Int), Pt (maxK pick g l k a)
  | [], k, a => Pt.ret _
  | x :: r, k, a => by
    show Pt (fun R => match g x with
      | .int k' b => ifB (kEq k k') (maxK pick g r k (pick a b) R) False
      | _ => False)
    cases g x <;> first | exact Pt.no | exact Pt.ifB (pt_maxK pick g r _ _) Pt.no
theorem pt_sliceStrK (x : SV) (lo hi : Option SV) : Pt (sliceStrK x lo hi) := by
  unfold sliceStrK
  cases x <;> try exact Pt.no
  cases lo with
  | none => cases hi with
    | none => exact Pt.ret _
    | some h => cases h <;> first | exact Pt.no | exact Pt.and (Pt.and (Pt.ret _))
  | some l => cases hi with
    | none => cases l <;> first | exact Pt.no | exact Pt.and (Pt.and (Pt.ret _))
    | some h => cases l <;> first | exact Pt.no | (cases h <;> first | exact Pt.no | exact Pt.and (Pt.and (Pt.and (Pt.ret _))))

/-! ### With objects -/
/-- The same, of a computation that looks at the objects of 'U' alone. -/
def Lc {α : Type} (U : Nat → Prop) (X : Tab → Cnt → (α → Prop) → Prop) : Prop :=
  ∀ ob ct k, X ob ct k → ∃ a, k a ∧ ∀ (ob' : Tab) (ct' : Cnt) (k' : α → Prop), (∀ o, U o → ob' o = ob o ∧ ct' o = ct o) → k' a → X ob' ct' k'

section
variable {U : Nat → Prop}
theorem Lc.ofPt {α : Type} {X : (α → Prop) → Prop} (h : Pt X) : Lc U (fun _ _ k => X k) := fun _ _ k hk => by
  obtain ⟨a, h1, h2⟩ := h k hk
  exact ⟨a, h1, fun _ _ k' _ hk' => h2 k' hk'⟩
theorem Lc.no {α : Type} : Lc U (fun _ _ (_ : α → Prop) => False) := fun _ _ _ h => h.elim
theorem Lc.bind {α β : Type} {X : Tab → Cnt → (α → Prop) → Prop} {Y : α → Tab → Cnt → (β → Prop) → Prop} (hX : Lc U X) (hY : ∀ a, Lc U (Y a)) : Lc U (fun ob ct k => X ob ct fun a => Y a ob ct k) := fun ob ct k h => by
  obtain ⟨a, h1, h2⟩ := hX ob ct _ h
  obtain ⟨b, h3, h4⟩ := hY a ob ct k h1
  exact ⟨b, h3, fun ob' ct' k' hag hk => h2 ob' ct' _ hag (h4 ob' ct' k' hag hk)⟩
theorem Lc.ifB {α : Type} {t : Bool} {X Y : Tab → Cnt → (α → Prop) → Prop} (hX : Lc U X) (hY : Lc U Y) : Lc U (fun ob ct k => ifB t (X ob ct k) (Y ob ct k)) := by cases t <;> assumption
theorem Lc.and {α : Type} {p : Prop} {X : Tab → Cnt → (α → Prop) → Prop} (hX : Lc U X) : Lc U (fun ob ct k => p ∧ X ob ct k) := fun ob ct k h => by
  obtain ⟨a, h1, h2⟩ := hX ob ct k h.2
  exact ⟨a, h1, fun ob' ct' k' hag hk => ⟨h.1, h2 ob' ct' k' hag hk⟩⟩
theorem Lc.ex {α γ : Type} {X : γ → Tab → Cnt → (α → Prop) → Prop} (hX : ∀ c, Lc U (X c)) : Lc U (fun ob ct k => ∃ c, X c ob ct k) := fun ob ct k ⟨c, h⟩ => by
  obtain ⟨a, h1, h2⟩ := hX c ob ct k h
  exact ⟨a, h1, fun ob' ct' k' hag hk => ⟨c, h2 ob' ct' k' hag hk⟩⟩
/-- It looks at one counter. -/
theorem Lc.count {α : Type} (o : Nat) (hU : U o) {X : Nat → (α → Prop) → Prop} (hX : ∀ n, Pt (X n)) : Lc U (fun _ ct k => X (ct o) k) := fun ob ct k h => by
  obtain ⟨a, h1, h2⟩ := hX (ct o) k h
  exact ⟨a, h1, fun ob' ct' k' hag hk => by show X (ct' o) k'; rw [(hag o hU).2]; exact h2 k' hk⟩
theorem Lc.congr {α : Type} {X Y : Tab → Cnt → (α → Prop) → Prop} (h : ∀ ob ct k, X ob ct k ↔ Y ob ct k) (hX : Lc U X) : Lc U Y := fun ob ct k hk => by
  obtain ⟨a, h1, h2⟩ := hX ob ct k ((h ob ct k).2 hk)
  exact ⟨a, h1, fun ob' ct' k' hag hk' => (h ob' ct' k').1 (h2 ob' ct' k' hag hk')⟩

/-- The updates' names. -/
def NmIn (U : Nat → Prop) (us : List Upd) : Prop := ∀ u ∈ us, U u.nm

/-- A computation that comes to a value and to updates of objects of U. -/
abbrev Two (X : Tab → Cnt → (SV → List Upd → Prop) → Prop) : Tab → Cnt → (SV × List Upd → Prop) → Prop := fun ob ct k => X ob ct fun v us => k (v, us)

theorem lc_pur1K (v : SV) (h : ∀ o ∈ refs1 v, U o) : Lc U (Two fun ob _ k => pur1K ob v k) := by
  cases v with
  | lrow o st =>
    intro ob ct k hk
    simp only [Two, pur1K] at hk ⊢
    cases hb : ob o with
    | none => simp [hb] at hk
    | some b =>
      obtain ⟨st', kd, z, xs⟩ := b
      simp only [hb] at hk
      have hU := h o (by simp [refs1])
      match kd, hk.2, hb with
      | 1, h2, hb => exact ⟨_, h2, fun ob' ct' k' hag hk' => by simp only [(hag o hU).1, hb]; exact ⟨hk.1, hk'⟩⟩
      | kd + 2, h2, hb => exact ⟨_, h2, fun ob' ct' k' hag hk' => by simp only [(hag o hU).1, hb]; exact ⟨hk.1, hk'⟩⟩
  | lsl o st lo n =>
    intro ob ct k hk
    simp only [Two, pur1K] at hk ⊢
    cases hb : ob o with
    | none => simp [hb] at hk
    | some b =>
      obtain ⟨st', kd, z, xs⟩ := b
      simp only [hb] at hk
      have hU := h o (by simp [refs1])
      match kd, hk.2.2, hb with
      | 1, h2, hb => exact ⟨_, h2, fun ob' ct' k' hag hk' => by simp only [(hag o hU).1, hb]; exact ⟨hk.1, hk.2.1, hk'⟩⟩
      | kd + 2, h2, hb => exact ⟨_, h2, fun ob' ct' k' hag hk' => by simp only [(hag o hU).1, hb]; exact ⟨hk.1, hk.2.1, hk'⟩⟩
  | lptr o st i j =>
    intro ob ct k hk
    simp only [Two, pur1K] at hk ⊢
    cases hb : ob o with
    | none => simp [hb] at hk
    | some b =>
      obtain ⟨st', kd, z, xs⟩ := b
      simp only [hb] at hk
      have hU := h o (by simp [refs1])
      match kd, hk.2, hb with
      | 0, h2, hb =>
        match xs, h2.2, hb with
        | [e], h3, hb =>
          obtain ⟨hp, h3⟩ := ifB_true h3
          exact ⟨_, h3, fun ob' ct' k' hag hk' => by simp only [(hag o hU).1, hb, hp]; exact ⟨hk.1, h2.1, hk'⟩⟩
      | kd + 2, h2, hb =>
        obtain ⟨e, he, h2⟩ := h2
        exact ⟨_, h2, fun ob' ct' k' hag hk' => by simp only [(hag o hU).1, hb]; exact ⟨hk.1, e, he, hk'⟩⟩
  | agg _ => exact Lc.no
  | tup _ => exact Lc.no
  | junk => exact Lc.no
  | undef => exact Lc.no
  | _ => exact Lc.ofPt (Pt.ret (_, []))

theorem lc_purLK : ∀ (cs : List SV), (∀ o ∈ refsL cs, U o) → Lc U (fun ob _ (k : List SV × List Upd → Prop) => purLK ob cs fun l us => k (l, us))
  | [], _ => Lc.ofPt (Pt.ret ([], []))
  | v :: r, h => Lc.bind (Y := fun p ob ct k => purLK ob r fun l ws => k (p.1 :: l, p.2 ++ ws)) (lc_pur1K v fun o ho => h o (by simp [refsL, ho])) fun p =>
      Lc.bind (Y := fun q _ _ k => k (p.1 :: q.1, p.2 ++ q.2)) (lc_purLK r fun o ho => h o (by simp [refsL, ho])) fun q => Lc.ofPt (Pt.ret _)

theorem purA_split (v : SV) : (∃ cs, v = .agg cs) ∨ (refsA v = refs1 v ∧ ∀ ob k, purAK ob v k = pur1K ob v k) := by
  cases v <;> first | exact .inl ⟨_, rfl⟩ | exact .inr ⟨rfl, fun _ _ => rfl⟩

theorem lc_purAK (v : SV) (h : ∀ o ∈ refsA v, U o) : Lc U (Two fun ob _ k => purAK ob v k) := by
  rcases purA_split v with ⟨cs, rfl⟩ | ⟨h1, h2⟩
  · exact Lc.bind (Y := fun (p : List SV × List Upd) _ _ (k : SV × List Upd → Prop) => k (SV.agg p.1, p.2)) (lc_purLK cs h) fun p => Lc.ofPt (Pt.ret (SV.agg p.1, p.2))
  · simp only [h2]
    exact lc_pur1K v (by rw [← h1]; exact h)

theorem lc_purALK : ∀ (cs : List SV), (∀ o ∈ refsAL cs, U o) → Lc U (fun ob _ (k : List SV × List Upd → Prop) => purALK ob cs fun l us => k (l, us))
  | [], _ => Lc.ofPt (Pt.ret ([], []))
  | v :: r, h => Lc.bind (Y := fun p ob ct k => purALK ob r fun l ws => k (p.1 :: l, p.2 ++ ws)) (lc_purAK v fun o ho => h o (by simp [refsAL, ho])) fun p =>
      Lc.bind (Y := fun q _ _ k => k (p.1 :: q.1, p.2 ++ q.2)) (lc_purALK r fun o ho => h o (by simp [refsAL, ho])) fun q => Lc.ofPt (Pt.ret _)

theorem lc_bor1K (v : SV) (h : ∀ o ∈ refs1 v, U o) : Lc U (fun ob _ k => bor1K ob v k) := by
  cases v with
  | lrow o st =>
    intro ob ct k hk
    simp only [bor1K] at hk ⊢
    cases hb : ob o with
    | none => simp [hb] at hk
    | some b =>
      obtain ⟨st', kd, z, xs⟩ := b
      simp only [hb] at hk
      have hU := h o (by simp [refs1])
      match kd, hk.2, hb with
      | kd + 1, h2, hb => exact ⟨_, h2, fun ob' ct' k' hag hk' => by simp only [(hag o hU).1, hb]; exact ⟨hk.1, hk'⟩⟩
  | lsl o st lo n =>
    intro ob ct k hk
    simp only [bor1K] at hk ⊢
    cases hb : ob o with
    | none => simp [hb] at hk
    | some b =>
      obtain ⟨st', kd, z, xs⟩ := b
      simp only [hb] at hk
      have hU := h o (by simp [refs1])
      match kd, hk.2.2, hb with
      | kd + 1, h2, hb => exact ⟨_, h2, fun ob' ct' k' hag hk' => by simp only [(hag o hU).1, hb]; exact ⟨hk.1, hk.2.1, hk'⟩⟩
  | lptr o st i j =>
    intro ob ct k hk
    simp only [bor1K] at hk ⊢
    cases hb : ob o with
    | none => simp [hb] at hk
    | some b =>
      obtain ⟨st', kd, z, xs⟩ := b
      simp only [hb] at hk
      have hU := h o (by simp [refs1])
      match kd, hk.2, hb with
      | 0, h2, hb =>
        match xs, h2.2, hb with
        | [e], h3, hb =>
          obtain ⟨hp, h3⟩ := ifB_true h3
          exact ⟨_, h3, fun ob' ct' k' hag hk' => by simp only [(hag o hU).1, hb, hp]; exact ⟨hk.1, h2.1, hk'⟩⟩
      | kd + 1, h2, hb =>
        obtain ⟨e, he, h2⟩ := h2
        exact ⟨_, h2, fun ob' ct' k' hag hk' => by simp only [(hag o hU).1, hb]; exact ⟨hk.1, e, he, hk'⟩⟩
  | agg _ => exact Lc.no
  | tup _ => exact Lc.no
  | junk => exact Lc.no
  | undef => exact Lc.no
  | _ => exact Lc.ofPt (Pt.ret _)

theorem lc_borLK : ∀ (cs : List SV), (∀ o ∈ refsL cs, U o) → Lc U (fun ob _ (k : List SV → Prop) => borLK ob cs k)
  | [], _ => Lc.ofPt (Pt.ret [])
  | v :: r, h => Lc.bind (Y := fun p ob _ k => borLK ob r fun l => k (p :: l)) (lc_bor1K v fun o ho => h o (by simp [refsL, ho])) fun p =>
      Lc.bind (Y := fun q _ _ k => k (p :: q)) (lc_borLK r fun o ho => h o (by simp [refsL, ho])) fun q => Lc.ofPt (Pt.ret _)

theorem borA_split (v : SV) : (∃ cs, v = .agg cs) ∨ (refsA v = refs1 v ∧ ∀ ob k, borAK ob v k = bor1K ob v k) := by
  cases v <;> first | exact .inl ⟨_, rfl⟩ | exact .inr ⟨rfl, fun _ _ => rfl⟩

theorem lc_borAK (v : SV) (h : ∀ o ∈ refsA v, U o) : Lc U (fun ob _ k => borAK ob v k) := by
  rcases borA_split v with ⟨cs, rfl⟩ | ⟨h1, h2⟩
  · exact Lc.bind (Y := fun (p : List SV) _ _ (k : SV → Prop) => k (SV.agg p)) (lc_borLK cs h) fun p => Lc.ofPt (Pt.ret (SV.agg p))
  · simp only [h2]
    exact lc_bor1K v (by rw [← h1]; exact h)

theorem lc_borALK : ∀ (cs : List SV), (∀ o ∈ refsAL cs, U o) → Lc U (fun ob _ (k : List SV → Prop) => borALK ob cs k)
  | [], _ => Lc.ofPt (Pt.ret [])
  | v :: r, h => Lc.bind (Y := fun p ob _ k => borALK ob r fun l => k (p :: l)) (lc_borAK v fun o ho => h o (by simp [refsAL, ho])) fun p =>
      Lc.bind (Y := fun q _ _ k => k (p :: q)) (lc_borALK r fun o ho => h o (by simp [refsAL, ho])) fun q => Lc.ofPt (Pt.ret _)

theorem nm_pur1K {ob : Tab} {v : SV} {k : SV → List Upd → Prop} (hU : ∀ o ∈ refs1 v, U o) (h : pur1K ob v k) : pur1K ob v fun s us => k s us ∧ NmIn U us := by
  cases v with
  | lrow o st =>
    simp only [pur1K] at h ⊢
    cases hb : ob o with
    | none => simp [hb] at h
    | some b =>
      obtain ⟨st', kd, z, xs⟩ := b
      simp only [hb] at h ⊢
      refine ⟨h.1, ?_⟩
      match kd, h.2 with
      | 1, h => exact ⟨h, fun u hu => by simp at hu; subst hu; exact hU o (by simp [refs1])⟩
      | kd + 2, h => exact ⟨h, fun u hu => by simp at hu⟩
  | lsl o st lo n =>
    simp only [pur1K] at h ⊢
    cases hb : ob o with
    | none => simp [hb] at h
    | some b =>
      obtain ⟨st', kd, z, xs⟩ := b
      simp only [hb] at h ⊢
      refine ⟨h.1, h.2.1, ?_⟩
      match kd, h.2.2 with
      | 1, h => exact ⟨h, fun u hu => by simp at hu; subst hu; exact hU o (by simp [refs1])⟩
      | kd + 2, h => exact ⟨h, fun u hu => by simp at hu⟩
  | lptr o st i j =>
    simp only [pur1K] at h ⊢
    cases hb : ob o with
    | none => simp [hb] at h
    | some b =>
      obtain ⟨st', kd, z, xs⟩ := b
      simp only [hb] at h ⊢
      refine ⟨h.1, ?_⟩
      match kd, h.2 with
      | 0, h =>
        refine ⟨h.1, ?_⟩
        match xs, h.2 with
        | [e], hh =>
          obtain ⟨hp, hh⟩ := ifB_true hh
          show Am.ifB (allB pureB e) _ False
          rw [hp]
          exact ⟨hh, fun u hu => by simp at hu; subst hu; exact hU o (by simp [refs1])⟩
      | kd + 2, h => obtain ⟨e, he, h⟩ := h; exact ⟨e, he, h, fun u hu => by simp at hu⟩
  | agg _ => exact h.elim
  | tup _ => exact h.elim
  | junk => exact h.elim
  | undef => exact h.elim
  | _ => exact ⟨h, fun u hu => by simp at hu⟩

theorem NmIn.app {us ws : List Upd} (h : NmIn U us) (k : NmIn U ws) : NmIn U (us ++ ws) := fun u hu => (List.mem_append.1 hu).elim (h u) (k u)

theorem pur1K_mono {ob : Tab} {v : SV} {k k' : SV → List Upd → Prop} (hk : ∀ s us, k s us → k' s us) (h : pur1K ob v k) : pur1K ob v k' := by
  obtain ⟨a, h1, h2⟩ := lc_pur1K (U := fun _ => True) v (fun _ _ => trivial) ob (fun _ => 0) (fun p => k p.1 p.2) h
  exact h2 ob (fun _ => 0) (fun p => k' p.1 p.2) (fun _ _ => ⟨rfl, rfl⟩) (hk _ _ h1)

theorem nm_purLK {ob : Tab} : ∀ {cs : List SV} {k : List SV → List Upd → Prop}, (∀ o ∈ refsL cs, U o) → purLK ob cs k → purLK ob cs fun l us => k l us ∧ NmIn U us
  | [], k, _, h => ⟨h, fun u hu => by simp at hu⟩
  | v :: r, k, hU, h => by
    refine pur1K_mono (fun s us hs => ?_) (nm_pur1K (fun o ho => hU o (by simp [refsL, ho])) h)
    obtain ⟨a, g1, g2⟩ := lc_purLK (U := fun _ => True) r (fun _ _ => trivial) ob (fun _ => 0) (fun p => (k (s :: p.1) (us ++ p.2)) ∧ NmIn U p.2) (nm_purLK (fun o ho => hU o (by simp [refsL, ho])) hs.1)
    exact g2 ob (fun _ => 0) (fun p => k (s :: p.1) (us ++ p.2) ∧ NmIn U (us ++ p.2)) (fun _ _ => ⟨rfl, rfl⟩) ⟨g1.1, hs.2.app g1.2⟩

theorem nm_purAK {ob : Tab} {v : SV} {k : SV → List Upd → Prop} (hU : ∀ o ∈ refsA v, U o) (h : purAK ob v k) : purAK ob v fun s us => k s us ∧ NmIn U us := by
  rcases purA_split v with ⟨cs, rfl⟩ | ⟨h1, h2⟩
  · exact nm_purLK hU h
  · rw [h2] at h ⊢
    exact nm_pur1K (by rw [← h1]; exact hU) h

theorem purAK_mono {ob : Tab} {v : SV} {k k' : SV → List Upd → Prop} (hk : ∀ s us, k s us → k' s us) (h : purAK ob v k) : purAK ob v k' := by
  obtain ⟨a, h1, h2⟩ := lc_purAK (U := fun _ => True) v (fun _ _ => trivial) ob (fun _ => 0) (fun p => k p.1 p.2) h
  exact h2 ob (fun _ => 0) (fun p => k' p.1 p.2) (fun _ _ => ⟨rfl, rfl⟩) (hk _ _ h1)

theorem nm_purALK {ob : Tab} : ∀ {cs : List SV} {k : List SV → List Upd → Prop}, (∀ o ∈ refsAL cs, U o) → purALK ob cs k → purALK ob cs fun l us => k l us ∧ NmIn U us
  | [], k, _, h => ⟨h, fun u hu => by simp at hu⟩
  | v :: r, k, hU, h => by
    refine purAK_mono (fun s us hs => ?_) (nm_purAK (fun o ho => hU o (by simp [refsAL, ho])) h)
    obtain ⟨a, g1, g2⟩ := lc_purALK (U := fun _ => True) r (fun _ _ => trivial) ob (fun _ => 0) (fun p => (k (s :: p.1) (us ++ p.2)) ∧ NmIn U p.2) (nm_purALK (fun o ho => hU o (by simp [refsAL, ho])) hs.1)
    exact g2 ob (fun _ => 0) (fun p => k (s :: p.1) (us ++ p.2) ∧ NmIn U (us ++ p.2)) (fun _ _ => ⟨rfl, rfl⟩) ⟨g1.1, hs.2.app g1.2⟩
end
end Go.Proofs.Yticandbdabgkeaa.Am
