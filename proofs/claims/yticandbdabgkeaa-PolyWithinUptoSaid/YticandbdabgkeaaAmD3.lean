/- Comparing values cell by cell, and steps for proofs that run code. No condition: definitions and lemmas. -/
import Derived.Test.YticandbdabgkeaaAmD2
namespace Go.Proofs.Yticandbdabgkeaa.Am
open Go

/-- Equality of values, part by part; nil is an empty slice. -/
def goodC : SV → SV → Prop
  | .int k a, .int k' b => ifB (kEq k k') (a = b) False
  | .bool a, .bool b => a = b
  | .str a, .str b => a = b
  | .nils, .sl _ xs => xs = []
  | .nils, .nils => True
  | .nilp, .nilp => True
  | .nilf, .nilf => True
  | .nili, .nili => True
  | .sl z xs, .sl z' ys => z = z' ∧ xs = ys
  | .ptr cs, .ptr ds => cs = ds
  | .fn f cs, .fn g ds => f = g ∧ cs = ds
  | _, _ => False
def goodL : List SV → List SV → Prop
  | [], [] => True
  | a :: r, b :: s => goodC a b ∧ goodL r s
  | _, _ => False
def goodA : SV → SV → Prop
  | .agg cs, .agg ds => goodL cs ds
  | a, b => goodC a b
def goodAL : List SV → List SV → Prop
  | [], [] => True
  | a :: r, b :: s => goodA a b ∧ goodAL r s
  | _, _ => False
def goodV : SV → SV → Prop
  | .tup cs, .tup ds => goodAL cs ds
  | a, b => goodA a b

theorem kEq_eq : ∀ {k k' : IntKind}, kEq k k' = true → k = k' := by
  intro k k' h
  cases k <;> cases k' <;> first | rfl | cases h

theorem goodC_le : ∀ {a b : SV}, goodC a b → leC a b := by
  intro a b h
  unfold goodC at h
  split at h
  · obtain ⟨hk, h⟩ := ifB_true h
    rw [kEq_eq hk, h]
    exact rfl
  · rw [h]; exact rfl
  · rw [h]; exact rfl
  · exact h
  · exact rfl
  · exact rfl
  · exact rfl
  · exact rfl
  · rw [h.1, h.2]; exact rfl
  · rw [h]; exact rfl
  · rw [h.1, h.2]; exact rfl
  · exact h.elim
theorem goodL_le : ∀ {a b : List SV}, goodL a b → leL a b
  | [], [], _ => trivial
  | _ :: _, _ :: _, h => ⟨goodC_le h.1, goodL_le h.2⟩
  | [], _ :: _, h => h.elim
  | _ :: _, [], h => h.elim
theorem goodA_le {a b : SV} (h : goodA a b) : leA a b := by
  unfold goodA at h
  split at h
  · exact goodL_le h
  · rename_i hno
    have := goodC_le h
    cases a <;> cases b <;> first | exact this | exact h.elim
theorem goodAL_le : ∀ {a b : List SV}, goodAL a b → leAL a b
  | [], [], _ => trivial
  | _ :: _, _ :: _, h => ⟨goodA_le h.1, goodAL_le h.2⟩
  | [], _ :: _, h => h.elim
  | _ :: _, [], h => h.elim
theorem goodV_le {a b : SV} (h : goodV a b) : leV a b := by
  unfold goodV at h
  split at h
  · exact goodAL_le h
  · rename_i hno
    have := goodA_le h
    cases a <;> cases b <;> first | exact this | (simp [goodA, goodC] at h)

section
variable {P : Program} {G : Nat → List SV}
theorem leC_trans_r {a b c : SV} (h : leC a b) (k : goodC b c) : leC a c := by
  unfold leC at h
  split at h
  · subst h
    unfold goodC at k
    split at k <;> first | exact k.elim | skip
    all_goals (rename_i e; cases e)
    exact k.2.symm
  · subst h; exact goodC_le k

theorem retK_mono {rs : List ResultVar} {k k' : SV → Prop} (hk : ∀ s, k s → k' s) : ∀ e sl ob ct, retK P rs k e sl ob ct → retK P rs k' e sl ob ct := by
  have res : ∀ (sl : Slots) (ob : Tab) (rs : List ResultVar) (q q' : List SV → Prop), (∀ l, q l → q' l) → resK P sl ob rs q → resK P sl ob rs q' := fun sl ob rs => by
    induction rs with
    | nil => exact fun q q' hq h => hq _ h
    | cons r rs ih =>
      intro q q' hq h
      cases r with
      | tmp t => exact ih _ _ (fun l => hq _) h
      | cell a t =>
        simp only [resK] at h ⊢
        cases ha : sl a <;> rw [ha] at h <;> try exact h.elim
        rename_i o st i j
        cases hb : ob o with
        | none => simp only [hb] at h
        | some b =>
          simp only [hb] at h ⊢
          refine ⟨h.1, ?_⟩
          obtain ⟨e, g1, g2⟩ := pt_elemK b i _ h.2
          refine g2 _ ?_
          obtain ⟨v, g3, g4⟩ := pt_readK P t (e.drop j) _ g1
          exact g4 _ (ih _ _ (fun l => hq _) g3)
  intro e sl ob ct h
  have fin : (resK P sl ob rs fun vs => match vs with
      | [v] => purAK ob v fun r _ => k r
      | vs => purALK ob vs fun l _ => k (.tup l)) → resK P sl ob rs fun vs => match vs with
      | [v] => purAK ob v fun r _ => k' r
      | vs => purALK ob vs fun l _ => k' (.tup l) := res sl ob rs _ _ fun l hl => by
    match l, hl with
    | [v], hl => exact purAK_mono (fun s us h => hk s h) hl
    | [], hl => exact hk _ hl
    | a :: b :: r, hl =>
      obtain ⟨p, g1, g2⟩ := lc_purALK (U := fun _ => True) (a :: b :: r) (fun _ _ => trivial) ob (fun _ => 0) (fun p => k (.tup p.1)) hl
      exact g2 ob (fun _ => 0) (fun p => k' (.tup p.1)) (fun _ _ => ⟨rfl, rfl⟩) (hk _ g1)
  cases e <;> first | exact h.elim | exact fin h

/-- A function's contract, its result compared part by part. -/
theorem pure_of (hm : P.follows .mixedOrders = true) {f : FuncId} {fn : Func} {c : Code} {args : List SV} {r : SV} (hf : P.funcs[f]? = some fn) (hb : fn.body = some c) (hn : (fn.name == "runtime.NumGoroutine") = false) (hl : args.length ≤ fn.ntmps)
    (h : wpC P G fn.ntmps c (retK P fn.results.toList fun s => goodV s r) (argS args) (fun _ => none) (fun _ => 0)) : Pure P G f args r :=
  pure_intro hm hf hb hn hl (wpC_mono c h (retK_mono fun _ => goodV_le))

theorem callP_of {fid : FuncId} {caps args : List SV} {d : Option Nat} {ob : Tab} {ct : Cnt} {R : SV → List Upd → Prop} {ys : List SV} {r : SV} (hp : Pure P G fid ys r) (h : purALK ob args fun xs us => goodAL (xs ++ caps) ys ∧ R r us) :
    callP P G fid caps args ob R ∨ callF P G fid caps args d ob ct R ∨ callR P G fid caps args ob R ∨ callB P G fid caps args ob R ∨ callBF P G fid caps args d ob ct R := by
  refine .inl ?_
  obtain ⟨p, g1, g2⟩ := lc_purALK (U := fun _ => True) args (fun _ _ => trivial) ob (fun _ => 0) (fun p => goodAL (p.1 ++ caps) ys ∧ R r p.2) h
  exact g2 ob (fun _ => 0) (fun p => ∃ ys r, leAL (p.1 ++ caps) ys ∧ Pure P G fid ys r ∧ R r p.2) (fun _ _ => ⟨rfl, rfl⟩) ⟨ys, r, goodAL_le g1.1, hp, g1.2⟩

theorem leC_refl : ∀ a : SV, leC a a := by
  intro a; cases a <;> exact rfl
theorem leL_refl : ∀ l : List SV, leL l l
  | [] => trivial
  | a :: l => ⟨leC_refl a, leL_refl l⟩
theorem leA_refl : ∀ a : SV, leA a a := by
  intro a
  cases a <;> first | exact leL_refl _ | exact rfl
theorem leAL_refl : ∀ l : List SV, leAL l l
  | [] => trivial
  | a :: l => ⟨leA_refl a, leAL_refl l⟩

/-- The same, the arguments compared at once. -/
theorem callP_le {fid : FuncId} {caps args : List SV} {d : Option Nat} {ob : Tab} {ct : Cnt} {R : SV → List Upd → Prop} {ys : List SV} {r : SV} (hp : Pure P G fid ys r) (h : purALK ob args fun xs us => leAL (xs ++ caps) ys ∧ R r us) :
    callP P G fid caps args ob R ∨ callF P G fid caps args d ob ct R ∨ callR P G fid caps args ob R ∨ callB P G fid caps args ob R ∨ callBF P G fid caps args d ob ct R := by
  refine .inl ?_
  obtain ⟨p, g1, g2⟩ := lc_purALK (U := fun _ => True) args (fun _ _ => trivial) ob (fun _ => 0) (fun p => leAL (p.1 ++ caps) ys ∧ R r p.2) h
  exact g2 ob (fun _ => 0) (fun p => ∃ ys r, leAL (p.1 ++ caps) ys ∧ Pure P G fid ys r ∧ R r p.2) (fun _ _ => ⟨rfl, rfl⟩) ⟨ys, r, g1.1, hp, g1.2⟩

theorem callF_of {fid : FuncId} {caps args : List SV} {d : Nat} {ob : Tab} {ct : Cnt} {R : SV → List Upd → Prop} {ys : List SV} {r : SV} {z : Nat} {es : List (List SV)} (hp : FreshC P G fid ys z es r) (h : purALK ob args fun xs us => goodAL (xs ++ caps) ys ∧ R (renV d (ct d) r) (us ++ [⟨d, ⟨ct d, 1, z, es⟩, true⟩])) :
    callP P G fid caps args ob R ∨ callF P G fid caps args (some d) ob ct R ∨ callR P G fid caps args ob R ∨ callB P G fid caps args ob R ∨ callBF P G fid caps args (some d) ob ct R := by
  refine .inr (.inl ?_)
  obtain ⟨p, g1, g2⟩ := lc_purALK (U := fun _ => True) args (fun _ _ => trivial) ob (fun _ => 0) (fun p => goodAL (p.1 ++ caps) ys ∧ R (renV d (ct d) r) (p.2 ++ [⟨d, ⟨ct d, 1, z, es⟩, true⟩])) h
  exact g2 ob (fun _ => 0) (fun p => ∃ ys z es r, leAL (p.1 ++ caps) ys ∧ FreshC P G fid ys z es r ∧ R (renV d (ct d) r) (p.2 ++ [⟨d, ⟨ct d, 1, z, es⟩, true⟩])) (fun _ _ => ⟨rfl, rfl⟩) ⟨ys, z, es, r, goodAL_le g1.1, hp, g1.2⟩

theorem callR_of {fid : FuncId} {caps rest : List SV} {d : Option Nat} {ob : Tab} {ct : Cnt} {R : SV → List Upd → Prop} {o st z : Nat} {xs : List (List SV)} {qs : List SV} {r : SV} {ys : List (List SV)} (hob : ob o = some ⟨st, 1, z, xs⟩) (hp : RowC P G fid qs z xs r ys) (hl : xs.length = ys.length)
    (hn : (refsAL rest).contains o = false) (h : purALK ob rest fun ps us => goodAL (ps ++ caps) qs ∧ R (renV o st r) (us ++ [⟨o, ⟨st, 1, z, ys⟩, false⟩])) :
    callP P G fid caps (.lrow o st :: rest) ob R ∨ callF P G fid caps (.lrow o st :: rest) d ob ct R ∨ callR P G fid caps (.lrow o st :: rest) ob R ∨ callB P G fid caps (.lrow o st :: rest) ob R ∨ callBF P G fid caps (.lrow o st :: rest) d ob ct R := by
  refine .inr (.inr (.inl ?_))
  unfold callR
  simp only [hob]
  refine ⟨trivial, hn, ?_⟩
  obtain ⟨p, g1, g2⟩ := lc_purALK (U := fun _ => True) rest (fun _ _ => trivial) ob (fun _ => 0) (fun p => goodAL (p.1 ++ caps) qs ∧ R (renV o st r) (p.2 ++ [⟨o, ⟨st, 1, z, ys⟩, false⟩])) h
  exact g2 ob (fun _ => 0) (fun p => ∃ qs r ys, leAL (p.1 ++ caps) qs ∧ RowC P G fid qs z xs r ys ∧ xs.length = ys.length ∧ R (renV o st r) (p.2 ++ [⟨o, ⟨st, 1, z, ys⟩, false⟩])) (fun _ _ => ⟨rfl, rfl⟩) ⟨qs, r, ys, goodAL_le g1.1, hp, hl, g1.2⟩

/-- A call whose arguments are read for its time. -/
theorem callB_of {fid : FuncId} {caps args : List SV} {d : Option Nat} {ob : Tab} {ct : Cnt} {R : SV → List Upd → Prop} {ys : List SV} {r : SV} (hp : Pure P G fid ys r) (h : borALK ob args fun xs => goodAL (xs ++ caps) ys ∧ scalV r = true ∧ R r []) :
    callP P G fid caps args ob R ∨ callF P G fid caps args d ob ct R ∨ callR P G fid caps args ob R ∨ callB P G fid caps args ob R ∨ callBF P G fid caps args d ob ct R := by
  refine .inr (.inr (.inr (.inl ?_)))
  obtain ⟨p, g1, g2⟩ := lc_borALK (U := fun _ => True) args (fun _ _ => trivial) ob (fun _ => 0) (fun p => goodAL (p ++ caps) ys ∧ scalV r = true ∧ R r []) h
  exact g2 ob (fun _ => 0) (fun p => ∃ ys r, leAL (p ++ caps) ys ∧ scalV r = true ∧ Pure P G fid ys r ∧ R r []) (fun _ _ => ⟨rfl, rfl⟩) ⟨ys, r, goodAL_le g1.1, g1.2.1, hp, g1.2.2⟩
theorem callBF_of {fid : FuncId} {caps args : List SV} {d : Nat} {ob : Tab} {ct : Cnt} {R : SV → List Upd → Prop} {ys : List SV} {r : SV} {z : Nat} {es : List (List SV)} (hs : allB (allB scalB) es = true) (hp : FreshC P G fid ys z es r) (h : borALK ob args fun xs => goodAL (xs ++ caps) ys ∧ scalFV r = true ∧ R (renV d (ct d) r) [⟨d, ⟨ct d, 1, z, es⟩, true⟩]) :
    callP P G fid caps args ob R ∨ callF P G fid caps args (some d) ob ct R ∨ callR P G fid caps args ob R ∨ callB P G fid caps args ob R ∨ callBF P G fid caps args (some d) ob ct R := by
  refine .inr (.inr (.inr (.inr ?_)))
  obtain ⟨p, g1, g2⟩ := lc_borALK (U := fun _ => True) args (fun _ _ => trivial) ob (fun _ => 0) (fun p => goodAL (p ++ caps) ys ∧ scalFV r = true ∧ R (renV d (ct d) r) [⟨d, ⟨ct d, 1, z, es⟩, true⟩]) h
  exact g2 ob (fun _ => 0) (fun p => ∃ ys z es r, leAL (p ++ caps) ys ∧ scalFV r = true ∧ allB (allB scalB) es = true ∧ FreshC P G fid ys z es r ∧ R (renV d (ct d) r) [⟨d, ⟨ct d, 1, z, es⟩, true⟩]) (fun _ _ => ⟨rfl, rfl⟩) ⟨ys, z, es, r, goodAL_le g1.1, g1.2.1, hs, hp, g1.2.2⟩

/-- Arithmetic in range, and as it wraps. -/
theorem inI {n : Int} {A B : Prop} (h1 : -9223372036854775808 ≤ n) (h2 : n ≤ 9223372036854775807) (h : A) : (IntKind.i64.min ≤ n ∧ n ≤ IntKind.i64.max ∧ A) ∨ B :=
  .inl ⟨h1, h2, h⟩

theorem get_map {α β : Type} {f : α → β} {l : List α} {n : Nat} {x : α} (h : l[n]? = some x) : (l.map f)[n]? = some (f x) := by rw [List.getElem?_map, h]; rfl

theorem get_mapI {α β : Type} {f : α → β} {l : List α} {i : Int} {n : Nat} {x : α} (hi : i = n) (h : l[n]? = some x) : (l.map f)[i.toNat]? = some (f x) := by subst hi; exact get_map h

theorem lt_len0 {n : Nat} (h : Nat.ble 1 n = true) : (0 : Int) < n := by have := Nat.le_of_ble_eq_true h; omega
theorem lt_len1 {n : Nat} (h : Nat.ble 2 n = true) : (1 : Int) < n := by have := Nat.le_of_ble_eq_true h; omega

theorem drop_cons {α : Type} {l : List α} {k : Nat} {x : α} (h : l[k]? = some x) : l.drop k = x :: l.drop (k + 1) := by
  obtain ⟨hk, hx⟩ := List.getElem?_eq_some_iff.1 h
  rw [List.drop_eq_getElem_cons hk, hx]
theorem get_lt {α : Type} {l : List α} {k : Nat} (h : k < l.length) : ∃ x, l[k]? = some x := ⟨_, List.getElem?_eq_getElem h⟩
theorem take_snoc {α : Type} {l : List α} {k : Nat} {x : α} (h : l[k]? = some x) : l.take (k + 1) = l.take k ++ [x] := by
  rw [List.take_add_one, h]; rfl

/-- A decision that is open. -/
theorem ifD {p : Prop} {d : Decidable p} {A B : Prop} (h1 : p → A) (h0 : ¬ p → B) : ifB (@decide p d) A B :=
  ifB_intro (fun h => h1 (of_decide_eq_true h)) (fun h => h0 (of_decide_eq_false h))
end
end Go.Proofs.Yticandbdabgkeaa.Am
