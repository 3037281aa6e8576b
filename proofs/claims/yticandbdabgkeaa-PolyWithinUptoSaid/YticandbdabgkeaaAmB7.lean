/- What single operations come to: functions, slices of slices, appends. No condition: lemmas. -/
import Derived.Test.YticandbdabgkeaaAmB6
namespace Go.Proofs.Yticandbdabgkeaa.Am
open Go

section
variable {P : Program} {G : Nat → List SV} {F : Nat → Option Obj} {E : Env} {R : SV → List Upd → Prop} {w : World}

theorem Rel.to0 {s : SV} {v : Value} (h : Rel E s v) (hc : cellB s = true) : Rel0 E s v := by
  cases s <;> first | exact h | cases hc

theorem pur1K_some {ob : Tab} {v : SV} {k : SV → List Upd → Prop} (h : pur1K ob v k) : cellB v = true ∧ ∃ s us, k s us := by
  cases v with
  | lrow o st =>
    simp only [pur1K] at h
    cases hb : ob o with
    | none => simp [hb] at h
    | some b =>
      obtain ⟨st', kd, z, xs⟩ := b
      simp only [hb] at h
      obtain ⟨_, h⟩ := h
      match kd, h with
      | 1, h => exact ⟨rfl, _, _, h⟩
      | kd + 2, h => exact ⟨rfl, _, _, h⟩
  | lsl o st lo n =>
    simp only [pur1K] at h
    cases hb : ob o with
    | none => simp [hb] at h
    | some b =>
      obtain ⟨st', kd, z, xs⟩ := b
      simp only [hb] at h
      obtain ⟨_, _, h⟩ := h
      match kd, h with
      | 1, h => exact ⟨rfl, _, _, h⟩
      | kd + 2, h => exact ⟨rfl, _, _, h⟩
  | lptr o st i j =>
    simp only [pur1K] at h
    cases hb : ob o with
    | none => simp [hb] at h
    | some b =>
      obtain ⟨st', kd, z, xs⟩ := b
      simp only [hb] at h
      obtain ⟨_, h⟩ := h
      match kd, h with
      | 0, h =>
        obtain ⟨_, hh⟩ := h
        match xs, hh with
        | [e], hh => exact ⟨rfl, _, _, (ifB_true hh).2⟩
      | kd + 2, h => obtain ⟨e, _, h⟩ := h; exact ⟨rfl, _, _, h⟩
  | junk => exact h.elim
  | undef => exact h.elim
  | agg _ => exact h.elim
  | tup _ => exact h.elim
  | _ => exact ⟨rfl, _, _, h⟩

theorem purLK_cells {ob : Tab} : ∀ {cs : List SV} {k : List SV → List Upd → Prop}, purLK ob cs k → ∀ s ∈ cs, cellB s = true
  | [], k, _, s, hs => by cases hs
  | c :: r, k, h, s, hs => by
    obtain ⟨h1, t, us, h2⟩ := pur1K_some h
    rcases List.mem_cons.1 hs with rfl | hs
    · exact h1
    · exact purLK_cells h2 s hs

theorem makeFunc_sound (hm : Mem G E F w) {f : FuncId} {g : Operand → SV} {ρ : Operand → Value} (hg : ∀ x, Rel E (g x) (ρ x)) {caps : Array Operand}
    (h : purLK E.ob (caps.toList.map g) fun cs us => R (.fn f cs) us) : GoodV G F E R ((Instr.makeFunc (.func f) #[] (caps.map ρ)).run P w) := by
  have hcell := purLK_cells h
  obtain ⟨ps, us, D', h1, h2, h3, h4, h5⟩ := purLK_sound (Frz.refl E) hm h (vs := caps.toList.map ρ) (by simp) (fun i s v hs hv => by
    have hs' := List.mem_of_getElem? hs
    rw [List.getElem?_map] at hs hv
    cases hc : caps.toList[i]? with
    | none => rw [hc] at hs; cases hs
    | some x =>
      rw [hc] at hs hv
      cases hs
      cases hv
      exact (hg x).to0 (hcell _ hs'))
  refine ⟨_, us, .func (.func f) #[] (caps.toList.map ρ).toArray, w, D', E.β, h1, by simp [Instr.makeFunc, ← Array.toList_map], Rel.of0 (Rel0.of_pure (PRel.fn f ps _ (by rw [h4]; simp) h5)), h2, h3.le⟩

/-! ### Slices of slices -/
theorem run_bounds (isSlice : Bool) (len cap : Nat) (lo hi : Option Value) (l h : Nat)
    (hh : (hi = none ∧ h = len) ∨ ∃ k n, hi = some (.int k n) ∧ 0 ≤ n ∧ n ≤ cap ∧ h = n.toNat)
    (hl : (lo = none ∧ l = 0) ∨ ∃ k n, lo = some (.int k n) ∧ 0 ≤ n ∧ n ≤ h ∧ l = n.toNat) :
    (Instr.sliceBounds isSlice len cap lo hi none).run P w = .ok (l, h, cap) w := by
  rcases hh with ⟨rfl, rfl⟩ | ⟨k, n, rfl, h0, h1, rfl⟩ <;> rcases hl with ⟨rfl, rfl⟩ | ⟨k', n', rfl, g0, g1, rfl⟩
  · simp [Instr.sliceBounds]
  · simp [Instr.sliceBounds, Instr.sliceBound, asIntOf, g0, g1]
  · simp [Instr.sliceBounds, Instr.sliceBound, asIntOf, h0, h1]
  · have g2 : n' ≤ n := by omega
    have e : ((n.toNat : Nat) : Int) = n := by omega
    have g3 : 0 ≤ n' ∧ n' ≤ n := ⟨g0, g2⟩
    simp only [Instr.sliceBounds, Instr.sliceBound, asIntOf, Sem.run_bind, Sem.run_pure, Result.andThen_ok]
    rw [if_pos ⟨h0, h1⟩]
    simp only [Sem.run_pure, Result.andThen_ok, e]
    rw [if_pos g3]
    simp

theorem run_slice {t el : TypeId} {i : TypeInfo} (hu : P.underlying t = some (.slice el)) (hi : P.info? el = some i) (A : Option Addr) (len cap : Nat) (lo hi' : Option Value) (l h : Nat)
    (hb : (Instr.sliceBounds true len cap lo hi' none).run P w = .ok (l, h, cap) w) :
    (Instr.sliceAt t (.slice A len cap) lo hi' none).run P w = .ok (.slice (if cap = l then A else A.map (·.add (l * i.size))) (h - l) (cap - l)) w := by
  simp [Instr.sliceAt, Instr.slice, run_underlying hu, hb, run_sizeOf hi]

/-- The bounds of a slice expression: what is known of them. -/
theorem bounds_of {lo hi : Option SV} {lov hiv : Option Value} {len : Nat} {k : Nat → Nat → Prop} (hlo : ∀ s, lo = some s → ∃ v, lov = some v ∧ Rel E s v) (hlo0 : lo = none → lov = none) (hhi : ∀ s, hi = some s → ∃ v, hiv = some v ∧ Rel E s v) (hhi0 : hi = none → hiv = none)
    (h : match lo, hi with
      | none, none => k 0 len
      | some (.int _ l), none => 0 ≤ l ∧ l ≤ len ∧ k l.toNat len
      | none, some (.int _ h) => 0 ≤ h ∧ h ≤ len ∧ k 0 h.toNat
      | some (.int _ l), some (.int _ h) => 0 ≤ l ∧ l ≤ h ∧ h ≤ len ∧ k l.toNat h.toNat
      | _, _ => False) :
    ∃ l h, k l h ∧ l ≤ h ∧ h ≤ len ∧ ∀ isSlice cap, len ≤ cap → (Instr.sliceBounds isSlice len cap lov hiv none).run P w = .ok (l, h, cap) w := by
  cases lo with
  | none =>
    obtain rfl := hlo0 rfl
    cases hi with
    | none =>
      obtain rfl := hhi0 rfl
      exact ⟨0, len, h, Nat.zero_le _, Nat.le_refl _, fun b cap hc => run_bounds b len cap none none 0 len (.inl ⟨rfl, rfl⟩) (.inl ⟨rfl, rfl⟩)⟩
    | some s =>
      obtain ⟨v, rfl, hv⟩ := hhi s rfl
      cases s <;> try exact h.elim
      rename_i kd n
      obtain rfl := rel_int hv
      obtain ⟨h0, h1, h⟩ := h
      exact ⟨0, n.toNat, h, Nat.zero_le _, by omega, fun b cap hc => run_bounds b len cap none _ 0 _ (.inr ⟨kd, n, rfl, h0, by omega, rfl⟩) (.inl ⟨rfl, rfl⟩)⟩
  | some s =>
    obtain ⟨v, rfl, hv⟩ := hlo s rfl
    cases hi with
    | none =>
      obtain rfl := hhi0 rfl
      cases s <;> try exact h.elim
      rename_i kd n
      obtain rfl := rel_int hv
      obtain ⟨h0, h1, h⟩ := h
      exact ⟨n.toNat, len, h, by omega, Nat.le_refl _, fun b cap hc => run_bounds b len cap _ none _ len (.inl ⟨rfl, rfl⟩) (.inr ⟨kd, n, rfl, h0, h1, rfl⟩)⟩
    | some s' =>
      obtain ⟨v', rfl, hv'⟩ := hhi s' rfl
      cases s <;> cases s' <;> try exact h.elim
      rename_i kd n kd' n'
      obtain rfl := rel_int hv
      obtain rfl := rel_int hv'
      obtain ⟨h0, h1, h2, h⟩ := h
      exact ⟨n.toNat, n'.toNat, h, by omega, by omega, fun b cap hc => run_bounds b len cap _ _ _ _ (.inr ⟨kd', n', rfl, by omega, by omega, rfl⟩) (.inr ⟨kd, n, rfl, h0, by omega, rfl⟩)⟩

theorem sliceK_sound (hm : Mem G E F w) {t el : TypeId} {i : TypeInfo} (hu : P.underlying t = some (.slice el)) (hi : P.info? el = some i) {s : SV} {x : Value} {lo hi' : Option SV} {lov hiv : Option Value}
    (h : sliceK i.size s lo hi' (fun v => R v []) E.ob) (hr : Rel E s x)
    (hlo : ∀ s, lo = some s → ∃ v, lov = some v ∧ Rel E s v) (hlo0 : lo = none → lov = none) (hhi : ∀ s, hi' = some s → ∃ v, hiv = some v ∧ Rel E s v) (hhi0 : hi' = none → hiv = none) :
    GoodV G F E R ((Instr.sliceAt t x lov hiv none).run P w) := by
  cases s with
  | sl z xs =>
    obtain ⟨rfl, h⟩ := h
    cases (show PRel E.D (.sl i.size xs) x from hr) with
    | sl _ _ A cap blk off u hcap hz hA hc hrr =>
      obtain ⟨l, h', hk, h1, h2, hb⟩ := bounds_of (P := P) (w := w) (len := xs.length) (k := fun l h => R (.sl i.size ((xs.take h).drop l)) []) hlo hlo0 hhi hhi0 (by
        split at h
        · simpa using h
        · obtain ⟨g1, g2, g3⟩ := h; exact ⟨g1, g2, by simpa using g3⟩
        · obtain ⟨g1, g2, g3⟩ := h; exact ⟨g1, g2, by simpa using g3⟩
        · exact h
        · exact h.elim)
      rw [run_slice hu hi A xs.length cap lov hiv l h' (hb true cap hcap)]
      have hlen : ((xs.take h').drop l).length = h' - l := by simp; omega
      have hget : ∀ (k : Nat) (e : List SV), ((xs.take h').drop l)[k]? = some e → xs[l + k]? = some e := fun k e hk => by
        rw [List.getElem?_drop, List.getElem?_take] at hk
        split at hk
        · exact hk
        · cases hk
      refine GoodV.same hm hk (Rel.of0 (Rel0.of_pure ?_))
      have := PRel.ofCells (D := E.D) (z := i.size) (xs := (xs.take h').drop l) (A := if cap = l then A else A.map (·.add (l * i.size))) (cap := cap - l) (blk := blk) (off := off + l * i.size) (by rw [hlen]; omega)
        (fun k e hk => hz _ e (hget k e hk))
        (by
          by_cases hcl : cap = l
          · left
            exact List.eq_nil_of_length_eq_zero (by rw [hlen]; omega)
          · rw [if_neg hcl]
            rcases hA with rfl | rfl
            · left; simp
            · right; simp [add_addr])
        (fun k j e s hk hj => ⟨_, by
          have := hc (l + k) j e s (hget k e hk) hj
          rw [Nat.add_mul, Nat.add_assoc] at this
          rw [Nat.add_assoc]
          exact this, hrr _ _ _ _ (hget k e hk) hj⟩)
      rw [hlen] at this
      exact this
  | lrow o' st =>
    simp only [sliceK] at h
    cases hb : E.ob o' with
    | none => simp [hb] at h
    | some b =>
      obtain ⟨st', kd, z, xs⟩ := b
      simp only [hb] at h
      obtain ⟨rfl, rfl, h⟩ := h
      have hrow : RowAt (E.β o' st) ⟨st, kd, i.size, xs⟩ x := hr.2.2 _ hb rfl
      -- the part from l to h'
      have fin : ∀ (l h' : Nat) (v : SV), (v = .lsl o' st l (h' - l)) → R v [] → l ≤ h' → h' ≤ xs.length → (∀ isSlice cap, xs.length ≤ cap → (Instr.sliceBounds isSlice xs.length cap lov hiv none).run P w = .ok (l, h', cap) w) →
          GoodV G F E R ((Instr.sliceAt t x lov hiv none).run P w) := fun l h' v hv hR h1 h2 hbd => by
        subst hv
        cases hβ : E.β o' st with
        | none =>
          rw [hβ] at hrow
          obtain ⟨hx, rfl⟩ := hrow
          replace hx : xs = [] := hx
          subst hx
          simp only [List.length_nil] at h2 hbd
          rw [run_slice hu hi none 0 0 lov hiv l h' (hbd true 0 (Nat.le_refl _))]
          obtain rfl : h' = 0 := by omega
          obtain rfl : l = 0 := by omega
          refine GoodV.same hm hR (Rel.of0 ⟨hr.1, rfl, fun b' hb' _ => ?_⟩)
          rw [hβ]
          exact ⟨rfl, rfl, by simp⟩
        | some q =>
          rw [hβ] at hrow
          obtain ⟨cap, rfl, hc1, hc2⟩ := hrow
          replace hc2 : xs.length ≤ cap := hc2
          rw [run_slice hu hi _ xs.length cap lov hiv l h' (hbd true cap hc2)]
          refine GoodV.same hm hR (Rel.of0 ⟨hr.1, rfl, fun b' hb' _ => ?_⟩)
          rw [hb] at hb'
          cases hb'
          rw [hβ]
          refine ⟨_, cap - l, rfl, by omega, ?_, ?_⟩
          · show (l + (cap - l)) * i.size ≤ q.2
            rw [show l + (cap - l) = cap by omega]
            exact hc1
          · by_cases hcl : cap = l
            · by_cases hl0 : l = 0
              · right; rw [if_pos hcl, hl0]; simp
              · left; exact ⟨by omega, hl0⟩
            · right; rw [if_neg hcl]; simp [add_addr]
      have hall : ∃ l h', ((lo = none ∧ hi' = none ∧ l = 0 ∧ h' = xs.length ∧ R (.lrow o' st) []) ∨ R (.lsl o' st l (h' - l)) []) ∧ l ≤ h' ∧ h' ≤ xs.length ∧ ∀ isSlice cap, xs.length ≤ cap → (Instr.sliceBounds isSlice xs.length cap lov hiv none).run P w = .ok (l, h', cap) w := by
        refine bounds_of (k := fun l h' => (lo = none ∧ hi' = none ∧ l = 0 ∧ h' = xs.length ∧ R (.lrow o' st) []) ∨ R (.lsl o' st l (h' - l)) []) hlo hlo0 hhi hhi0 ?_
        split at h
        · exact .inl ⟨rfl, rfl, rfl, rfl, h⟩
        · obtain ⟨g1, g2, g3⟩ := h; exact ⟨g1, g2, .inr g3⟩
        · obtain ⟨g1, g2, g3⟩ := h; exact ⟨g1, g2, .inr (by simpa using g3)⟩
        · obtain ⟨g1, g2, g3, g4⟩ := h; exact ⟨g1, g2, g3, .inr g4⟩
        · exact h.elim
      obtain ⟨l, h', hk, h1, h2, hbd⟩ := hall
      rcases hk with ⟨_, _, rfl, rfl, hR⟩ | hR
      · cases hβ : E.β o' st with
        | none =>
          rw [hβ] at hrow
          obtain ⟨hx, rfl⟩ := hrow
          replace hx : xs = [] := hx
          subst hx
          rw [run_slice hu hi none 0 0 lov hiv 0 0 (hbd true 0 (Nat.le_refl _))]
          exact GoodV.same hm hR hr
        | some q =>
          rw [hβ] at hrow
          obtain ⟨cap, rfl, hc1, hc2⟩ := hrow
          rw [run_slice hu hi _ xs.length cap lov hiv 0 xs.length (hbd true cap hc2)]
          have : (Value.slice (if cap = 0 then some ⟨q.1, 0, none⟩ else (some (⟨q.1, 0, none⟩ : Addr)).map (·.add (0 * i.size))) (xs.length - 0) (cap - 0)) = .slice (some ⟨q.1, 0, none⟩) xs.length cap := by
            split <;> simp [add_addr]
          rw [this]
          exact GoodV.same hm hR hr
      · exact fin l h' _ rfl hR h1 h2 hbd
  | lsl o' st lo0 m =>
    simp only [sliceK] at h
    cases hb : E.ob o' with
    | none => simp [hb] at h
    | some b =>
      obtain ⟨st', kd, z, xs⟩ := b
      simp only [hb] at h
      obtain ⟨rfl, rfl, h⟩ := h
      have hrow : SlAt (E.β o' st) ⟨st, kd, i.size, xs⟩ lo0 m x := hr.2.2 _ hb rfl
      have hall : ∃ l h', R (.lsl o' st (lo0 + l) (h' - l)) [] ∧ l ≤ h' ∧ h' ≤ m ∧ ∀ isSlice cap, m ≤ cap → (Instr.sliceBounds isSlice m cap lov hiv none).run P w = .ok (l, h', cap) w := by
        refine bounds_of (k := fun l h' => R (.lsl o' st (lo0 + l) (h' - l)) []) hlo hlo0 hhi hhi0 ?_
        split at h
        · simpa using h
        · exact h
        · obtain ⟨g1, g2, g3⟩ := h; exact ⟨g1, g2, by simpa using g3⟩
        · exact h
        · exact h.elim
      obtain ⟨l, h', hR, h1, h2, hbd⟩ := hall
      cases hβ : E.β o' st with
      | none =>
        rw [hβ] at hrow
        obtain ⟨rfl, rfl, rfl⟩ := hrow
        rw [run_slice hu hi none 0 0 lov hiv l h' (hbd true 0 (Nat.le_refl _))]
        obtain rfl : h' = 0 := by omega
        obtain rfl : l = 0 := by omega
        refine GoodV.same hm hR (Rel.of0 ⟨hr.1, rfl, fun b' hb' _ => ?_⟩)
        rw [hβ]
        exact ⟨rfl, rfl, by simp⟩
      | some q =>
        rw [hβ] at hrow
        obtain ⟨A, cap, rfl, hc1, hc2, hA⟩ := hrow
        replace hc2 : (lo0 + cap) * i.size ≤ q.2 := hc2
        replace hA : (m = 0 ∧ lo0 ≠ 0) ∨ A = some ⟨q.1, lo0 * i.size, none⟩ := hA
        rw [run_slice hu hi _ m cap lov hiv l h' (hbd true cap hc1)]
        refine GoodV.same hm hR (Rel.of0 ⟨hr.1, rfl, fun b' hb' _ => ?_⟩)
        rw [hb] at hb'
        cases hb'
        rw [hβ]
        refine ⟨_, cap - l, rfl, by omega, ?_, ?_⟩
        · show (lo0 + l + (cap - l)) * i.size ≤ q.2
          rw [show lo0 + l + (cap - l) = lo0 + cap by omega]
          exact hc2
        · show (h' - l = 0 ∧ lo0 + l ≠ 0) ∨ _ = some (⟨q.1, (lo0 + l) * i.size, none⟩ : Addr)
          rcases hA with ⟨h0, h3⟩ | hA
          · left; omega
          · by_cases hcl : cap = l
            · by_cases hl0 : lo0 + l = 0
              · right
                rw [if_pos hcl, hA]
                rw [show lo0 = 0 by omega, show l = 0 by omega]
              · left; omega
            · right
              rw [if_neg hcl, hA]
              simp [add_addr, Nat.add_mul]
  | nils =>
    simp only [sliceK] at h
    obtain rfl := rel_nils hr
    have hrun : ∀ l h', l = 0 → h' = 0 → (Instr.sliceBounds true 0 0 lov hiv none).run P w = .ok (l, h', 0) w → (Instr.sliceAt t (.slice none 0 0) lov hiv none).run P w = .ok (.slice none 0 0) w := fun l h' e1 e2 hb => by
      rw [run_slice hu hi none 0 0 lov hiv l h' hb, e1, e2]
      simp
    cases lo with
    | none =>
      obtain rfl := hlo0 rfl
      cases hi' with
      | none =>
        obtain rfl := hhi0 rfl
        rw [hrun 0 0 rfl rfl (run_bounds true 0 0 none none 0 0 (.inl ⟨rfl, rfl⟩) (.inl ⟨rfl, rfl⟩))]
        exact GoodV.same hm h (Rel.of0 (Rel0.of_pure .nils))
      | some u =>
        obtain ⟨v, rfl, hv⟩ := hhi u rfl
        cases u <;> try exact h.elim
        rename_i kd n
        obtain rfl := rel_int hv
        obtain ⟨rfl, h⟩ := h
        rw [hrun 0 0 rfl rfl (run_bounds true 0 0 none _ 0 0 (.inr ⟨kd, 0, rfl, by omega, by omega, rfl⟩) (.inl ⟨rfl, rfl⟩))]
        exact GoodV.same hm h (Rel.of0 (Rel0.of_pure .nils))
    | some u => cases u <;> cases hi' <;> exact h.elim
  | _ => exact h.elim

theorem sliceStr_sound (hm : Mem G E F w) {t : TypeId} (hu : P.underlying t = some .string) {s : SV} {x : Value} {lo hi' : Option SV} {lov hiv : Option Value}
    (h : sliceStrK s lo hi' (fun v => R v [])) (hr : Rel E s x)
    (hlo : ∀ s, lo = some s → ∃ v, lov = some v ∧ Rel E s v) (hlo0 : lo = none → lov = none) (hhi : ∀ s, hi' = some s → ∃ v, hiv = some v ∧ Rel E s v) (hhi0 : hi' = none → hiv = none) :
    GoodV G F E R ((Instr.sliceAt t x lov hiv none).run P w) := by
  cases s with
  | str s =>
    obtain rfl := rel_str hr
    obtain ⟨l, h', hk, h1, h2, hb⟩ := bounds_of (P := P) (w := w) (len := s.size) (k := fun l h => R (.str (s.extract l h)) []) hlo hlo0 hhi hhi0 (by
      simp only [sliceStrK] at h
      split at h
      · simpa using h
      · exact h
      · exact h
      · exact h
      · exact h.elim)
    have hrun : (Instr.sliceAt t (.string s) lov hiv none).run P w = .ok (.string (s.extract l h')) w := by
      simp [Instr.sliceAt, Instr.slice, run_underlying hu, hb false s.size (Nat.le_refl _)]
    rw [hrun]
    exact GoodV.same hm hk (str_pure _)
  | _ => exact h.elim
end
end Go.Proofs.Yticandbdabgkeaa.Am
