/- The contract of the ring's count of gaps. No condition: definitions and lemmas. -/
import Derived.Test.YtilepdoijdeohaaDoorAmR14
namespace Go.Proofs.YtilepdoijdeohaaDoor.Am
open Go
set_option maxRecDepth 100000

/-- The run of gaps that ends ahead of a step, and the longest so far. -/
def scanG (l : List Rd) : Nat → Nat × Nat
  | 0 => (0, 0)
  | t + 1 => if okAt l (t % l.length) = true then (0, (scanG l t).2) else ((scanG l t).1 + 1, max (scanG l t).2 ((scanG l t).1 + 1))

theorem scan_run (l : List Rd) : ∀ t, (scanG l t).1 ≤ t ∧ (∀ j, j < (scanG l t).1 → okAt l ((t - 1 - j) % l.length) = false) ∧ (scanG l t).1 ≤ (scanG l t).2
  | 0 => ⟨Nat.le_refl _, fun j h => absurd h (Nat.not_lt_zero j), Nat.le_refl _⟩
  | t + 1 => by
    obtain ⟨h1, h2, h3⟩ := scan_run l t
    unfold scanG
    by_cases h : okAt l (t % l.length) = true
    · rw [if_pos h]
      exact ⟨Nat.zero_le _, fun j hj => absurd hj (Nat.not_lt_zero j), Nat.zero_le _⟩
    · rw [if_neg h]
      refine ⟨by simp only; omega, fun j hj => ?_, by simp only; omega⟩
      cases j with
      | zero => simpa using h
      | succ j =>
        have := h2 j (by simp only at hj; omega)
        rw [show t + 1 - 1 - (j + 1) = t - 1 - j by omega]
        exact this

theorem runF_ge (l : List Rd) (i : Nat) : ∀ f r m, r ≤ m → m ≤ r + f → (∀ j, r ≤ j → j < m → okAt l ((i + j) % l.length) = false) → m ≤ runF l i f r
  | 0, r, m, h1, h2, _ => by simp only [runF]; omega
  | f + 1, r, m, h1, h2, h3 => by
    rw [runF]
    split
    · rename_i h
      rcases Nat.lt_or_ge r m with hr | hr
      · rw [h3 r (Nat.le_refl _) hr] at h; cases h
      · exact hr
    · rename_i h
      rcases Nat.lt_or_ge r m with hr | hr
      · exact runF_ge l i f (r + 1) m hr (by omega) fun j hj hm => h3 j (by omega) hm
      · have hrm : r = m := by omega
        subst hrm
        have : ∀ f r, r ≤ runF l i f r := fun f => by
          induction f with
          | zero => intro r; exact Nat.le_refl _
          | succ f ih => intro r; rw [runF]; split; exact Nat.le_refl _; exact Nat.le_trans (Nat.le_succ r) (ih (r + 1))
        exact Nat.le_trans (Nat.le_succ r) (this f (r + 1))

theorem runF_gap (l : List Rd) (i : Nat) : ∀ f r j, r ≤ j → j < runF l i f r → okAt l ((i + j) % l.length) = false
  | 0, r, j, h1, h2 => by simp only [runF] at h2; omega
  | f + 1, r, j, h1, h2 => by
    rw [runF] at h2
    split at h2
    · omega
    · rename_i h
      rcases Nat.lt_or_ge r j with hr | hr
      · exact runF_gap l i f (r + 1) j hr h2
      · have : r = j := by omega
        subst this
        simpa using h

theorem runF_le (l : List Rd) (i : Nat) : ∀ f r, runF l i f r ≤ r + f
  | 0, r => by simp only [runF]; omega
  | f + 1, r => by
    rw [runF]
    split
    · omega
    · have := runF_le l i f (r + 1); omega

theorem mostTo_ub {l : List Rd} {M : Nat} : ∀ {k : Nat}, (∀ i, i < k → okAt l i = false → runN l i ≤ M) → mostTo l k ≤ M
  | 0, _ => Nat.zero_le _
  | k + 1, h => by
    have ih := mostTo_ub (k := k) fun i hi => h i (by omega)
    rw [mostTo]
    cases hk : okAt l k with
    | true => rw [if_pos rfl]; exact ih
    | false => rw [if_neg (by simp)]; have := h k (by omega) hk; omega
theorem mostTo_ge {l : List Rd} : ∀ {k i : Nat}, i < k → okAt l i = false → runN l i ≤ mostTo l k
  | k + 1, i, hi, h => by
    rw [mostTo]
    by_cases e : i = k
    · subst e; rw [if_neg (by rw [h]; simp)]; omega
    · have := mostTo_ge (k := k) (i := i) (by omega) h
      split <;> omega

theorem scan_mono (l : List Rd) (s : Nat) : ∀ d, (scanG l s).2 ≤ (scanG l (s + d)).2
  | 0 => Nat.le_refl _
  | d + 1 => by
    refine Nat.le_trans (scan_mono l s d) ?_
    rw [show s + (d + 1) = (s + d) + 1 by omega, scanG]
    split <;> simp only <;> omega
theorem scan_ub {l : List Rd} {M : Nat} : ∀ t, (∀ s, s ≤ t → (scanG l s).1 ≤ M) → (scanG l t).2 ≤ M
  | 0, _ => Nat.zero_le _
  | t + 1, h => by
    have ih := scan_ub t fun s hs => h s (by omega)
    have h1 := h (t + 1) (Nat.le_refl _)
    rw [scanG] at h1 ⊢
    split
    · exact ih
    · rename_i hh
      rw [if_neg hh] at h1
      simp only at h1 ⊢
      omega
theorem scan_lb {l : List Rd} (i : Nat) : ∀ m, (∀ j, j < m → okAt l ((i + j) % l.length) = false) → m ≤ (scanG l (i + m)).1
  | 0, _ => Nat.zero_le _
  | m + 1, h => by
    have ih := scan_lb i m fun j hj => h j (by omega)
    rw [show i + (m + 1) = (i + m) + 1 by omega, scanG, if_neg (by rw [h m (by omega)]; simp)]
    simp only
    omega

theorem longest_most {l : List Rd} {p : Nat} (hp : okAt l p = true) : (scanG l (2 * l.length)).2 = mostTo l l.length := by
  have hpl := okAt_lt hp
  have hn : 0 < l.length := by omega
  refine Nat.le_antisymm (scan_ub _ fun s _ => ?_) (mostTo_ub fun i hi hg => ?_)
  · obtain ⟨h1, h2, _⟩ := scan_run l s
    rcases Nat.eq_zero_or_pos (scanG l s).1 with h0 | h0
    · omega
    generalize (scanG l s).1 = ρ at h1 h2 h0
    have gaps : ∀ j, j < ρ → okAt l (((s - ρ) % l.length + j) % l.length) = false := fun j hj => by
      have := h2 (ρ - 1 - j) (by omega)
      rw [Nat.mod_add_mod, show s - ρ + j = s - 1 - (ρ - 1 - j) by omega]
      exact this
    have hlt : (s - ρ) % l.length < l.length := Nat.mod_lt _ hn
    have hρ : ρ ≤ l.length := by
      rcases Nat.lt_or_ge l.length ρ with h | h
      · exfalso
        generalize (s - ρ) % l.length = a at gaps hlt
        have hg := gaps ((p + l.length - a) % l.length) (Nat.lt_of_lt_of_le (Nat.mod_lt _ hn) (by omega))
        rw [Nat.add_mod_mod, show a + (p + l.length - a) = p + l.length by omega, Nat.add_mod_right, Nat.mod_eq_of_lt hpl, hp] at hg
        cases hg
      · exact h
    have hfirst := gaps 0 h0
    rw [Nat.add_zero, Nat.mod_mod] at hfirst
    have hge := runF_ge l ((s - ρ) % l.length) l.length 0 ρ (Nat.zero_le _) (by omega) (fun j _ hj => gaps j hj)
    exact Nat.le_trans hge (mostTo_ge hlt hfirst)
  · have hm := runF_le l i l.length 0
    have hgap := fun j hj => runF_gap l i l.length 0 j (Nat.zero_le _) hj
    have h1 := scan_lb i (runN l i) hgap
    have h2 := (scan_run l (i + runN l i)).2.2
    have h3 := scan_mono l (i + runN l i) (2 * l.length - (i + runN l i))
    have hm : runN l i ≤ l.length := by unfold runN; omega
    rw [show i + runN l i + (2 * l.length - (i + runN l i)) = 2 * l.length by omega] at h3
    omega
end Go.Proofs.YtilepdoijdeohaaDoor.Am
namespace Go.Proofs.YtilepdoijdeohaaDoor.Am
open Go
set_option maxRecDepth 100000

theorem no_ok {l : List Rd} (h : gapsOf l = l.length) (i : Nat) : okAt l i = false := by
  cases hk : okAt l i with
  | false => rfl
  | true =>
    have := ok_count1 hk
    have := okCount_gaps l
    omega
theorem all_gaps {l : List Rd} (h : gapsOf l = l.length) : mostTo l l.length = l.length := by
  refine Nat.le_antisymm (mostTo_ub fun i _ _ => by have := runF_le l i l.length 0; unfold runN; omega) ?_
  rcases Nat.eq_zero_or_pos l.length with h0 | h0
  · omega
  · exact Nat.le_trans (runF_ge l 0 l.length 0 l.length (Nat.zero_le _) (by omega) fun j _ _ => no_ok h _) (mostTo_ge h0 (no_ok h 0))

theorem gaps_pure (r : Rg) (hl : r.l.length ≤ 1000000) : Pure Tryd.prog G0 11 [eRg r] (.tup [.i (gapsOf r.l), .i (mostTo r.l r.l.length)]) := by
  have hml0 : (r.l.map eRd).length = r.l.length := List.length_map ..
  refine pure_of mixed Tryd.func11 rfl rfl (Nat.le_of_ble_eq_true rfl) ?_
  conv => whnf
  repeat (refine And.intro ?_ ?_; (first | (with_reducible show okR _ _ _ _ = true; kernel_rfl) | (with_reducible show addC _ _ _ = _; kernel_rfl) | rfl | trivial | kernel_rfl | omega | exact Nat.le_of_ble_eq_true rfl | exact lt_len0 rfl | exact lt_len1 rfl); conv => whnf)
  refine loop_rule mixed (ι := Nat) (fun k s => [(1, .lptr 1 (s 1) 0 0), (4, .i r.l.length), (5, .i (gapsOf (r.l.take k))), (6, .i 0), (7, .i 0), (15, .sl 3 (r.l.map eRd)), (16, .i r.l.length), (17, .i k)]) (fun _ s => [(1, ⟨s 1, 0, 2, [[.i r.z, .sl 3 (r.l.map eRd)]]⟩)]) (fun k => k ≤ r.l.length) (fun k => r.l.length - k) 0 (by omega) (weakTo_cov ?_ ?_) fun k hk s ct => ?_
  · conv => whnf
    repeat (refine And.intro ?_ ?_; (first | exact rfl | exact Or.inl rfl | exact congrArg (SV.int .i64) (by first | rfl | omega | (simp; done) | (simp; omega))); conv => whnf)
    exact trivial
  · conv => whnf
    repeat (refine And.intro ?_ ?_; (first | exact rfl | exact Or.inl rfl | exact congrArg (SV.int .i64) (by first | rfl | omega | (simp; done) | (simp; omega))); conv => whnf)
    exact trivial
  conv => whnf
  repeat (refine And.intro ?_ ?_; (first | (with_reducible show okR _ _ _ _ = true; kernel_rfl) | (with_reducible show addC _ _ _ = _; kernel_rfl) | rfl | trivial | kernel_rfl | omega | exact Nat.le_of_ble_eq_true rfl | exact lt_len0 rfl | exact lt_len1 rfl); conv => whnf)
  refine ifD (fun h1 => ?_) (fun h1 => ?_) <;> try dsimp only at h1
  · have hx := rdAt_get (l := r.l) (i := k) (by omega)
    have hgap := gapsOf_snoc hx
    have hgl := gapsOf_le (r.l.take k)
    rw [List.length_take] at hgl
    generalize rdAt r.l k = x at hx hgap
    obtain ⟨p, ok⟩ := x
    conv => whnf
    repeat (refine And.intro ?_ ?_; (first | (with_reducible show okR _ _ _ _ = true; kernel_rfl) | (with_reducible show addC _ _ _ = _; kernel_rfl) | rfl | trivial | kernel_rfl | omega | exact Nat.le_of_ble_eq_true rfl | exact lt_len0 rfl | exact lt_len1 rfl); conv => whnf)
    refine ⟨_, get_map hx, ?_⟩
    conv => whnf
    repeat (refine And.intro ?_ ?_; (first | (with_reducible show okR _ _ _ _ = true; kernel_rfl) | (with_reducible show addC _ _ _ = _; kernel_rfl) | rfl | trivial | kernel_rfl | omega | exact Nat.le_of_ble_eq_true rfl | exact lt_len0 rfl | exact lt_len1 rfl); conv => whnf)
    cases ok with
    | true =>
      have e5 : gapsOf (r.l.take (k + 1)) = gapsOf (r.l.take k) := by simpa using hgap
      conv => whnf
      repeat (refine And.intro ?_ ?_; (first | (with_reducible show okR _ _ _ _ = true; kernel_rfl) | (with_reducible show addC _ _ _ = _; kernel_rfl) | rfl | trivial | kernel_rfl | omega | exact Nat.le_of_ble_eq_true rfl | exact lt_len0 rfl | exact lt_len1 rfl); conv => whnf)
      refine inI (by omega) (by omega) ?_
      conv => whnf
      repeat (refine And.intro ?_ ?_; (first | (with_reducible show okR _ _ _ _ = true; kernel_rfl) | (with_reducible show addC _ _ _ = _; kernel_rfl) | rfl | trivial | kernel_rfl | omega | exact Nat.le_of_ble_eq_true rfl | exact lt_len0 rfl | exact lt_len1 rfl); conv => whnf)
      refine ⟨k + 1, by omega, by omega, weakTo_cov ?_ ?_⟩
      · conv => whnf
        repeat (refine And.intro ?_ ?_; (first | exact rfl | exact Or.inl rfl | exact congrArg (SV.int .i64) (by first | rfl | omega | (simp; done) | (simp; omega))); conv => whnf)
        exact trivial
      · conv => whnf
        repeat (refine And.intro ?_ ?_; (first | exact rfl | exact Or.inl rfl | exact congrArg (SV.int .i64) (by first | rfl | omega | (simp; done) | (simp; omega))); conv => whnf)
        exact trivial
    | false =>
      have e5 : gapsOf (r.l.take (k + 1)) = gapsOf (r.l.take k) + 1 := by simpa using hgap
      conv => whnf
      repeat (refine And.intro ?_ ?_; (first | (with_reducible show okR _ _ _ _ = true; kernel_rfl) | (with_reducible show addC _ _ _ = _; kernel_rfl) | rfl | trivial | kernel_rfl | omega | exact Nat.le_of_ble_eq_true rfl | exact lt_len0 rfl | exact lt_len1 rfl); conv => whnf)
      refine inI (by omega) (by omega) ?_
      conv => whnf
      repeat (refine And.intro ?_ ?_; (first | (with_reducible show okR _ _ _ _ = true; kernel_rfl) | (with_reducible show addC _ _ _ = _; kernel_rfl) | rfl | trivial | kernel_rfl | omega | exact Nat.le_of_ble_eq_true rfl | exact lt_len0 rfl | exact lt_len1 rfl); conv => whnf)
      refine inI (by omega) (by omega) ?_
      conv => whnf
      repeat (refine And.intro ?_ ?_; (first | (with_reducible show okR _ _ _ _ = true; kernel_rfl) | (with_reducible show addC _ _ _ = _; kernel_rfl) | rfl | trivial | kernel_rfl | omega | exact Nat.le_of_ble_eq_true rfl | exact lt_len0 rfl | exact lt_len1 rfl); conv => whnf)
      refine ⟨k + 1, by omega, by omega, weakTo_cov ?_ ?_⟩
      · conv => whnf
        repeat (refine And.intro ?_ ?_; (first | exact rfl | exact Or.inl rfl | exact congrArg (SV.int .i64) (by first | rfl | omega | (simp; done) | (simp; omega))); conv => whnf)
        exact trivial
      · conv => whnf
        repeat (refine And.intro ?_ ?_; (first | exact rfl | exact Or.inl rfl | exact congrArg (SV.int .i64) (by first | rfl | omega | (simp; done) | (simp; omega))); conv => whnf)
        exact trivial
  · have hk : k = r.l.length := by omega
    subst hk
    rw [List.take_length]
    conv => whnf
    repeat (refine And.intro ?_ ?_; (first | (with_reducible show okR _ _ _ _ = true; kernel_rfl) | (with_reducible show addC _ _ _ = _; kernel_rfl) | rfl | trivial | kernel_rfl | omega | exact Nat.le_of_ble_eq_true rfl | exact lt_len0 rfl | exact lt_len1 rfl); conv => whnf)
    refine ifD (fun h2 => ?_) (fun h2 => ?_) <;> try dsimp only at h2
    · have h2 : gapsOf r.l = r.l.length := by omega
      conv => whnf
      repeat (refine And.intro ?_ ?_; (first | (with_reducible show okR _ _ _ _ = true; kernel_rfl) | (with_reducible show addC _ _ _ = _; kernel_rfl) | rfl | trivial | kernel_rfl | omega | exact Nat.le_of_ble_eq_true rfl | exact lt_len0 rfl | exact lt_len1 rfl); conv => whnf)
      rw [all_gaps h2, h2]
      exact ⟨rfl, rfl, trivial⟩
    have hc := okCount_gaps r.l
    have hgl := gapsOf_le r.l
    obtain ⟨p, hp⟩ := ok_one (l := r.l) (by omega)
    have hlm := longest_most hp
    conv => whnf
    repeat (refine And.intro ?_ ?_; (first | (with_reducible show okR _ _ _ _ = true; kernel_rfl) | (with_reducible show addC _ _ _ = _; kernel_rfl) | rfl | trivial | kernel_rfl | omega | exact Nat.le_of_ble_eq_true rfl | exact lt_len0 rfl | exact lt_len1 rfl); conv => whnf)
    refine inI (by omega) (by omega) ?_
    conv => whnf
    repeat (refine And.intro ?_ ?_; (first | (with_reducible show okR _ _ _ _ = true; kernel_rfl) | (with_reducible show addC _ _ _ = _; kernel_rfl) | rfl | trivial | kernel_rfl | omega | exact Nat.le_of_ble_eq_true rfl | exact lt_len0 rfl | exact lt_len1 rfl); conv => whnf)
    refine loop_rule mixed (ι := Nat) (fun k s => [(1, .lptr 1 (s 1) 0 0), (4, .i r.l.length), (5, .i (gapsOf r.l)), (6, .i (scanG r.l k).1), (7, .i (scanG r.l k).2), (33, .i (2 * r.l.length)), (34, .i k)]) (fun _ s => [(1, ⟨s 1, 0, 2, [[.i r.z, .sl 3 (r.l.map eRd)]]⟩)]) (fun k => k ≤ 2 * r.l.length) (fun k => 2 * r.l.length - k) 0 (by omega) (weakTo_cov ?_ ?_) fun k hk s ct => ?_
    · conv => whnf
      repeat (refine And.intro ?_ ?_; (first | exact rfl | exact Or.inl rfl | exact congrArg (SV.int .i64) (by first | rfl | omega | (simp; done) | (simp; omega))); conv => whnf)
      exact trivial
    · conv => whnf
      repeat (refine And.intro ?_ ?_; (first | exact rfl | exact Or.inl rfl | exact congrArg (SV.int .i64) (by first | rfl | omega | (simp; done) | (simp; omega))); conv => whnf)
      exact trivial
    conv => whnf
    repeat (refine And.intro ?_ ?_; (first | (with_reducible show okR _ _ _ _ = true; kernel_rfl) | (with_reducible show addC _ _ _ = _; kernel_rfl) | rfl | trivial | kernel_rfl | omega | exact Nat.le_of_ble_eq_true rfl | exact lt_len0 rfl | exact lt_len1 rfl); conv => whnf)
    refine ifD (fun h3 => ?_) (fun h3 => ?_) <;> try dsimp only at h3
    · have hpos : 0 < r.l.length := by omega
      have hy := rdAt_get (l := r.l) (i := k % r.l.length) (Nat.mod_lt _ hpos)
      have hoky := okAt_get hy
      have hidx : (k : Int).tmod r.l.length = ((k % r.l.length : Nat) : Int) := by
        rw [tmod_pos (by omega), ← Int.natCast_emod]
      have hsr := (scan_run r.l k).1
      generalize rdAt r.l (k % r.l.length) = y at hy hoky
      obtain ⟨p2, ok2⟩ := y
      conv => whnf
      repeat (refine And.intro ?_ ?_; (first | (with_reducible show okR _ _ _ _ = true; kernel_rfl) | (with_reducible show addC _ _ _ = _; kernel_rfl) | rfl | trivial | kernel_rfl | omega | exact Nat.le_of_ble_eq_true rfl | exact lt_len0 rfl | exact lt_len1 rfl); conv => whnf)
      refine ⟨_, get_mapI hidx hy, ?_⟩
      cases ok2 with
      | true =>
        have es : scanG r.l (k + 1) = (0, (scanG r.l k).2) := by rw [scanG, if_pos hoky]
        have e1 : (scanG r.l (k + 1)).1 = 0 := by rw [es]
        have e2 : (scanG r.l (k + 1)).2 = (scanG r.l k).2 := by rw [es]
        conv => whnf
        repeat (refine And.intro ?_ ?_; (first | (with_reducible show okR _ _ _ _ = true; kernel_rfl) | (with_reducible show addC _ _ _ = _; kernel_rfl) | rfl | trivial | kernel_rfl | omega | exact Nat.le_of_ble_eq_true rfl | exact lt_len0 rfl | exact lt_len1 rfl); conv => whnf)
        refine inI (by omega) (by omega) ?_
        conv => whnf
        repeat (refine And.intro ?_ ?_; (first | (with_reducible show okR _ _ _ _ = true; kernel_rfl) | (with_reducible show addC _ _ _ = _; kernel_rfl) | rfl | trivial | kernel_rfl | omega | exact Nat.le_of_ble_eq_true rfl | exact lt_len0 rfl | exact lt_len1 rfl); conv => whnf)
        refine ⟨k + 1, by omega, by omega, weakTo_cov ?_ ?_⟩
        · conv => whnf
          repeat (refine And.intro ?_ ?_; (first | exact rfl | exact Or.inl rfl | exact congrArg (SV.int .i64) (by first | rfl | omega | (simp; done) | (simp; omega))); conv => whnf)
          exact trivial
        · conv => whnf
          repeat (refine And.intro ?_ ?_; (first | exact rfl | exact Or.inl rfl | exact congrArg (SV.int .i64) (by first | rfl | omega | (simp; done) | (simp; omega))); conv => whnf)
          exact trivial
      | false =>
        have es : scanG r.l (k + 1) = ((scanG r.l k).1 + 1, max (scanG r.l k).2 ((scanG r.l k).1 + 1)) := by rw [scanG, if_neg (by rw [hoky]; simp)]
        have e1 : (scanG r.l (k + 1)).1 = (scanG r.l k).1 + 1 := by rw [es]
        have e2 : (scanG r.l (k + 1)).2 = max (scanG r.l k).2 ((scanG r.l k).1 + 1) := by rw [es]
        conv => whnf
        repeat (refine And.intro ?_ ?_; (first | (with_reducible show okR _ _ _ _ = true; kernel_rfl) | (with_reducible show addC _ _ _ = _; kernel_rfl) | rfl | trivial | kernel_rfl | omega | exact Nat.le_of_ble_eq_true rfl | exact lt_len0 rfl | exact lt_len1 rfl); conv => whnf)
        refine inI (by omega) (by omega) ?_
        conv => whnf
        repeat (refine And.intro ?_ ?_; (first | (with_reducible show okR _ _ _ _ = true; kernel_rfl) | (with_reducible show addC _ _ _ = _; kernel_rfl) | rfl | trivial | kernel_rfl | omega | exact Nat.le_of_ble_eq_true rfl | exact lt_len0 rfl | exact lt_len1 rfl); conv => whnf)
        refine inI (by omega) (by omega) ?_
        conv => whnf
        repeat (refine And.intro ?_ ?_; (first | (with_reducible show okR _ _ _ _ = true; kernel_rfl) | (with_reducible show addC _ _ _ = _; kernel_rfl) | rfl | trivial | kernel_rfl | omega | exact Nat.le_of_ble_eq_true rfl | exact lt_len0 rfl | exact lt_len1 rfl); conv => whnf)
        refine ⟨k + 1, by omega, by omega, weakTo_cov ?_ ?_⟩
        · conv => whnf
          repeat (refine And.intro ?_ ?_; (first | exact rfl | exact Or.inl rfl | exact congrArg (SV.int .i64) (by first | rfl | omega | (simp; done) | (simp; omega))); conv => whnf)
          exact trivial
        · conv => whnf
          repeat (refine And.intro ?_ ?_; (first | exact rfl | exact Or.inl rfl | exact congrArg (SV.int .i64) (by first | rfl | omega | (simp; done) | (simp; omega))); conv => whnf)
          exact trivial
    · have hk : k = 2 * r.l.length := by omega
      subst hk
      rw [hlm]
      conv => whnf
      repeat (refine And.intro ?_ ?_; (first | (with_reducible show okR _ _ _ _ = true; kernel_rfl) | (with_reducible show addC _ _ _ = _; kernel_rfl) | rfl | trivial | kernel_rfl | omega | exact Nat.le_of_ble_eq_true rfl | exact lt_len0 rfl | exact lt_len1 rfl); conv => whnf)
      exact trivial
end Go.Proofs.YtilepdoijdeohaaDoor.Am
