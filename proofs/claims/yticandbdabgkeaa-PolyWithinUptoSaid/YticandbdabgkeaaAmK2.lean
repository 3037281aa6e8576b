/- A call of a function whose contract is known is sound. No condition: lemmas. -/
import Derived.Test.YticandbdabgkeaaAmK1
namespace Go.Proofs.Yticandbdabgkeaa.Am
open Go

theorem addO_other {us : List Upd} {n : Nat} : ∀ {ob : Tab}, (∀ u ∈ us, u.nm ≠ n) → addO ob us n = ob n := by
  induction us with
  | nil => intro ob _; rfl
  | cons u r ih =>
    intro ob h
    show addO (upd ob u.nm (some u.ob)) r n = ob n
    rw [ih (fun x hx => h x (by simp [hx])), upd_other _ _ (fun e => h u (by simp) e.symm)]
theorem addC_other {us : List Upd} {n : Nat} : ∀ {ct : Cnt}, (∀ u ∈ us, u.nm ≠ n) → addC ct us n = ct n := by
  induction us with
  | nil => intro ct _; rfl
  | cons u r ih =>
    intro ct h
    show addC (match u.fresh with | true => upd ct u.nm (ct u.nm + 1) | false => ct) r n = ct n
    rw [ih (fun x hx => h x (by simp [hx]))]
    cases u.fresh with
    | true => exact upd_other _ _ (fun e => h u (by simp) e.symm)
    | false => rfl

theorem leC_prel {D : Rom} {a b : SV} {v : Value} (h : leC a b) (hr : PRel D a v) : PRel D b v := by
  unfold leC at h
  split at h
  · rename_i z xs
    subst h
    cases hr
    exact PRel.empty D z none 0
  · subst h; exact hr

theorem leL_prel {D : Rom} : ∀ {a b : List SV} {vs : List Value}, leL a b → (∀ (i : Nat) (s : SV) (v : Value), a[i]? = some s → vs[i]? = some v → PRel D s v) → a.length = b.length ∧ ∀ (i : Nat) (s : SV) (v : Value), b[i]? = some s → vs[i]? = some v → PRel D s v
  | [], [], _, _, h => ⟨rfl, h⟩
  | a :: r, b :: s, [], h, hr => ⟨by simpa using (leL_prel (D := D) (vs := []) h.2 (fun i s v _ hv => by simp at hv)).1, fun i s v _ hv => by simp at hv⟩
  | a :: r, b :: s, v :: vs, h, hr => by
    obtain ⟨h1, h2⟩ := leL_prel h.2 (vs := vs) (fun i s v hs hv => hr (i + 1) s v (by simpa using hs) (by simpa using hv))
    refine ⟨by simpa using h1, fun i t x ht hx => ?_⟩
    cases i with
    | zero => simp at ht hx; subst ht; subst hx; exact leC_prel h.1 (hr 0 a v rfl rfl)
    | succ i => exact h2 i t x (by simpa using ht) (by simpa using hx)
  | [], _ :: _, _, h, _ => h.elim
  | _ :: _, [], _, h, _ => h.elim

theorem leA_prel {D : Rom} {a b : SV} {v : Value} (h : leA a b) (hr : PRelA D a v) : PRelA D b v := by
  rcases hr.split with hr | ⟨cs, rfl, vs, h1, h2, h3⟩
  · have h' : leC a b := by cases hr <;> exact h
    exact PRelA.of1 (leC_prel h' hr)
  · cases b <;> first | exact h.elim | skip
    case agg ds =>
      obtain ⟨g1, g2⟩ := leL_prel h h3
      exact ⟨vs, h1, h2.trans g1, g2⟩
    all_goals (simp [leA, leC] at h)

theorem leAL_prel {D : Rom} : ∀ {a b : List SV} {vs : List Value}, leAL a b → (∀ (i : Nat) (s : SV) (v : Value), a[i]? = some s → vs[i]? = some v → PRelA D s v) → a.length = b.length ∧ ∀ (i : Nat) (s : SV) (v : Value), b[i]? = some s → vs[i]? = some v → PRelA D s v
  | [], [], _, _, h => ⟨rfl, h⟩
  | a :: r, b :: s, [], h, hr => ⟨by simpa using (leAL_prel (D := D) (vs := []) h.2 (fun i s v _ hv => by simp at hv)).1, fun i s v _ hv => by simp at hv⟩
  | a :: r, b :: s, v :: vs, h, hr => by
    obtain ⟨h1, h2⟩ := leAL_prel h.2 (vs := vs) (fun i s v hs hv => hr (i + 1) s v (by simpa using hs) (by simpa using hv))
    refine ⟨by simpa using h1, fun i t x ht hx => ?_⟩
    cases i with
    | zero => simp at ht hx; subst ht; subst hx; exact leA_prel h.1 (hr 0 a v rfl rfl)
    | succ i => exact h2 i t x (by simpa using ht) (by simpa using hx)
  | [], _ :: _, _, h, _ => h.elim
  | _ :: _, [], _, h, _ => h.elim

theorem purAK_rel {ob : Tab} {E : Env} {s : SV} {v : Value} {k : SV → List Upd → Prop} (h : purAK ob s k) (hr : Rel E s v) : RelA E s v := by
  cases s <;> first | exact hr | exact h.elim

theorem purALK_rel {ob : Tab} {E : Env} : ∀ {l : List SV} {vs : List Value} {k : List SV → List Upd → Prop}, purALK ob l k → (∀ (i : Nat) (s : SV) (v : Value), l[i]? = some s → vs[i]? = some v → Rel E s v) → ∀ (i : Nat) (s : SV) (v : Value), l[i]? = some s → vs[i]? = some v → RelA E s v
  | [], _, _, _, _ => fun i s v h => by simp at h
  | a :: l, [], _, _, _ => fun i s v _ h => by simp at h
  | a :: l, x :: vs, k, h, hr => fun i s v hs hv => by
    cases i with
    | zero => simp at hs hv; subst hs; subst hv; exact purAK_rel h (hr 0 a x rfl rfl)
    | succ i =>
      obtain ⟨⟨p, us⟩, h', _⟩ := lc_purAK (U := fun _ => True) a (fun _ _ => trivial) ob (fun _ => 0) (fun p => purALK ob l fun q ws => k (p.1 :: q) (p.2 ++ ws)) h
      exact purALK_rel h' (fun i s v hs hv => hr (i + 1) s v (by simpa using hs) (by simpa using hv)) i s v (by simpa using hs) (by simpa using hv)
end Go.Proofs.Yticandbdabgkeaa.Am
