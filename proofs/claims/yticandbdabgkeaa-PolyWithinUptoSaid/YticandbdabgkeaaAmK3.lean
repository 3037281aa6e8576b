/- A call of a function whose contract is known is sound: the three forms. No condition: lemmas. -/
import Derived.Test.YticandbdabgkeaaAmKB
namespace Go.Proofs.Yticandbdabgkeaa.Am
open Go

section
variable {P : Program} {G : Nat → List SV} {F : Nat → Option Obj} {E : Env} {R : SV → List Upd → Prop} {w : World} {g : Operand → SV}

theorem call_run {fid : FuncId} (hf : Callable P fid) {ρ : Operand → Value} {o : Oper} {c : Call} {x : Operand} (ho : o.op = .call c) (hc : c.callee = .value x) {caps : List Value} (hx : ρ x = .func (.func fid) #[] caps.toArray) (w : World) :
    (execOp ρ o).run P w = .ok (.enter fid (c.args.toList.map ρ ++ caps).toArray) w := by
  obtain ⟨fn, h1, h2, h3⟩ := hf
  have e : (c.args.toList.map ρ ++ caps).toArray = c.args.map ρ ++ caps.toArray := by apply Array.ext'; simp
  have h3' : fn.name ≠ "runtime.NumGoroutine" := by simpa using h3
  have h2' : fn.body ≠ none := fun e => by rw [e] at h2; cases h2
  rw [e]
  simp [execOp, ho, resolve, hc, Deferred.ofValue, hx, invoke, callFunc, h1, h2', h3']

theorem purR_of {ob : Tab} {l : List Operand} {k : List SV → List Upd → Prop} (h : purALK ob (l.map g) k) {ρ : Operand → Value} (hg : ∀ x, Rel E (g x) (ρ x)) :
    ∀ (i : Nat) (s : SV) (v : Value), (l.map g)[i]? = some s → (l.map ρ)[i]? = some v → RelA E s v :=
  purALK_rel h fun i s v hs hv => by
    rw [List.getElem?_map] at hs hv
    cases hx : l[i]? with
    | none => rw [hx] at hs; cases hs
    | some x => rw [hx] at hs hv; cases hs; cases hv; exact hg x

/-- The arguments and what is caught, one behind another. -/
theorem args_app {D : Rom} {ps caps : List SV} {vs cv : List Value} (hl : vs.length = ps.length) (h1 : ∀ (i : Nat) (s : SV) (v : Value), ps[i]? = some s → vs[i]? = some v → PRelA D s v)
    (h2 : ∀ (i : Nat) (s : SV) (v : Value), caps[i]? = some s → cv[i]? = some v → PRel D s v) : ∀ (i : Nat) (s : SV) (v : Value), (ps ++ caps)[i]? = some s → (vs ++ cv)[i]? = some v → PRelA D s v := fun i s v hs hv => by
  rcases Nat.lt_or_ge i ps.length with h | h
  · rw [List.getElem?_append_left h] at hs
    rw [List.getElem?_append_left (by omega)] at hv
    exact h1 i s v hs hv
  · rw [List.getElem?_append_right h] at hs
    rw [List.getElem?_append_right (by omega), hl] at hv
    exact PRelA.of1 (h2 _ s v hs hv)

/-- What a call that is carried out has to come to. -/
def CallGood (P : Program) (G : Nat → List SV) (F : Nat → Option Obj) (E : Env) (R : SV → List Upd → Prop) (fid : FuncId) (vs : List Value) (w : World) : Prop :=
  Calls P fid vs.toArray w fun e w' => ∃ v us x D' β', R v us ∧ e = .returned x ∧ Rel (E.upd D' β' us) v x ∧ Mem G (E.upd D' β' us) F w' ∧ Env.le E (E.upd D' β' us)

theorem callP_good (hm : Mem G E F w) {fid : FuncId} {caps : List SV} {cv : List Value} (hcl : cv.length = caps.length) (hcr : ∀ (i : Nat) (s : SV) (v : Value), caps[i]? = some s → cv[i]? = some v → PRel E.D s v) {l : List Operand} {ρ : Operand → Value} (hg : ∀ x, Rel E (g x) (ρ x))
    (h : callP P G fid caps (l.map g) E.ob R) : Callable P fid ∧ CallGood P G F E R fid (l.map ρ ++ cv) w := by
  unfold callP at h
  obtain ⟨ps, us, D1, ⟨ys, r, hle, ⟨hcl', hp⟩, hR⟩, hm1, hF1, hl1, hr1⟩ := purALK_sound (Frz.refl E) hm h (by simp) (purR_of h hg)
  refine ⟨hcl', ?_⟩
  have hcr1 : ∀ (i : Nat) (s : SV) (v : Value), caps[i]? = some s → cv[i]? = some v → PRel D1 s v := fun i s v a b => (hcr i s v a b).mono hF1.le.D
  have hl2 : (l.map ρ).length = ps.length := by rw [hl1]; simp
  obtain ⟨hlen, hys⟩ := leAL_prel hle (args_app hl2 hr1 hcr1)
  refine (hp D1 _ w _ hm1.lend0 (by rw [← hlen]; simp [hl1, hcl]) hys).mono fun e w' => ?_
  rintro ⟨D', v, hD, hm2, he, hv⟩
  have hle2 : Env.le (E.upd D1 E.β us) (E.upd D' E.β us) := ⟨hD, fun _ => Nat.le_refl _, fun o b' hb _ => ⟨⟨b', hb, rfl, rfl, rfl⟩, rfl⟩⟩
  exact ⟨r, us, v, D', E.β, hR, he, PRelT.rel (E := E.upd D' E.β us) hv, Mem.rejoin hm1 hm2 0 rfl hle2 (fun o b hb => .inl ⟨id, hb, rfl⟩), hF1.le.trans hle2⟩

theorem callF_good (hm : Mem G E F w) {fid : FuncId} {caps : List SV} {cv : List Value} (hcl : cv.length = caps.length) (hcr : ∀ (i : Nat) (s : SV) (v : Value), caps[i]? = some s → cv[i]? = some v → PRel E.D s v) {l : List Operand} {ρ : Operand → Value} (hg : ∀ x, Rel E (g x) (ρ x)) {d : Option Nat}
    (h : callF P G fid caps (l.map g) d E.ob E.ct R) : Callable P fid ∧ CallGood P G F E R fid (l.map ρ ++ cv) w := by
  cases d with
  | none => exact h.elim
  | some d =>
    simp only [callF] at h
    obtain ⟨ps, us, D1, ⟨ys, z, es, r, hle, ⟨hcl', hp⟩, hR⟩, hm1, hF1, hl1, hr1⟩ := purALK_sound (Frz.refl E) hm h (by simp) (purR_of h hg)
    refine ⟨hcl', ?_⟩
    have hcr1 : ∀ (i : Nat) (s : SV) (v : Value), caps[i]? = some s → cv[i]? = some v → PRel D1 s v := fun i s v a b => (hcr i s v a b).mono hF1.le.D
    have hl2 : (l.map ρ).length = ps.length := by rw [hl1]; simp
    obtain ⟨hlen, hys⟩ := leAL_prel hle (args_app hl2 hr1 hcr1)
    refine (hp D1 _ w _ hm1.lend0 (by rw [← hlen]; simp [hl1, hcl]) hys).mono fun e w' => ?_
    rintro ⟨D', p, v, hD, hm2, he, hv⟩
    have hct : addC E.ct us = E.ct := hF1.ct
    let b : Ob := ⟨E.ct d, 1, z, es⟩
    have hput : Env.le (E.upd D1 E.β us) ((E.upd D1 E.β us).put d b p (E.ct d + 1)) := Env.put_le (by show addC E.ct us d ≤ _; rw [hct]; exact Nat.le_succ _) (fun hlt => absurd hlt (by show ¬ (E.ct d < addC E.ct us d); rw [hct]; exact Nat.lt_irrefl _))
    have eob : addO E.ob (us ++ [⟨d, b, true⟩]) = upd (addO E.ob us) d (some b) := by rw [addO_append]; rfl
    have ect : addC E.ct (us ++ [⟨d, b, true⟩]) = upd (addC E.ct us) d (E.ct d + 1) := by rw [addC_append]; show upd (addC E.ct us) d (addC E.ct us d + 1) = _; rw [hct]
    have eE : E.upd D' (setβ E.β d (E.ct d) p) (us ++ [⟨d, b, true⟩]) = ⟨D', setβ E.β d (E.ct d) p, upd (addO E.ob us) d (some b), upd (addC E.ct us) d (E.ct d + 1)⟩ := by
      show (⟨D', setβ E.β d (E.ct d) p, addO E.ob (us ++ [⟨d, b, true⟩]), addC E.ct (us ++ [⟨d, b, true⟩])⟩ : Env) = _
      rw [eob, ect]
    have hle2 : Env.le (E.upd D1 E.β us) ⟨D', setβ E.β d (E.ct d) p, upd (addO E.ob us) d (some b), upd (addC E.ct us) d (E.ct d + 1)⟩ :=
      hput.trans ⟨hD, fun _ => Nat.le_refl _, fun o b' hb _ => ⟨⟨b', hb, rfl, rfl, rfl⟩, rfl⟩⟩
    have hst : E.ct d < (⟨D', setβ E.β d (E.ct d) p, upd (addO E.ob us) d (some b), upd (addC E.ct us) d (E.ct d + 1)⟩ : Env).ct d := by
      show E.ct d < upd (addC E.ct us) d (E.ct d + 1) d
      rw [upd_same]; exact Nat.lt_succ_self _
    have hβ : (⟨D', setβ E.β d (E.ct d) p, upd (addO E.ob us) d (some b), upd (addC E.ct us) d (E.ct d + 1)⟩ : Env).β d (E.ct d) = p := setβ_same E.β d (E.ct d) p
    refine ⟨_, _, v, D', setβ E.β d (E.ct d) p, hR, he, ?_⟩
    rw [eE]
    refine ⟨renV_rel rfl hβ hst (upd_same (addO E.ob us) d (some b)) hv, Mem.rejoin hm1 hm2 d rfl hle2 fun o b' hb => ?_, hF1.le.trans hle2⟩
    by_cases ho : o = d
    · subst ho
      have hb' : b' = b := by
        have : upd (addO E.ob us) o (some b) o = some b' := hb
        rw [upd_same] at this
        exact (Option.some.inj this).symm
      subst hb'
      exact .inr ⟨rfl, Own.one hm2 rfl hβ hst⟩
    · refine .inl ⟨id, ?_, setβ_other _ _ (.inl ho)⟩
      have : upd (addO E.ob us) d (some b) o = some b' := hb
      rwa [upd_other _ _ ho] at this

theorem callR_good (hm : Mem G E F w) {fid : FuncId} {caps : List SV} {cv : List Value} (hcl : cv.length = caps.length) (hcr : ∀ (i : Nat) (s : SV) (v : Value), caps[i]? = some s → cv[i]? = some v → PRel E.D s v) {l : List Operand} {ρ : Operand → Value} (hg : ∀ x, Rel E (g x) (ρ x))
    (h : callR P G fid caps (l.map g) E.ob R) : Callable P fid ∧ CallGood P G F E R fid (l.map ρ ++ cv) w := by
  cases l with
  | nil => exact h.elim
  | cons x rest =>
    simp only [List.map_cons] at h ⊢
    have hx := hg x
    cases hgx : g x <;> rw [hgx] at h hx <;> try exact h.elim
    rename_i o st
    simp only [callR] at h
    cases hob : E.ob o with
    | none => rw [hob] at h; exact h.elim
    | some b =>
      obtain ⟨st', kd, z, xs⟩ := b
      rw [hob] at h
      match kd, h, hob with
      | 0, h, _ => exact h.elim
      | _ + 2, h, _ => exact h.elim
      | 1, h, hob =>
        obtain ⟨rfl, hnot, h⟩ := h
        have hnot' : o ∉ refsAL (rest.map g) := fun hin => by simp [hin] at hnot
        have h := nm_purALK (U := fun n => n ∈ refsAL (rest.map g)) (fun _ hh => hh) h
        obtain ⟨ps, us, D1, ⟨⟨qs, r, ys, hle, ⟨hcl', hp⟩, hxy, hR⟩, hnm⟩, hm1, hF1, hl1, hr1⟩ := purALK_sound (Frz.refl E) hm h (by simp) (purR_of h hg)
        refine ⟨hcl', ?_⟩
        have hcr1 : ∀ (i : Nat) (s : SV) (v : Value), caps[i]? = some s → cv[i]? = some v → PRel D1 s v := fun i s v a b => (hcr i s v a b).mono hF1.le.D
        have hl2 : (rest.map ρ).length = ps.length := by rw [hl1]; simp
        obtain ⟨hlen, hys⟩ := leAL_prel hle (args_app hl2 hr1 hcr1)
        have hob1 : (E.upd D1 E.β us).ob o = some ⟨st, 1, z, xs⟩ := by
          show addO E.ob us o = _
          rw [addO_other (fun u hu e => hnot' (by rw [← e]; exact hnm u hu)), hob]
        have hx1 : Rel0 (Env.one D1 (E.β o st) z xs) (.lrow 0 0) (ρ x) := by
          obtain ⟨g1, g2, g3⟩ := hx
          refine ⟨by show 0 < upd (fun _ => 0) 0 1 0; rw [upd_same]; exact Nat.zero_lt_one, g2, fun b hb _ => ?_⟩
          rw [Env.one_ob] at hb
          cases hb
          rw [Env.one_β]
          exact RowAt.congr (b := ⟨st, 1, z, xs⟩) (b' := ⟨0, 1, z, xs⟩) rfl rfl (g3 _ hob rfl)
        refine (hp D1 _ w _ (ρ x :: (rest.map ρ ++ cv)) (hm1.lend1 hob1) (by rw [← hlen]; simp [hl1, hcl]) (fun v hv => by simp at hv; subst hv; exact hx1) (fun i s v hs hv => hys i s v hs (by simpa using hv))).mono fun e w' => ?_
        rintro ⟨D', v, hD, hm2, he, hv⟩
        let b : Ob := ⟨st, 1, z, ys⟩
        have eE : E.upd D' E.β (us ++ [⟨o, b, false⟩]) = ⟨D', E.β, upd (addO E.ob us) o (some b), addC E.ct us⟩ := by
          show (⟨D', E.β, addO E.ob (us ++ [⟨o, b, false⟩]), addC E.ct (us ++ [⟨o, b, false⟩])⟩ : Env) = _
          rw [addO_append, addC_append]; rfl
        have hle2 : Env.le (E.upd D1 E.β us) ⟨D', E.β, upd (addO E.ob us) o (some b), addC E.ct us⟩ := by
          refine ⟨hD, fun _ => Nat.le_refl _, fun o' b' hb hlt => ⟨?_, rfl⟩⟩
          replace hb : upd (addO E.ob us) o (some b) o' = some b' := hb
          by_cases ho : o' = o
          · subst ho
            rw [upd_same] at hb
            cases hb
            exact ⟨_, hob1, rfl, rfl, hxy⟩
          · rw [upd_other _ _ ho] at hb
            exact ⟨b', hb, rfl, rfl, rfl⟩
        have hst : st < (⟨D', E.β, upd (addO E.ob us) o (some b), addC E.ct us⟩ : Env).ct o := (hm1.own o _ hob1).st
        refine ⟨_, _, v, D', E.β, hR, he, ?_⟩
        rw [eE]
        refine ⟨renV_rel rfl rfl hst (upd_same (addO E.ob us) o (some b)) hv, Mem.rejoin hm1 hm2 o rfl hle2 fun o' b' hb => ?_, hF1.le.trans hle2⟩
        replace hb : upd (addO E.ob us) o (some b) o' = some b' := hb
        by_cases ho : o' = o
        · subst ho
          rw [upd_same] at hb
          cases hb
          exact .inr ⟨rfl, Own.one hm2 rfl rfl hst⟩
        · rw [upd_other _ _ ho] at hb
          exact .inl ⟨ho, hb, rfl⟩

theorem callB_good (hm : Mem G E F w) {fid : FuncId} {caps : List SV} {cv : List Value} (hcl : cv.length = caps.length) (hcr : ∀ (i : Nat) (s : SV) (v : Value), caps[i]? = some s → cv[i]? = some v → PRel E.D s v) {l : List Operand} {ρ : Operand → Value} (hg : ∀ x, Rel E (g x) (ρ x))
    (h : callB P G fid caps (l.map g) E.ob R) : Callable P fid ∧ CallGood P G F E R fid (l.map ρ ++ cv) w := by
  unfold callB at h
  obtain ⟨ps, ⟨ys, r, hle, hsc, ⟨hcl', hp⟩, hR⟩, hl1, hr1⟩ := borALK_sound hm h (vs := l.map ρ) (by simp) (borALK_rel h (relL hg))
  refine ⟨hcl', ?_⟩
  have hleD := borD_le hm
  have hl2 : (l.map ρ).length = ps.length := by rw [hl1]; simp
  obtain ⟨hlen, hys⟩ := leAL_prel hle (args_app hl2 hr1 (fun i s v a b => (hcr i s v a b).mono hleD))
  refine (hp (borD E w) _ w _ (Mem.borrow hm) (by rw [← hlen]; simp [hl1, hcl]) hys).mono fun e w' => ?_
  rintro ⟨D', v, hD, hm2, he, hv⟩
  have hm3 := Mem.back0 hm hD hm2
  refine ⟨r, [], v, E.D, E.β, hR, he, PRelT.rel (E := E) (scalV_rel hsc hv), ?_, Env.le.refl E⟩
  exact Mem.rejoin hm hm3 0 rfl (Env.le.refl E) (fun o b hb => .inl ⟨id, hb, rfl⟩)

theorem callBF_good (hm : Mem G E F w) {fid : FuncId} {caps : List SV} {cv : List Value} (hcl : cv.length = caps.length) (hcr : ∀ (i : Nat) (s : SV) (v : Value), caps[i]? = some s → cv[i]? = some v → PRel E.D s v) {l : List Operand} {ρ : Operand → Value} (hg : ∀ x, Rel E (g x) (ρ x)) {d : Option Nat}
    (h : callBF P G fid caps (l.map g) d E.ob E.ct R) : Callable P fid ∧ CallGood P G F E R fid (l.map ρ ++ cv) w := by
  cases d with
  | none => exact h.elim
  | some d =>
    simp only [callBF] at h
    obtain ⟨ps, ⟨ys, z, es, r, hle, hsc, hes, ⟨hcl', hp⟩, hR⟩, hl1, hr1⟩ := borALK_sound hm h (vs := l.map ρ) (by simp) (borALK_rel h (relL hg))
    refine ⟨hcl', ?_⟩
    have hleD := borD_le hm
    have hl2 : (l.map ρ).length = ps.length := by rw [hl1]; simp
    obtain ⟨hlen, hys⟩ := leAL_prel hle (args_app hl2 hr1 (fun i s v a b => (hcr i s v a b).mono hleD))
    refine (hp (borD E w) _ w _ (Mem.borrow hm) (by rw [← hlen]; simp [hl1, hcl]) hys).mono fun e w' => ?_
    rintro ⟨D', p, v, hD, hm2, he, hv⟩
    have hm3 := Mem.back1 hm hes hD hm2
    have hv := scalFV_rel (D := E.D) hsc hv
    let b : Ob := ⟨E.ct d, 1, z, es⟩
    have hput : Env.le E (E.put d b p (E.ct d + 1)) := Env.put_le (Nat.le_succ _) (fun hlt => absurd hlt (Nat.lt_irrefl _))
    have eE : E.upd E.D (setβ E.β d (E.ct d) p) [⟨d, b, true⟩] = E.put d b p (E.ct d + 1) := rfl
    have hst : E.ct d < (E.put d b p (E.ct d + 1)).ct d := by
      show E.ct d < upd E.ct d (E.ct d + 1) d
      rw [upd_same]; exact Nat.lt_succ_self _
    have hβ : (E.put d b p (E.ct d + 1)).β d (E.ct d) = p := setβ_same E.β d (E.ct d) p
    refine ⟨_, _, v, E.D, setβ E.β d (E.ct d) p, hR, he, ?_⟩
    rw [eE]
    refine ⟨renV_rel rfl hβ hst (upd_same E.ob d (some b)) hv, Mem.rejoin hm hm3 d rfl hput fun o b' hb => ?_, hput⟩
    by_cases ho : o = d
    · subst ho
      have hb' : b' = b := by
        have : upd E.ob o (some b) o = some b' := hb
        rw [upd_same] at this
        exact (Option.some.inj this).symm
      subst hb'
      exact .inr ⟨rfl, Own.one hm3 rfl hβ hst⟩
    · refine .inl ⟨id, ?_, setβ_other _ _ (.inl ho)⟩
      have : upd E.ob d (some b) o = some b' := hb
      rwa [upd_other _ _ ho] at this

/-- **An operation, a call or not, is sound.** -/
theorem actD_wp {o : Oper} {a : Act} {next : Act → World → Prop} {Q : Exit → Act → World → Prop} (hm : Mem G E F w) (hg : ∀ x, Rel E (g x) (a.eval x)) (h : actD P G o g E.ob E.ct R)
    (hn : ∀ v us x w' D' β', R v us → Rel (E.upd D' β' us) v x → Mem G (E.upd D' β' us) F w' → Env.le E (E.upd D' β' us) → next (a.put o.dst x) w') : o.wp P a w next Q := by
  unfold actD at h
  cases hc : goCall o.op with
  | false =>
    rw [hc] at h
    obtain ⟨v, us, x, w', D', β', h1, h2, h3, h4, h5⟩ := act_sound hm hg h
    unfold Oper.wp
    rcases h2 with h2 | ⟨h2, rfl⟩
    · rw [h2]; exact hn v us x w' D' β' h1 h3 h4 h5
    · rw [h2]; exact hn v us undef w' D' β' h1 h3 h4 h5
  | true =>
    rw [hc] at h
    simp only [callD] at h
    split at h
    · rename_i c ho
      split at h
      · rename_i f hf
        split at h
        · rename_i fid caps hgf
          have hr := hg f
          rw [hgf] at hr
          have hr : PRel E.D (.fn fid caps) (a.eval f) := hr
          have : ∃ cv : List Value, a.eval f = .func (.func fid) #[] cv.toArray ∧ cv.length = caps.length ∧ ∀ (i : Nat) (s : SV) (v : Value), caps[i]? = some s → cv[i]? = some v → PRel E.D s v := by
            generalize a.eval f = fv at hr
            cases hr with
            | fn _ _ cv hl hh => exact ⟨cv, rfl, hl, hh⟩
          obtain ⟨cv, hfv, hl, hcr⟩ := this
          have hgood : Callable P fid ∧ CallGood P G F E R fid (c.args.toList.map a.eval ++ cv) w := by
            rcases h with h | h | h | h | h
            · exact callP_good hm hl hcr hg h
            · exact callF_good hm hl hcr hg h
            · exact callR_good hm hl hcr hg h
            · exact callB_good hm hl hcr hg h
            · exact callBF_good hm hl hcr hg h
          obtain ⟨hcl, hcalls⟩ := hgood
          unfold Oper.wp
          rw [call_run hcl ho hf hfv w]
          show Calls P fid _ w _
          refine hcalls.mono fun e w' => ?_
          rintro ⟨v, us, x, D', β', h1, rfl, h3, h4, h5⟩
          exact hn v us x w' D' β' h1 h3 h4 h5
        · exact h.elim
      · exact h.elim
    · exact h.elim
end
end Go.Proofs.Yticandbdabgkeaa.Am
