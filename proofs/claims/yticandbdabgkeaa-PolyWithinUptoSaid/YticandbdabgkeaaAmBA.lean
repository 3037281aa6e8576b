/- What single operations come to: parts of rows set to zero, rows made by an append of zeros, comparisons with nil. No condition: lemmas. -/
import Derived.Test.YticandbdabgkeaaAmB9
namespace Go.Proofs.Yticandbdabgkeaa.Am
open Go

section
variable {P : Program} {G : Nat → List SV} {F : Nat → Option Obj} {E : Env} {R : SV → List Upd → Prop} {w : World}

theorem zeroCells_one {z : Array Value} {n : Nat} (h : ∀ v ∈ z.toList, v.oneCell' = true) : ∀ v ∈ (Builtin.zeroCells z n).toList, v.oneCell' = true := fun v hv => by
  unfold Builtin.zeroCells at hv
  simp only [Array.toList_map, List.mem_map, Array.toList_range, List.mem_range] at hv
  obtain ⟨k, hk, rfl⟩ := hv
  have hz : 0 < z.size := by
    rcases Nat.eq_zero_or_pos z.size with e | e
    · rw [e] at hk; simp at hk
    · exact e
  have hlt : k % z.size < z.size := Nat.mod_lt _ hz
  rw [getElem!_pos z (k % z.size) hlt]
  exact h _ (by simp)

theorem clear_sound (hm : Mem G E F w) {t el rt : TypeId} {x : Value} {s : SV} (hu : P.underlying t = some (.slice el))
    (h : zeroK P el fun zs => sizeK P el fun z => lenIs zs z = true ∧ match s with
      | .lsl o' st lo n => match E.ob o' with
        | some ⟨st', kd, z', xs⟩ => st = st' ∧ z' = z ∧ lo + n ≤ xs.length ∧ match kd with
          | 1 => R (.tup []) [⟨o', ⟨st', 1, z', xs.take lo ++ List.replicate n zs ++ xs.drop (lo + n)⟩, false⟩]
          | _ => False
        | none => False
      | _ => False) (hr : Rel E s x) : GoodV G F E R ((Builtin.clear_ #[t] rt #[x]).run P w) := by
  obtain ⟨i, zv, hi, hz, h, hl, hcb, hrel⟩ := zeroK_sound E.D h
  obtain ⟨i', hi', hln, h⟩ := sizeK_spec h
  rw [hi] at hi'
  cases hi'
  have hln := lenIs_spec hln
  cases s with
  | lsl o st lo n =>
    simp only at h
    cases hb : E.ob o with
    | none => rw [hb] at h; exact h.elim
    | some b =>
      obtain ⟨st', kd, z', xs⟩ := b
      rw [hb] at h
      obtain ⟨rfl, rfl, hfit, h⟩ := h
      match kd, h, hb with
      | 1, h, hb =>
        have htup : ∀ E' : Env, Rel E' (.tup []) (.tuple #[]) := fun E' => ⟨[], rfl, rfl, fun i s v hi => by simp at hi⟩
        have hsl : SlAt (E.β o st) ⟨st, 1, i.size, xs⟩ lo n x := hr.2.2 _ hb rfl
        by_cases hn0 : n = 0
        · subst hn0
          have hxs : xs.take lo ++ List.replicate 0 (ofCs zv.cells.toList) ++ xs.drop (lo + 0) = xs := by simp
          rw [hxs] at h
          have hx : ∃ A cap, x = .slice A 0 cap := by
            unfold SlAt at hsl
            split at hsl
            · exact ⟨none, 0, hsl.2.2⟩
            · obtain ⟨A, cap, hx, _⟩ := hsl
              exact ⟨A, cap, hx⟩
          obtain ⟨A, cap, rfl⟩ := hx
          have hrun : (Builtin.clear_ #[t] rt #[.slice A 0 cap]).run P w = .ok (.tuple #[]) w := by
            cases A <;> simp [Builtin.clear_, run_underlying hu]
          rw [hrun]
          have e : E.upd E.D E.β [⟨o, ⟨st, 1, i.size, xs⟩, false⟩] = E := by
            show (⟨E.D, E.β, upd E.ob o (some ⟨st, 1, i.size, xs⟩), E.ct⟩ : Env) = E
            rw [← hb, upd_self]
          exact ⟨_, _, _, w, E.D, E.β, h, rfl, htup _, by rw [e]; exact hm, by rw [e]; exact Env.le.refl E⟩
        · cases hq : E.β o st with
          | none => rw [hq] at hsl; exact absurd hsl.2.1 hn0
          | some q =>
            rw [hq] at hsl
            obtain ⟨A, cap, rfl, hnc, hcap, hA⟩ := hsl
            have hA : A = some ⟨q.1, lo * i.size, none⟩ := by
              rcases hA with ⟨h0, _⟩ | hA
              · exact absurd h0 hn0
              · exact hA
            subst hA
            have ho := hm.own o _ hb
            obtain ⟨h1, h2, c, ty, h3, h4, h5⟩ := ho.live (by simp) q hq
            have hzl : zv.cells.toList.length = i.size := hl.trans hln
            have hzs : zv.cells.size = i.size := by simpa using hzl
            obtain ⟨r1, r2, r3⟩ := replicate_row (D := E.D) (len := n) (z := zv.cells) hln hzl hrel
            have hvs : Builtin.zeroCells zv.cells n = (Array.range (n * i.size)).map (zv.cells[· % zv.cells.size]!) := by unfold Builtin.zeroCells; rw [hzs]
            rw [← hvs] at r1 r3
            have hvl : (Builtin.zeroCells zv.cells n).toList.length = n * i.size := by simpa using r1
            have hone : ∀ v ∈ (Builtin.zeroCells zv.cells n).toList, v.oneCell' = true := zeroCells_one fun v hv => by
              obtain ⟨k, hk, rfl⟩ := List.mem_iff_getElem.1 hv
              exact (hrel k _ _ (List.getElem?_eq_getElem (by rw [← hl]; exact hk)) (List.getElem?_eq_getElem hk)).oneCell
            have hxl : xs.length * i.size ≤ q.2 := ho.fits q hq
            have hfits : lo * i.size + (Builtin.zeroCells zv.cells n).toList.length ≤ c.size := by
              rw [hvl, ← Nat.add_mul, h4]
              exact Nat.le_trans (Nat.mul_le_mul_right _ hfit) hxl
            have hst := run_storeCells_at P q.1 (lo * i.size) ty _ 0 c w h3 (by simpa using hfits) hone
            simp only [Nat.add_zero] at hst
            have hrun : (Builtin.clear_ #[t] rt #[.slice (some ⟨q.1, lo * i.size, none⟩) n cap]).run P w = .ok (.tuple #[]) (w.setRow q.1 (c.toList.take (lo * i.size) ++ (Builtin.zeroCells zv.cells n).toList ++ c.toList.drop (lo * i.size + (Builtin.zeroCells zv.cells n).toList.length)).toArray) := by
              cases n with
              | zero => exact absurd rfl hn0
              | succ n => simp [Builtin.clear_, run_underlying hu, zeroValue, typeInfo, hi, hz, hst]
            rw [hrun]
            have hst2 : st < E.ct o → (∃ b0, E.ob o = some b0 ∧ b0.st = st ∧ b0.z = i.size ∧ b0.xs.length = (xs.take lo ++ List.replicate n (ofCs zv.cells.toList) ++ xs.drop (lo + n)).length) ∧ E.β o st = some q := fun _ =>
              ⟨⟨_, hb, rfl, rfl, by simp; omega⟩, hq⟩
            have hle := Env.put_le (E := E) (o := o) (b := ⟨st, 1, i.size, xs.take lo ++ List.replicate n (ofCs zv.cells.toList) ++ xs.drop (lo + n)⟩) (p := some q) (Nat.le_refl _) hst2
            have ect : (E.put o ⟨st, 1, i.size, xs.take lo ++ List.replicate n (ofCs zv.cells.toList) ++ xs.drop (lo + n)⟩ (some q) (E.ct o)) = E.upd E.D (setβ E.β o st (some q)) [⟨o, ⟨st, 1, i.size, xs.take lo ++ List.replicate n (ofCs zv.cells.toList) ++ xs.drop (lo + n)⟩, false⟩] := by
              have h0 : upd E.ct o (E.ct o) = E.ct := upd_self E.ct o
              unfold Env.put
              rw [h0]
              rfl
            refine ⟨_, _, _, _, E.D, setβ E.β o st (some q), h, rfl, htup _, ?_, ?_⟩
            · rw [← ect]
              refine Mem.put hm (Nat.le_refl _) hst2 rfl rfl rfl (fun k hk => .inl (setRow_other' w q.1 k _ (hk q rfl))) (fun q' hq' => ?_) ?_
              · cases hq'
                exact ⟨h1, h2, fun o' b' x hne hb' hk' hx he' => hne (hm.inj o' o b' _ x q hb' hb hk' (by simp) hx hq he')⟩
              · have hβ : (E.put o ⟨st, 1, i.size, xs.take lo ++ List.replicate n (ofCs zv.cells.toList) ++ xs.drop (lo + n)⟩ (some q) (E.ct o)).β o st = some q := setβ_same _ _ _ _
                have hget : ∀ k, (xs.take lo ++ List.replicate n (ofCs zv.cells.toList) ++ xs.drop (lo + n))[k]? = if lo ≤ k ∧ k < lo + n then (List.replicate n (ofCs zv.cells.toList))[k - lo]? else xs[k]? := fun k => by
                  have := splice_get (l := xs) (a := lo) (cs := List.replicate n (ofCs zv.cells.toList)) (by simpa using hfit) k
                  simpa using this
                refine ⟨?_, fun k e' hk => ?_, fun h => ?_, fun q' hq' => ?_, fun _ q' hq' => ?_, fun h => absurd h (by simp)⟩
                · show st < upd E.ct o (E.ct o) o
                  rw [upd_same]; exact ho.st
                · replace hk : (xs.take lo ++ List.replicate n (ofCs zv.cells.toList) ++ xs.drop (lo + n))[k]? = some e' := hk
                  rw [hget] at hk
                  split at hk
                  · exact r2 _ e' hk
                  · exact ho.len k e' hk
                · rw [hβ] at h; cases h
                · rw [hβ] at hq'; cases hq'
                  show (xs.take lo ++ List.replicate n (ofCs zv.cells.toList) ++ xs.drop (lo + n)).length * i.size ≤ q.2
                  rw [show (xs.take lo ++ List.replicate n (ofCs zv.cells.toList) ++ xs.drop (lo + n)).length = xs.length by simp; omega]
                  exact hxl
                · rw [hβ] at hq'
                  cases hq'
                  refine ⟨h1, h2, _, ty, setRow_heap w q.1 c _ ty _ h3, ?_, fun k j' e' s hk hs => ?_⟩
                  · have r4 : (Builtin.zeroCells zv.cells n).size = n * i.size := by simpa using r1
                    simp only [List.size_toArray, List.length_append, List.length_take, List.length_drop, Array.length_toList]
                    omega
                  · replace hk : (xs.take lo ++ List.replicate n (ofCs zv.cells.toList) ++ xs.drop (lo + n))[k]? = some e' := hk
                    show ∃ v, (c.toList.take (lo * i.size) ++ (Builtin.zeroCells zv.cells n).toList ++ c.toList.drop (lo * i.size + (Builtin.zeroCells zv.cells n).toList.length)).toArray[k * i.size + j']? = some v ∧ _
                    simp only [List.getElem?_toArray]
                    rw [splice_get (by simpa using hfits), hvl]
                    rw [hget] at hk
                    by_cases hin : lo ≤ k ∧ k < lo + n
                    · rw [if_pos hin] at hk
                      obtain ⟨v, g1, g2⟩ := r3 (k - lo) j' e' s hk hs
                      have hj' : j' < i.size := by
                        have := (List.getElem?_eq_some_iff.1 hs).1
                        rw [r2 _ e' hk] at this; exact this
                      have e1 : k * i.size = lo * i.size + (k - lo) * i.size := by rw [← Nat.add_mul]; congr 1; omega
                      have e2 : (k - lo) * i.size + i.size ≤ n * i.size := by
                        rw [← Nat.succ_mul]; exact Nat.mul_le_mul_right _ (by omega)
                      refine ⟨v, ?_, (Rel0.of_pure g2).mono hle, fun _ => g2⟩
                      rw [if_pos (by omega), ← g1, ← Array.getElem?_toList]
                      congr 1
                      omega
                    · rw [if_neg hin] at hk
                      obtain ⟨v, g1, g2, g3⟩ := h5 k j' e' s hk hs
                      refine ⟨v, ?_, g2.mono hle, fun _ => g3 rfl⟩
                      have hj' : j' < i.size := by
                        have := (List.getElem?_eq_some_iff.1 hs).1
                        have h6 := ho.len k e' hk
                        simp only at h6
                        omega
                      rw [if_neg]
                      · simpa using g1
                      · rintro ⟨a1, a2⟩
                        apply hin
                        constructor
                        · rcases Nat.lt_or_ge k lo with hlt | hge
                          · have := Nat.mul_le_mul_right i.size (show k + 1 ≤ lo from hlt)
                            rw [Nat.add_mul] at this
                            omega
                          · exact hge
                        · rcases Nat.lt_or_ge k (lo + n) with hlt | hge
                          · exact hlt
                          · have := Nat.mul_le_mul_right i.size hge
                            rw [Nat.add_mul] at this
                            omega
            · rw [← ect]; exact hle
  | _ => exact h.elim

theorem appendZ_sound (hm : Mem G E F w) {tx ty rt el : TypeId} {k0 : IntKind} {n : Int} {d : Nat} (hx : P.underlying tx = some (.slice el)) (hy : P.underlying ty = some (.int k0))
    (h : zeroK P el fun zs => sizeK P el fun z => lenIs zs z = true ∧ 1 ≤ n ∧ n * 4096 ≤ 140737488355328 ∧
      (match P.info? el with | some i => (Nat.blt 0 i.bytes && Nat.blt 0 i.size && Nat.ble i.bytes 4096) = true | none => False) ∧ R (.lrow d (E.ct d)) [⟨d, ⟨E.ct d, 1, z, List.replicate n.toNat zs⟩, true⟩]) :
    GoodV G F E R ((Builtin.append_ #[tx, ty] rt #[.slice none 0 0, .int .i64 n]).run P w) := by
  obtain ⟨i, z, hi, hz, h, hl, _, hrel⟩ := zeroK_sound E.D h
  obtain ⟨i', hi', hln, h1n, hbig, hby, hR⟩ := sizeK_spec h
  rw [hi] at hi' hby
  cases hi'
  have hln := lenIs_spec hln
  replace hby : (Nat.blt 0 i.bytes && Nat.blt 0 i.size && Nat.ble i.bytes 4096) = true := hby
  simp only [Bool.and_eq_true, Nat.blt, Nat.ble_eq] at hby
  obtain ⟨⟨hb0, hs0⟩, hb1⟩ := hby
  obtain ⟨m, rfl⟩ : ∃ m : Nat, n = (m : Int) := ⟨n.toNat, by omega⟩
  rw [Int.toNat_natCast] at hR
  have hm1 : 1 ≤ m := by omega
  have hroom : m * i.bytes ≤ 140737488355328 := by
    have := Nat.mul_le_mul_left m hb1
    omega
  have hzl : z.cells.toList.length = i.size := hl.trans hln
  have hzs : z.cells.size = i.size := by simpa using hzl
  have hfitc := growslice_fits (need := m) (old := 0) (bytes := i.bytes) (by omega) hroom
  have hw : IntKind.i64.wrap (m : Int) = m := wrap_in (by show (-9223372036854775808 : Int) ≤ _; omega) (by show _ ≤ (9223372036854775807 : Int); omega)
  have hbn : ¬ (281474976710656 < (m : Int) * (i.bytes : Int)) := by
    have : ((m * i.bytes : Nat) : Int) ≤ 140737488355328 := by omega
    rw [Int.natCast_mul] at this
    omega
  have hge := grownCap_ge w m 0 el
  have hrun : (Builtin.append_ #[tx, ty] rt #[.slice none 0 0, .int .i64 (m : Int)]).run P w =
      .ok (.slice (some ⟨w.heap.size, 0, none⟩) m (grownCap w m 0 el))
        { w with drawn := w.drawn + 1, heap := w.heap.push (.cells (Builtin.zeroCells z.cells m ++ Builtin.zeroCells z.cells (grownCap w m 0 el - m)) el) } := by
    have hms : ¬ (m * i.size = 0) := by rw [Nat.mul_eq_zero]; omega
    have hn : ¬ (m = 0) := by omega
    have hneg : ¬ ((m : Int) < 0) := by omega
    have h63' : ¬ (9223372036854775807 < (m : Int)) := by omega
    have h48' : ¬ (281474976710656 < Builtin.nextslicecap m 0 * i.bytes) := by
      omega
    simp [Builtin.append_, run_underlying hx, run_underlying hy, sizeOf, typeInfo, zeroValue, hi, hz, asInt, asIntOf, hw, hneg, hbn, hn, hms, h63', h48', Question.forced, newRow, grownCap, Builtin.firstCells]
    rfl
  rw [hrun]
  obtain ⟨r1, r2, r3⟩ := replicate_row (D := E.D) (len := m) (z := z.cells) hln hzl hrel
  have hvs : Builtin.zeroCells z.cells m = (Array.range (m * i.size)).map (z.cells[· % z.cells.size]!) := by unfold Builtin.zeroCells; rw [hzs]
  rw [← hvs] at r1 r3
  obtain ⟨g1, g2⟩ := new_sound hm.drawn1 d 1 i.size _ (List.replicate m (ofCs z.cells.toList)) (Builtin.zeroCells z.cells m ++ Builtin.zeroCells z.cells (grownCap w m 0 el - m)) el (by omega) r2 rfl
    (by rw [Array.size_append, r1]; omega)
    (fun k j e s hk hj => by
      obtain ⟨u, h1, h2⟩ := r3 k j e s hk hj
      refine ⟨u, ?_, Rel0.of_pure h2, fun _ => h2⟩
      rw [Array.getElem?_append, if_pos (Array.getElem?_eq_some_iff.1 h1).1]
      exact h1)
  refine ⟨_, _, _, _, E.D, _, hR, rfl, ?_, g1, g2⟩
  refine Rel.of0 ⟨?_, rfl, fun b hb _ => ?_⟩
  · show E.ct d < upd E.ct d (E.ct d + 1) d
    rw [upd_same]; omega
  · replace hb : upd E.ob d (some ⟨E.ct d, 1, i.size, List.replicate m (ofCs z.cells.toList)⟩) d = some b := hb
    rw [upd_same] at hb
    cases hb
    show RowAt (setβ E.β d (E.ct d) _ d (E.ct d)) _ _
    rw [setβ_same]
    refine ⟨grownCap w m 0 el, by simp, ?_, by simpa using hge⟩
    show grownCap w m 0 el * i.size ≤ (Builtin.zeroCells z.cells m ++ Builtin.zeroCells z.cells (grownCap w m 0 el - m)).size
    rw [Array.size_append, size_zeroCells, size_zeroCells, hzs, ← Nat.add_mul]
    exact Nat.mul_le_mul_right _ (by omega)

/-! ### Comparisons with nil -/
theorem run_equalIn_slice (n : Nat) {t el : TypeId} (hu : P.underlying t = some (.slice el)) (A : Option Addr) (k c : Nat) : (Op.equalIn (n + 1) t (.slice A k c) (.slice none 0 0)).run P w = .ok A.isNone w := by
  cases A <;> simp [Op.equalIn, run_underlying hu]
theorem run_equalIn_ptr (n : Nat) {t el : TypeId} (hu : P.underlying t = some (.pointer el)) (a : Addr) : (Op.equalIn (n + 1) t (.pointer (some a)) (.pointer none)).run P w = .ok false w := by
  simp [Op.equalIn, run_underlying hu]
theorem nilEq_slice (hm : Mem G E F w) {op : BinOp} {t el : TypeId} {A : Option Addr} {n cap : Nat} {b : Bool} (hu : P.underlying t = some (.slice el)) (h : nilEqK op b R) (hb : (A = none ∧ b = true) ∨ (A ≠ none ∧ b = false)) (x y : Operand) :
    GoodV G F E R ((do eqGuard op t x y (.slice A n cap) (.slice none 0 0); binOp op t (.slice A n cap) (.slice none 0 0) : Sem Value).run P w) := by
  rw [Sem.run_bind, eqGuard_at_slice, Sem.run_pure, Result.andThen_ok]
  have he : (Op.equal t (.slice A n cap) (.slice none 0 0)).run P w = .ok b w := by
    have hbA : b = A.isNone := by
      rcases hb with ⟨rfl, rfl⟩ | ⟨hA, rfl⟩
      · rfl
      · cases A with
        | none => exact absurd rfl hA
        | some a => rfl
    rw [hbA]
    simp only [Op.equal, Op.maxDepth]
    exact run_equalIn_slice _ hu A n cap
  cases op <;> try exact h.elim
  case eql =>
    have : (binOp .eql t (.slice A n cap) (.slice none 0 0)).run P w = .ok (.bool b) w := by simp [binOp, he]
    rw [this]
    exact GoodV.same hm h (Rel.of0 (Rel0.of_pure (.bool b)))
  case neq =>
    have : (binOp .neq t (.slice A n cap) (.slice none 0 0)).run P w = .ok (.bool (!b)) w := by simp [binOp, he]
    rw [this]
    exact GoodV.same hm h (Rel.of0 (Rel0.of_pure (.bool (!b))))

theorem nilEq_ptr (hm : Mem G E F w) {op : BinOp} {t el : TypeId} {a : Addr} (hu : P.underlying t = some (.pointer el)) (h : nilEqK op false R) (x y : Operand) :
    GoodV G F E R ((do eqGuard op t x y (.pointer (some a)) (.pointer none); binOp op t (.pointer (some a)) (.pointer none) : Sem Value).run P w) := by
  rw [Sem.run_bind, eqGuard_at_pointer, Sem.run_pure, Result.andThen_ok]
  have he : (Op.equal t (.pointer (some a)) (.pointer none)).run P w = .ok false w := by
    simp only [Op.equal, Op.maxDepth]
    exact run_equalIn_ptr _ hu a
  cases op <;> try exact h.elim
  case eql =>
    have : (binOp .eql t (.pointer (some a)) (.pointer none)).run P w = .ok (.bool false) w := by simp [binOp, he]
    rw [this]
    exact GoodV.same hm h (Rel.of0 (Rel0.of_pure (.bool false)))
  case neq =>
    have : (binOp .neq t (.pointer (some a)) (.pointer none)).run P w = .ok (.bool (!false)) w := by simp [binOp, he]
    rw [this]
    exact GoodV.same hm h (Rel.of0 (Rel0.of_pure (.bool (!false))))
end
end Go.Proofs.Yticandbdabgkeaa.Am
