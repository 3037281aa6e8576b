/- From an argument as a statement reads it to the value that the proofs speak of. No condition: definitions and lemmas. -/
import Derived.Test.YticandbdabgkeaaAmD5
import Derived.ProofKit
import Derived.Deep.Slices
import Derived.OpenShut
namespace Go.Proofs.Yticandbdabgkeaa.Am
open Go Go.RowKit

/-- What a cell can hold, by its type. -/
inductive Shp where
  | bool
  | int (k : IntKind)
  | str
  | sl (S : List Shp)

mutual
inductive HasS : Shp → SV → Prop
  | bool (b : Bool) : HasS .bool (.bool b)
  | int (k : IntKind) (n : Int) (h : (Lit.int k n).wf = true) : HasS (.int k) (.int k n)
  | str (s : ByteArray) (h : s.size ≤ maxLen) : HasS .str (.str s)
  | sl (S : List Shp) (xs : List (List SV)) (h : ∀ e, e ∈ xs → HasSL S e) : HasS (.sl S) (.sl S.length xs)
inductive HasSL : List Shp → List SV → Prop
  | nil : HasSL [] []
  | cons (s : Shp) (S : List Shp) (v : SV) (l : List SV) (h : HasS s v) (t : HasSL S l) : HasSL (s :: S) (v :: l)
end

theorem HasSL.len : ∀ {S : List Shp} {l : List SV}, HasSL S l → l.length = S.length
  | [], _, h => by cases h; rfl
  | _ :: S, _, h => by
    cases h with
    | cons _ _ v l h t => simp [HasSL.len t]
theorem HasSL.app : ∀ {S T : List Shp} {l m : List SV}, HasSL S l → HasSL T m → HasSL (S ++ T) (l ++ m)
  | [], _, _, _, h, k => by cases h; exact k
  | _ :: S, _, _, _, h, k => by
    cases h with
    | cons _ _ v l h t => exact .cons _ _ _ _ h (HasSL.app t k)

def fldS (g : TypeId → Option (List Shp)) (P : Program) : List Field → Nat → Option (List Shp)
  | [], _ => some []
  | f :: r, off => match g f.type with
    | some S => if f.offset = off ∧ P.cellsOf f.type = S.length then (fldS g P r (off + S.length)).map (S ++ ·) else none
    | none => none
/-- The cells of a type. -/
def shpOf (P : Program) : Nat → TypeId → Option (List Shp)
  | 0, _ => none
  | n + 1, t => match P.underlying t with
    | some .bool => some [.bool]
    | some (.int k) => some [.int k]
    | some .string => some [.str]
    | some (.slice e) => match shpOf P n e with
      | some S => if P.cellsOf e = S.length ∧ 0 < S.length then some [.sl S] else none
      | none => none
    | some (.struct fs) => match fldS (shpOf P n) P fs.toList 0 with
      | some S => if P.cellsOf t = S.length then some S else none
      | none => none
    | some (.array m e) => match shpOf P n e with
      | some S => if P.cellsOf e = S.length ∧ P.cellsOf t = m * S.length then some (List.replicate m S).flatten else none
      | none => none
    | _ => none

def Dec (D : Rom) (S : List Shp) (cs : List Value) : Prop :=
  ∃ l, HasSL S l ∧ l.length = cs.length ∧ ∀ (i : Nat) (s : SV) (v : Value), l[i]? = some s → cs[i]? = some v → PRel D s v

theorem Dec.app {D : Rom} {S T : List Shp} {cs ds : List Value} (h : Dec D S cs) (k : Dec D T ds) : Dec D (S ++ T) (cs ++ ds) := by
  obtain ⟨l, h1, h2, h3⟩ := h
  obtain ⟨m, k1, k2, k3⟩ := k
  refine ⟨l ++ m, h1.app k1, by simp [h2, k2], fun i s v hs hv => ?_⟩
  rcases Nat.lt_or_ge i l.length with hi | hi
  · rw [List.getElem?_append_left hi] at hs
    rw [List.getElem?_append_left (by omega)] at hv
    exact h3 i s v hs hv
  · rw [List.getElem?_append_right hi] at hs
    rw [List.getElem?_append_right (by omega), ← h2] at hv
    exact k3 _ s v hs hv
theorem Dec.one {D : Rom} {s : Shp} {x : SV} {v : Value} (h : HasS s x) (k : PRel D x v) : Dec D [s] [v] :=
  ⟨[x], .cons _ _ _ _ h .nil, rfl, fun i a b ha hb => by
    cases i with
    | zero => simp at ha hb; subst ha; subst hb; exact k
    | succ i => simp at ha⟩

theorem decF {D : Rom} {P : Program} {g : TypeId → Option (List Shp)} {R : TypeId → List Value → Prop} (hg : ∀ t S cs, g t = some S → R t cs → Dec D S cs) (cs : List Value) :
    ∀ (fs : List Field) (off : Nat) (S : List Shp), fldS g P fs off = some S → (∀ f ∈ fs, R f.type ((cs.drop f.offset).take (P.cellsOf f.type))) → Dec D S ((cs.drop off).take S.length)
  | [], off, S, h, _ => by
    cases h
    exact ⟨[], .nil, by simp, fun i s v hs => by simp at hs⟩
  | f :: r, off, S, h, hR => by
    unfold fldS at h
    cases hS : g f.type with
    | none => rw [hS] at h; cases h
    | some S1 =>
      rw [hS] at h
      simp only at h
      split at h
      · rename_i hc
        obtain ⟨S2, h2, rfl⟩ := Option.map_eq_some_iff.1 h
        have d1 := hg _ _ _ hS (hR f (by simp))
        rw [hc.1, hc.2] at d1
        have d2 := decF hg cs r _ _ h2 fun f' hf' => hR f' (by simp [hf'])
        have := d1.app d2
        rw [List.length_append, List.take_add, List.drop_drop]
        exact this
      · cases h

theorem decA {D : Rom} {S : List Shp} (cs : List Value) : ∀ (m k : Nat), (∀ i, k ≤ i → i < k + m → Dec D S ((cs.drop (i * S.length)).take S.length)) → Dec D (List.replicate m S).flatten ((cs.drop (k * S.length)).take (m * S.length))
  | 0, k, _ => ⟨[], .nil, by simp, fun i s v hs => by simp at hs⟩
  | m + 1, k, h => by
    have d1 := h k (Nat.le_refl _) (by omega)
    have d2 := decA cs m (k + 1) fun i h1 h2 => h i (by omega) (by omega)
    have := d1.app d2
    rw [List.replicate_succ, List.flatten_cons, show (m + 1) * S.length = S.length + m * S.length by rw [Nat.succ_mul]; omega, List.take_add, List.drop_drop, show k * S.length + S.length = (k + 1) * S.length by rw [Nat.succ_mul]]
    exact this

theorem addr_add {a : Addr} (h : a.spot = none) (n : Nat) : a.add n = ⟨a.block, a.off + n, none⟩ := by
  obtain ⟨b, o, s⟩ := a
  cases h
  unfold Addr.add
  split
  · rename_i h0; subst h0; rfl
  · rfl
theorem cell_spot {w : World} {a : Addr} {v : Value} (h : w.cell? a = some v) : a.spot = none := by
  unfold World.cell? at h
  split at h
  · split at h
    · cases h
    · rename_i hs; simpa using hs
  · cases h

section
variable {H : Type} {enc : TypeId × Value → H} {P : Program} {w : World} {base : Nat} {spare : Nat → Bool} {held : Bool} {D : Rom}

theorem decode (hD : ∀ (b off : Nat) (v : Value), w.cell? ⟨b, off, none⟩ = some v → D.cell b off = some v) :
    ∀ (n : Nat) (t : TypeId) (S : List Shp), shpOf P n t = some S → ∀ (fuel : Nat) (cs : List Value) (x : DataW H × List MemPlace), DataW.trod enc P w base spare held fuel t cs = some x → Dec D S cs
  | 0, _, _, h, _, _, _, _ => by cases h
  | n + 1, t, S, h, fuel, cs, x, hx => by
    unfold shpOf at h
    split at h
    · rename_i ht
      cases h
      obtain ⟨b, rfl, _⟩ := DataW.trod_bool ht hx
      exact .one (.bool b) (.bool b)
    · rename_i k ht
      cases h
      obtain ⟨b, rfl, _, hw⟩ := DataW.trod_int ht hx
      exact .one (.int k b hw) (.int k b)
    · rename_i ht
      cases h
      obtain ⟨s, rfl, _, hs⟩ := DataW.trod_string ht hx
      exact .one (.str s hs) (.str s)
    · rename_i e ht
      split at h
      · rename_i T hT
        split at h
        · rename_i hc
          cases h
          rcases Go.Deep.open_slice ht hx with ⟨rfl, _⟩ | ⟨a, len, cap, m, n', Dt, Pl, rfl, hb, hl, hm, hmm, _, hel⟩
          · exact .one (.sl T [] (by simp)) (PRel.sl T.length [] none 0 0 0 (fun _ _ => undef) (by simp) (by simp) (.inl rfl) (by simp) (by simp))
          · have hlm : len ≤ m := by rw [hmm]; split <;> omega
            have hall : ∀ i, i < len → ∃ l : List SV, HasSL T l ∧ ∀ (j : Nat) (s : SV), l[j]? = some s → ∃ v, w.cell? ((a.add (i * T.length)).add j) = some v ∧ PRel D s v := fun i hi => by
              obtain ⟨cs', h1, h2⟩ := hel i (by omega)
              obtain ⟨l, l1, l2, l3⟩ := decode hD n e T hT _ _ _ h2
              obtain ⟨_, g2, g3⟩ := World.cells?_some h1
              refine ⟨l, l1, fun j s hs => ?_⟩
              have hj : j < cs'.length := by rw [← l2]; exact (List.getElem?_eq_some_iff.1 hs).1
              have hv := List.getElem?_eq_getElem hj
              refine ⟨_, ?_, l3 j s _ hs hv⟩
              rw [← hc.1, g3 j (by omega)]
              exact hv
            obtain ⟨f, hf⟩ := Go.Deep.choose_lt hall
            have hspot : len = 0 ∨ a.spot = none := by
              rcases Nat.eq_zero_or_pos len with h0 | h0
              · exact .inl h0
              · right
                obtain ⟨f1, f2⟩ := hf 0 h0
                have hlen := f1.len
                obtain ⟨v, hv, _⟩ := f2 0 (f 0)[0] (List.getElem?_eq_getElem (by omega))
                have h1 := cell_spot hv
                simpa [Addr.add] using h1
            have hget : ∀ (i : Nat) (e : List SV), ((List.range len).map f)[i]? = some e → i < len ∧ e = f i := fun i e he => by
              rw [List.getElem?_map] at he
              obtain ⟨k, hk1, hk2⟩ := Option.map_eq_some_iff.1 he
              obtain ⟨hi, hk⟩ := List.getElem?_eq_some_iff.1 hk1
              simp at hk hi
              subst hk
              exact ⟨hi, hk2.symm⟩
            have hcell : ∀ (i j : Nat) (e : List SV) (s : SV), ((List.range len).map f)[i]? = some e → e[j]? = some s → ∃ v, D.cell a.block (a.off + (i * T.length + j)) = some v ∧ PRel D s v := fun i j e s he hs => by
              obtain ⟨hi, rfl⟩ := hget i e he
              have hsp : a.spot = none := by
                rcases hspot with h0 | h0
                · omega
                · exact h0
              obtain ⟨v, hv, hp⟩ := (hf i hi).2 j s hs
              rw [addr_add hsp, addr_add rfl] at hv
              refine ⟨v, ?_, hp⟩
              rw [← Nat.add_assoc]
              exact hD _ _ _ hv
            have key : PRel D (.sl T.length ((List.range len).map f)) (.slice (some a) ((List.range len).map f).length cap) := by
              refine PRel.sl T.length _ (some a) cap a.block a.off (fun i j => (D.cell a.block (a.off + (i * T.length + j))).getD undef) (by simpa using hl) (fun i e he => ?_) ?_ (fun i j e s he hs => ?_) (fun i j e s he hs => ?_)
              · obtain ⟨hi, rfl⟩ := hget i e he
                exact (hf i hi).1.len
              · rcases hspot with h0 | h0
                · left; subst h0; rfl
                · right
                  obtain ⟨b, o, sp⟩ := a
                  cases h0
                  rfl
              · obtain ⟨v, hv, _⟩ := hcell i j e s he hs
                rw [hv]; rfl
              · obtain ⟨v, hv, hp⟩ := hcell i j e s he hs
                show PRel D s ((D.cell a.block (a.off + (i * T.length + j))).getD undef)
                rw [hv]; exact hp
            rw [show ((List.range len).map f).length = len by simp] at key
            refine .one (.sl T _ fun e he => ?_) key
            obtain ⟨i, hi, rfl⟩ := List.mem_map.1 he
            exact (hf i (List.mem_range.1 hi)).1
        · cases h
      · cases h
    · rename_i fs ht
      split at h
      · rename_i T hT
        split at h
        · rename_i hc
          cases h
          obtain ⟨xs, n', _, _, hl, hlen, hf⟩ := DataW.trod_struct ht hx
          have := decF (R := fun t cs => ∃ fuel x, DataW.trod enc P w base spare held fuel t cs = some x) (fun t S cs hS ⟨fuel, x, hx⟩ => decode hD n t S hS fuel cs x hx) cs fs.toList 0 S hT fun f hf' => by
            obtain ⟨i, hi⟩ := List.mem_iff_getElem?.1 hf'
            have hi' : fs[i]? = some f := by simpa using hi
            have h1 := hf i f hi'
            have hlt : i < xs.length := by rw [hlen]; exact (Array.getElem?_eq_some_iff.1 hi').1
            rw [List.getElem?_eq_getElem hlt] at h1
            exact ⟨_, _, h1⟩
          rw [List.drop_zero, ← hc, ← hl, List.take_length] at this
          exact this
        · cases h
      · cases h
    · rename_i m e ht
      split at h
      · rename_i T hT
        split at h
        · rename_i hc
          cases h
          obtain ⟨xs, n', _, _, hl, hlen, hf⟩ := DataW.trod_array ht hx
          have := decA (D := D) (S := T) cs m 0 fun i _ hi => by
            have h1 := hf i (by omega)
            rw [List.getElem?_eq_getElem (by omega), hc.1] at h1
            exact decode hD n e T hT _ _ _ h1
          rw [Nat.zero_mul, List.drop_zero, ← hc.2, ← hl, List.take_length] at this
          exact this
        · cases h
      · cases h
    · cases h
end
end Go.Proofs.Yticandbdabgkeaa.Am
