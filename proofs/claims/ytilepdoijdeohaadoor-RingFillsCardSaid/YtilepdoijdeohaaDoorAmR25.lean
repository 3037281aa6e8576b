/- What cleaning rings does: plain lemmas. No condition: definitions and lemmas. -/
import Derived.Test.YtilepdoijdeohaaDoorAmR24
namespace Go.Proofs.YtilepdoijdeohaaDoor.Am
open Go

theorem apart_mono {p q : XY} {low high : Int} (h : low ≤ high) (k : apartN p q high = true) : apartN p q low = true := by
  simp only [apartN, Bool.or_eq_true, decide_eq_true_eq] at *
  omega
theorem outStep_mono {l : List Rd} {i : Nat} {low high step : Int} (h : low ≤ high) (k : outStep l i high step = true) : outStep l i low step = true := by
  simp only [outStep, Bool.and_eq_true] at *
  exact ⟨k.1, apart_mono h k.2⟩
theorem out_mono {l : List Rd} {i : Nat} {low high : Int} (h : low ≤ high) (k : outN l i high = true) : outN l i low = true := by
  simp only [outN, Bool.and_eq_true] at *
  exact ⟨k.1, outStep_mono h k.2.1, outStep_mono h k.2.2⟩

theorem apart_rot (p q : XY) (L : Int) : apartN (rot p) (rot q) L = apartN p q L := by
  rw [Bool.eq_iff_iff]
  unfold apartN
  simp only [Bool.or_eq_true, decide_eq_true_eq]
  simp only [rot]
  omega
theorem apart_rotN (p q : XY) (L : Int) : ∀ k, apartN (rotN k p) (rotN k q) L = apartN p q L
  | 0 => rfl
  | k + 1 => by rw [rotN, rotN, apart_rot, apart_rotN p q L k]
theorem rotN_zero : ∀ k, rotN k ⟨0, 0⟩ = ⟨0, 0⟩
  | 0 => rfl
  | k + 1 => by rw [rotN, rotN_zero k]; rfl
theorem turnRd_p {k : Nat} {x : Rd} (h : rdErr x = 0) : (turnRd k x).p = rotN k x.p := by
  unfold turnRd
  split
  · rfl
  · rename_i hk
    rw [(rdErr_small h).2 (by simpa using hk), rotN_zero]

theorem seekN_congr {l m : List Rd} (hl : m.length = l.length) (h : ∀ i, okAt m i = okAt l i) (at_ : Nat) (step : Int) : ∀ f j, seekN m at_ step f j = seekN l at_ step f j
  | 0, _ => rfl
  | f + 1, j => by rw [seekN, seekN, hl, h, seekN_congr hl h at_ step f (j + 1)]
theorem okAt_turn {l : List Rd} (k i : Nat) : okAt (l.map (turnRd k)) i = okAt l i := by
  unfold okAt
  rw [List.getElem?_map]
  cases l[i]? with
  | none => rfl
  | some x => exact turnRd_ok k x
theorem nbrN_turn (l : List Rd) (k at_ : Nat) (step : Int) : nbrN (l.map (turnRd k)) at_ step = nbrN l at_ step := by
  unfold nbrN
  rw [List.length_map]
  exact seekN_congr (by simp) (okAt_turn k) at_ step _ _
theorem outStep_turn {l : List Rd} (hl : ∀ x ∈ l, rdErr x = 0) (k i : Nat) (hi : i < l.length) (L step : Int) : outStep (l.map (turnRd k)) i L step = outStep l i L step := by
  have hn := nbrN_lt l i step hi
  unfold outStep
  rw [nbrN_turn, rdAt_map hi, rdAt_map hn, turnRd_p (hl _ (rdAt_mem hi)), turnRd_p (hl _ (rdAt_mem hn)), apart_rotN]
theorem out_turn {l : List Rd} (hl : ∀ x ∈ l, rdErr x = 0) (k i : Nat) (hi : i < l.length) (L : Int) : outN (l.map (turnRd k)) i L = outN l i L := by
  unfold outN
  rw [outStep_turn hl k i hi, outStep_turn hl k i hi, rdAt_map hi, turnRd_ok]

theorem clean_eq {r : Rg} (ho : Okay r) {L : Int} (hL : 0 ≤ L) : cleanN r L = ⟨r.z, (List.range r.l.length).map (clean1N r false L)⟩ := by
  have : refusedN r L = false := by simp [refusedN, check_okay.2 ho]; omega
  unfold cleanN
  rw [this]
theorem clean_at {r : Rg} (ho : Okay r) {L : Int} (hL : 0 ≤ L) {i : Nat} (hi : i < r.l.length) : rdAt (cleanN r L).l i = if outN r.l i L = true then gapN else rdAt r.l i := by
  rw [clean_eq ho hL]
  refine (rdAt_range hi).trans ?_
  unfold clean1N
  simp
theorem Okay.clean {r : Rg} (ho : Okay r) {L : Int} (hL : 0 ≤ L) : Okay (cleanN r L) := by
  refine ⟨by rw [cleanN_length]; exact ho.low, by rw [cleanN_length]; exact ho.high, ho.z0, ho.z1, fun x hx => ?_⟩
  rw [clean_eq ho hL] at hx
  obtain ⟨i, hi, rfl⟩ := List.mem_map.1 hx
  have hi : i < r.l.length := by simpa using hi
  unfold clean1N
  split
  · rfl
  · exact ho.rd _ (rdAt_mem hi)
theorem clean_neg {r : Rg} {L : Int} (hL : L < 0) : cleanN r L = r := clean_self r L fun i _ => by simp [refusedN, hL]
theorem rd_range {x : Rd} (h : rdErr x = 0) : -600 ≤ x.p.x ∧ x.p.x ≤ 600 ∧ -600 ≤ x.p.y ∧ x.p.y ≤ 600 := by
  cases hk : x.ok with
  | true => exact (rdErr_small h).1 hk
  | false => rw [(rdErr_small h).2 hk]; simp
theorem clean_most {r : Rg} (ho : Okay r) : cleanN r 1200 = r := clean_self r 1200 fun i hi => by
  have hn := nbrN_lt r.l i (-1) hi
  have h1 := rd_range (ho.rd _ (rdAt_mem hi))
  have h2 := rd_range (ho.rd _ (rdAt_mem hn))
  have : apartN (rdAt r.l i).p (rdAt r.l (nbrN r.l i (-1))).p 1200 = false := by
    rw [Bool.eq_false_iff]
    intro h
    simp only [apartN, Bool.or_eq_true, decide_eq_true_eq] at h
    omega
  simp [outN, outStep, this]
theorem clean_turn {r : Rg} (ho : Okay r) {L : Int} (hL : 0 ≤ L) (q : Int) : cleanN (turnR r q) L = turnR (cleanN r L) q := by
  rw [clean_eq (ho.turn q) hL, turnR_eq (ho.clean hL)]
  have hz : (turnR r q).z = (cleanN r L).z := by rw [turnR_eq ho]; rfl
  rw [hz]
  congr 1
  refine rd_ext (by simp [turnR_length, cleanN_length]) fun i hi => ?_
  have hi : i < r.l.length := by simpa [turnR_length] using hi
  rw [rdAt_range (by rw [turnR_length]; exact hi), rdAt_map (by rw [cleanN_length]; exact hi), clean_at ho hL hi]
  unfold clean1N
  have e : (turnR r q).l = r.l.map (turnRd (q % 4).toNat) := by rw [turnR_eq ho]
  rw [e, out_turn ho.rd _ _ hi, rdAt_map hi]
  simp only [Bool.not_false, Bool.true_and]
  split <;> rfl
theorem clean_keeps {r : Rg} (ho : Okay r) {low high : Int} (h0 : 0 ≤ low) (h : low ≤ high) {i : Nat} (hi : i < r.l.length) (hk : (rdAt (cleanN r low).l i).ok = true) :
    rdAt (cleanN r low).l i = rdAt r.l i ∧ (rdAt (cleanN r high).l i).ok = true := by
  rw [clean_at ho h0 hi] at hk ⊢
  rw [clean_at ho (by omega) hi]
  by_cases hout : outN r.l i low = true
  · rw [if_pos hout] at hk
    cases hk
  · rw [if_neg hout] at hk ⊢
    rw [if_neg (fun h2 => hout (out_mono h h2))]
    exact ⟨rfl, hk⟩
end Go.Proofs.YtilepdoijdeohaaDoor.Am
