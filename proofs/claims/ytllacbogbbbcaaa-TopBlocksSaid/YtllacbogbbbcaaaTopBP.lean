/- Blocks of a map as a set of runs, plainly. -/
import Derived.Test.YtllacbogbbbcaaaBitP
import Derived.Test.YtllacbogbbbcaaaExtP
namespace Go.Proofs.Ytllacbogbbbcaaa
open Go Go.RowKit
set_option linter.unusedVariables false

/-- The runs are the map's blocks. -/
def RunsOf (l : List Rn) (t : Nat) : Prop := runsE l = 0 ∧ ∀ p : Int, hasB l p = true ↔ (0 ≤ p ∧ p < 32 ∧ t.testBit p.toNat = true)
theorem runs_zero : RunsOf [] 0 := ⟨by decide, fun p => by simp [hasB]⟩
theorem hasB_mem {l : List Rn} {r : Rn} {p : Int} (hr : r ∈ l) (h1 : r.1 ≤ p) (h2 : p < r.1 + r.2) : hasB l p = true := by
  unfold hasB
  rw [List.any_eq_true]
  exact ⟨r, hr, by simp [inR, h1, h2]⟩
theorem runs_room : ∀ {l : List Rn} {e : Int}, runsLoop e l = 0 → (∀ r ∈ l, r.1 + r.2 ≤ 32) → e ≤ 32 → 2 * (l.length : Int) ≤ 32 - e
  | [], e, _, _, h => by simp; omega
  | r :: l, e, h, hr, he => by
    obtain ⟨h1, h2, h3⟩ := runsLoop_cons.1 h
    have h4 := hr r (by simp)
    obtain ⟨a1, a2, a3, a4⟩ := h1
    have := runs_room h3 (fun q hq => hr q (by simp [hq])) (by omega)
    simp only [List.length_cons]
    omega
theorem runs_short {l : List Rn} (h : runsLoop (-1) l = 0) (hb : ∀ p : Int, hasB l p = true → p < 32) : l.length ≤ 16 := by
  have := runs_room h (fun r hr => by
    obtain ⟨a1, a2, a3, a4⟩ := okR_mem h r hr
    have := hb (r.1 + r.2 - 1) (hasB_mem hr (by omega) (by omega))
    omega) (by omega)
  omega
theorem inR_bit (a n : Nat) (p : Int) (h0 : 0 ≤ p) : inR ((a : Int), (n : Int)) p = (decide (a ≤ p.toNat) && decide (p.toNat < a + n)) := by
  unfold inR
  have e1 : decide ((a : Int) ≤ p) = decide (a ≤ p.toNat) := by rw [decide_eq_decide]; omega
  have e2 : decide (p < (a : Int) + (n : Int)) = decide (p.toNat < a + n) := by rw [decide_eq_decide]; omega
  show (decide ((a : Int) ≤ p) && decide (p < (a : Int) + (n : Int))) = _
  rw [e1, e2]
theorem runs_ch {op : Bool → Bool → Bool} {l : List Rn} {t u a n : Nat} (h : RunsOf l t) (hn : 1 ≤ n) (han : a + n ≤ 32) (hop : op false false = false)
    (hu : ∀ i, i < 32 → u.testBit i = op (t.testBit i) (decide (a ≤ i) && decide (i < a + n))) : chE op l ((a : Int), (n : Int)) = 0 ∧ RunsOf (chL op l ((a : Int), (n : Int))) u := by
  have hr : okR ((a : Int), (n : Int)) := ⟨by show (0 : Int) ≤ (a : Int); omega, by show (a : Int) ≤ 999; omega, by show (1 : Int) ≤ (n : Int); omega, by show (n : Int) ≤ 1000 - (a : Int); omega⟩
  have hl : ∀ p : Int, 0 ≤ p → hasB l p = (decide (p < 32) && t.testBit p.toNat) := fun p h0 => by
    rw [Bool.eq_iff_iff, h.2 p, Bool.and_eq_true, decide_eq_true_eq]
    exact ⟨fun h => ⟨h.2.1, h.2.2⟩, fun h => ⟨h0, h.1, h.2⟩⟩
  have hhas : ∀ p : Int, hasB (chL op l ((a : Int), (n : Int))) p = true ↔ (0 ≤ p ∧ p < 32 ∧ u.testBit p.toNat = true) := fun p => by
    rw [chL_has]
    constructor
    · rintro ⟨h0, h9, hp⟩
      rw [hl p h0, inR_bit a n p h0] at hp
      by_cases hlt : p < 32
      · rw [decide_eq_true hlt, Bool.true_and] at hp
        exact ⟨h0, hlt, by rw [hu p.toNat (by omega)]; exact hp⟩
      · rw [decide_eq_false hlt, Bool.false_and, show (decide (a ≤ p.toNat) && decide (p.toNat < a + n)) = false from by rw [Bool.and_eq_false_iff]; exact .inr (decide_eq_false (by omega)), hop] at hp
        cases hp
    · rintro ⟨h0, hlt, hp⟩
      refine ⟨h0, by omega, ?_⟩
      rw [hl p h0, inR_bit a n p h0, decide_eq_true hlt, Bool.true_and, ← hu p.toNat (by omega)]
      exact hp
  have hsh := runs_short (chL_ok op l ((a : Int), (n : Int))) (fun p hp => ((hhas p).1 hp).2.1)
  have hz : chE op l ((a : Int), (n : Int)) = 0 := chE_zero.2 ⟨h.1, hr, hsh⟩
  exact ⟨hz, chE_ok_runs hz, hhas⟩
theorem runs_add {l : List Rn} {t a n : Nat} (h : RunsOf l t) (hn : 1 ≤ n) (han : a + n ≤ 32) : chE addB l ((a : Int), (n : Int)) = 0 ∧ RunsOf (chL addB l ((a : Int), (n : Int))) (t ||| runN a n) :=
  runs_ch h hn han rfl fun i _ => or_bit
theorem runs_cut {l : List Rn} {t a n : Nat} (h : RunsOf l t) (hn : 1 ≤ n) (han : a + n ≤ 32) : chE cutB l ((a : Int), (n : Int)) = 0 ∧ RunsOf (chL cutB l ((a : Int), (n : Int))) (clearN t (runN a n)) :=
  runs_ch h hn han rfl fun i hi => clr_bit han hi
theorem runs_has {l : List Rn} {t : Nat} (h : RunsOf l t) {p : Int} : hasB l p = (decide (0 ≤ p) && decide (p < 32) && t.testBit p.toNat) := by
  rw [Bool.eq_iff_iff, h.2 p]
  simp [Bool.and_eq_true, and_assoc]
theorem cnt_all {f : Nat → Bool} {t : Nat} (h : ∀ i, i < 32 → f i = t.testBit i) : ∀ k, k ≤ 32 → cnt f k + ((allF t k : Nat) : Int) = (k : Int)
  | 0, _ => rfl
  | k + 1, hk => by
    have ih := cnt_all h k (by omega)
    show cnt f k + (if f k then 1 else 0) + ((allF t k + (if t.testBit k then 0 else 1) : Nat) : Int) = _
    rw [h k (by omega)]
    cases t.testBit k <;> simp <;> omega
theorem cnt_above {f : Nat → Bool} : ∀ m, (∀ i, 32 ≤ i → i < 32 + m → f i = false) → cnt f (32 + m) = cnt f 32
  | 0, _ => rfl
  | m + 1, h => by
    show cnt f (32 + m) + (if f (32 + m) then 1 else 0) = _
    rw [cnt_above m fun i h1 h2 => h i h1 (by omega), h (32 + m) (by omega) (by omega)]
    simp
theorem runs_size {l : List Rn} {t : Nat} (h : RunsOf l t) : sumS l = 32 - ((allF t 32 : Nat) : Int) := by
  have h1 := sum_cnt (runsE_zero.1 h.1).2
  have h2 := cnt_above (f := fun p : Nat => hasB l (p : Int)) 968 fun i hi _ => by
    show hasB l (i : Int) = false
    rw [Bool.eq_false_iff]
    intro hh
    have := ((h.2 _).1 hh).2.1
    omega
  have h3 := cnt_all (f := fun p : Nat => hasB l (p : Int)) (t := t) (fun i hi => by
    show hasB l (i : Int) = _
    rw [runs_has h, decide_eq_true (show (0 : Int) ≤ (i : Int) by omega), decide_eq_true (show (i : Int) < 32 by omega)]
    simp) 32 (by omega)
  rw [h1, show (1000 : Nat) = 32 + 968 from rfl, h2]
  have : ((32 : Nat) : Int) = 32 := rfl
  omega
end Go.Proofs.Ytllacbogbbbcaaa
