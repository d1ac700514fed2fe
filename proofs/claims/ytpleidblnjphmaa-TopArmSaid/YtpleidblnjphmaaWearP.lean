/- Plain: five counters that are kept level. -/
import Derived.Lib.Slices
import Derived.Test.YtpleidblnjphmaaHeadP
namespace Go.Proofs.Ytpleidblnjphmaa
open Go Go.RowKit
set_option linter.unusedVariables false

/-- Five counters behind k uses: the first of the least each time. -/
def wearI (k : Nat) : List Int := [((k : Int) + 4) / 5, ((k : Int) + 3) / 5, ((k : Int) + 2) / 5, ((k : Int) + 1) / 5, (k : Int) / 5]
theorem wear_min (k : Nat) : Lib.minOf (wearI k) = (k : Int) / 5 := by
  simp only [Lib.minOf, wearI, List.headD_cons, List.foldl_cons, List.foldl_nil]
  omega
theorem wear_max (k : Nat) : Lib.maxOf (wearI k) = ((k : Int) + 4) / 5 := by
  simp only [Lib.maxOf, wearI, List.headD_cons, List.foldl_cons, List.foldl_nil]
  omega
theorem wear_idx (k : Nat) : Lib.idxOf (wearI k) ((k : Int) / 5) = ((k % 5 : Nat) : Int) := by
  have h : k % 5 = 0 ∨ k % 5 = 1 ∨ k % 5 = 2 ∨ k % 5 = 3 ∨ k % 5 = 4 := by omega
  rw [show wearI k = (wearI k).take 5 from rfl]
  refine Lib.idxOf_hit (wearI k) 5 (k % 5) _ (by omega) (Nat.le_refl _) ?_ ?_
  · rcases h with h | h | h | h | h <;> rw [h] <;> simp [wearI] <;> omega
  · intro j hj
    have hj5 : j = 0 ∨ j = 1 ∨ j = 2 ∨ j = 3 := by omega
    rcases hj5 with rfl | rfl | rfl | rfl <;> simp [wearI] <;> omega
theorem wear_get (k : Nat) : (wearI k)[k % 5]?.getD 0 = (k : Int) / 5 := by
  have h : k % 5 = 0 ∨ k % 5 = 1 ∨ k % 5 = 2 ∨ k % 5 = 3 ∨ k % 5 = 4 := by omega
  rcases h with h | h | h | h | h <;> rw [h] <;> simp [wearI] <;> omega
theorem wear_set (k : Nat) : (wearI k).set (k % 5) ((k : Int) / 5 + 1) = wearI (k + 1) := by
  have h : k % 5 = 0 ∨ k % 5 = 1 ∨ k % 5 = 2 ∨ k % 5 = 3 ∨ k % 5 = 4 := by omega
  rcases h with h | h | h | h | h <;> rw [h] <;> simp [wearI] <;> omega
theorem wear_mem {k : Nat} (hk : k ≤ 1000) : ∀ x ∈ wearI k, 0 ≤ x ∧ x ≤ 1000 := by
  intro x hx
  simp [wearI] at hx
  omega
/-- The sum of the first j. -/
def sumS (xs : List Int) : Nat → Int
  | 0 => 0
  | j + 1 => sumS xs j + xs[j]?.getD 0
theorem sumS_range {xs : List Int} (h : ∀ x ∈ xs, 0 ≤ x ∧ x ≤ 1000) : ∀ j, 0 ≤ sumS xs j ∧ sumS xs j ≤ 1000 * (j : Int)
  | 0 => by simp [sumS]
  | j + 1 => by
    have ih := sumS_range h j
    have ht : 0 ≤ xs[j]?.getD 0 ∧ xs[j]?.getD 0 ≤ 1000 := by
      by_cases hj : j < xs.length
      · rw [List.getElem?_eq_getElem hj]; exact h _ (List.getElem_mem hj)
      · rw [List.getElem?_eq_none (by omega)]; simp
    simp only [sumS]
    omega
theorem wear_sum (k : Nat) : sumS (wearI k) 5 = (k : Int) := by
  simp [sumS, wearI]
  omega
end Go.Proofs.Ytpleidblnjphmaa
