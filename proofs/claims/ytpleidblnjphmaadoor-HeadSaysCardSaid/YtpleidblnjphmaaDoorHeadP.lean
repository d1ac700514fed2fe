/- Tracks, plainly: how far, what is wrong, and rising order. No program in sight. -/
import Derived.Test.YtpleidblnjphmaaDoorCore
namespace Go.Proofs.YtpleidblnjphmaaDoor
open Go Go.RowKit
set_option linter.unusedVariables false

def absI (x y : Int) : Int := if x ≤ y then y - x else x - y
theorem absI_range {x y : Int} (hx : 0 ≤ x ∧ x ≤ 99) (hy : 0 ≤ y ∧ y ≤ 99) : 0 ≤ absI x y ∧ absI x y ≤ 99 := by unfold absI; split <;> omega
theorem absI_comm (x y : Int) : absI x y = absI y x := by unfold absI; split <;> split <;> omega
/-- How far along the first k, and where. -/
def farS (at_ : Int) (xs : List Int) : Nat → Int × Int
  | 0 => (0, at_)
  | k + 1 => ((farS at_ xs k).1 + absI (farS at_ xs k).2 (xs[k]?.getD 0), xs[k]?.getD 0)
def Trk (x : Int) : Prop := 0 ≤ x ∧ x ≤ 99
theorem trk_get {xs : List Int} (h : ∀ x ∈ xs, Trk x) (k : Nat) : Trk (xs[k]?.getD 0) := by
  by_cases hk : k < xs.length
  · rw [List.getElem?_eq_getElem hk]; exact h _ (List.getElem_mem hk)
  · rw [List.getElem?_eq_none (by omega)]; exact ⟨by decide, by decide⟩
theorem farS_at {at_ : Int} {xs : List Int} (ha : Trk at_) (hx : ∀ x ∈ xs, Trk x) : ∀ k, Trk (farS at_ xs k).2
  | 0 => ha
  | k + 1 => trk_get hx k
theorem farS_range {at_ : Int} {xs : List Int} (ha : Trk at_) (hx : ∀ x ∈ xs, Trk x) : ∀ k, 0 ≤ (farS at_ xs k).1 ∧ (farS at_ xs k).1 ≤ 99 * (k : Int)
  | 0 => ⟨Int.le_refl _, by show (0 : Int) ≤ 99 * ((0 : Nat) : Int); simp⟩
  | k + 1 => by
    have ih := farS_range ha hx k
    have h1 := absI_range (farS_at ha hx k) (trk_get hx k)
    show 0 ≤ (farS at_ xs k).1 + absI _ _ ∧ (farS at_ xs k).1 + absI _ _ ≤ 99 * ((k + 1 : Nat) : Int)
    have e : ((k + 1 : Nat) : Int) = (k : Int) + 1 := by simp
    rw [e]
    omega
def farI (at_ : Int) (xs : List Int) : Int := (farS at_ xs xs.length).1
/-- What Check says. -/
def headE (at_ : Int) (xs : List Int) : Int := if 20 < xs.length then 4 else if (0 ≤ at_ ∧ at_ ≤ 99) ∧ allB xs 0 99 = true then 0 else 1
theorem headE_zero {at_ : Int} {xs : List Int} (h : headE at_ xs = 0) : xs.length ≤ 20 ∧ Trk at_ ∧ allB xs 0 99 = true := by
  unfold headE at h
  split at h
  · cases h
  · split at h
    · next h1 h2 => exact ⟨by omega, h2.1, h2.2⟩
    · cases h
end Go.Proofs.YtpleidblnjphmaaDoor
