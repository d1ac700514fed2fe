/- core.Bytes by its contracts. -/
import Derived.Test.YtdhfckdnfppieaaCore
namespace Go.Proofs.Ytdhfckdnfppieaa
open Go Go.RowKit

theorem bytes_full (A : Option Addr) (n ca : Nat) (most : Int) (w : World) (h : most < n) :
    Calls Try.prog 34 #[.slice A n ca, .int .i64 most] w fun e w' => e = .returned (.iface 47 (.int .i64 4)) ∧ w = w' := by
  go_enter Try.func34, Try.ntmps34
  go_wp2
  go_ret
  exact ⟨rfl, rfl⟩
theorem bytes_range (A : Option Addr) (n ca : Nat) (most : Int) (xs : List Int) (w : World) (hA : Rd w A n xs) (h : (n : Int) ≤ most) (hall : allB xs 0 255 = false) :
    Calls Try.prog 34 #[.slice A n ca, .int .i64 most] w fun e w' => e = .returned (.iface 47 (.int .i64 1)) ∧ w = w' := by
  go_enter Try.func34, Try.ntmps34
  go_wp2_with (go_at_call 39; refine (all_any _ _ _ _ _ _ _ hA).mono ?_; rintro e w' ⟨rfl, rfl⟩)
  go_ret
  exact ⟨rfl, rfl⟩
theorem bytes_ok (A : Option Addr) (n ca : Nat) (most : Int) (xs : List Int) (w : World) (hA : Rd w A n xs) (h : (n : Int) ≤ most) (hall : allB xs 0 255 = true) :
    Calls Try.prog 34 #[.slice A n ca, .int .i64 most] w fun e w' => e = .returned .nilIface ∧ w = w' := by
  go_enter Try.func34, Try.ntmps34
  go_wp2_with (go_at_call 39; refine (all_any _ _ _ _ _ _ _ hA).mono ?_; rintro e w' ⟨rfl, rfl⟩)
  go_ret
  exact ⟨rfl, rfl⟩
/-- What Bytes says: the number of the error, 0 for none. -/
def bytesE (xs : List Int) (most : Int) : Int := if most < xs.length then 4 else if allB xs 0 255 then 0 else 1
theorem bytes_bad (A : Option Addr) (n ca : Nat) (most : Int) (xs : List Int) (w : World) (hA : Rd w A n xs) (h : bytesE xs most ≠ 0) :
    Calls Try.prog 34 #[.slice A n ca, .int .i64 most] w fun e w' => e = .returned (.iface 47 (.int .i64 (bytesE xs most))) ∧ w = w' := by
  have hl := hA.len
  by_cases hm : most < n
  · rw [show bytesE xs most = 4 from by unfold bytesE; rw [hl, if_pos hm]]
    exact bytes_full A n ca most w hm
  · have hall : allB xs 0 255 = false := by
      rw [Bool.eq_false_iff]; intro e
      apply h; unfold bytesE; rw [hl, if_neg hm, if_pos e]
    rw [show bytesE xs most = 1 from by unfold bytesE; rw [hl, if_neg hm, hall]; rfl]
    exact bytes_range A n ca most xs w hA (by omega) hall
theorem bytesE_zero {xs : List Int} {most : Int} : bytesE xs most = 0 ↔ (xs.length : Int) ≤ most ∧ allB xs 0 255 = true := by
  unfold bytesE
  split
  · simp; omega
  · split <;> simp_all <;> omega
end Go.Proofs.Ytdhfckdnfppieaa
