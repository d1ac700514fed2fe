/- Package core by its contracts: All, Bytes. -/
import Derived.Test.YtpleidblnjphmaaDoorProg
import Derived.Test.YtpleidblnjphmaaDoorSl
import Derived.Deep.QuietTactic
import Derived.BigQuiet
import Derived.Lib.Hide
namespace Go.Proofs.YtpleidblnjphmaaDoor
open Go Go.RowKit

/-- All numbers lie within bounds. -/
def allB (xs : List Int) (lo hi : Int) : Bool := xs.all fun x => decide (lo ≤ x) && decide (x ≤ hi)
theorem allB_iff {xs : List Int} {lo hi : Int} : allB xs lo hi = true ↔ ∀ k, k < xs.length → lo ≤ xs[k]?.getD 0 ∧ xs[k]?.getD 0 ≤ hi := by
  unfold allB
  rw [List.all_eq_true]
  constructor
  · intro h k hk
    have := h _ (List.getElem_mem hk)
    rw [List.getElem?_eq_getElem hk]
    simpa using this
  · intro h x hx
    obtain ⟨k, hk, rfl⟩ := List.mem_iff_getElem.1 hx
    have := h k hk
    rw [List.getElem?_eq_getElem hk] at this
    simpa using this
theorem allB_mem {xs : List Int} {lo hi : Int} : allB xs lo hi = true ↔ ∀ x ∈ xs, lo ≤ x ∧ x ≤ hi := by
  unfold allB
  rw [List.all_eq_true]
  exact ⟨fun h x hx => by simpa using h x hx, fun h x hx => by simpa using h x hx⟩
theorem allB_false {xs : List Int} {lo hi : Int} {k : Nat} (hk : k < xs.length) (h : ¬ (lo ≤ xs[k]?.getD 0 ∧ xs[k]?.getD 0 ≤ hi)) : allB xs lo hi = false := by
  rw [Bool.eq_false_iff]
  intro e
  exact h (allB_iff.1 e k hk)

set_option maxHeartbeats 1000000 in
theorem all_any (A : Option Addr) (n ca : Nat) (lo hi : Int) (xs : List Int) (w : World) (hA : Rd w A n xs) :
    Calls Tryd.prog 31 #[.slice A n ca, .int .i64 lo, .int .i64 hi] w fun e w' => e = .returned (.bool (allB xs lo hi)) ∧ w = w' := by
  have hx := hA.len
  have hm := hA.max
  have HX := Lib.hid hx
  clear hx
  go_enter Tryd.func31, Tryd.ntmps31
  go_wp2
  go_loop [11] (fun i => ∃ k : Nat, k ≤ n ∧ i = .int .i64 k ∧ (∀ j, j < k → lo ≤ xs[j]?.getD 0 ∧ xs[j]?.getD 0 ≤ hi)) (fun i => n - (intOf i).toNat)
  case atStart => exact ⟨0, Nat.zero_le _, rfl, fun j hj => absurd hj (by omega)⟩
  case round =>
    obtain ⟨k, hk, rfl, hall⟩ := hrel
    have HALL := Lib.hid hall
    clear hall
    by_cases hlt : k < n
    · obtain ⟨b, off, rfl, _, hc⟩ := hA.at_ (by omega)
      have h1 := hc k hlt
      clear hc
      have hlt' : (k : Int) < (n : Int) := by omega
      by_cases hlo : lo ≤ xs[k]?.getD 0
      · by_cases hhi : xs[k]?.getD 0 ≤ hi
        · go_wp2
          go_round
          case rel =>
            refine ⟨k + 1, by omega, by go_num, fun j hj => ?_⟩
            rcases Nat.lt_succ_iff_lt_or_eq.1 hj with h | h
            · exact HALL.out j h
            · subst h; exact ⟨hlo, hhi⟩
          case measure => simp [intOf]; omega
        · go_wp2
          go_ret
          exact ⟨ret_bool (allB_false (k := k) (by rw [HX.out]; exact hlt) (fun h => by omega)).symm, rfl⟩
      · go_wp2
        go_ret
        exact ⟨ret_bool (allB_false (k := k) (by rw [HX.out]; exact hlt) (fun h => by omega)).symm, rfl⟩
    · go_wp2
      go_ret
      have : k = n := by omega
      subst this
      exact ⟨ret_bool (allB_iff.2 (fun j hj => HALL.out j (by rw [HX.out] at hj; exact hj))).symm, rfl⟩

theorem within_yes (n lo hi : Int) (w : World) (h0 : lo ≤ n) (h1 : n ≤ hi) : Calls Tryd.prog 27 #[.int .i64 n, .int .i64 lo, .int .i64 hi] w fun e w' => e = .returned (.bool true) ∧ w = w' := by
  go_enter Tryd.func27, Tryd.ntmps27
  go_wp2
  go_ret
  exact ⟨rfl, rfl⟩
theorem within_no (n lo hi : Int) (w : World) (h : n < lo ∨ hi < n) : Calls Tryd.prog 27 #[.int .i64 n, .int .i64 lo, .int .i64 hi] w fun e w' => e = .returned (.bool false) ∧ w = w' := by
  by_cases h0 : lo ≤ n
  · have hd : decide (n ≤ hi) = false := by simp; omega
    go_enter Tryd.func27, Tryd.ntmps27
    go_wp2
    go_ret
    exact ⟨rfl, rfl⟩
  · go_enter Tryd.func27, Tryd.ntmps27
    go_wp2
    go_ret
    exact ⟨rfl, rfl⟩
end Go.Proofs.YtpleidblnjphmaaDoor
