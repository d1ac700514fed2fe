/- The reference's in, All by their contracts (the head of XRBytes, for a seat without Bytes). -/
import Derived.Test.YtpleidblnjphmaaDoorCore
namespace Go.Proofs.YtpleidblnjphmaaDoor
open Go Go.RowKit

theorem rin_any (n lo hi : Int) (w : World) : Calls Tryd.prog 36 #[.int .i64 n, .int .i64 lo, .int .i64 hi] w fun e w' => e = .returned (.bool (decide (lo ≤ n) && decide (n ≤ hi))) ∧ w = w' := by
  by_cases h0 : lo ≤ n
  · by_cases h1 : n ≤ hi
    · have hd : (decide (lo ≤ n) && decide (n ≤ hi)) = true := by simp [h0, h1]
      rw [hd]
      clear hd
      go_enter Tryd.func36, Tryd.ntmps36
      go_wp2
      go_ret
      exact ⟨rfl, rfl⟩
    · have hd : (decide (lo ≤ n) && decide (n ≤ hi)) = false := by simp [h1]
      rw [hd]
      clear hd
      have hd : decide (n ≤ hi) = false := by simp; omega
      go_enter Tryd.func36, Tryd.ntmps36
      go_wp2
      go_ret
      exact ⟨rfl, rfl⟩
  · have hd : (decide (lo ≤ n) && decide (n ≤ hi)) = false := by simp [h0]
    rw [hd]
    clear hd
    go_enter Tryd.func36, Tryd.ntmps36
    go_wp2
    go_ret
    exact ⟨rfl, rfl⟩

set_option maxHeartbeats 1000000 in
theorem rall_any (A : Option Addr) (n ca : Nat) (lo hi : Int) (xs : List Int) (w : World) (hA : Rd w A n xs) :
    Calls Tryd.prog 18 #[.slice A n ca, .int .i64 lo, .int .i64 hi] w fun e w' => e = .returned (.bool (allB xs lo hi)) ∧ w = w' := by
  have hx := hA.len
  have hm := hA.max
  have HX := Lib.hid hx
  clear hx
  go_enter Tryd.func18, Tryd.ntmps18
  go_wp2
  go_loop [7] (fun i => ∃ k : Nat, k ≤ n ∧ i = .int .i64 k ∧ (∀ j, j < k → lo ≤ xs[j]?.getD 0 ∧ xs[j]?.getD 0 ≤ hi)) (fun i => n - (intOf i).toNat)
  case atStart => exact ⟨0, Nat.zero_le _, rfl, fun j hj => absurd hj (by omega)⟩
  case round =>
    obtain ⟨k, hk, rfl, hall⟩ := hrel
    have HALL := Lib.hid hall
    clear hall
    by_cases hlt : k < n
    · obtain ⟨b, off, rfl, _, hc⟩ := hA.at_ (by omega)
      have h1 := hc k hlt
      clear hc
      have hlt' : (k : Int) < (n : Int) := by omega
      by_cases hlo : lo ≤ xs[k]?.getD 0 ∧ xs[k]?.getD 0 ≤ hi
      · have hd : (decide (lo ≤ xs[k]?.getD 0) && decide (xs[k]?.getD 0 ≤ hi)) = true := by simp [hlo.1, hlo.2]
        have HD := Lib.hid hd
        have HLO := Lib.hid hlo
        clear hd hlo
        go_wp2_with (go_at_call 36; refine (rin_any _ _ _ _).mono ?_; rintro e w' ⟨rfl, rfl⟩; rw [HD.out])
        go_round
        case rel =>
          refine ⟨k + 1, by omega, by go_num, fun j hj => ?_⟩
          rcases Nat.lt_succ_iff_lt_or_eq.1 hj with h | h
          · exact HALL.out j h
          · subst h; exact HLO.out
        case measure => simp [intOf]; omega
      · have hd : (decide (lo ≤ xs[k]?.getD 0) && decide (xs[k]?.getD 0 ≤ hi)) = false := by
          rw [Bool.eq_false_iff]; intro h; exact hlo (by simpa using h)
        have HD := Lib.hid hd
        have HF := Lib.hid (allB_false (k := k) (by rw [HX.out]; exact hlt) hlo)
        clear hd hlo
        go_wp2_with (go_at_call 36; refine (rin_any _ _ _ _).mono ?_; rintro e w' ⟨rfl, rfl⟩; rw [HD.out])
        go_ret
        exact ⟨ret_bool HF.out.symm, rfl⟩
    · go_wp2
      go_ret
      have : k = n := by omega
      subst this
      exact ⟨ret_bool (allB_iff.2 (fun j hj => HALL.out j (by rw [HX.out] at hj; exact hj))).symm, rfl⟩

end Go.Proofs.YtpleidblnjphmaaDoor
