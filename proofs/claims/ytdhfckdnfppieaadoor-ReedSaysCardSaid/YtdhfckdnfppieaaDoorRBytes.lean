/- The reference's in, All, Bytes by their contracts. -/
import Derived.Test.YtdhfckdnfppieaaDoorBytes
namespace Go.Proofs.YtdhfckdnfppieaaDoor
open Go Go.RowKit

theorem rin_any (n lo hi : Int) (w : World) : Calls Tryd.prog 45 #[.int .i64 n, .int .i64 lo, .int .i64 hi] w fun e w' => e = .returned (.bool (decide (lo ≤ n) && decide (n ≤ hi))) ∧ w = w' := by
  by_cases h0 : lo ≤ n
  · by_cases h1 : n ≤ hi
    · have hd : (decide (lo ≤ n) && decide (n ≤ hi)) = true := by simp [h0, h1]
      rw [hd]
      clear hd
      go_enter Tryd.func45, Tryd.ntmps45
      go_wp2
      go_ret
      exact ⟨rfl, rfl⟩
    · have hd : (decide (lo ≤ n) && decide (n ≤ hi)) = false := by simp [h1]
      rw [hd]
      clear hd
      have hd : decide (n ≤ hi) = false := by simp; omega
      go_enter Tryd.func45, Tryd.ntmps45
      go_wp2
      go_ret
      exact ⟨rfl, rfl⟩
  · have hd : (decide (lo ≤ n) && decide (n ≤ hi)) = false := by simp [h0]
    rw [hd]
    clear hd
    go_enter Tryd.func45, Tryd.ntmps45
    go_wp2
    go_ret
    exact ⟨rfl, rfl⟩

set_option maxHeartbeats 1000000 in
theorem rall_any (A : Option Addr) (n ca : Nat) (lo hi : Int) (xs : List Int) (w : World) (hA : Rd w A n xs) :
    Calls Tryd.prog 42 #[.slice A n ca, .int .i64 lo, .int .i64 hi] w fun e w' => e = .returned (.bool (allB xs lo hi)) ∧ w = w' := by
  have hx := hA.len
  have hm := hA.max
  have HX := Lib.hid hx
  clear hx
  go_enter Tryd.func42, Tryd.ntmps42
  go_wp2
  go_loop [7] (fun i => ∃ k : Nat, k ≤ n ∧ i = .int .i64 k ∧ (∀ j, j < k → lo ≤ xs[j]?.getD 0 ∧ xs[j]?.getD 0 ≤ hi)) (fun i => n - (intOf i).toNat)
  case atStart => exact ⟨0, Nat.zero_le _, rfl, fun j hj => absurd hj (by omega)⟩
  case round =>
    obtain ⟨k, hk, rfl, hall⟩ := hrel
    have HALL := Lib.hid hall
    clear hall
    by_cases hlt : k < n
    · obtain ⟨b, off, rfl, _, hc⟩ := hA.at_ (by omega)
      have h1 := hc k hlt
      clear hc
      have hlt' : (k : Int) < (n : Int) := by omega
      by_cases hlo : lo ≤ xs[k]?.getD 0 ∧ xs[k]?.getD 0 ≤ hi
      · have hd : (decide (lo ≤ xs[k]?.getD 0) && decide (xs[k]?.getD 0 ≤ hi)) = true := by simp [hlo.1, hlo.2]
        have HD := Lib.hid hd
        have HLO := Lib.hid hlo
        clear hd hlo
        go_wp2_with (go_at_call 45; refine (rin_any _ _ _ _).mono ?_; rintro e w' ⟨rfl, rfl⟩; rw [HD.out])
        go_round
        case rel =>
          refine ⟨k + 1, by omega, by go_num, fun j hj => ?_⟩
          rcases Nat.lt_succ_iff_lt_or_eq.1 hj with h | h
          · exact HALL.out j h
          · subst h; exact HLO.out
        case measure => simp [intOf]; omega
      · have hd : (decide (lo ≤ xs[k]?.getD 0) && decide (xs[k]?.getD 0 ≤ hi)) = false := by
          rw [Bool.eq_false_iff]; intro h; exact hlo (by simpa using h)
        have HD := Lib.hid hd
        have HF := Lib.hid (allB_false (k := k) (by rw [HX.out]; exact hlt) hlo)
        clear hd hlo
        go_wp2_with (go_at_call 45; refine (rin_any _ _ _ _).mono ?_; rintro e w' ⟨rfl, rfl⟩; rw [HD.out])
        go_ret
        exact ⟨ret_bool HF.out.symm, rfl⟩
    · go_wp2
      go_ret
      have : k = n := by omega
      subst this
      exact ⟨ret_bool (allB_iff.2 (fun j hj => HALL.out j (by rw [HX.out] at hj; exact hj))).symm, rfl⟩

theorem rbytes_any (A : Option Addr) (n ca : Nat) (most : Int) (xs : List Int) (w : World) (hA : Rd w A n xs) :
    Calls Tryd.prog 19 #[.slice A n ca, .int .i64 most] w fun e w' => e = .returned (.int .i64 (bytesE xs most)) ∧ w = w' := by
  have hl := hA.len
  by_cases hm : most < n
  · have he : bytesE xs most = 4 := by unfold bytesE; rw [hl, if_pos hm]
    rw [he]
    clear he hl
    go_enter Tryd.func19, Tryd.ntmps19
    go_wp2
    go_ret
    exact ⟨rfl, rfl⟩
  · by_cases hb : allB xs 0 255 = true
    · have he : bytesE xs most = 0 := by unfold bytesE; rw [hl, if_neg hm, if_pos hb]
      rw [he]
      have HB := Lib.hid hb
      clear he hl hb
      go_enter Tryd.func19, Tryd.ntmps19
      go_wp2_with fail
      with_reducible refine (rall_any _ _ _ _ _ xs _ hA).mono ?_
      rintro e w' ⟨rfl, rfl⟩
      rw [HB.out]
      go_wp2
      go_ret
      exact ⟨rfl, rfl⟩
    · have he : bytesE xs most = 1 := by unfold bytesE; rw [hl, if_neg hm, if_neg hb]
      have hb' : allB xs 0 255 = false := by simpa using hb
      rw [he]
      have HB := Lib.hid hb'
      clear he hl hb hb'
      go_enter Tryd.func19, Tryd.ntmps19
      go_wp2_with fail
      with_reducible refine (rall_any _ _ _ _ _ xs _ hA).mono ?_
      rintro e w' ⟨rfl, rfl⟩
      rw [HB.out]
      go_wp2
      go_ret
      exact ⟨rfl, rfl⟩
end Go.Proofs.YtdhfckdnfppieaaDoor
