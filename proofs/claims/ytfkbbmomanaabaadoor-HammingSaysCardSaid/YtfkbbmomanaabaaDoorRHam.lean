/- The reference's Hamming words by their contracts: bit, Right, Held, Word, Found. -/
import Derived.Test.YtfkbbmomanaabaaDoorHamL
import Derived.Test.YtfkbbmomanaabaaDoorXor
import Derived.Deep.QuietTactic
import Derived.BigQuiet
namespace Go.Proofs.YtfkbbmomanaabaaDoor
open Go Go.RowKit
set_option linter.unusedVariables false
set_option linter.unusedSimpArgs false

set_option maxHeartbeats 1000000 in
set_option maxRecDepth 100000 in
theorem rbit_nat (x P : Nat) (w : World) (hx : x ≤ 127) (hP : P ≤ 6) :
    Calls Tryd.prog 36 #[.int .i64 x, .int .i64 ((P : Int) + 1)] w fun e w' => e = .returned (.int .i64 ((x / 2 ^ P % 2 : Nat) : Int)) ∧ w = w' := by
  obtain ⟨R, hR⟩ : ∃ R : Nat, x / 2 ^ P % 2 = R := ⟨_, rfl⟩
  rw [hR]
  have HR := Lib.hid hR
  clear hR
  go_enter Tryd.func36, Tryd.ntmps36
  go_wp2
  go_loop [0, 5] (fun v i => ∃ k y : Nat, k ≤ P ∧ i = .int .i64 ((k : Int) + 1) ∧ v = .int .i64 y ∧ y ≤ 127 ∧ y = x / 2 ^ k) (fun _ i => P + 1 - (intOf i).toNat)
  case atStart => exact ⟨0, x, by omega, rfl, rfl, hx, by simp⟩
  case round =>
    obtain ⟨k, y, hk, rfl, rfl, hy, hyk⟩ := hrel
    have hnx : y / 2 = x / 2 ^ (k + 1) := by rw [hyk, Nat.div_div_eq_div_mul, Nat.pow_succ]
    have HY := Lib.hid hyk
    have HN := Lib.hid hnx
    clear hyk hnx
    by_cases hlt : k < P
    · go_wp2
      go_round
      case rel => exact ⟨k + 1, y / 2, by omega, by go_num, by go_num, by omega, HN.out⟩
      case measure => simp [intOf]; omega
    · obtain rfl : k = P := by omega
      go_wp2
      go_ret
      exact ⟨ret_int (by have := HR.out; rw [← HY.out] at this; omega), rfl⟩
theorem rbit_any (v p : Int) (w : World) (hv0 : 0 ≤ v) (hv : v ≤ 127) (hp0 : 1 ≤ p) (hp : p ≤ 7) :
    Calls Tryd.prog 36 #[.int .i64 v, .int .i64 p] w fun e w' => e = .returned (.int .i64 (bitI v p)) ∧ w = w' := by
  obtain ⟨x, rfl⟩ := Int.eq_ofNat_of_zero_le hv0
  obtain ⟨P, hP⟩ := Int.eq_ofNat_of_zero_le (show 0 ≤ p - 1 by omega)
  have := rbit_nat x P w (by omega) (by omega)
  have e1 : (P : Int) + 1 = p := by omega
  have e2 : bitI (x : Int) p = ((x / 2 ^ P % 2 : Nat) : Int) := by
    unfold bitI
    rw [show p.toNat - 1 = P from by omega, Int.toNat_natCast]
  rw [e1] at this
  rw [e2]
  exact this

def rightB (v : Int) : Bool := (bitI v 1 + bitI v 3 + bitI v 5 + bitI v 7) % 2 == 0 && (bitI v 2 + bitI v 3 + bitI v 6 + bitI v 7) % 2 == 0 && (bitI v 4 + bitI v 5 + bitI v 6 + bitI v 7) % 2 == 0
def heldI (v : Int) : Int := bitI v 3 + 2 * bitI v 5 + 4 * bitI v 6 + 8 * bitI v 7
theorem heldI_range (v : Int) : 0 ≤ heldI v ∧ heldI v ≤ 15 := by
  have := bitI_range v 3
  have := bitI_range v 5
  have := bitI_range v 6
  have := bitI_range v 7
  unfold heldI; omega

set_option maxHeartbeats 1000000 in
set_option maxRecDepth 100000 in
theorem rheld_any (v : Int) (w : World) (hv0 : 0 ≤ v) (hv : v ≤ 127) :
    Calls Tryd.prog 31 #[.int .i64 v] w fun e w' => e = .returned (.int .i64 (heldI v)) ∧ w = w' := by
  obtain ⟨a0, a1⟩ := bitI_range v 3
  obtain ⟨b0, b1⟩ := bitI_range v 5
  obtain ⟨c0, c1⟩ := bitI_range v 6
  obtain ⟨d0, d1⟩ := bitI_range v 7
  go_enter Tryd.func31, Tryd.ntmps31
  go_wp2_with (go_at_call 36; refine (rbit_any _ _ _ hv0 hv (by decide) (by decide)).mono ?_; rintro e w' ⟨rfl, rfl⟩)
  go_ret
  exact ⟨ret_int (by unfold heldI; omega), rfl⟩

set_option maxHeartbeats 2000000 in
theorem rright_any (v : Int) (w : World) (hv0 : 0 ≤ v) (hv : v ≤ 127) :
    Calls Tryd.prog 30 #[.int .i64 v] w fun e w' => e = .returned (.bool (rightB v)) ∧ w = w' := by
  obtain ⟨x0, x1⟩ := bitI_range v 1
  obtain ⟨y0, y1⟩ := bitI_range v 2
  obtain ⟨a0, a1⟩ := bitI_range v 3
  obtain ⟨z0, z1⟩ := bitI_range v 4
  obtain ⟨b0, b1⟩ := bitI_range v 5
  obtain ⟨c0, c1⟩ := bitI_range v 6
  obtain ⟨d0, d1⟩ := bitI_range v 7
  have hr : rightB v = ((bitI v 1 + bitI v 3 + bitI v 5 + bitI v 7) % 2 == 0 && (bitI v 2 + bitI v 3 + bitI v 6 + bitI v 7) % 2 == 0 && (bitI v 4 + bitI v 5 + bitI v 6 + bitI v 7) % 2 == 0) := rfl
  rcases h1 : ((bitI v 1 + bitI v 3 + bitI v 5 + bitI v 7) % 2 == 0) with _ | _
  · rw [h1] at hr
    simp only [Bool.false_and] at hr
    rw [hr]
    clear hr
    go_enter Tryd.func30, Tryd.ntmps30
    go_wp2_with (go_at_call 36; refine (rbit_any _ _ _ hv0 hv (by decide) (by decide)).mono ?_; rintro e w' ⟨rfl, rfl⟩)
    go_ret
    exact ⟨rfl, rfl⟩
  · rcases h2 : ((bitI v 2 + bitI v 3 + bitI v 6 + bitI v 7) % 2 == 0) with _ | _
    · rw [h1, h2] at hr
      simp only [Bool.false_and, Bool.and_false] at hr
      rw [hr]
      clear hr
      go_enter Tryd.func30, Tryd.ntmps30
      go_wp2_with (go_at_call 36; refine (rbit_any _ _ _ hv0 hv (by decide) (by decide)).mono ?_; rintro e w' ⟨rfl, rfl⟩)
      go_ret
      exact ⟨rfl, rfl⟩
    · rcases h3 : ((bitI v 4 + bitI v 5 + bitI v 6 + bitI v 7) % 2 == 0) with _ | _
      · rw [h1, h2, h3] at hr
        simp only [Bool.false_and, Bool.and_false] at hr
        rw [hr]
        clear hr
        go_enter Tryd.func30, Tryd.ntmps30
        go_wp2_with (go_at_call 36; refine (rbit_any _ _ _ hv0 hv (by decide) (by decide)).mono ?_; rintro e w' ⟨rfl, rfl⟩)
        go_ret
        exact ⟨rfl, rfl⟩
      · rw [h1, h2, h3] at hr
        simp only [Bool.and_self] at hr
        rw [hr]
        clear hr
        go_enter Tryd.func30, Tryd.ntmps30
        go_wp2_with (go_at_call 36; refine (rbit_any _ _ _ hv0 hv (by decide) (by decide)).mono ?_; rintro e w' ⟨rfl, rfl⟩)
        go_ret
        exact ⟨rfl, rfl⟩

/-! ### What the words are: by counting -/
theorem nat127 {v : Int} (h0 : 0 ≤ v) (h : v ≤ 127) : ∃ k : Fin 128, v = (k.val : Int) := ⟨⟨v.toNat, by omega⟩, by simp; omega⟩
theorem word_is {n v : Int} (n0 : 0 ≤ n) (n15 : n ≤ 15) (v0 : 0 ≤ v) (v127 : v ≤ 127) (hr : rightB v = true) (hh : heldI v = n) : v = writeI n := by
  have key : ∀ k : Fin 128, rightB (k.val : Int) = true → (k.val : Int) = writeI (heldI (k.val : Int)) := by decide +kernel
  obtain ⟨k, rfl⟩ := nat127 v0 v127
  rw [← hh]
  exact key k hr
theorem word_has {n : Int} (n0 : 0 ≤ n) (n15 : n ≤ 15) : rightB (writeI n) = true ∧ heldI (writeI n) = n := by
  have key : ∀ k : Fin 16, rightB (writeI (k.val : Int)) = true ∧ heldI (writeI (k.val : Int)) = (k.val : Int) := by decide +kernel
  have := key ⟨n.toNat, by omega⟩
  rwa [show (((⟨n.toNat, by omega⟩ : Fin 16).val : Nat) : Int) = n from by simp; omega] at this
theorem right_zero {v : Int} (v0 : 0 ≤ v) (v127 : v ≤ 127) (hr : rightB v = true) : wrongI v = 0 ∧ readI v = heldI v := by
  have key : ∀ k : Fin 128, rightB (k.val : Int) = true → wrongI (k.val : Int) = 0 ∧ readI (k.val : Int) = heldI (k.val : Int) := by decide +kernel
  obtain ⟨k, rfl⟩ := nat127 v0 v127
  exact key k hr
theorem found_is {v : Int} {j : Nat} (v0 : 0 ≤ v) (v127 : v ≤ 127) (hj : j < 7) (hr : rightB v = false) (hx : rightB (xorI v ((2 ^ j : Nat) : Int)) = true) :
    wrongI v = (j : Int) + 1 ∧ readI v = heldI (xorI v ((2 ^ j : Nat) : Int)) := by
  have key : ∀ k : Fin 128, ∀ j : Fin 7, rightB (k.val : Int) = false → rightB (xorI (k.val : Int) ((2 ^ j.val : Nat) : Int)) = true →
    wrongI (k.val : Int) = (j.val : Int) + 1 ∧ readI (k.val : Int) = heldI (xorI (k.val : Int) ((2 ^ j.val : Nat) : Int)) := by decide +kernel
  obtain ⟨k, rfl⟩ := nat127 v0 v127
  exact key k ⟨j, hj⟩ hr hx
theorem found_some {v : Int} (v0 : 0 ≤ v) (v127 : v ≤ 127) (hr : rightB v = false) : ∃ j : Nat, j < 7 ∧ rightB (xorI v ((2 ^ j : Nat) : Int)) = true := by
  have key : ∀ k : Fin 128, rightB (k.val : Int) = false → ∃ j : Fin 7, rightB (xorI (k.val : Int) ((2 ^ j.val : Nat) : Int)) = true := by decide +kernel
  obtain ⟨k, rfl⟩ := nat127 v0 v127
  obtain ⟨j, hj⟩ := key k hr
  exact ⟨j.val, j.isLt, hj⟩

set_option maxHeartbeats 1000000 in
set_option maxRecDepth 100000 in
theorem rword_any (n : Int) (w : World) (hn0 : 0 ≤ n) (hn : n ≤ 15) :
    Calls Tryd.prog 16 #[.int .i64 n] w fun e w' => e = .returned (.int .i64 (writeI n)) ∧ w = w' := by
  have HH := Lib.hid (word_has hn0 hn)
  have HR := Lib.hid (write_range hn0 hn)
  go_enter Tryd.func16, Tryd.ntmps16
  go_wp2
  go_loop [3] (fun i => ∃ k : Nat, k ≤ 128 ∧ i = .int .i64 k ∧ ∀ j : Nat, j < k → ¬ (rightB (j : Int) = true ∧ heldI (j : Int) = n)) (fun i => 128 - (intOf i).toNat)
  case atStart => exact ⟨0, by omega, rfl, fun j hj => absurd hj (by omega)⟩
  case round =>
    obtain ⟨k, hk, rfl, hall⟩ := hrel
    have HALL := Lib.hid hall
    clear hall
    by_cases hlt : k < 128
    · have k0 : (0 : Int) ≤ (k : Int) := by omega
      have k127 : (k : Int) ≤ 127 := by omega
      obtain ⟨q, hq⟩ : ∃ q, rightB (k : Int) = q := ⟨_, rfl⟩
      obtain ⟨r, hr⟩ : ∃ r, heldI (k : Int) = r := ⟨_, rfl⟩
      have hr0 := heldI_range (k : Int)
      rw [hr] at hr0
      obtain ⟨r0, r15⟩ := hr0
      have HQ := Lib.hid hq
      have HRR := Lib.hid hr
      clear hq hr
      cases q
      · go_wp2_with (go_at_call 30; refine (rright_any _ _ k0 k127).mono ?_; rintro e w' ⟨rfl, rfl⟩; rw [HQ.out])
        go_round
        case rel =>
          refine ⟨k + 1, by omega, by go_num, fun j hj => ?_⟩
          rcases Nat.lt_succ_iff_lt_or_eq.1 hj with h | h
          · exact HALL.out j h
          · subst h; rintro ⟨h1, _⟩; rw [HQ.out] at h1; cases h1
        case measure => simp [intOf]; omega
      · by_cases hrn : r = n
        · subst hrn
          have hrr : (r == r) = true := by simp
          go_wp2_with (first | (go_at_call 30; refine (rright_any _ _ k0 k127).mono ?_; rintro e w' ⟨rfl, rfl⟩; rw [HQ.out]) | (go_at_call 31; refine (rheld_any _ _ k0 k127).mono ?_; rintro e w' ⟨rfl, rfl⟩; rw [HRR.out]))
          go_ret
          exact ⟨ret_int (word_is hn0 hn k0 k127 HQ.out HRR.out), rfl⟩
        · have hrr : (r == n) = false := by simpa using hrn
          go_wp2_with (first | (go_at_call 30; refine (rright_any _ _ k0 k127).mono ?_; rintro e w' ⟨rfl, rfl⟩; rw [HQ.out]) | (go_at_call 31; refine (rheld_any _ _ k0 k127).mono ?_; rintro e w' ⟨rfl, rfl⟩; rw [HRR.out]))
          go_round
          case rel =>
            refine ⟨k + 1, by omega, by go_num, fun j hj => ?_⟩
            rcases Nat.lt_succ_iff_lt_or_eq.1 hj with h | h
            · exact HALL.out j h
            · subst h; rintro ⟨_, h2⟩; rw [HRR.out] at h2; exact hrn h2
          case measure => simp [intOf]; omega
    · exfalso
      have h1 := HR.out
      have h2 := HH.out
      obtain ⟨m, hm⟩ := Int.eq_ofNat_of_zero_le h1.1
      refine HALL.out m (by omega) ?_
      rw [← hm]
      exact h2

set_option maxHeartbeats 1000000 in
set_option maxRecDepth 100000 in
theorem rfound_any (v : Int) (w : World) (hv0 : 0 ≤ v) (hv : v ≤ 127) :
    Calls Tryd.prog 18 #[.int .i64 v] w fun e w' => e = .returned (.tuple #[.int .i64 (readI v), .int .i64 (wrongI v)]) ∧ w = w' := by
  obtain ⟨q, hq⟩ : ∃ q, rightB v = q := ⟨_, rfl⟩
  cases q
  · have HS := Lib.hid (found_some hv0 hv hq)
    have HQ := Lib.hid hq
    clear hq
    go_enter Tryd.func18, Tryd.ntmps18
    go_wp2_with (go_at_call 30; refine (rright_any _ _ hv0 hv).mono ?_; rintro e w' ⟨rfl, rfl⟩; rw [HQ.out])
    go_loop [4, 5, 6] (fun p i x => ∃ k : Nat, k ≤ 7 ∧ i = .int .i64 ((k : Int) + 1) ∧ p = .int .i64 ((2 ^ k : Nat) : Int) ∧ ∀ j : Nat, j < k → ¬ rightB (xorI v ((2 ^ j : Nat) : Int)) = true) (fun _ i _ => 8 - (intOf i).toNat)
    case atStart => exact ⟨0, by omega, rfl, rfl, fun j hj => absurd hj (by omega)⟩
    case round =>
      obtain ⟨k, hk, rfl, rfl, hall⟩ := hrel
      have HALL := Lib.hid hall
      clear hall
      by_cases hlt : k < 7
      · have hP : 2 ^ k ≤ 2 ^ 6 := Nat.pow_le_pow_right (by decide) (by omega)
        have hP2 : 2 ^ k * 2 = 2 ^ (k + 1) := by rw [Nat.pow_succ]
        have hfi := found_is (j := k) hv0 hv hlt HQ.out
        have hxr := xorI_lt (x := v) (y := ((2 ^ k : Nat) : Int)) 7 (by omega) (by omega)
        have hx0 := xorI_nonneg v ((2 ^ k : Nat) : Int)
        obtain ⟨P, hPe⟩ : ∃ P : Nat, 2 ^ k = P := ⟨_, rfl⟩
        have hal := HALL.out
        rw [hPe] at hP hP2 hfi hxr hx0 ⊢
        obtain ⟨X, hX⟩ : ∃ X, xorI v (P : Int) = X := ⟨_, rfl⟩
        rw [hX] at hfi hxr hx0
        have hx1 : X ≤ 127 := by omega
        obtain ⟨r, hr⟩ : ∃ r, rightB X = r := ⟨_, rfl⟩
        have HX := Lib.hid hX
        have HP := Lib.hid (And.intro hPe hP2)
        have HFI := Lib.hid hfi
        have HR := Lib.hid hr
        clear hX hPe hP2 hfi hr hxr hal
        have p0 : (0 : Int) ≤ (P : Int) := by omega
        have p1 : (P : Int) ≤ 65535 := by omega
        cases r
        · go_wp2_with (first | (go_at_call 13; refine (xor_any v (P : Int) _ hv0 (Int.le_trans hv (by decide)) p0 p1).mono ?_; rintro e w' ⟨rfl, rfl⟩; rw [HX.out]) | (go_at_call 30; refine (rright_any _ _ hx0 hx1).mono ?_; rintro e w' ⟨rfl, rfl⟩; rw [HR.out]))
          go_round
          case rel =>
            refine ⟨k + 1, by omega, by go_num, by rw [← HP.out.2]; go_num, fun j hj => ?_⟩
            rcases Nat.lt_succ_iff_lt_or_eq.1 hj with h | h
            · exact HALL.out j h
            · subst h
              rw [HP.out.1, HX.out, HR.out]
              simp
          case measure => simp [intOf]; omega
        · go_wp2_with (first | (go_at_call 13; refine (xor_any v (P : Int) _ hv0 (Int.le_trans hv (by decide)) p0 p1).mono ?_; rintro e w' ⟨rfl, rfl⟩; rw [HX.out]) | (go_at_call 30; refine (rright_any _ _ hx0 hx1).mono ?_; rintro e w' ⟨rfl, rfl⟩; rw [HR.out]) | (go_at_call 31; refine (rheld_any _ _ hx0 hx1).mono ?_; rintro e w' ⟨rfl, rfl⟩))
          go_ret2
          have hf := HFI.out HR.out
          exact ⟨by rw [hf.1, hf.2]; rfl, rfl⟩
      · exfalso
        obtain ⟨j, hj, hr⟩ := HS.out
        exact HALL.out j (by omega) hr
  · obtain ⟨h1, h2⟩ := right_zero hv0 hv hq
    rw [h1, h2]
    clear h1 h2
    have HQ := Lib.hid hq
    clear hq
    go_enter Tryd.func18, Tryd.ntmps18
    go_wp2_with (first | (go_at_call 30; refine (rright_any _ _ hv0 hv).mono ?_; rintro e w' ⟨rfl, rfl⟩; rw [HQ.out]) | (go_at_call 31; refine (rheld_any _ _ hv0 hv).mono ?_; rintro e w' ⟨rfl, rfl⟩))
    go_ret2
    exact ⟨rfl, rfl⟩
end Go.Proofs.YtfkbbmomanaabaaDoor
