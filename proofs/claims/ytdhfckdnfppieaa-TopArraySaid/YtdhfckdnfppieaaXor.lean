/- The reference's Xor by its contract: exclusive or of two ints from 0 on. -/
import Derived.Test.YtdhfckdnfppieaaProg
import Derived.Test.YtdhfckdnfppieaaBits
import Derived.Lib.Hide
namespace Go.Proofs.Ytdhfckdnfppieaa
open Go Go.RowKit

set_option maxHeartbeats 1000000 in
theorem xor_nat (a b : Nat) (w : World) (ha : a ≤ 65535) (hb : b ≤ 65535) :
    Calls Try.prog 15 #[.int .i64 a, .int .i64 b] w fun e w' => e = .returned (.int .i64 ((a ^^^ b : Nat) : Int)) ∧ w = w' := by
  have hT : a ^^^ b ≤ 65535 := by have := Nat.xor_lt_two_pow (x := a) (y := b) (n := 16) (by omega) (by omega); omega
  obtain ⟨t, ht⟩ : ∃ t, a ^^^ b = t := ⟨_, rfl⟩
  rw [ht] at hT ⊢
  have HT := Lib.hid ht
  clear ht
  go_enter Try.func15, Try.ntmps15
  go_wp2
  go_loop [0, 1, 5, 6] (fun sa sb so sp => ∃ x y o p : Nat, sa = .int .i64 x ∧ sb = .int .i64 y ∧ so = .int .i64 o ∧ sp = .int .i64 p ∧ o + p * (x ^^^ y) = t ∧ p * x ≤ 65535 ∧ p * y ≤ 65535 ∧ p ≤ 131072 ∧ 0 < p)
    (fun sa sb _ _ => (intOf sa).toNat + (intOf sb).toNat)
  case atStart => exact ⟨a, b, 0, 1, rfl, rfl, rfl, rfl, by rw [Nat.one_mul, Nat.zero_add]; exact HT.out, by omega, by omega, by omega, by omega⟩
  case round =>
    obtain ⟨x, y, o, p, rfl, rfl, rfl, rfl, heq, hpx, hpy, hp, hp0⟩ := hrel
    have hx65 : x ≤ 65535 := Nat.le_trans (Nat.le_mul_of_pos_left x hp0) hpx
    have hy65 : y ≤ 65535 := Nat.le_trans (Nat.le_mul_of_pos_left y hp0) hpy
    have ho : o ≤ 65535 := by have := Nat.zero_le (p * (x ^^^ y)); omega
    have H1 := Lib.hid heq
    have H2 := Lib.hid hpx
    have H3 := Lib.hid hpy
    clear heq hpx hpy
    by_cases hpos : 0 < x ∨ 0 < y
    · have hp2 : p ≤ 65535 := by
        rcases hpos with h | h
        · exact p_le h H2.out
        · exact p_le h H3.out
      by_cases hpar : (x + y) % 2 = 1
      · have hb : ((x : Int) % 2 != (y : Int) % 2) = true := by simp; omega
        rcases Nat.eq_zero_or_pos x with hx | hx
        · subst hx
          have hy : (0 : Int) < (y : Int) := by omega
          go_wp2
          go_round
          case rel => exact ⟨0 / 2, y / 2, o + p, p * 2, by go_num, by go_num, by go_num, by go_num, round_odd H1.out hpar, half_le H2.out, half_le H3.out, by omega, by omega⟩
          case measure => simp [intOf]; omega
        · have hx' : (0 : Int) < (x : Int) := by omega
          go_wp2
          go_round
          case rel => exact ⟨x / 2, y / 2, o + p, p * 2, by go_num, by go_num, by go_num, by go_num, round_odd H1.out hpar, half_le H2.out, half_le H3.out, by omega, by omega⟩
          case measure => simp [intOf]; omega
      · have hpar0 : (x + y) % 2 = 0 := by omega
        have hb : ((x : Int) % 2 != (y : Int) % 2) = false := by simp; omega
        rcases Nat.eq_zero_or_pos x with hx | hx
        · subst hx
          have hy : (0 : Int) < (y : Int) := by omega
          go_wp2
          go_round
          case rel => exact ⟨0 / 2, y / 2, o, p * 2, by go_num, by go_num, by go_num, by go_num, round_even H1.out hpar0, half_le H2.out, half_le H3.out, by omega, by omega⟩
          case measure => simp [intOf]; omega
        · have hx' : (0 : Int) < (x : Int) := by omega
          go_wp2
          go_round
          case rel => exact ⟨x / 2, y / 2, o, p * 2, by go_num, by go_num, by go_num, by go_num, round_even H1.out hpar0, half_le H2.out, half_le H3.out, by omega, by omega⟩
          case measure => simp [intOf]; omega
    · obtain ⟨rfl, rfl⟩ : x = 0 ∧ y = 0 := by omega
      go_wp2
      go_ret
      exact ⟨ret_int (by have := H1.out; simp at this; omega), rfl⟩

theorem xor_any (x y : Int) (w : World) (hx0 : 0 ≤ x) (hx : x ≤ 65535) (hy0 : 0 ≤ y) (hy : y ≤ 65535) :
    Calls Try.prog 15 #[.int .i64 x, .int .i64 y] w fun e w' => e = .returned (.int .i64 (xorI x y)) ∧ w = w' := by
  obtain ⟨a, rfl⟩ := Int.eq_ofNat_of_zero_le hx0
  obtain ⟨b, rfl⟩ := Int.eq_ofNat_of_zero_le hy0
  rw [xorI_nat]
  exact xor_nat a b w (by omega) (by omega)
end Go.Proofs.Ytdhfckdnfppieaa
