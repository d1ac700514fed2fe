/- Package galois by its contracts: mul, inverse, check, Mul, Div. -/
import Derived.Test.YtdhfckdnfppieaaCore
import Derived.Test.YtdhfckdnfppieaaGf
namespace Go.Proofs.Ytdhfckdnfppieaa
open Go Go.RowKit

def mulI (x y : Int) : Int := ((mulN x.toNat y.toNat : Nat) : Int)
def invI (x : Int) : Int := ((invN x.toNat : Nat) : Int)
theorem mulI_nat (a b : Nat) : mulI a b = ((mulN a b : Nat) : Int) := by simp [mulI]
theorem mulI_nonneg (x y : Int) : 0 ≤ mulI x y := by unfold mulI; omega
theorem mulI_le {x y : Int} (hx : x ≤ 255) : mulI x y ≤ 255 := by
  have := mul_lt (a := x.toNat) (b := y.toNat) (by omega)
  unfold mulI; omega
theorem invI_nonneg (x : Int) : 0 ≤ invI x := by unfold invI; omega
theorem invI_le {x : Int} (hx : x ≤ 255) : invI x ≤ 255 := by
  have := inv_lt (a := x.toNat) (by omega)
  unfold invI; omega

theorem i64_and_nat (a b : Nat) (ha : a < 9223372036854775808) (hb : b < 9223372036854775808) : bits .and .i64 (a : Int) (b : Int) = ((a &&& b : Nat) : Int) := by
  have hx : a &&& b < 2 ^ 63 := Nat.and_lt_two_pow _ (by omega)
  show IntKind.i64.wrap ((BitVec.ofInt 64 (a : Int) &&& BitVec.ofInt 64 (b : Int)).toNat : Int) = _
  rw [BitVec.toNat_and, ofInt_i64 a ha, ofInt_i64 b hb, IntKind.wrap_i64]
  omega
theorem and_one {b : Nat} (hb : b ≤ 1000000) : bits .and .i64 (b : Int) 1 = ((b % 2 : Nat) : Int) := by
  have := i64_and_nat b 1 (by omega) (by omega)
  rw [Nat.and_one_is_mod] at this
  exact this

theorem mulF_zero (k : Nat) (a : Nat) : mulF k a 0 = 0 := by
  have := mulF_right k (a := a) (b := 0) (d := 0)
  rw [Nat.xor_self, Nat.xor_self] at this
  exact this

set_option maxHeartbeats 1000000 in
theorem gmul_nat (a b : Nat) (w : World) (ha : a < 256) (hb : b < 256) :
    Calls Try.prog 33 #[.int .i64 a, .int .i64 b] w fun e w' => e = .returned (.int .i64 ((mulN a b : Nat) : Int)) ∧ w = w' := by
  obtain ⟨T, hT⟩ : ∃ T, mulN a b = T := ⟨_, rfl⟩
  rw [hT]
  have HT := Lib.hid hT
  clear hT
  go_enter Try.func33, Try.ntmps33
  go_wp2
  go_loop [0, 1, 5] (fun sa sb so => ∃ x y o k : Nat, sa = .int .i64 x ∧ sb = .int .i64 y ∧ so = .int .i64 o ∧ x < 256 ∧ y < 2 ^ k ∧ k ≤ 8 ∧ o < 256 ∧ o ^^^ mulF k x y = T) (fun _ sb _ => (intOf sb).toNat)
  case atStart => exact ⟨a, b, 0, 8, rfl, rfl, rfl, ha, hb, by omega, by omega, by rw [Nat.zero_xor]; exact HT.out⟩
  case round =>
    obtain ⟨x, y, o, k, rfl, rfl, rfl, hx, hy, hk, ho, heq⟩ := hrel
    have HE := Lib.hid heq
    have HY := Lib.hid hy
    clear heq hy
    have hy256 : y < 256 := by
      have h8 : (2 : Nat) ^ k ≤ 2 ^ 8 := Nat.pow_le_pow_right (by decide) hk
      have := HY.out; omega
    by_cases hpos : 0 < y
    · have hk1 : ∃ j, k = j + 1 := by
        rcases k with _ | j
        · have := HY.out; simp at this; omega
        · exact ⟨j, rfl⟩
      obtain ⟨j, rfl⟩ := hk1
      have hy2 : y / 2 < 2 ^ j := by have := HY.out; rw [Nat.pow_succ] at this; omega
      have HY2 := Lib.hid hy2
      clear hy2
      have he2 : (o ^^^ (if y % 2 = 1 then x else 0)) ^^^ mulF j (xtN x) (y / 2) = T := by rw [Nat.xor_assoc]; exact HE.out
      have HE2 := Lib.hid he2
      clear he2
      have hand := and_one (b := y) (by omega)
      have hox := i64_xor_nat o x (by omega) (by omega)
      have hx3 : bits .xor .i64 ((x : Int) * 2) 285 = ((2 * x ^^^ 285 : Nat) : Int) := by
        rw [← i64_xor_nat (2 * x) 285 (by omega) (by omega), Int.mul_comm]; rfl
      have hxt := xt_lt hx
      have hoxl := xor_lt ho hx
      by_cases hodd : y % 2 = 1
      · have hb1 : (((y % 2 : Nat) : Int) == 1) = true := by simp; omega
        rw [if_pos hodd] at HE2
        by_cases hbig : 255 < 2 * x
        · have hs : xtN x = 2 * x ^^^ 285 := by rw [xtN, if_pos hbig]
          have HS := Lib.hid hs
          clear hs
          go_wp2
          go_round
          case rel => exact ⟨xtN x, y / 2, o ^^^ x, j, by rw [HS.out], by go_num, by rfl, hxt, HY2.out, by omega, hoxl, HE2.out⟩
          case measure => simp [intOf]; omega
        · have hs : xtN x = 2 * x := by rw [xtN, if_neg hbig]
          have HS := Lib.hid hs
          clear hs
          go_wp2
          go_round
          case rel => exact ⟨xtN x, y / 2, o ^^^ x, j, by rw [HS.out]; go_num, by go_num, by rfl, hxt, HY2.out, by omega, hoxl, HE2.out⟩
          case measure => simp [intOf]; omega
      · have hb1 : (((y % 2 : Nat) : Int) == 1) = false := by simp; omega
        rw [if_neg hodd, Nat.xor_zero] at HE2
        by_cases hbig : 255 < 2 * x
        · have hs : xtN x = 2 * x ^^^ 285 := by rw [xtN, if_pos hbig]
          have HS := Lib.hid hs
          clear hs
          go_wp2
          go_round
          case rel => exact ⟨xtN x, y / 2, o, j, by rw [HS.out], by go_num, by rfl, hxt, HY2.out, by omega, ho, HE2.out⟩
          case measure => simp [intOf]; omega
        · have hs : xtN x = 2 * x := by rw [xtN, if_neg hbig]
          have HS := Lib.hid hs
          clear hs
          go_wp2
          go_round
          case rel => exact ⟨xtN x, y / 2, o, j, by rw [HS.out]; go_num, by go_num, by rfl, hxt, HY2.out, by omega, ho, HE2.out⟩
          case measure => simp [intOf]; omega
    · obtain rfl : y = 0 := by omega
      go_wp2
      go_ret
      exact ⟨ret_int (by have := HE.out; rw [mulF_zero, Nat.xor_zero] at this; exact congrArg (fun q : Nat => (q : Int)) this), rfl⟩
theorem gmul_any (x y : Int) (w : World) (hx0 : 0 ≤ x) (hx : x ≤ 255) (hy0 : 0 ≤ y) (hy : y ≤ 255) :
    Calls Try.prog 33 #[.int .i64 x, .int .i64 y] w fun e w' => e = .returned (.int .i64 (mulI x y)) ∧ w = w' := by
  obtain ⟨a, rfl⟩ := Int.eq_ofNat_of_zero_le hx0
  obtain ⟨b, rfl⟩ := Int.eq_ofNat_of_zero_le hy0
  rw [mulI_nat]
  exact gmul_nat a b w (by omega) (by omega)
end Go.Proofs.Ytdhfckdnfppieaa
