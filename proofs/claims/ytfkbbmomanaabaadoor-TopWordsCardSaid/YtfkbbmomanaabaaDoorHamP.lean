/- Hamming words: what Write and Read compute, in plain ints. -/
import Derived.Test.YtfkbbmomanaabaaDoorHamB
namespace Go.Proofs.YtfkbbmomanaabaaDoor
open Go Go.RowKit

def orI (x y : Int) : Int := ((x.toNat ||| y.toNat : Nat) : Int)
def writeW (n : Int) : Int := orI (orI (orI (orI 0 (n % 2 * 4)) (n / 2 % 2 * 16)) (n / 4 % 2 * 32)) (n / 8 % 2 * 64)
def writeI (n : Int) : Int := orI (orI (orI (writeW n) (wrongI (writeW n) % 2 * 1)) (wrongI (writeW n) / 2 % 2 * 2)) (wrongI (writeW n) / 4 % 2 * 8)
def readP (k : Int) : Int := ((2 ^ (k.toNat - 1) : Nat) : Int)
def readU (v : Int) : Int := if wrongI v = 0 then v else xorI v (readP (wrongI v))
def readI (v : Int) : Int := orI (orI (orI (orI 0 (bitI (readU v) 3)) (bitI (readU v) 5 * 2)) (bitI (readU v) 6 * 4)) (bitI (readU v) 7 * 8)

theorem i64_or_nat (a b : Nat) (ha : a < 9223372036854775808) (hb : b < 9223372036854775808) : bits .or .i64 (a : Int) (b : Int) = ((a ||| b : Nat) : Int) := by
  have hx : a ||| b < 2 ^ 63 := Nat.or_lt_two_pow (by omega) (by omega)
  show IntKind.i64.wrap ((BitVec.ofInt 64 (a : Int) ||| BitVec.ofInt 64 (b : Int)).toNat : Int) = _
  rw [BitVec.toNat_or, ofInt_i64 a ha, ofInt_i64 b hb, IntKind.wrap_i64]
  omega
theorem or_bits (x y : Int) (hx0 : 0 ≤ x) (hx : x ≤ 127) (hy0 : 0 ≤ y) (hy : y ≤ 127) : ∃ s, orI x y = s ∧ 0 ≤ s ∧ s ≤ 127 ∧ bits .or .i64 x y = s := by
  obtain ⟨a, rfl⟩ := Int.eq_ofNat_of_zero_le hx0
  obtain ⟨b, rfl⟩ := Int.eq_ofNat_of_zero_le hy0
  have h := Nat.or_lt_two_pow (x := a) (y := b) (n := 7) (by omega) (by omega)
  refine ⟨((a ||| b : Nat) : Int), by simp [orI], by omega, by omega, i64_or_nat a b (by omega) (by omega)⟩
theorem wrongI_range (v : Int) : 0 ≤ wrongI v ∧ wrongI v ≤ 7 := by unfold wrongI wrongB; omega
theorem readP_le (k : Int) (h0 : 0 ≤ k) (h7 : k ≤ 7) : readP k ≤ 1000000 := by
  unfold readP
  have : 2 ^ (k.toNat - 1) ≤ 2 ^ 6 := Nat.pow_le_pow_right (by decide) (by omega)
  omega
theorem readU_range {v : Int} (h0 : 0 ≤ v) (h : v ≤ 127) : 0 ≤ readU v ∧ readU v ≤ 127 := by
  unfold readU
  split
  · exact ⟨h0, h⟩
  · refine ⟨xorI_nonneg _ _, ?_⟩
    have hk := wrongI_range v
    have hp : 2 ^ ((wrongI v).toNat - 1) ≤ 2 ^ 6 := Nat.pow_le_pow_right (by decide) (by omega)
    have := xorI_lt (x := v) (y := readP (wrongI v)) 7 (by omega) (by unfold readP; omega)
    omega
end Go.Proofs.YtfkbbmomanaabaaDoor
