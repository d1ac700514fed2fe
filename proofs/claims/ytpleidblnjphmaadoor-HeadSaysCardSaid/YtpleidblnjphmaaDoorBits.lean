/- Exclusive or on ints that are not below 0: plain lemmas, and the model's own '^' at such ints. -/
import Derived.Test.YtpleidblnjphmaaDoorSl
import Derived.Laws.BitsAllLaws
import Derived.Laws.BitsLemmas
namespace Go.Proofs.YtpleidblnjphmaaDoor
open Go Go.RowKit

def xorI (x y : Int) : Int := ((x.toNat ^^^ y.toNat : Nat) : Int)
theorem xorI_nat (a b : Nat) : xorI a b = ((a ^^^ b : Nat) : Int) := by simp [xorI]
theorem xorI_nonneg (x y : Int) : 0 ≤ xorI x y := by unfold xorI; omega
theorem xorI_toNat (x y : Int) : (xorI x y).toNat = x.toNat ^^^ y.toNat := by unfold xorI; omega
theorem xorI_comm (x y : Int) : xorI x y = xorI y x := by unfold xorI; rw [Nat.xor_comm]
theorem xorI_assoc (x y z : Int) : xorI (xorI x y) z = xorI x (xorI y z) := by unfold xorI; simp [Nat.xor_assoc]
theorem xorI_self (x : Int) : xorI x x = 0 := by simp [xorI]
theorem xorI_zero {x : Int} (h : 0 ≤ x) : xorI x 0 = x := by simp [xorI]; omega
theorem zero_xorI {x : Int} (h : 0 ≤ x) : xorI 0 x = x := by simp [xorI]; omega
theorem xorI_lt {x y : Int} (k : Nat) (hx : x < 2 ^ k) (hy : y < 2 ^ k) : xorI x y < 2 ^ k := by
  have e : ((2 ^ k : Nat) : Int) = (2 : Int) ^ k := by simp
  have h := Nat.xor_lt_two_pow (x := x.toNat) (y := y.toNat) (n := k) (by have := Nat.two_pow_pos k; omega) (by have := Nat.two_pow_pos k; omega)
  unfold xorI; omega
theorem xorI_256 {x y : Int} (hx : x < 256) (hy : y < 256) : xorI x y < 256 := xorI_lt 8 hx hy
theorem xorI_255 {x y : Int} (hx : x ≤ 255) (hy : y ≤ 255) : xorI x y ≤ 255 := by have := xorI_256 (x := x) (y := y) (by omega) (by omega); omega
theorem xor_eq_zero {a b : Nat} : a ^^^ b = 0 ↔ a = b := by
  constructor
  · intro h
    have : a ^^^ (a ^^^ b) = b := by rw [← Nat.xor_assoc, Nat.xor_self, Nat.zero_xor]
    rw [h, Nat.xor_zero] at this
    exact this
  · rintro rfl; exact Nat.xor_self a
theorem xorI_eq_zero {x y : Int} (hx : 0 ≤ x) (hy : 0 ≤ y) : xorI x y = 0 ↔ x = y := by
  unfold xorI
  constructor
  · intro h
    have : x.toNat ^^^ y.toNat = 0 := by omega
    rw [xor_eq_zero] at this
    omega
  · rintro rfl; simp

theorem ofInt_i64 (a : Nat) (ha : a < 9223372036854775808) : (BitVec.ofInt 64 (a : Int)).toNat = a := by
  rw [BitVec.ofInt_natCast, BitVec.toNat_ofNat]; exact Nat.mod_eq_of_lt (by omega)
theorem i64_xor_nat (a b : Nat) (ha : a < 9223372036854775808) (hb : b < 9223372036854775808) : bits .xor .i64 (a : Int) (b : Int) = ((a ^^^ b : Nat) : Int) := by
  have hx : a ^^^ b < 2 ^ 63 := Nat.xor_lt_two_pow (by omega) (by omega)
  show IntKind.i64.wrap ((BitVec.ofInt 64 (a : Int) ^^^ BitVec.ofInt 64 (b : Int)).toNat : Int) = _
  rw [BitVec.toNat_xor, ofInt_i64 a ha, ofInt_i64 b hb, IntKind.wrap_i64]
  omega
theorem bits_xorI {x y : Int} (hx0 : 0 ≤ x) (hx : x ≤ 1000000) (hy0 : 0 ≤ y) (hy : y ≤ 1000000) : bits .xor .i64 x y = xorI x y := by
  obtain ⟨a, rfl⟩ := Int.eq_ofNat_of_zero_le hx0
  obtain ⟨b, rfl⟩ := Int.eq_ofNat_of_zero_le hy0
  rw [xorI_nat]
  exact i64_xor_nat a b (by omega) (by omega)

/-! ### One round of the reference's Xor -/
theorem xor_mod2 (a b : Nat) : (a ^^^ b) % 2 = (a + b) % 2 := by
  have := Nat.xor_mod_two_pow (a := a) (b := b) (n := 1)
  simp only [Nat.pow_one] at this
  rcases (by omega : a % 2 = 0 ∨ a % 2 = 1) with ha | ha <;> rcases (by omega : b % 2 = 0 ∨ b % 2 = 1) with hb | hb <;> (rw [this, ha, hb]; simp; omega)
theorem xor_step (a b : Nat) : a ^^^ b = 2 * ((a / 2) ^^^ (b / 2)) + (a + b) % 2 := by
  have h1 : (a ^^^ b) / 2 = (a / 2) ^^^ (b / 2) := Nat.xor_div_two
  have h2 := xor_mod2 a b
  omega
theorem round_odd {o p a b t : Nat} (h : o + p * (a ^^^ b) = t) (hne : (a + b) % 2 = 1) : (o + p) + (p * 2) * ((a / 2) ^^^ (b / 2)) = t := by
  rw [xor_step a b, hne, Nat.mul_add] at h
  rw [Nat.mul_assoc]
  omega
theorem round_even {o p a b t : Nat} (h : o + p * (a ^^^ b) = t) (he : (a + b) % 2 = 0) : o + (p * 2) * ((a / 2) ^^^ (b / 2)) = t := by
  rw [xor_step a b, he, Nat.mul_add] at h
  rw [Nat.mul_assoc]
  omega
theorem half_le {p a M : Nat} (h : p * a ≤ M) : p * 2 * (a / 2) ≤ M :=
  Nat.le_trans (by rw [Nat.mul_assoc]; exact Nat.mul_le_mul_left p (Nat.mul_div_le a 2)) h
theorem p_le {p a M : Nat} (ha : 0 < a) (h : p * a ≤ M) : p ≤ M := Nat.le_trans (Nat.le_mul_of_pos_right p ha) h
end Go.Proofs.YtpleidblnjphmaaDoor
