/- Hamming words: errors of Write and Read, the closed fact, and plain facts by the kernel's count. -/
import Derived.Test.YtfkbbmomanaabaaDoorHamR
import Derived.Test.YtfkbbmomanaabaaDoorIn
namespace Go.Proofs.YtfkbbmomanaabaaDoor
open Go Go.RowKit

theorem write_bad (n : Int) (w : World) (h : n < 0 ∨ 15 < n) :
    Calls Tryd.prog 11 #[.int .i64 n] w fun e w' => e = .returned (.tuple #[.int .i64 0, .iface 48 (.int .i64 1)]) ∧ w = w' := by
  go_enter Tryd.func11, Tryd.ntmps11
  go_wp2_with fail
  with_reducible refine (within_no _ _ _ _ h).mono ?_
  rintro e w' ⟨rfl, rfl⟩
  go_wp2
  go_ret2
  exact ⟨rfl, rfl⟩
theorem read_bad (v : Int) (w : World) (h : v < 0 ∨ 127 < v) :
    Calls Tryd.prog 15 #[.int .i64 v] w fun e w' => e = .returned (.tuple #[.int .i64 0, .int .i64 0, .iface 48 (.int .i64 1)]) ∧ w = w' := by
  go_enter Tryd.func15, Tryd.ntmps15
  go_wp2_with fail
  with_reducible refine (within_no _ _ _ _ h).mono ?_
  rintro e w' ⟨rfl, rfl⟩
  go_wp2
  go_ret3
  exact ⟨rfl, rfl⟩
theorem hammingFact_any (w : World) (hT : ChkT w) : Calls Tryd.prog 10 #[] w fun e w' => e = .returned (.bool true) ∧ Below w.heap.size w w' := by
  have HT := Lib.hid hT
  clear hT
  go_enter Tryd.func10, Tryd.ntmps10
  go_wp2_with fail
  with_reducible refine (write_ok 1 _ (by decide) (by decide) HT.out).mono ?_
  rintro e w3 ⟨rfl, hB⟩
  rw [show writeI 1 = 7 from by decide +kernel]
  go_wp2_with fail
  with_reducible refine (read_ok 6 _ (by decide) (by decide) (HT.out.below hB)).mono ?_
  rintro e w4 ⟨rfl, k⟩
  rw [show readI 6 = 1 from by decide +kernel, show wrongI 6 = 1 from by decide +kernel]
  have hB := chain hB k
  clear k
  go_wp2
  go_ret
  exact ⟨rfl, hB⟩

theorem write_range {n : Int} (h0 : 0 ≤ n) (h : n ≤ 15) : 0 ≤ writeI n ∧ writeI n ≤ 127 := by
  have key : ∀ m : Fin 16, 0 ≤ writeI (m.val : Int) ∧ writeI (m.val : Int) ≤ 127 := by decide +kernel
  obtain ⟨m, rfl⟩ := Int.eq_ofNat_of_zero_le h0
  exact key ⟨m, by omega⟩
theorem ham_fix0 {n : Int} (h0 : 0 ≤ n) (h : n ≤ 15) : readI (writeI n) = n ∧ wrongI (writeI n) = 0 := by
  have key : ∀ m : Fin 16, readI (writeI (m.val : Int)) = m.val ∧ wrongI (writeI (m.val : Int)) = 0 := by decide +kernel
  obtain ⟨m, rfl⟩ := Int.eq_ofNat_of_zero_le h0
  exact key ⟨m, by omega⟩
theorem ham_fix {n p : Int} (h0 : 0 ≤ n) (h : n ≤ 15) (p0 : 1 ≤ p) (p7 : p ≤ 7) :
    readI (xorI (writeI n) ((2 ^ (p - 1).toNat : Nat) : Int)) = n ∧ wrongI (xorI (writeI n) ((2 ^ (p - 1).toNat : Nat) : Int)) = p ∧ xorI (writeI n) ((2 ^ (p - 1).toNat : Nat) : Int) ≤ 127 ∧ ((2 ^ (p - 1).toNat : Nat) : Int) ≤ 64 := by
  have key : ∀ (m : Fin 16) (q : Fin 7), readI (xorI (writeI (m.val : Int)) ((2 ^ q.val : Nat) : Int)) = m.val ∧ wrongI (xorI (writeI (m.val : Int)) ((2 ^ q.val : Nat) : Int)) = (q.val : Int) + 1 ∧ xorI (writeI (m.val : Int)) ((2 ^ q.val : Nat) : Int) ≤ 127 ∧ ((2 ^ q.val : Nat) : Int) ≤ 64 := by decide +kernel
  obtain ⟨m, rfl⟩ := Int.eq_ofNat_of_zero_le h0
  have := key ⟨m, by omega⟩ ⟨(p - 1).toNat, by omega⟩
  simp only at this
  refine ⟨this.1, ?_, this.2.2⟩
  rw [this.2.1]; omega
/-- How many bits of a word are 1. -/
def popF : Nat → Nat → Nat
  | 0, _ => 0
  | k + 1, d => d % 2 + popF k (d / 2)
theorem popF_le (k d : Nat) : popF k d ≤ k := by
  induction k generalizing d with
  | zero => exact Nat.le_refl _
  | succ k ih => have := ih (d / 2); show d % 2 + popF k (d / 2) ≤ k + 1; omega
theorem popF_zero (k : Nat) : popF k 0 = 0 := by
  induction k with
  | zero => rfl
  | succ k ih => show 0 % 2 + popF k (0 / 2) = 0; rw [Nat.zero_div, ih]
def popI (v : Int) : Nat := popF 8 v.toNat
theorem ham_sum {a b : Int} (a0 : 0 ≤ a) (a15 : a ≤ 15) (b0 : 0 ≤ b) (b15 : b ≤ 15) :
    writeI (xorI a b) = xorI (writeI a) (writeI b) ∧ xorI a b ≤ 15 ∧ xorI (writeI a) (writeI b) ≤ 127 ∧ (a = b → popI (xorI (writeI a) (writeI b)) = 0) ∧ (a ≠ b → 3 ≤ popI (xorI (writeI a) (writeI b))) := by
  have key : ∀ m q : Fin 16, writeI (xorI (m.val : Int) q.val) = xorI (writeI (m.val : Int)) (writeI (q.val : Int)) ∧ xorI (m.val : Int) q.val ≤ 15 ∧ xorI (writeI (m.val : Int)) (writeI (q.val : Int)) ≤ 127 ∧
      ((m.val : Int) = q.val → popI (xorI (writeI (m.val : Int)) (writeI (q.val : Int))) = 0) ∧ ((m.val : Int) ≠ q.val → 3 ≤ popI (xorI (writeI (m.val : Int)) (writeI (q.val : Int)))) := by decide +kernel
  obtain ⟨m, rfl⟩ := Int.eq_ofNat_of_zero_le a0
  obtain ⟨q, rfl⟩ := Int.eq_ofNat_of_zero_le b0
  exact key ⟨m, by omega⟩ ⟨q, by omega⟩
/-- How many of the first k written words differ from v in one bit at most. -/
def nearN (v : Int) : Nat → Nat
  | 0 => 0
  | k + 1 => nearN v k + if popI (xorI (writeI (k : Int)) v) ≤ 1 then 1 else 0
theorem nearN_le (v : Int) (k : Nat) : nearN v k ≤ k := by
  induction k with
  | zero => exact Nat.le_refl _
  | succ k ih => show nearN v k + _ ≤ k + 1; split <;> omega
theorem ham_near {v : Int} (h0 : 0 ≤ v) (h : v ≤ 127) : nearN v 16 = 1 := by
  have key : ∀ m : Fin 128, nearN (m.val : Int) 16 = 1 := by decide +kernel
  obtain ⟨m, rfl⟩ := Int.eq_ofNat_of_zero_le h0
  exact key ⟨m, by omega⟩
end Go.Proofs.YtfkbbmomanaabaaDoor
