/- The law's own mul of two bytes, and galoisFact. -/
import Derived.Test.YtdhfckdnfppieaaDoorGalois2
namespace Go.Proofs.YtdhfckdnfppieaaDoor
open Go Go.RowKit

theorem lmul_ok (x y : Int) (w : World) (hx : Byte x) (hy : Byte y) :
    Calls Tryd.prog 13 #[.int .i64 x, .int .i64 y] w fun e w' => e = .returned (.int .i64 (mulI x y)) ∧ Below w.heap.size w w' := by
  go_enter Tryd.func13, Tryd.ntmps13
  go_wp2_with fail
  with_reducible refine (Mul_ok x y _ hx hy).mono ?_
  rintro e w1 ⟨rfl, hB⟩
  go_wp2
  go_ret
  exact ⟨rfl, hB⟩
theorem lmul_bad (x y : Int) (w : World) (hwx : Wide x) (hwy : Wide y) (h : ¬ (Byte x ∧ Byte y)) :
    Calls Tryd.prog 13 #[.int .i64 x, .int .i64 y] w fun e w' => e = .returned (.int .i64 (-1)) ∧ Below w.heap.size w w' := by
  go_enter Tryd.func13, Tryd.ntmps13
  go_wp2_with fail
  with_reducible refine (Mul_bad x y _ hwx hwy h).mono ?_
  rintro e w1 ⟨rfl, hB⟩
  go_wp2
  go_ret
  exact ⟨rfl, hB⟩
theorem galoisFact_any (w : World) : Calls Tryd.prog 9 #[] w fun e w' => e = .returned (.bool true) ∧ Below w.heap.size w w' := by
  go_enter Tryd.func9, Tryd.ntmps9
  go_wp2_with fail
  with_reducible refine (Mul_ok 2 128 _ (by unfold Byte; omega) (by unfold Byte; omega)).mono ?_
  rintro e w1 ⟨rfl, hB⟩
  rw [show mulI 2 128 = 29 from by decide +kernel]
  go_wp2_with fail
  with_reducible refine (Div_ok 29 2 _ (by unfold Byte; omega) (by unfold Byte; omega) (by decide)).mono ?_
  rintro e w2 ⟨rfl, hB2⟩
  rw [show mulI 29 (invI 2) = 128 from by decide +kernel]
  go_wp2
  go_ret
  exact ⟨rfl, hB.trans (hB2.mono hB.size)⟩

/-! ### The field's laws on ints -/
theorem mulI_byte {x : Int} (y : Int) (hx : Byte x) : Byte (mulI x y) := ⟨mulI_nonneg _ _, mulI_le hx.2⟩
theorem xorI_byte {x y : Int} (hx : Byte x) (hy : Byte y) : Byte (xorI x y) := ⟨xorI_nonneg _ _, xorI_255 hx.2 hy.2⟩
theorem mulI_toNat (x y : Int) : (mulI x y).toNat = mulN x.toNat y.toNat := by unfold mulI; omega
theorem nat256 {x : Int} (h : Byte x) : x.toNat < 256 := by have := h.2; have := h.1; omega
theorem mulI_comm {x y : Int} (hx : Byte x) (hy : Byte y) : mulI x y = mulI y x := by
  unfold mulI; rw [mul_comm (nat256 hx) (nat256 hy)]
theorem mulI_assoc {x y z : Int} (hx : Byte x) (hy : Byte y) (hz : Byte z) : mulI (mulI x y) z = mulI x (mulI y z) := by
  show ((mulN (mulI x y).toNat z.toNat : Nat) : Int) = ((mulN x.toNat (mulI y z).toNat : Nat) : Int)
  rw [mulI_toNat, mulI_toNat, mul_assoc (nat256 hx) (nat256 hy) (nat256 hz)]
theorem mulI_xor {x y z : Int} : mulI x (xorI y z) = xorI (mulI x y) (mulI x z) := by
  show ((mulN x.toNat (xorI y z).toNat : Nat) : Int) = (((mulI x y).toNat ^^^ (mulI x z).toNat : Nat) : Int)
  rw [xorI_toNat, mulI_toNat, mulI_toNat, mul_right]
theorem mulI_one {x : Int} (hx : Byte x) : mulI x 1 = x := by
  show ((mulN x.toNat 1 : Nat) : Int) = x
  rw [mul_one (nat256 hx)]
  have := hx.1; omega
theorem mulI_zero (x : Int) : mulI x 0 = 0 := by
  show ((mulN x.toNat 0 : Nat) : Int) = 0
  rw [mul_zero]; rfl
end Go.Proofs.YtdhfckdnfppieaaDoor
