/- The closed fact placeFact holds. -/
import Derived.Test.YtllacbogbbbcaaaPlace
namespace Go.Proofs.Ytllacbogbbbcaaa
open Go Go.RowKit

theorem placeFact_any (w : World) : Calls Try.prog 11 #[] w fun e w' => e = .returned (.bool true) ∧ Below w.heap.size w w' := by
  go_enter Try.func11, Try.ntmps11
  go_wp2_with fail
  refine (of_ok 9 _ (by omega) (by omega)).mono ?_
  rintro e w1 ⟨A, n, rfl, hR, hB⟩
  have hl := hR.len
  rw [show ofL 9 = [5, 0, 1] from rfl] at hR
  have hl := hR.len
  simp at hl
  subst hl
  go_wp2_with fail
  refine (tables_ok 9 _ (by omega) (by omega)).mono ?_
  rintro e w2 ⟨rfl, rfl⟩
  rw [show tabN 9 = 3 from rfl]
  go_wp2_with fail
  refine (ints_any _ _ _ _ _ _ [5, 0, 1] [5, 0, 1] _ (hR.alloc _) (Rd.new (n := 3) rfl (by decide) (by simp) (by decide) (fun k hk => ?_))).mono ?_
  · rcases (by omega : k = 0 ∨ k = 1 ∨ k = 2) with rfl | rfl | rfl <;> simp
  rintro e w2 ⟨rfl, q, rfl⟩
  go_wp2
  go_ret
  exact ⟨rfl, below_drewN_of (hB.alloc hB.size _) _⟩
end Go.Proofs.Ytllacbogbbbcaaa
