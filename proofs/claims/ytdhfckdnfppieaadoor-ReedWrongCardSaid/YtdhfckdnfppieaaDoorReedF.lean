/- The closed fact reedFact holds. -/
import Derived.Test.YtdhfckdnfppieaaDoorReed3
import Derived.Test.YtdhfckdnfppieaaDoorInts
namespace Go.Proofs.YtdhfckdnfppieaaDoor
open Go Go.RowKit
set_option maxRecDepth 20000

theorem rd_three (w : World) (x y z : Int) (hx : Wide x) (hy : Wide y) (hz : Wide z) :
    Rd (w.alloc (.cells #[.int .i64 x, .int .i64 y, .int .i64 z] 3)) (some ⟨w.heap.size, 0, none⟩) 3 [x, y, z] :=
  Rd.new (n := 3) rfl (by decide) (by simp) (by simp; exact ⟨hx, hy, hz⟩) (fun k hk => by
    rcases (by omega : k = 0 ∨ k = 1 ∨ k = 2) with rfl | rfl | rfl <;> simp)
theorem ag_fact {B : Nat} {e : Ending} {w' : World} (h : AgPost [-1, -1, 7] 1 3 B e w') : ∃ C c', e = .returned (.tuple #[.slice C 3 c', .nilIface]) ∧ Own w' B (.slice C 3 c') 3 [7, 7, 7] := by
  rcases h with ⟨h, _⟩ | ⟨_, ⟨i, hi, h1, h2⟩, _⟩ | ⟨_, _, C, c', h1, h2⟩
  · exact absurd h (by decide +kernel)
  · have h3 : ∀ i : Fin 3, 0 ≤ ([-1, -1, 7] : List Int)[i.val]?.getD 0 → ([-1, -1, 7] : List Int)[i.val]?.getD 0 = agI [-1, -1, 7] 1 i.val := by decide +kernel
    exact absurd (h3 ⟨i, hi⟩ h1) h2
  · exact ⟨C, c', h1, by rw [show outI [-1, -1, 7] 1 3 = [7, 7, 7] from by decide +kernel] at h2; exact h2⟩

theorem reedFact_any (w : World) : Calls Tryd.prog 27 #[] w fun e w' => e = .returned (.bool true) ∧ Below w.heap.size w w' := by
  have hS1 : Sl (w.alloc (.cells #[.int .i64 7] 3)) (some ⟨w.heap.size, 0, none⟩) 1 1 [7] := ⟨rd_one w 7 (by decide), Nat.le_refl _, fun h => by cases h⟩
  have hmk := make_ok _ 1 1 [7] 2 _ hS1 (by decide +kernel)
  rw [show shards [7] 2 = [7, 7, 7] from by decide +kernel] at hmk
  have HMK := Lib.hid hmk
  have hwide : ∀ x ∈ ([7, 7, 7] : List Int), -9223372036854775808 ≤ x ∧ x ≤ 9223372036854775807 := by decide
  have HW := Lib.hid hwide
  clear hmk hS1 hwide
  go_enter Tryd.func27, Tryd.ntmps27
  go_wp2_with fail
  refine HMK.out.mono ?_
  rintro e w1 ⟨⟨C, c1, rfl, hown1⟩, k1⟩
  have hB1 := ((Below.refl w.heap.size w).alloc (Nat.le_refl _) (.cells #[.int .i64 7] 3)).trans (k1.mono (by simp))
  have hR1 : Rd w1 C 3 [7, 7, 7] := hown1.rd (by decide) HW.out
  clear k1 HMK
  go_wp2_with fail
  refine (rag_run _ 3 3 [-1, -1, 7] 1 _ (rd_three w1 (-1) (-1) 7 ⟨by decide, by decide⟩ ⟨by decide, by decide⟩ ⟨by decide, by decide⟩) (by decide) (by decide) (by decide) (by decide +kernel) (by decide) (by decide)).mono ?_
  rintro e w2 ⟨hp, k2⟩
  obtain ⟨D, d1, rfl, hown2⟩ := ag_fact hp
  have k3 := ((Below.refl w1.heap.size w1).alloc (Nat.le_refl _) (.cells #[.int .i64 (-1), .int .i64 (-1), .int .i64 7] 3)).trans (k2.mono (by simp))
  have hB2 := hB1.trans (k3.mono hB1.size)
  have hR2 : Rd w2 D 3 [7, 7, 7] := hown2.rd (by decide) HW.out
  have hR3 := hR1.below k3
  clear k2 k3 hp
  go_wp2_with fail
  refine (ints_any _ _ _ _ _ _ [7, 7, 7] [7, 7, 7] _ (hR3.alloc _) (rd_three w2 7 7 7 ⟨by decide, by decide⟩ ⟨by decide, by decide⟩ ⟨by decide, by decide⟩)).mono ?_
  rintro e w3 ⟨rfl, q, rfl⟩
  go_wp2_with fail
  refine (ints_any _ _ _ _ _ _ [7, 7, 7] [7, 7, 7] _ ((hR2.alloc _).below (below_drewN_of (Below.refl _ _) _)) ((hR3.alloc _).below (below_drewN_of (Below.refl _ _) _))).mono ?_
  rintro e w3 ⟨rfl, q2, rfl⟩
  go_wp2
  go_ret
  exact ⟨rfl, below_drewN_of (hB2.alloc hB2.size _) _⟩
end Go.Proofs.YtdhfckdnfppieaaDoor
