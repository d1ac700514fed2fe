/- The laws' closed fact of a sweep. -/
import Derived.Test.YtpleidblnjphmaaSweep
import Derived.Test.YtpleidblnjphmaaInts
namespace Go.Proofs.Ytpleidblnjphmaa
open Go Go.RowKit
set_option maxRecDepth 20000
set_option linter.unusedVariables false

theorem sweep_fact : sweepL 50 true [40, 60] = [60, 40] ∧ farI 50 [60, 40] = 30 ∧ headE 50 [40, 60] = 0 := by
  refine ⟨?_, by decide, by decide⟩
  unfold sweepL sortL
  rw [List.mergeSort_of_pairwise (by decide)]
  decide
theorem rd2 (w : World) (x y : Int) (hx : -9223372036854775808 ≤ x ∧ x ≤ 9223372036854775807) (hy : -9223372036854775808 ≤ y ∧ y ≤ 9223372036854775807) : Rd (w.alloc (.cells #[.int .i64 x, .int .i64 y] 3)) (some ⟨w.heap.size, 0, none⟩) 2 [x, y] :=
  Rd.new (n := 2) rfl (by decide) (by simp) (by intro z hz; simp at hz; rcases hz with rfl | rfl <;> assumption) (fun k hk => by
    rcases (by omega : k = 0 ∨ k = 1) with rfl | rfl <;> simp)
set_option maxHeartbeats 1000000 in
theorem headFact_any (w : World) : Calls Try.prog 21 #[] w fun e w' => e = .returned (.bool true) ∧ Below w.heap.size w w' := by
  have hB := (Below.refl w.heap.size w).alloc (Nat.le_refl _) (.cells #[.int .i64 40, .int .i64 60] 3)
  have hsw := sweep_ok _ 2 2 [40, 60] 50 true _ (rd2 w 40 60 (by decide) (by decide)) sweep_fact.2.2
  rw [sweep_fact.1, sweep_fact.2.1] at hsw
  have HSW := Lib.hid hsw
  clear hsw
  go_enter Try.func21, Try.ntmps21
  go_wp2_with fail
  with_reducible refine HSW.out.mono ?_
  rintro e w1 ⟨A', c', rfl, hown, hB1⟩
  have hB2 := hB.trans (hB1.mono hB.size)
  have hR := (hown.rd (by decide) (by decide)).alloc (.cells #[.int .i64 60, .int .i64 40] 3)
  have hR2 := rd2 w1 60 40 (by decide) (by decide)
  have hin := ints_any _ _ _ _ c' 2 _ _ _ hR hR2
  have HIN := Lib.hid hin
  clear hin hR hR2 hown hB1 HSW
  go_wp2_with fail
  with_reducible refine HIN.out.mono ?_
  rintro e w2 ⟨rfl, q, rfl⟩
  go_wp2
  go_ret
  exact ⟨by simp, below_drewN_of (hB2.alloc hB2.size _) _⟩
end Go.Proofs.Ytpleidblnjphmaa
