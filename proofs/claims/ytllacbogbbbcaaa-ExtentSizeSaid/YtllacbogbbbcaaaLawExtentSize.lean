/- Positions are counted once: ExtentSize answers true at every slice of runs, run. Conditions: none beside the row's own. -/
import Derived.Test.YtllacbogbbbcaaaExt4
import Derived.Test.YtllacbogbbbcaaaRunO
namespace Go.Proofs.Ytllacbogbbbcaaa.extentSize
open Go Go.ChangeShapes Go.WideShapes Go.ChangeAt Go.RowKit
set_option linter.unusedVariables false
set_option maxRecDepth 20000

set_option maxHeartbeats 8000000 in
set_option maxRecDepth 100000 in
theorem walk_ok_ok (w : World) (A : Option Addr) (n c : Nat) (l : List (Int × Int)) (hA : RdP w A n (l.map rv)) (hbd : ∀ p ∈ l, (-9223372036854775808 ≤ p.1 ∧ p.1 ≤ 9223372036854775807) ∧ (-9223372036854775808 ≤ p.2 ∧ p.2 ≤ 9223372036854775807)) (hc : n ≤ c) (a b : Int) (ha : -9223372036854775808 ≤ a ∧ a ≤ 9223372036854775807) (hbb : -9223372036854775808 ≤ b ∧ b ≤ 9223372036854775807) (hr : runsE l = 0) (h : chE addB l (a, b) = 0) (h2 : chE cutB l (a, b) = 0) :
    Calls Try.prog 8 #[.slice A n c, .agg #[.int .i64 a, .int .i64 b]] w fun e w' => e = .returned (.bool true) ∧ Below w.heap.size w w' := by
  have hB0 := (Below.refl w.heap.size w).alloc (Nat.le_refl _) (.cells #[.int .i64 a, .int .i64 b] 40)
  have EE1 : (w.alloc (.cells #[.int .i64 a, .int .i64 b] 40)).cell? ⟨w.heap.size, 0, none⟩ = some (.int .i64 a) := by simp
  have EE2 : (w.alloc (.cells #[.int .i64 a, .int .i64 b] 40)).cell? ⟨w.heap.size, 1, none⟩ = some (.int .i64 b) := by simp
  have EE := Lib.hid (And.intro EE1 EE2)
  have HBD := Lib.hid (show Bd l from hbd)
  clear EE1 EE2 hbd
  have hz := chE_zero.1 h
  have hz2 := chE_zero.1 h2
  have hl := size_law hr hz.2.1
  have hM := chE_ok_runs h
  have hK := chE_ok_runs h2
  have g1 := sum_bound l (okR_mem (runsE_zero.1 hr).2)
  have g1l := (runsE_zero.1 hr).1
  have g2 := sum_bound _ (okR_mem (chL_ok addB l (a, b)))
  have g2l := hz.2.2
  have g3 := sum_bound _ (okR_mem (chL_ok cutB l (a, b)))
  have g3l := hz2.2.2
  obtain ⟨M, hMe⟩ : ∃ M, chL addB l (a, b) = M := ⟨_, rfl⟩
  obtain ⟨K, hKe⟩ : ∃ K, chL cutB l (a, b) = K := ⟨_, rfl⟩
  have hMb : Bd M := by rw [← hMe]; exact bd_ch _ _ _
  have hKb : Bd K := by rw [← hKe]; exact bd_ch _ _ _
  rw [hMe] at hl hM g2 g2l
  rw [hKe] at hl hK g3 g3l
  have v1 : sizeV l = .tuple #[.int .i64 (sumS l), .nilIface] := by unfold sizeV; rw [if_pos hr]
  have v2 : sizeV M = .tuple #[.int .i64 (sumS M), .nilIface] := by unfold sizeV; rw [if_pos hM]
  have v3 : sizeV K = .tuple #[.int .i64 (sumS K), .nilIface] := by unfold sizeV; rw [if_pos hK]
  obtain ⟨s1, hs1⟩ : ∃ s, sumS l = s := ⟨_, rfl⟩
  obtain ⟨s2, hs2⟩ : ∃ s, sumS M = s := ⟨_, rfl⟩
  obtain ⟨s3, hs3⟩ : ∃ s, sumS K = s := ⟨_, rfl⟩
  rw [hs1] at v1 hl g1
  rw [hs2] at v2 hl g2
  rw [hs3] at v3 hl g3
  obtain ⟨q1, q2, q3⟩ := hl
  simp only at q1
  have b1 : 0 ≤ s1 ∧ s1 ≤ 16000 := by omega
  have b2 : 0 ≤ s2 ∧ s2 ≤ 16000 := by omega
  have b3 : 0 ≤ s3 ∧ s3 ≤ 16000 := by omega
  obtain ⟨b10, b11⟩ := b1
  obtain ⟨b20, b21⟩ := b2
  obtain ⟨b30, b31⟩ := b3
  have HH := Lib.hid (And.intro h (And.intro h2 (And.intro hMe (And.intro hKe (And.intro v1 (And.intro v2 (And.intro v3 (And.intro hMb hKb))))))))
  have hq1 : (s2 - s1 + (s1 - s3) == b) = true := by simp; omega
  have Q1 := Lib.hid q1
  clear q1
  clear h h2 hz hz2 hM hK g1 g1l g2 g2l g3 g3l hMe hKe hMb hKb v1 v2 v3 hs1 hs2 hs3 hr
  go_enter Try.func8, Try.ntmps8
  go_wp2_with fail
  with_reducible refine (extentFact_any _).mono ?_
  rintro e w1 ⟨rfl, k1⟩
  have hB1 := hB0.trans (k1.mono hB0.size)
  have E1 := (k1.cell (p := ⟨w.heap.size, 0, none⟩) (by simp)).trans EE.out.1
  have E2 := (k1.cell (p := ⟨w.heap.size, 1, none⟩) (by simp)).trans EE.out.2
  have hlt : w.heap.size < w1.heap.size := by have := k1.size; simp at this; omega
  have HEE := Lib.hid (And.intro E1 (And.intro E2 (hA.below hB1)))
  clear k1 E1 E2
  have hb : Below w1.heap.size w1 w1 := Below.refl _ _
  have hB := hB1
  have e1 := HEE.out.1
  have e2 := HEE.out.2.1
  have hAx := HEE.out.2.2
  go_wp2_with fail
  with_reducible refine (size_bd _ _ _ l _ hAx HBD.out).mono ?_
  rintro e w14x ⟨rfl, k14⟩
  have hb := hb.trans (k14.mono hb.size)
  have hB := hB1.trans (hb.mono hB1.size)
  have e1 := (hb.cell (p := ⟨w.heap.size, 0, none⟩) hlt).trans HEE.out.1
  have e2 := (hb.cell (p := ⟨w.heap.size, 1, none⟩) hlt).trans HEE.out.2.1
  have hAx := HEE.out.2.2.below hb
  rw [HH.out.2.2.2.2.1]
  go_wp2_with fail
  with_reducible refine (xAdd_ok _ _ _ l a b _ hAx HBD.out HH.out.1).mono ?_
  rintro e w15x ⟨⟨C, m, c', rfl, hm, hown⟩, k15⟩
  have hb := hb.trans (k15.mono hb.size)
  have hB := hB1.trans (hb.mono hB1.size)
  have e1 := (hb.cell (p := ⟨w.heap.size, 0, none⟩) hlt).trans HEE.out.1
  have e2 := (hb.cell (p := ⟨w.heap.size, 1, none⟩) hlt).trans HEE.out.2.1
  have hAx := HEE.out.2.2.below hb
  rw [HH.out.2.2.1] at hown
  have hpM := hown.rd (by omega)
  clear hown
  go_wp2_with fail
  with_reducible refine (xCut_ok _ _ _ l a b _ hAx HBD.out HH.out.2.1).mono ?_
  rintro e w16x ⟨⟨C2, m2, c2, rfl, hm2, hown2⟩, k16⟩
  have hb := hb.trans (k16.mono hb.size)
  have hB := hB1.trans (hb.mono hB1.size)
  have e1 := (hb.cell (p := ⟨w.heap.size, 0, none⟩) hlt).trans HEE.out.1
  have e2 := (hb.cell (p := ⟨w.heap.size, 1, none⟩) hlt).trans HEE.out.2.1
  have hAx := HEE.out.2.2.below hb
  have hpM := hpM.below k16
  rw [HH.out.2.2.2.1] at hown2
  have hpK := hown2.rd (by omega)
  clear hown2
  go_wp2_with fail
  with_reducible refine (size_bd _ _ _ M _ hpM HH.out.2.2.2.2.2.2.2.1).mono ?_
  rintro e w17x ⟨rfl, k17⟩
  have hb := hb.trans (k17.mono hb.size)
  have hB := hB1.trans (hb.mono hB1.size)
  have e1 := (hb.cell (p := ⟨w.heap.size, 0, none⟩) hlt).trans HEE.out.1
  have e2 := (hb.cell (p := ⟨w.heap.size, 1, none⟩) hlt).trans HEE.out.2.1
  have hAx := HEE.out.2.2.below hb
  rw [HH.out.2.2.2.2.2.1]
  have hpK := hpK.below k17
  go_wp2_with fail
  with_reducible refine (size_bd _ _ _ K _ hpK HH.out.2.2.2.2.2.2.2.2).mono ?_
  rintro e w18x ⟨rfl, k18⟩
  have hb := hb.trans (k18.mono hb.size)
  have hB := hB1.trans (hb.mono hB1.size)
  have e1 := (hb.cell (p := ⟨w.heap.size, 0, none⟩) hlt).trans HEE.out.1
  have e2 := (hb.cell (p := ⟨w.heap.size, 1, none⟩) hlt).trans HEE.out.2.1
  have hAx := HEE.out.2.2.below hb
  rw [HH.out.2.2.2.2.2.2.1]
  go_wp2
  go_ret
  exact ⟨rfl, hB⟩

set_option maxHeartbeats 8000000 in
set_option maxRecDepth 100000 in
theorem walk_ok_bad (w : World) (A : Option Addr) (n c : Nat) (l : List (Int × Int)) (hA : RdP w A n (l.map rv)) (hbd : ∀ p ∈ l, (-9223372036854775808 ≤ p.1 ∧ p.1 ≤ 9223372036854775807) ∧ (-9223372036854775808 ≤ p.2 ∧ p.2 ≤ 9223372036854775807)) (hc : n ≤ c) (a b : Int) (ha : -9223372036854775808 ≤ a ∧ a ≤ 9223372036854775807) (hbb : -9223372036854775808 ≤ b ∧ b ≤ 9223372036854775807) (hr : runsE l = 0) (h : chE addB l (a, b) = 0) (h2 : chE cutB l (a, b) ≠ 0) :
    Calls Try.prog 8 #[.slice A n c, .agg #[.int .i64 a, .int .i64 b]] w fun e w' => e = .returned (.bool true) ∧ Below w.heap.size w w' := by
  have hB0 := (Below.refl w.heap.size w).alloc (Nat.le_refl _) (.cells #[.int .i64 a, .int .i64 b] 40)
  have EE1 : (w.alloc (.cells #[.int .i64 a, .int .i64 b] 40)).cell? ⟨w.heap.size, 0, none⟩ = some (.int .i64 a) := by simp
  have EE2 : (w.alloc (.cells #[.int .i64 a, .int .i64 b] 40)).cell? ⟨w.heap.size, 1, none⟩ = some (.int .i64 b) := by simp
  have EE := Lib.hid (And.intro EE1 EE2)
  have HBD := Lib.hid (show Bd l from hbd)
  clear EE1 EE2 hbd
  have v1 : sizeV l = .tuple #[.int .i64 (sumS l), .nilIface] := by unfold sizeV; rw [if_pos hr]
  have HH := Lib.hid (And.intro h (And.intro h2 v1))
  clear h h2 v1 hr
  go_enter Try.func8, Try.ntmps8
  go_wp2_with fail
  with_reducible refine (extentFact_any _).mono ?_
  rintro e w1 ⟨rfl, k1⟩
  have hB1 := hB0.trans (k1.mono hB0.size)
  have E1 := (k1.cell (p := ⟨w.heap.size, 0, none⟩) (by simp)).trans EE.out.1
  have E2 := (k1.cell (p := ⟨w.heap.size, 1, none⟩) (by simp)).trans EE.out.2
  have hlt : w.heap.size < w1.heap.size := by have := k1.size; simp at this; omega
  have HEE := Lib.hid (And.intro E1 (And.intro E2 (hA.below hB1)))
  clear k1 E1 E2
  have hb : Below w1.heap.size w1 w1 := Below.refl _ _
  have hB := hB1
  have e1 := HEE.out.1
  have e2 := HEE.out.2.1
  have hAx := HEE.out.2.2
  go_wp2_with fail
  with_reducible refine (size_bd _ _ _ l _ hAx HBD.out).mono ?_
  rintro e w19x ⟨rfl, k19⟩
  have hb := hb.trans (k19.mono hb.size)
  have hB := hB1.trans (hb.mono hB1.size)
  have e1 := (hb.cell (p := ⟨w.heap.size, 0, none⟩) hlt).trans HEE.out.1
  have e2 := (hb.cell (p := ⟨w.heap.size, 1, none⟩) hlt).trans HEE.out.2.1
  have hAx := HEE.out.2.2.below hb
  rw [HH.out.2.2]
  go_wp2_with fail
  with_reducible refine (xAdd_ok _ _ _ l a b _ hAx HBD.out HH.out.1).mono ?_
  rintro e w20x ⟨⟨C, m, c', rfl, hm, hown⟩, k20⟩
  have hb := hb.trans (k20.mono hb.size)
  have hB := hB1.trans (hb.mono hB1.size)
  have e1 := (hb.cell (p := ⟨w.heap.size, 0, none⟩) hlt).trans HEE.out.1
  have e2 := (hb.cell (p := ⟨w.heap.size, 1, none⟩) hlt).trans HEE.out.2.1
  have hAx := HEE.out.2.2.below hb
  have hpM := hown.rd (by omega)
  clear hown
  go_wp2_with fail
  with_reducible refine (xCut_bad _ _ _ l a b _ hAx HBD.out HH.out.2.1).mono ?_
  rintro e w21x ⟨rfl, k21⟩
  have hb := hb.trans (k21.mono hb.size)
  have hB := hB1.trans (hb.mono hB1.size)
  have e1 := (hb.cell (p := ⟨w.heap.size, 0, none⟩) hlt).trans HEE.out.1
  have e2 := (hb.cell (p := ⟨w.heap.size, 1, none⟩) hlt).trans HEE.out.2.1
  have hAx := HEE.out.2.2.below hb
  have hpM := hpM.below k21
  go_wp2
  go_ret
  exact ⟨rfl, hB⟩

set_option maxHeartbeats 8000000 in
set_option maxRecDepth 100000 in
theorem walk_bad_ok (w : World) (A : Option Addr) (n c : Nat) (l : List (Int × Int)) (hA : RdP w A n (l.map rv)) (hbd : ∀ p ∈ l, (-9223372036854775808 ≤ p.1 ∧ p.1 ≤ 9223372036854775807) ∧ (-9223372036854775808 ≤ p.2 ∧ p.2 ≤ 9223372036854775807)) (hc : n ≤ c) (a b : Int) (ha : -9223372036854775808 ≤ a ∧ a ≤ 9223372036854775807) (hbb : -9223372036854775808 ≤ b ∧ b ≤ 9223372036854775807) (hr : runsE l = 0) (h : chE addB l (a, b) ≠ 0) (h2 : chE cutB l (a, b) = 0) :
    Calls Try.prog 8 #[.slice A n c, .agg #[.int .i64 a, .int .i64 b]] w fun e w' => e = .returned (.bool true) ∧ Below w.heap.size w w' := by
  have hB0 := (Below.refl w.heap.size w).alloc (Nat.le_refl _) (.cells #[.int .i64 a, .int .i64 b] 40)
  have EE1 : (w.alloc (.cells #[.int .i64 a, .int .i64 b] 40)).cell? ⟨w.heap.size, 0, none⟩ = some (.int .i64 a) := by simp
  have EE2 : (w.alloc (.cells #[.int .i64 a, .int .i64 b] 40)).cell? ⟨w.heap.size, 1, none⟩ = some (.int .i64 b) := by simp
  have EE := Lib.hid (And.intro EE1 EE2)
  have HBD := Lib.hid (show Bd l from hbd)
  clear EE1 EE2 hbd
  have v1 : sizeV l = .tuple #[.int .i64 (sumS l), .nilIface] := by unfold sizeV; rw [if_pos hr]
  have HH := Lib.hid (And.intro h (And.intro h2 v1))
  clear h h2 v1 hr
  go_enter Try.func8, Try.ntmps8
  go_wp2_with fail
  with_reducible refine (extentFact_any _).mono ?_
  rintro e w1 ⟨rfl, k1⟩
  have hB1 := hB0.trans (k1.mono hB0.size)
  have E1 := (k1.cell (p := ⟨w.heap.size, 0, none⟩) (by simp)).trans EE.out.1
  have E2 := (k1.cell (p := ⟨w.heap.size, 1, none⟩) (by simp)).trans EE.out.2
  have hlt : w.heap.size < w1.heap.size := by have := k1.size; simp at this; omega
  have HEE := Lib.hid (And.intro E1 (And.intro E2 (hA.below hB1)))
  clear k1 E1 E2
  have hb : Below w1.heap.size w1 w1 := Below.refl _ _
  have hB := hB1
  have e1 := HEE.out.1
  have e2 := HEE.out.2.1
  have hAx := HEE.out.2.2
  go_wp2_with fail
  with_reducible refine (size_bd _ _ _ l _ hAx HBD.out).mono ?_
  rintro e w22x ⟨rfl, k22⟩
  have hb := hb.trans (k22.mono hb.size)
  have hB := hB1.trans (hb.mono hB1.size)
  have e1 := (hb.cell (p := ⟨w.heap.size, 0, none⟩) hlt).trans HEE.out.1
  have e2 := (hb.cell (p := ⟨w.heap.size, 1, none⟩) hlt).trans HEE.out.2.1
  have hAx := HEE.out.2.2.below hb
  rw [HH.out.2.2]
  go_wp2_with fail
  with_reducible refine (xAdd_bad _ _ _ l a b _ hAx HBD.out HH.out.1).mono ?_
  rintro e w23x ⟨rfl, k23⟩
  have hb := hb.trans (k23.mono hb.size)
  have hB := hB1.trans (hb.mono hB1.size)
  have e1 := (hb.cell (p := ⟨w.heap.size, 0, none⟩) hlt).trans HEE.out.1
  have e2 := (hb.cell (p := ⟨w.heap.size, 1, none⟩) hlt).trans HEE.out.2.1
  have hAx := HEE.out.2.2.below hb
  go_wp2_with fail
  with_reducible refine (xCut_ok _ _ _ l a b _ hAx HBD.out HH.out.2.1).mono ?_
  rintro e w24x ⟨⟨C2, m2, c2, rfl, hm2, hown2⟩, k24⟩
  have hb := hb.trans (k24.mono hb.size)
  have hB := hB1.trans (hb.mono hB1.size)
  have e1 := (hb.cell (p := ⟨w.heap.size, 0, none⟩) hlt).trans HEE.out.1
  have e2 := (hb.cell (p := ⟨w.heap.size, 1, none⟩) hlt).trans HEE.out.2.1
  have hAx := HEE.out.2.2.below hb
  have hpK := hown2.rd (by omega)
  clear hown2
  go_wp2
  go_ret
  exact ⟨rfl, hB⟩

set_option maxHeartbeats 8000000 in
set_option maxRecDepth 100000 in
theorem walk_bad_bad (w : World) (A : Option Addr) (n c : Nat) (l : List (Int × Int)) (hA : RdP w A n (l.map rv)) (hbd : ∀ p ∈ l, (-9223372036854775808 ≤ p.1 ∧ p.1 ≤ 9223372036854775807) ∧ (-9223372036854775808 ≤ p.2 ∧ p.2 ≤ 9223372036854775807)) (hc : n ≤ c) (a b : Int) (ha : -9223372036854775808 ≤ a ∧ a ≤ 9223372036854775807) (hbb : -9223372036854775808 ≤ b ∧ b ≤ 9223372036854775807) (hr : runsE l = 0) (h : chE addB l (a, b) ≠ 0) (h2 : chE cutB l (a, b) ≠ 0) :
    Calls Try.prog 8 #[.slice A n c, .agg #[.int .i64 a, .int .i64 b]] w fun e w' => e = .returned (.bool true) ∧ Below w.heap.size w w' := by
  have hB0 := (Below.refl w.heap.size w).alloc (Nat.le_refl _) (.cells #[.int .i64 a, .int .i64 b] 40)
  have EE1 : (w.alloc (.cells #[.int .i64 a, .int .i64 b] 40)).cell? ⟨w.heap.size, 0, none⟩ = some (.int .i64 a) := by simp
  have EE2 : (w.alloc (.cells #[.int .i64 a, .int .i64 b] 40)).cell? ⟨w.heap.size, 1, none⟩ = some (.int .i64 b) := by simp
  have EE := Lib.hid (And.intro EE1 EE2)
  have HBD := Lib.hid (show Bd l from hbd)
  clear EE1 EE2 hbd
  have v1 : sizeV l = .tuple #[.int .i64 (sumS l), .nilIface] := by unfold sizeV; rw [if_pos hr]
  have HH := Lib.hid (And.intro h (And.intro h2 v1))
  clear h h2 v1 hr
  go_enter Try.func8, Try.ntmps8
  go_wp2_with fail
  with_reducible refine (extentFact_any _).mono ?_
  rintro e w1 ⟨rfl, k1⟩
  have hB1 := hB0.trans (k1.mono hB0.size)
  have E1 := (k1.cell (p := ⟨w.heap.size, 0, none⟩) (by simp)).trans EE.out.1
  have E2 := (k1.cell (p := ⟨w.heap.size, 1, none⟩) (by simp)).trans EE.out.2
  have hlt : w.heap.size < w1.heap.size := by have := k1.size; simp at this; omega
  have HEE := Lib.hid (And.intro E1 (And.intro E2 (hA.below hB1)))
  clear k1 E1 E2
  have hb : Below w1.heap.size w1 w1 := Below.refl _ _
  have hB := hB1
  have e1 := HEE.out.1
  have e2 := HEE.out.2.1
  have hAx := HEE.out.2.2
  go_wp2_with fail
  with_reducible refine (size_bd _ _ _ l _ hAx HBD.out).mono ?_
  rintro e w25x ⟨rfl, k25⟩
  have hb := hb.trans (k25.mono hb.size)
  have hB := hB1.trans (hb.mono hB1.size)
  have e1 := (hb.cell (p := ⟨w.heap.size, 0, none⟩) hlt).trans HEE.out.1
  have e2 := (hb.cell (p := ⟨w.heap.size, 1, none⟩) hlt).trans HEE.out.2.1
  have hAx := HEE.out.2.2.below hb
  rw [HH.out.2.2]
  go_wp2_with fail
  with_reducible refine (xAdd_bad _ _ _ l a b _ hAx HBD.out HH.out.1).mono ?_
  rintro e w26x ⟨rfl, k26⟩
  have hb := hb.trans (k26.mono hb.size)
  have hB := hB1.trans (hb.mono hB1.size)
  have e1 := (hb.cell (p := ⟨w.heap.size, 0, none⟩) hlt).trans HEE.out.1
  have e2 := (hb.cell (p := ⟨w.heap.size, 1, none⟩) hlt).trans HEE.out.2.1
  have hAx := HEE.out.2.2.below hb
  go_wp2_with fail
  with_reducible refine (xCut_bad _ _ _ l a b _ hAx HBD.out HH.out.2.1).mono ?_
  rintro e w27x ⟨rfl, k27⟩
  have hb := hb.trans (k27.mono hb.size)
  have hB := hB1.trans (hb.mono hB1.size)
  have e1 := (hb.cell (p := ⟨w.heap.size, 0, none⟩) hlt).trans HEE.out.1
  have e2 := (hb.cell (p := ⟨w.heap.size, 1, none⟩) hlt).trans HEE.out.2.1
  have hAx := HEE.out.2.2.below hb
  go_wp2
  go_ret
  exact ⟨rfl, hB⟩

set_option maxHeartbeats 8000000 in
set_option maxRecDepth 100000 in
theorem walk_no (w : World) (A : Option Addr) (n c : Nat) (l : List (Int × Int)) (hA : RdP w A n (l.map rv)) (hbd : ∀ p ∈ l, (-9223372036854775808 ≤ p.1 ∧ p.1 ≤ 9223372036854775807) ∧ (-9223372036854775808 ≤ p.2 ∧ p.2 ≤ 9223372036854775807)) (hc : n ≤ c) (a b : Int) (ha : -9223372036854775808 ≤ a ∧ a ≤ 9223372036854775807) (hbb : -9223372036854775808 ≤ b ∧ b ≤ 9223372036854775807) (hr : runsE l ≠ 0) :
    Calls Try.prog 8 #[.slice A n c, .agg #[.int .i64 a, .int .i64 b]] w fun e w' => e = .returned (.bool true) ∧ Below w.heap.size w w' := by
  have hB0 := (Below.refl w.heap.size w).alloc (Nat.le_refl _) (.cells #[.int .i64 a, .int .i64 b] 40)
  have EE1 : (w.alloc (.cells #[.int .i64 a, .int .i64 b] 40)).cell? ⟨w.heap.size, 0, none⟩ = some (.int .i64 a) := by simp
  have EE2 : (w.alloc (.cells #[.int .i64 a, .int .i64 b] 40)).cell? ⟨w.heap.size, 1, none⟩ = some (.int .i64 b) := by simp
  have EE := Lib.hid (And.intro EE1 EE2)
  have HBD := Lib.hid (show Bd l from hbd)
  clear EE1 EE2 hbd
  have h : chE addB l (a, b) ≠ 0 := fun h => hr (chE_zero.1 h).1
  have h2 : chE cutB l (a, b) ≠ 0 := fun h => hr (chE_zero.1 h).1
  have v1 : sizeV l = .tuple #[.int .i64 0, .iface 23 (.int .i64 (runsE l))] := by unfold sizeV; rw [if_neg hr]
  have HH := Lib.hid (And.intro h (And.intro h2 v1))
  clear h h2 v1 hr
  go_enter Try.func8, Try.ntmps8
  go_wp2_with fail
  with_reducible refine (extentFact_any _).mono ?_
  rintro e w1 ⟨rfl, k1⟩
  have hB1 := hB0.trans (k1.mono hB0.size)
  have E1 := (k1.cell (p := ⟨w.heap.size, 0, none⟩) (by simp)).trans EE.out.1
  have E2 := (k1.cell (p := ⟨w.heap.size, 1, none⟩) (by simp)).trans EE.out.2
  have hlt : w.heap.size < w1.heap.size := by have := k1.size; simp at this; omega
  have HEE := Lib.hid (And.intro E1 (And.intro E2 (hA.below hB1)))
  clear k1 E1 E2
  have hb : Below w1.heap.size w1 w1 := Below.refl _ _
  have hB := hB1
  have e1 := HEE.out.1
  have e2 := HEE.out.2.1
  have hAx := HEE.out.2.2
  go_wp2_with fail
  with_reducible refine (size_bd _ _ _ l _ hAx HBD.out).mono ?_
  rintro e w28x ⟨rfl, k28⟩
  have hb := hb.trans (k28.mono hb.size)
  have hB := hB1.trans (hb.mono hB1.size)
  have e1 := (hb.cell (p := ⟨w.heap.size, 0, none⟩) hlt).trans HEE.out.1
  have e2 := (hb.cell (p := ⟨w.heap.size, 1, none⟩) hlt).trans HEE.out.2.1
  have hAx := HEE.out.2.2.below hb
  rw [HH.out.2.2]
  go_wp2_with fail
  with_reducible refine (xAdd_bad _ _ _ l a b _ hAx HBD.out HH.out.1).mono ?_
  rintro e w29x ⟨rfl, k29⟩
  have hb := hb.trans (k29.mono hb.size)
  have hB := hB1.trans (hb.mono hB1.size)
  have e1 := (hb.cell (p := ⟨w.heap.size, 0, none⟩) hlt).trans HEE.out.1
  have e2 := (hb.cell (p := ⟨w.heap.size, 1, none⟩) hlt).trans HEE.out.2.1
  have hAx := HEE.out.2.2.below hb
  go_wp2_with fail
  with_reducible refine (xCut_bad _ _ _ l a b _ hAx HBD.out HH.out.2.1).mono ?_
  rintro e w30x ⟨rfl, k30⟩
  have hb := hb.trans (k30.mono hb.size)
  have hB := hB1.trans (hb.mono hB1.size)
  have e1 := (hb.cell (p := ⟨w.heap.size, 0, none⟩) hlt).trans HEE.out.1
  have e2 := (hb.cell (p := ⟨w.heap.size, 1, none⟩) hlt).trans HEE.out.2.1
  have hAx := HEE.out.2.2.below hb
  go_wp2
  go_ret
  exact ⟨rfl, hB⟩

theorem walk (w : World) (A : Option Addr) (n c : Nat) (l : List (Int × Int)) (hA : RdP w A n (l.map rv)) (hbd : ∀ p ∈ l, (-9223372036854775808 ≤ p.1 ∧ p.1 ≤ 9223372036854775807) ∧ (-9223372036854775808 ≤ p.2 ∧ p.2 ≤ 9223372036854775807)) (hc : n ≤ c) (a b : Int) (ha : -9223372036854775808 ≤ a ∧ a ≤ 9223372036854775807) (hbb : -9223372036854775808 ≤ b ∧ b ≤ 9223372036854775807) :
    Calls Try.prog 8 #[.slice A n c, .agg #[.int .i64 a, .int .i64 b]] w fun e w' => e = .returned (.bool true) ∧ Below w.heap.size w w' := by
  by_cases hr : runsE l = 0
  · by_cases h : chE addB l (a, b) = 0
    · skip
      by_cases h2 : chE cutB l (a, b) = 0
      · exact walk_ok_ok w A n c l hA hbd hc a b ha hbb hr h h2
      · exact walk_ok_bad w A n c l hA hbd hc a b ha hbb hr h h2
    · skip
      by_cases h2 : chE cutB l (a, b) = 0
      · exact walk_bad_ok w A n c l hA hbd hc a b ha hbb hr h h2
      · exact walk_bad_bad w A n c l hA hbd hc a b ha hbb hr h h2
  · exact walk_no w A n c l hA hbd hc a b ha hbb hr

set_option maxRecDepth 100000 in
theorem lifted (os : Os) (started : os.Started) (H : Type) (enc : TypeId × Value → H) :
    ReturnsInHanded {} Try.checked os 8 .any (Rows.extentSizeSpec.pre6 enc Try.prog Try.f8 Rows.extentSizeRow.domain false) (Rows.extentSizeSpec.post enc Try.prog Try.f8 false true false false) := by
  refine returnsInHanded_of_change (C := Try.checked) own started (by kernel_rfl) Try.func8
    (ChangeSpec.witness6 (enc := enc) (C := Try.checked) false ⟨#[], #[.slice none 0 0, .agg #[.int .i64 0, .int .i64 0]], []⟩ 8 (by kernel_rfl) (by kernel_rfl) (by kernel_rfl) (by kernel_rfl)) ?_
  intro W base args ds gs before hval0 hW hcnd _
  have hval : ∀ (j : Nat) t v, Try.f8.params[j]? = some t → args[j]? = some v → Value.okWide Try.prog W .any base t v := hval0
  have hW' := hW
  obtain ⟨p, q, hA0, hV, rfl, hfz, hnd⟩ := hW
  have hA : DataW.TrodAll enc Try.prog W 0 (fun _ => true) true Try.f8.params.toList args.toList ds p := hA0
  rw [Try.params8] at hA hval
  obtain ⟨v0, vs0, d0, ds0, p0, q0, hargs, rfl, rfl, h0, r0⟩ := trodAll_cons hA
  obtain ⟨v1, vs1, d1, ds1, p1, q1, rfl, rfl, rfl, h1, r1⟩ := trodAll_cons r0
  obtain ⟨rfl, rfl, rfl⟩ := trodAll_nil r1
  obtain rfl : args = #[v0, v1] := by cases args; simp_all
  obtain ⟨rfl, rfl⟩ := trodVars_none hV
  have k0 := h0
  have lt0 : ∀ x ∈ p0, x.block < W.heap.size := by obtain ⟨m, hm⟩ := k0; exact DataW.trod_lt m _ _ _ hm
  obtain ⟨A0, n0, c0, rfl⟩ := okWide_slice Try.underlying38 (hval 0 38 v0 rfl rfl)
  obtain ⟨l0, w0, hb0, hc0⟩ : ∃ l : List (Int × Int), RdP W A0 n0 (l.map rv) ∧ (∀ p ∈ l, (-9223372036854775808 ≤ p.1 ∧ p.1 ≤ 9223372036854775807) ∧ (-9223372036854775808 ≤ p.2 ∧ p.2 ≤ 9223372036854775807)) ∧ n0 ≤ c0 := by
    obtain ⟨fuel, hf⟩ := h0
    rcases Go.Deep.open_slice_pairs Try.underlying38 Try.underlying40 (by kernel_rfl) rfl rfl (by kernel_rfl) (by kernel_rfl) hf with ⟨hcs, _⟩ | ⟨x, l, c, m, nn, V0, V1, D0, D1, P0, P1, hcs, _, hl, hm, hmm, _, hrow⟩
    · simp [Value.cells] at hcs
      obtain ⟨rfl, rfl, rfl⟩ := hcs
      exact ⟨[], RdP.nil _ _, by simp, Nat.le_refl _⟩
    · simp [Value.cells] at hcs
      obtain ⟨rfl, rfl, rfl⟩ := hcs
      have hlm : n0 ≤ m := by rw [hmm]; split <;> omega
      have hp := rdp_of_cells (w := W) (V0 := V0) (V1 := V1) hl hm (fun j hj => ⟨(hrow j (by omega)).1, (hrow j (by omega)).2.1⟩)
      obtain ⟨l', h1, h2⟩ := runs_of hp (fun j hj => by
        obtain ⟨_, _, g2, g3⟩ := hrow j (by omega)
        obtain ⟨b, e0, _, e4⟩ := DataW.trod_int Try.underlying3 g2
        obtain ⟨s, e1, _, e3⟩ := DataW.trod_int Try.underlying3 g3
        exact ⟨b, s, by simpa using e0, by simpa using e1, wf_range e4, wf_range e3⟩)
      exact ⟨l', h1, h2, hl⟩
  have k1 := h1
  have lt1 : ∀ x ∈ p1, x.block < W.heap.size := by obtain ⟨m, hm⟩ := k1; exact DataW.trod_lt m _ _ _ hm
  obtain ⟨y10, y11, z10, z11, m1, rfl, rfl, rfl, hy10, hy11⟩ := Go.Joins.open_agg2 Try.underlying40 (by kernel_rfl) (by kernel_rfl) (hval 1 40 v1 rfl rfl) h1
  obtain ⟨a1, ea1, _, wa1⟩ := DataW.trod_int Try.underlying3 hy10
  obtain ⟨b1, eb1, _, wb1⟩ := DataW.trod_int Try.underlying3 hy11
  simp at ea1 eb1
  subst ea1
  subst eb1
  clear hA0 hval0
  refine (walk W A0 n0 c0 l0 w0 hb0 hc0 a1 b1 (wf_range wa1) (wf_range wb1)).mono fun e W' ⟨he, bel⟩ => ?_
  subst he
  exact ⟨_, rfl, _, _, _, [], _, [], hW', trodAll_mk1 (shut_bool Try.underlying4 _), (trodAll_cons_mk (Below.trod laidOut (by kernel_rfl) (of_decide_eq_true (by kernel_rfl)) k0 bel lt0) (trodAll_cons_mk (Below.trod laidOut (by kernel_rfl) (of_decide_eq_true (by kernel_rfl)) k1 bel lt1) trodAll_mk0)), rfl, bel.frame _, fun h => by cases h⟩

theorem over : Rows.extentSizeRow.holds Try.pinned (OpenSpec.ofChange Rows.extentSizeSpec) :=
  OpenClaim.holds_of_wide 8 Try.f8 rfl rfl rfl rfl rfl rfl rfl ⟨rfl, rfl, rfl, rfl, rfl⟩ rfl rfl rfl rfl rfl (by kernel_rfl) Try.func8 (by kernel_rfl)
    (of_decide_eq_true (by kernel_rfl)) (by unfold Func.isWrapper; first | (rw [if_pos (by decide +kernel)]; kernel_rfl) | (rw [if_neg (by decide +kernel)]; exact ⟨rfl, rfl⟩))
    (fun os started H enc _ => lifted os started H enc)

theorem proved : Rows.ExtentSizeSaid := over
#print axioms proved
end Go.Proofs.Ytllacbogbbbcaaa.extentSize
