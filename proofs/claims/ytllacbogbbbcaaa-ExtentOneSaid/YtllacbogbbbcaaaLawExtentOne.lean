/- The representation is canonical, and adding twice equals adding once: ExtentOne answers true at every slice of runs, run. Conditions: none beside the row's own. -/
import Derived.Test.YtllacbogbbbcaaaExt4
import Derived.Test.YtllacbogbbbcaaaRunO
namespace Go.Proofs.Ytllacbogbbbcaaa.extentOne
open Go Go.ChangeShapes Go.WideShapes Go.ChangeAt Go.RowKit
set_option linter.unusedVariables false
set_option maxRecDepth 20000

set_option maxHeartbeats 8000000 in
set_option maxRecDepth 100000 in
theorem walk_bad (w : World) (A : Option Addr) (n c : Nat) (l : List (Int × Int)) (hA : RdP w A n (l.map rv)) (hbd : ∀ p ∈ l, (-9223372036854775808 ≤ p.1 ∧ p.1 ≤ 9223372036854775807) ∧ (-9223372036854775808 ≤ p.2 ∧ p.2 ≤ 9223372036854775807)) (hc : n ≤ c) (a b : Int) (ha : -9223372036854775808 ≤ a ∧ a ≤ 9223372036854775807) (hbb : -9223372036854775808 ≤ b ∧ b ≤ 9223372036854775807) (h : chE addB l (a, b) ≠ 0) :
    Calls Try.prog 6 #[.slice A n c, .agg #[.int .i64 a, .int .i64 b]] w fun e w' => e = .returned (.bool true) ∧ Below w.heap.size w w' := by
  have hB0 := (Below.refl w.heap.size w).alloc (Nat.le_refl _) (.cells #[.int .i64 a, .int .i64 b] 40)
  have EE1 : (w.alloc (.cells #[.int .i64 a, .int .i64 b] 40)).cell? ⟨w.heap.size, 0, none⟩ = some (.int .i64 a) := by simp
  have EE2 : (w.alloc (.cells #[.int .i64 a, .int .i64 b] 40)).cell? ⟨w.heap.size, 1, none⟩ = some (.int .i64 b) := by simp
  have EE := Lib.hid (And.intro EE1 EE2)
  have HBD := Lib.hid (show Bd l from hbd)
  clear EE1 EE2 hbd
  have H := Lib.hid h
  clear h
  go_enter Try.func6, Try.ntmps6
  go_wp2_with fail
  with_reducible refine (extentFact_any _).mono ?_
  rintro e w1 ⟨rfl, k1⟩
  have hB1 := hB0.trans (k1.mono hB0.size)
  have E1 := (k1.cell (p := ⟨w.heap.size, 0, none⟩) (by simp)).trans EE.out.1
  have E2 := (k1.cell (p := ⟨w.heap.size, 1, none⟩) (by simp)).trans EE.out.2
  have hlt : w.heap.size < w1.heap.size := by have := k1.size; simp at this; omega
  have HEE := Lib.hid (And.intro E1 (And.intro E2 (hA.below hB1)))
  clear k1 E1 E2
  have hb : Below w1.heap.size w1 w1 := Below.refl _ _
  have hB := hB1
  have e1 := HEE.out.1
  have e2 := HEE.out.2.1
  have hAx := HEE.out.2.2
  go_wp2_with fail
  with_reducible refine (xAdd_bad _ _ _ l a b _ hAx HBD.out H.out).mono ?_
  rintro e w1x ⟨rfl, k1⟩
  have hb := hb.trans (k1.mono hb.size)
  have hB := hB1.trans (hb.mono hB1.size)
  have e1 := (hb.cell (p := ⟨w.heap.size, 0, none⟩) hlt).trans HEE.out.1
  have e2 := (hb.cell (p := ⟨w.heap.size, 1, none⟩) hlt).trans HEE.out.2.1
  have hAx := HEE.out.2.2.below hb
  go_wp2
  go_ret
  exact ⟨rfl, hB⟩

set_option maxHeartbeats 8000000 in
set_option maxRecDepth 100000 in
theorem walk_okcut (w : World) (A : Option Addr) (n c : Nat) (l : List (Int × Int)) (hA : RdP w A n (l.map rv)) (hbd : ∀ p ∈ l, (-9223372036854775808 ≤ p.1 ∧ p.1 ≤ 9223372036854775807) ∧ (-9223372036854775808 ≤ p.2 ∧ p.2 ≤ 9223372036854775807)) (hc : n ≤ c) (a b : Int) (ha : -9223372036854775808 ≤ a ∧ a ≤ 9223372036854775807) (hbb : -9223372036854775808 ≤ b ∧ b ≤ 9223372036854775807) (h : chE addB l (a, b) = 0) (h2 : chE cutB l (a, b) = 0) :
    Calls Try.prog 6 #[.slice A n c, .agg #[.int .i64 a, .int .i64 b]] w fun e w' => e = .returned (.bool true) ∧ Below w.heap.size w w' := by
  have hB0 := (Below.refl w.heap.size w).alloc (Nat.le_refl _) (.cells #[.int .i64 a, .int .i64 b] 40)
  have EE1 : (w.alloc (.cells #[.int .i64 a, .int .i64 b] 40)).cell? ⟨w.heap.size, 0, none⟩ = some (.int .i64 a) := by simp
  have EE2 : (w.alloc (.cells #[.int .i64 a, .int .i64 b] 40)).cell? ⟨w.heap.size, 1, none⟩ = some (.int .i64 b) := by simp
  have EE := Lib.hid (And.intro EE1 EE2)
  have HBD := Lib.hid (show Bd l from hbd)
  clear EE1 EE2 hbd
  have hz := chE_zero.1 h
  have hM := chE_ok_runs h
  have hMM := add_add l (a, b)
  have hME : chE addB (chL addB l (a, b)) (a, b) = 0 := chE_zero.2 ⟨hM, hz.2.1, by rw [hMM]; exact hz.2.2⟩
  obtain ⟨M, hMe⟩ : ∃ M, chL addB l (a, b) = M := ⟨_, rfl⟩
  have hMb : Bd M := by rw [← hMe]; exact bd_ch _ _ _
  rw [hMe] at hM hMM hME
  have HH := Lib.hid (And.intro h (And.intro hMe (And.intro hM (And.intro hMM (And.intro hME hMb)))))
  have hLL := cut_add l (a, b)
  obtain ⟨K, hKe⟩ : ∃ K, chL cutB l (a, b) = K := ⟨_, rfl⟩
  have hKb : Bd K := by rw [← hKe]; exact bd_ch _ _ _
  have hK := chE_ok_runs h2
  rw [hKe] at hLL hK
  rw [hMe] at hLL
  have hKE : chE addB K (a, b) = 0 := chE_zero.2 ⟨hK, hz.2.1, by rw [hLL, ← hMe]; exact hz.2.2⟩
  have H2 := Lib.hid (And.intro h2 (And.intro hKe (And.intro hKE (And.intro hLL hKb))))
  clear hLL hKe hKb hK hKE
  clear h h2 hz hM hMM hME hMe hMb
  go_enter Try.func6, Try.ntmps6
  go_wp2_with fail
  with_reducible refine (extentFact_any _).mono ?_
  rintro e w1 ⟨rfl, k1⟩
  have hB1 := hB0.trans (k1.mono hB0.size)
  have E1 := (k1.cell (p := ⟨w.heap.size, 0, none⟩) (by simp)).trans EE.out.1
  have E2 := (k1.cell (p := ⟨w.heap.size, 1, none⟩) (by simp)).trans EE.out.2
  have hlt : w.heap.size < w1.heap.size := by have := k1.size; simp at this; omega
  have HEE := Lib.hid (And.intro E1 (And.intro E2 (hA.below hB1)))
  clear k1 E1 E2
  have hb : Below w1.heap.size w1 w1 := Below.refl _ _
  have hB := hB1
  have e1 := HEE.out.1
  have e2 := HEE.out.2.1
  have hAx := HEE.out.2.2
  go_wp2_with fail
  with_reducible refine (xAdd_ok _ _ _ l a b _ hAx HBD.out HH.out.1).mono ?_
  rintro e w2x ⟨⟨C, m, c', rfl, hm, hown⟩, k2⟩
  have hb := hb.trans (k2.mono hb.size)
  have hB := hB1.trans (hb.mono hB1.size)
  have e1 := (hb.cell (p := ⟨w.heap.size, 0, none⟩) hlt).trans HEE.out.1
  have e2 := (hb.cell (p := ⟨w.heap.size, 1, none⟩) hlt).trans HEE.out.2.1
  have hAx := HEE.out.2.2.below hb
  rw [HH.out.2.1] at hown
  have hpM := hown.rd (by omega)
  clear hown
  go_wp2_with fail
  with_reducible refine (xAdd_ok _ _ _ M a b _ hpM HH.out.2.2.2.2.2 HH.out.2.2.2.2.1).mono ?_
  rintro e w3x ⟨⟨C2, m2, c2, rfl, hm2, hown2⟩, k3⟩
  have hb := hb.trans (k3.mono hb.size)
  have hB := hB1.trans (hb.mono hB1.size)
  have e1 := (hb.cell (p := ⟨w.heap.size, 0, none⟩) hlt).trans HEE.out.1
  have e2 := (hb.cell (p := ⟨w.heap.size, 1, none⟩) hlt).trans HEE.out.2.1
  have hAx := HEE.out.2.2.below hb
  rw [HH.out.2.2.2.1] at hown2
  have hpK := hown2.rd (by omega)
  clear hown2
  have hpM := hpM.below k3
  go_wp2_with fail
  with_reducible refine (runs_any _ _ _ _ _ _ M M _ hpM hpK).mono ?_
  rintro e w4x ⟨rfl, k4⟩
  have hb := hb.trans (k4.mono hb.size)
  have hB := hB1.trans (hb.mono hB1.size)
  have e1 := (hb.cell (p := ⟨w.heap.size, 0, none⟩) hlt).trans HEE.out.1
  have e2 := (hb.cell (p := ⟨w.heap.size, 1, none⟩) hlt).trans HEE.out.2.1
  have hAx := HEE.out.2.2.below hb
  rw [show decide (M = M) = true from by simp]
  have hpM := hpM.below k4
  go_wp2_with fail
  with_reducible refine (xcheck_bd _ _ _ M _ hpM HH.out.2.2.2.2.2).mono ?_
  rintro e w5x ⟨rfl, k5⟩
  have hb := hb.trans (k5.mono hb.size)
  have hB := hB1.trans (hb.mono hB1.size)
  have e1 := (hb.cell (p := ⟨w.heap.size, 0, none⟩) hlt).trans HEE.out.1
  have e2 := (hb.cell (p := ⟨w.heap.size, 1, none⟩) hlt).trans HEE.out.2.1
  have hAx := HEE.out.2.2.below hb
  rw [HH.out.2.2.1, errR_zero]
  have hpM := hpM.below k5
  go_wp2_with fail
  with_reducible refine (xCut_ok _ _ _ l a b _ hAx HBD.out H2.out.1).mono ?_
  rintro e w6x ⟨⟨C3, m3, c3, rfl, hm3, hown3⟩, k6⟩
  have hb := hb.trans (k6.mono hb.size)
  have hB := hB1.trans (hb.mono hB1.size)
  have e1 := (hb.cell (p := ⟨w.heap.size, 0, none⟩) hlt).trans HEE.out.1
  have e2 := (hb.cell (p := ⟨w.heap.size, 1, none⟩) hlt).trans HEE.out.2.1
  have hAx := HEE.out.2.2.below hb
  rw [H2.out.2.1] at hown3
  have hpL := hown3.rd (by omega)
  clear hown3
  have hpM := hpM.below k6
  go_wp2_with fail
  with_reducible refine (xAdd_ok _ _ _ K a b _ hpL H2.out.2.2.2.2 H2.out.2.2.1).mono ?_
  rintro e w7x ⟨⟨C4, m4, c4, rfl, hm4, hown4⟩, k7⟩
  have hb := hb.trans (k7.mono hb.size)
  have hB := hB1.trans (hb.mono hB1.size)
  have e1 := (hb.cell (p := ⟨w.heap.size, 0, none⟩) hlt).trans HEE.out.1
  have e2 := (hb.cell (p := ⟨w.heap.size, 1, none⟩) hlt).trans HEE.out.2.1
  have hAx := HEE.out.2.2.below hb
  rw [H2.out.2.2.2.1] at hown4
  have hpN := hown4.rd (by omega)
  clear hown4
  have hpM := hpM.below k7
  go_wp2_with fail
  with_reducible refine (runs_any _ _ _ _ _ _ M M _ hpN hpM).mono ?_
  rintro e w8x ⟨rfl, k8⟩
  have hb := hb.trans (k8.mono hb.size)
  have hB := hB1.trans (hb.mono hB1.size)
  have e1 := (hb.cell (p := ⟨w.heap.size, 0, none⟩) hlt).trans HEE.out.1
  have e2 := (hb.cell (p := ⟨w.heap.size, 1, none⟩) hlt).trans HEE.out.2.1
  have hAx := HEE.out.2.2.below hb
  rw [show decide (M = M) = true from by simp]
  go_wp2
  go_ret
  exact ⟨rfl, hB⟩

set_option maxHeartbeats 8000000 in
set_option maxRecDepth 100000 in
theorem walk_badcut (w : World) (A : Option Addr) (n c : Nat) (l : List (Int × Int)) (hA : RdP w A n (l.map rv)) (hbd : ∀ p ∈ l, (-9223372036854775808 ≤ p.1 ∧ p.1 ≤ 9223372036854775807) ∧ (-9223372036854775808 ≤ p.2 ∧ p.2 ≤ 9223372036854775807)) (hc : n ≤ c) (a b : Int) (ha : -9223372036854775808 ≤ a ∧ a ≤ 9223372036854775807) (hbb : -9223372036854775808 ≤ b ∧ b ≤ 9223372036854775807) (h : chE addB l (a, b) = 0) (h2 : chE cutB l (a, b) ≠ 0) :
    Calls Try.prog 6 #[.slice A n c, .agg #[.int .i64 a, .int .i64 b]] w fun e w' => e = .returned (.bool true) ∧ Below w.heap.size w w' := by
  have hB0 := (Below.refl w.heap.size w).alloc (Nat.le_refl _) (.cells #[.int .i64 a, .int .i64 b] 40)
  have EE1 : (w.alloc (.cells #[.int .i64 a, .int .i64 b] 40)).cell? ⟨w.heap.size, 0, none⟩ = some (.int .i64 a) := by simp
  have EE2 : (w.alloc (.cells #[.int .i64 a, .int .i64 b] 40)).cell? ⟨w.heap.size, 1, none⟩ = some (.int .i64 b) := by simp
  have EE := Lib.hid (And.intro EE1 EE2)
  have HBD := Lib.hid (show Bd l from hbd)
  clear EE1 EE2 hbd
  have hz := chE_zero.1 h
  have hM := chE_ok_runs h
  have hMM := add_add l (a, b)
  have hME : chE addB (chL addB l (a, b)) (a, b) = 0 := chE_zero.2 ⟨hM, hz.2.1, by rw [hMM]; exact hz.2.2⟩
  obtain ⟨M, hMe⟩ : ∃ M, chL addB l (a, b) = M := ⟨_, rfl⟩
  have hMb : Bd M := by rw [← hMe]; exact bd_ch _ _ _
  rw [hMe] at hM hMM hME
  have HH := Lib.hid (And.intro h (And.intro hMe (And.intro hM (And.intro hMM (And.intro hME hMb)))))
  have H2 := Lib.hid h2
  clear h h2 hz hM hMM hME hMe hMb
  go_enter Try.func6, Try.ntmps6
  go_wp2_with fail
  with_reducible refine (extentFact_any _).mono ?_
  rintro e w1 ⟨rfl, k1⟩
  have hB1 := hB0.trans (k1.mono hB0.size)
  have E1 := (k1.cell (p := ⟨w.heap.size, 0, none⟩) (by simp)).trans EE.out.1
  have E2 := (k1.cell (p := ⟨w.heap.size, 1, none⟩) (by simp)).trans EE.out.2
  have hlt : w.heap.size < w1.heap.size := by have := k1.size; simp at this; omega
  have HEE := Lib.hid (And.intro E1 (And.intro E2 (hA.below hB1)))
  clear k1 E1 E2
  have hb : Below w1.heap.size w1 w1 := Below.refl _ _
  have hB := hB1
  have e1 := HEE.out.1
  have e2 := HEE.out.2.1
  have hAx := HEE.out.2.2
  go_wp2_with fail
  with_reducible refine (xAdd_ok _ _ _ l a b _ hAx HBD.out HH.out.1).mono ?_
  rintro e w9x ⟨⟨C, m, c', rfl, hm, hown⟩, k9⟩
  have hb := hb.trans (k9.mono hb.size)
  have hB := hB1.trans (hb.mono hB1.size)
  have e1 := (hb.cell (p := ⟨w.heap.size, 0, none⟩) hlt).trans HEE.out.1
  have e2 := (hb.cell (p := ⟨w.heap.size, 1, none⟩) hlt).trans HEE.out.2.1
  have hAx := HEE.out.2.2.below hb
  rw [HH.out.2.1] at hown
  have hpM := hown.rd (by omega)
  clear hown
  go_wp2_with fail
  with_reducible refine (xAdd_ok _ _ _ M a b _ hpM HH.out.2.2.2.2.2 HH.out.2.2.2.2.1).mono ?_
  rintro e w10x ⟨⟨C2, m2, c2, rfl, hm2, hown2⟩, k10⟩
  have hb := hb.trans (k10.mono hb.size)
  have hB := hB1.trans (hb.mono hB1.size)
  have e1 := (hb.cell (p := ⟨w.heap.size, 0, none⟩) hlt).trans HEE.out.1
  have e2 := (hb.cell (p := ⟨w.heap.size, 1, none⟩) hlt).trans HEE.out.2.1
  have hAx := HEE.out.2.2.below hb
  rw [HH.out.2.2.2.1] at hown2
  have hpK := hown2.rd (by omega)
  clear hown2
  have hpM := hpM.below k10
  go_wp2_with fail
  with_reducible refine (runs_any _ _ _ _ _ _ M M _ hpM hpK).mono ?_
  rintro e w11x ⟨rfl, k11⟩
  have hb := hb.trans (k11.mono hb.size)
  have hB := hB1.trans (hb.mono hB1.size)
  have e1 := (hb.cell (p := ⟨w.heap.size, 0, none⟩) hlt).trans HEE.out.1
  have e2 := (hb.cell (p := ⟨w.heap.size, 1, none⟩) hlt).trans HEE.out.2.1
  have hAx := HEE.out.2.2.below hb
  rw [show decide (M = M) = true from by simp]
  have hpM := hpM.below k11
  go_wp2_with fail
  with_reducible refine (xcheck_bd _ _ _ M _ hpM HH.out.2.2.2.2.2).mono ?_
  rintro e w12x ⟨rfl, k12⟩
  have hb := hb.trans (k12.mono hb.size)
  have hB := hB1.trans (hb.mono hB1.size)
  have e1 := (hb.cell (p := ⟨w.heap.size, 0, none⟩) hlt).trans HEE.out.1
  have e2 := (hb.cell (p := ⟨w.heap.size, 1, none⟩) hlt).trans HEE.out.2.1
  have hAx := HEE.out.2.2.below hb
  rw [HH.out.2.2.1, errR_zero]
  have hpM := hpM.below k12
  go_wp2_with fail
  with_reducible refine (xCut_bad _ _ _ l a b _ hAx HBD.out H2.out).mono ?_
  rintro e w13x ⟨rfl, k13⟩
  have hb := hb.trans (k13.mono hb.size)
  have hB := hB1.trans (hb.mono hB1.size)
  have e1 := (hb.cell (p := ⟨w.heap.size, 0, none⟩) hlt).trans HEE.out.1
  have e2 := (hb.cell (p := ⟨w.heap.size, 1, none⟩) hlt).trans HEE.out.2.1
  have hAx := HEE.out.2.2.below hb
  go_wp2
  go_ret
  exact ⟨rfl, hB⟩

theorem walk (w : World) (A : Option Addr) (n c : Nat) (l : List (Int × Int)) (hA : RdP w A n (l.map rv)) (hbd : ∀ p ∈ l, (-9223372036854775808 ≤ p.1 ∧ p.1 ≤ 9223372036854775807) ∧ (-9223372036854775808 ≤ p.2 ∧ p.2 ≤ 9223372036854775807)) (hc : n ≤ c) (a b : Int) (ha : -9223372036854775808 ≤ a ∧ a ≤ 9223372036854775807) (hbb : -9223372036854775808 ≤ b ∧ b ≤ 9223372036854775807) :
    Calls Try.prog 6 #[.slice A n c, .agg #[.int .i64 a, .int .i64 b]] w fun e w' => e = .returned (.bool true) ∧ Below w.heap.size w w' := by
  by_cases h : chE addB l (a, b) = 0
  · by_cases h2 : chE cutB l (a, b) = 0
    · exact walk_okcut w A n c l hA hbd hc a b ha hbb h h2
    · exact walk_badcut w A n c l hA hbd hc a b ha hbb h h2
  · exact walk_bad w A n c l hA hbd hc a b ha hbb h

set_option maxRecDepth 100000 in
theorem lifted (os : Os) (started : os.Started) (H : Type) (enc : TypeId × Value → H) :
    ReturnsInHanded {} Try.checked os 6 .any (Rows.extentOneSpec.pre6 enc Try.prog Try.f6 Rows.extentOneRow.domain false) (Rows.extentOneSpec.post enc Try.prog Try.f6 false true false false) := by
  refine returnsInHanded_of_change (C := Try.checked) own started (by kernel_rfl) Try.func6
    (ChangeSpec.witness6 (enc := enc) (C := Try.checked) false ⟨#[], #[.slice none 0 0, .agg #[.int .i64 0, .int .i64 0]], []⟩ 8 (by kernel_rfl) (by kernel_rfl) (by kernel_rfl) (by kernel_rfl)) ?_
  intro W base args ds gs before hval0 hW hcnd _
  have hval : ∀ (j : Nat) t v, Try.f6.params[j]? = some t → args[j]? = some v → Value.okWide Try.prog W .any base t v := hval0
  have hW' := hW
  obtain ⟨p, q, hA0, hV, rfl, hfz, hnd⟩ := hW
  have hA : DataW.TrodAll enc Try.prog W 0 (fun _ => true) true Try.f6.params.toList args.toList ds p := hA0
  rw [Try.params6] at hA hval
  obtain ⟨v0, vs0, d0, ds0, p0, q0, hargs, rfl, rfl, h0, r0⟩ := trodAll_cons hA
  obtain ⟨v1, vs1, d1, ds1, p1, q1, rfl, rfl, rfl, h1, r1⟩ := trodAll_cons r0
  obtain ⟨rfl, rfl, rfl⟩ := trodAll_nil r1
  obtain rfl : args = #[v0, v1] := by cases args; simp_all
  obtain ⟨rfl, rfl⟩ := trodVars_none hV
  have k0 := h0
  have lt0 : ∀ x ∈ p0, x.block < W.heap.size := by obtain ⟨m, hm⟩ := k0; exact DataW.trod_lt m _ _ _ hm
  obtain ⟨A0, n0, c0, rfl⟩ := okWide_slice Try.underlying38 (hval 0 38 v0 rfl rfl)
  obtain ⟨l0, w0, hb0, hc0⟩ : ∃ l : List (Int × Int), RdP W A0 n0 (l.map rv) ∧ (∀ p ∈ l, (-9223372036854775808 ≤ p.1 ∧ p.1 ≤ 9223372036854775807) ∧ (-9223372036854775808 ≤ p.2 ∧ p.2 ≤ 9223372036854775807)) ∧ n0 ≤ c0 := by
    obtain ⟨fuel, hf⟩ := h0
    rcases Go.Deep.open_slice_pairs Try.underlying38 Try.underlying40 (by kernel_rfl) rfl rfl (by kernel_rfl) (by kernel_rfl) hf with ⟨hcs, _⟩ | ⟨x, l, c, m, nn, V0, V1, D0, D1, P0, P1, hcs, _, hl, hm, hmm, _, hrow⟩
    · simp [Value.cells] at hcs
      obtain ⟨rfl, rfl, rfl⟩ := hcs
      exact ⟨[], RdP.nil _ _, by simp, Nat.le_refl _⟩
    · simp [Value.cells] at hcs
      obtain ⟨rfl, rfl, rfl⟩ := hcs
      have hlm : n0 ≤ m := by rw [hmm]; split <;> omega
      have hp := rdp_of_cells (w := W) (V0 := V0) (V1 := V1) hl hm (fun j hj => ⟨(hrow j (by omega)).1, (hrow j (by omega)).2.1⟩)
      obtain ⟨l', h1, h2⟩ := runs_of hp (fun j hj => by
        obtain ⟨_, _, g2, g3⟩ := hrow j (by omega)
        obtain ⟨b, e0, _, e4⟩ := DataW.trod_int Try.underlying3 g2
        obtain ⟨s, e1, _, e3⟩ := DataW.trod_int Try.underlying3 g3
        exact ⟨b, s, by simpa using e0, by simpa using e1, wf_range e4, wf_range e3⟩)
      exact ⟨l', h1, h2, hl⟩
  have k1 := h1
  have lt1 : ∀ x ∈ p1, x.block < W.heap.size := by obtain ⟨m, hm⟩ := k1; exact DataW.trod_lt m _ _ _ hm
  obtain ⟨y10, y11, z10, z11, m1, rfl, rfl, rfl, hy10, hy11⟩ := Go.Joins.open_agg2 Try.underlying40 (by kernel_rfl) (by kernel_rfl) (hval 1 40 v1 rfl rfl) h1
  obtain ⟨a1, ea1, _, wa1⟩ := DataW.trod_int Try.underlying3 hy10
  obtain ⟨b1, eb1, _, wb1⟩ := DataW.trod_int Try.underlying3 hy11
  simp at ea1 eb1
  subst ea1
  subst eb1
  clear hA0 hval0
  refine (walk W A0 n0 c0 l0 w0 hb0 hc0 a1 b1 (wf_range wa1) (wf_range wb1)).mono fun e W' ⟨he, bel⟩ => ?_
  subst he
  exact ⟨_, rfl, _, _, _, [], _, [], hW', trodAll_mk1 (shut_bool Try.underlying4 _), (trodAll_cons_mk (Below.trod laidOut (by kernel_rfl) (of_decide_eq_true (by kernel_rfl)) k0 bel lt0) (trodAll_cons_mk (Below.trod laidOut (by kernel_rfl) (of_decide_eq_true (by kernel_rfl)) k1 bel lt1) trodAll_mk0)), rfl, bel.frame _, fun h => by cases h⟩

theorem over : Rows.extentOneRow.holds Try.pinned (OpenSpec.ofChange Rows.extentOneSpec) :=
  OpenClaim.holds_of_wide 6 Try.f6 rfl rfl rfl rfl rfl rfl rfl ⟨rfl, rfl, rfl, rfl, rfl⟩ rfl rfl rfl rfl rfl (by kernel_rfl) Try.func6 (by kernel_rfl)
    (of_decide_eq_true (by kernel_rfl)) (by unfold Func.isWrapper; first | (rw [if_pos (by decide +kernel)]; kernel_rfl) | (rw [if_neg (by decide +kernel)]; exact ⟨rfl, rfl⟩))
    (fun os started H enc _ => lifted os started H enc)

theorem proved : Rows.ExtentOneSaid := over
#print axioms proved
end Go.Proofs.Ytllacbogbbbcaaa.extentOne
