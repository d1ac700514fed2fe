/- The functions of package extent return what the document specifies: ExtentSays answers true at every slice of runs, run, int; errors.errorType is tied to the program's text. Conditions: none beside the card's own. -/
import Derived.Test.YtllacbogbbbcaaaDoorExtC
import Derived.Test.YtllacbogbbbcaaaDoorRunO
import Derived.Test.YtllacbogbbbcaaaDoorOpenD
import Derived.Test.YtllacbogbbbcaaaDoorTold
namespace Go.Proofs.YtllacbogbbbcaaaDoor.extentSays
open Go Go.ChangeShapes Go.WideShapes Go.ChangeAt Go.RowKit
set_option linter.unusedVariables false
set_option maxRecDepth 20000

theorem ch_add_ok (A : Option Addr) (n c : Nat) (l : List (Int × Int)) (a b : Int) (w : World) (hA : RdP w A n (l.map rv)) (h : chE addB l (a, b) = 0) :
    Calls Tryd.prog 21 #[.slice A n c, .agg #[.int .i64 a, .int .i64 b], .bool true] w fun e w' => (∃ C m c', e = .returned (.tuple #[.slice C m c', .int .i64 0]) ∧ m ≤ 16 ∧ OwnP w' w.heap.size (.slice C m c') m ((chL addB l (a, b)).map rv)) ∧ Below w.heap.size w w' :=
  (changed_add A n c l a b w hA).mono (by
    rintro e w' ⟨hout, hb⟩
    rcases hout with ⟨_, h1⟩ | ⟨h0, _⟩
    · exact ⟨h1, hb⟩
    · exact absurd h h0)
theorem ch_add_bad (A : Option Addr) (n c : Nat) (l : List (Int × Int)) (a b : Int) (w : World) (hA : RdP w A n (l.map rv)) (h : chE addB l (a, b) ≠ 0) :
    Calls Tryd.prog 21 #[.slice A n c, .agg #[.int .i64 a, .int .i64 b], .bool true] w fun e w' => e = .returned (.tuple #[.slice none 0 0, .int .i64 (chE addB l (a, b))]) ∧ Below w.heap.size w w' :=
  (changed_add A n c l a b w hA).mono (by
    rintro e w' ⟨hout, hb⟩
    rcases hout with ⟨h0, _⟩ | ⟨_, h1⟩
    · exact absurd h0 h
    · exact ⟨h1, hb⟩)
theorem ch_cut_ok (A : Option Addr) (n c : Nat) (l : List (Int × Int)) (a b : Int) (w : World) (hA : RdP w A n (l.map rv)) (h : chE cutB l (a, b) = 0) :
    Calls Tryd.prog 21 #[.slice A n c, .agg #[.int .i64 a, .int .i64 b], .bool false] w fun e w' => (∃ C m c', e = .returned (.tuple #[.slice C m c', .int .i64 0]) ∧ m ≤ 16 ∧ OwnP w' w.heap.size (.slice C m c') m ((chL cutB l (a, b)).map rv)) ∧ Below w.heap.size w w' :=
  (changed_cut A n c l a b w hA).mono (by
    rintro e w' ⟨hout, hb⟩
    rcases hout with ⟨_, h1⟩ | ⟨h0, _⟩
    · exact ⟨h1, hb⟩
    · exact absurd h h0)
theorem ch_cut_bad (A : Option Addr) (n c : Nat) (l : List (Int × Int)) (a b : Int) (w : World) (hA : RdP w A n (l.map rv)) (h : chE cutB l (a, b) ≠ 0) :
    Calls Tryd.prog 21 #[.slice A n c, .agg #[.int .i64 a, .int .i64 b], .bool false] w fun e w' => e = .returned (.tuple #[.slice none 0 0, .int .i64 (chE cutB l (a, b))]) ∧ Below w.heap.size w w' :=
  (changed_cut A n c l a b w hA).mono (by
    rintro e w' ⟨hout, hb⟩
    rcases hout with ⟨h0, _⟩ | ⟨_, h1⟩
    · exact absurd h0 h
    · exact ⟨h1, hb⟩)
set_option maxHeartbeats 8000000 in
set_option maxRecDepth 100000 in
theorem walk_no (w : World) (A : Option Addr) (n c : Nat) (l : List (Int × Int)) (hA : RdP w A n (l.map rv)) (hbd : ∀ p ∈ l, (-9223372036854775808 ≤ p.1 ∧ p.1 ≤ 9223372036854775807) ∧ (-9223372036854775808 ≤ p.2 ∧ p.2 ≤ 9223372036854775807)) (hc : n ≤ c) (a b : Int) (ha : -9223372036854775808 ≤ a ∧ a ≤ 9223372036854775807) (hbb : -9223372036854775808 ≤ b ∧ b ≤ 9223372036854775807) (p : Int) (hp : -9223372036854775808 ≤ p ∧ p ≤ 9223372036854775807) (hE : ErrT w) (E : Int) (hr : runsE l = E) (hE0 : E ≠ 0) :
    Calls Tryd.prog 4 #[.slice A n c, .agg #[.int .i64 a, .int .i64 b], .int .i64 p] w fun e w' => e = .returned (.bool true) ∧ Below w.heap.size w w' := by
  have hB0 := (Below.refl w.heap.size w).alloc (Nat.le_refl _) (.cells #[.int .i64 a, .int .i64 b] 39)
  have EE1 : (w.alloc (.cells #[.int .i64 a, .int .i64 b] 39)).cell? ⟨w.heap.size, 0, none⟩ = some (.int .i64 a) := by simp
  have EE2 : (w.alloc (.cells #[.int .i64 a, .int .i64 b] 39)).cell? ⟨w.heap.size, 1, none⟩ = some (.int .i64 b) := by simp
  have EE := Lib.hid (And.intro EE1 EE2)
  have HBD := Lib.hid (show Bd l from hbd)
  have HE := Lib.hid hE
  have hlen : l.length = n := by have := hA.len; simpa using this
  have HN := Lib.hid hlen
  have hmx := hA.max
  have hA0 := hA.alloc (.cells #[.int .i64 a, .int .i64 b] 39)
  clear EE1 EE2 hbd hE hlen
  have g1 : chE addB l (a, b) = E := by unfold chE; rw [hr, if_pos hE0]
  have g2 : chE cutB l (a, b) = E := by unfold chE; rw [hr, if_pos hE0]
  have v1 : sizeV l = .tuple #[.int .i64 0, .iface 65 (.int .i64 E)] := by unfold sizeV; rw [hr, if_neg hE0]
  have v2 : hasV l p = .tuple #[.bool false, .iface 65 (.int .i64 E)] := by unfold hasV; rw [hr, if_neg hE0]
  have hEs : (E == E) = true := by simp
  have hEb : (E == 0) = false := by simpa using hE0
  have HA1 := Lib.hid (And.intro (show chE addB l (a, b) ≠ 0 by rw [g1]; exact hE0) g1)
  have HC1 := Lib.hid (And.intro (show chE cutB l (a, b) ≠ 0 by rw [g2]; exact hE0) g2)
  have HV := Lib.hid (And.intro hr (And.intro v1 (And.intro v2 hE0)))
  skip
  clear g1 g2 v1 v2 hr hE0
  go_enter Tryd.func4, Tryd.ntmps4
  go_wp2_with fail
  with_reducible refine (rruns_any _ _ _ l _ hA0).mono ?_
  rintro e w1 ⟨rfl, k1⟩
  rw [HV.out.1]
  have hB1 := hB0.trans (k1.mono hB0.size)
  have E1 := (k1.cell (p := ⟨w.heap.size, 0, none⟩) (by simp)).trans EE.out.1
  have E2 := (k1.cell (p := ⟨w.heap.size, 1, none⟩) (by simp)).trans EE.out.2
  have hlt : w.heap.size < w1.heap.size := by have := k1.size; simp at this; omega
  have HEE := Lib.hid (And.intro E1 (And.intro E2 (hA.below hB1)))
  clear k1 E1 E2 hA0
  have hb : Below w1.heap.size w1 w1 := Below.refl _ _
  have hB := hB1
  have e1 := HEE.out.1
  have e2 := HEE.out.2.1
  have hAx := HEE.out.2.2
  go_wp2_with fail
  with_reducible refine (xcheck_bd _ _ _ l _ hAx HBD.out).mono ?_
  rintro e w1x ⟨rfl, k1⟩
  have hb := hb.trans (k1.mono hb.size)
  have hB := hB1.trans (hb.mono hB1.size)
  have e1 := (hb.cell (p := ⟨w.heap.size, 0, none⟩) hlt).trans HEE.out.1
  have e2 := (hb.cell (p := ⟨w.heap.size, 1, none⟩) hlt).trans HEE.out.2.1
  have hAx := HEE.out.2.2.below hb
  rw [HV.out.1, errR_ne HV.out.2.2.2]
  go_wp2_with fail
  with_reducible refine (error_err E E _ (HE.out.below hB)).mono ?_
  rintro e w2x ⟨rfl, k2⟩
  have hb := hb.trans (k2.mono hb.size)
  have hB := hB1.trans (hb.mono hB1.size)
  have e1 := (hb.cell (p := ⟨w.heap.size, 0, none⟩) hlt).trans HEE.out.1
  have e2 := (hb.cell (p := ⟨w.heap.size, 1, none⟩) hlt).trans HEE.out.2.1
  have hAx := HEE.out.2.2.below hb
  go_wp2_with fail
  with_reducible refine (size_bd _ _ _ l _ hAx HBD.out).mono ?_
  rintro e w3x ⟨rfl, k3⟩
  have hb := hb.trans (k3.mono hb.size)
  have hB := hB1.trans (hb.mono hB1.size)
  have e1 := (hb.cell (p := ⟨w.heap.size, 0, none⟩) hlt).trans HEE.out.1
  have e2 := (hb.cell (p := ⟨w.heap.size, 1, none⟩) hlt).trans HEE.out.2.1
  have hAx := HEE.out.2.2.below hb
  rw [HV.out.2.1]
  go_wp2_with fail
  with_reducible refine (xhas_bd _ _ _ l p _ hAx HBD.out).mono ?_
  rintro e w4x ⟨rfl, k4⟩
  have hb := hb.trans (k4.mono hb.size)
  have hB := hB1.trans (hb.mono hB1.size)
  have e1 := (hb.cell (p := ⟨w.heap.size, 0, none⟩) hlt).trans HEE.out.1
  have e2 := (hb.cell (p := ⟨w.heap.size, 1, none⟩) hlt).trans HEE.out.2.1
  have hAx := HEE.out.2.2.below hb
  rw [HV.out.2.2.1]
  go_wp2
  go_loop [13, 14] (fun s i => s = .int .i64 0 ∧ i = .int .i64 0) (fun _ _ => 0)
  case atStart => exact ⟨rfl, rfl⟩
  case round =>
    obtain ⟨rfl, rfl⟩ := hrel
    by_cases hn : 0 < n
    · have hnI : (0 : Int) < (n : Int) := by omega
      go_wp2_with fail
      with_reducible refine (error_err E E _ (HE.out.below hB)).mono ?_
      rintro e w5x ⟨rfl, k5⟩
      have hb := hb.trans (k5.mono hb.size)
      have hB := hB1.trans (hb.mono hB1.size)
      have e1 := (hb.cell (p := ⟨w.heap.size, 0, none⟩) hlt).trans HEE.out.1
      have e2 := (hb.cell (p := ⟨w.heap.size, 1, none⟩) hlt).trans HEE.out.2.1
      have hAx := HEE.out.2.2.below hb
      go_wp2_with fail
      with_reducible refine (error_err E E _ (HE.out.below hB)).mono ?_
      rintro e w6x ⟨rfl, k6⟩
      have hb := hb.trans (k6.mono hb.size)
      have hB := hB1.trans (hb.mono hB1.size)
      have e1 := (hb.cell (p := ⟨w.heap.size, 0, none⟩) hlt).trans HEE.out.1
      have e2 := (hb.cell (p := ⟨w.heap.size, 1, none⟩) hlt).trans HEE.out.2.1
      have hAx := HEE.out.2.2.below hb
      go_wp2_with fail
      with_reducible refine (ch_add_bad _ _ _ l a b _ hAx HA1.out.1).mono ?_
      rintro e w7x ⟨rfl, k7⟩
      have hb := hb.trans (k7.mono hb.size)
      have hB := hB1.trans (hb.mono hB1.size)
      have e1 := (hb.cell (p := ⟨w.heap.size, 0, none⟩) hlt).trans HEE.out.1
      have e2 := (hb.cell (p := ⟨w.heap.size, 1, none⟩) hlt).trans HEE.out.2.1
      have hAx := HEE.out.2.2.below hb
      rw [HA1.out.2]
      go_wp2_with fail
      with_reducible refine (xAdd_bad _ _ _ l a b _ hAx HBD.out HA1.out.1).mono ?_
      rintro e w8x ⟨rfl, k8⟩
      have hb := hb.trans (k8.mono hb.size)
      have hB := hB1.trans (hb.mono hB1.size)
      have e1 := (hb.cell (p := ⟨w.heap.size, 0, none⟩) hlt).trans HEE.out.1
      have e2 := (hb.cell (p := ⟨w.heap.size, 1, none⟩) hlt).trans HEE.out.2.1
      have hAx := HEE.out.2.2.below hb
      rw [HA1.out.2]
      go_wp2_with fail
      with_reducible refine (error_err E E _ (HE.out.below hB)).mono ?_
      rintro e w9x ⟨rfl, k9⟩
      have hb := hb.trans (k9.mono hb.size)
      have hB := hB1.trans (hb.mono hB1.size)
      have e1 := (hb.cell (p := ⟨w.heap.size, 0, none⟩) hlt).trans HEE.out.1
      have e2 := (hb.cell (p := ⟨w.heap.size, 1, none⟩) hlt).trans HEE.out.2.1
      have hAx := HEE.out.2.2.below hb
      go_wp2_with fail
      with_reducible refine (runs_any _ _ _ _ _ _ [] [] _ (RdP.nil _ _) (RdP.nil _ _)).mono ?_
      rintro e w10x ⟨rfl, k10⟩
      have hb := hb.trans (k10.mono hb.size)
      have hB := hB1.trans (hb.mono hB1.size)
      have e1 := (hb.cell (p := ⟨w.heap.size, 0, none⟩) hlt).trans HEE.out.1
      have e2 := (hb.cell (p := ⟨w.heap.size, 1, none⟩) hlt).trans HEE.out.2.1
      have hAx := HEE.out.2.2.below hb
      rw [show decide (([] : List (Int × Int)) = []) = true from rfl]
      go_wp2_with fail
      with_reducible refine (ch_cut_bad _ _ _ l a b _ hAx HC1.out.1).mono ?_
      rintro e w11x ⟨rfl, k11⟩
      have hb := hb.trans (k11.mono hb.size)
      have hB := hB1.trans (hb.mono hB1.size)
      have e1 := (hb.cell (p := ⟨w.heap.size, 0, none⟩) hlt).trans HEE.out.1
      have e2 := (hb.cell (p := ⟨w.heap.size, 1, none⟩) hlt).trans HEE.out.2.1
      have hAx := HEE.out.2.2.below hb
      rw [HC1.out.2]
      go_wp2_with fail
      with_reducible refine (xCut_bad _ _ _ l a b _ hAx HBD.out HC1.out.1).mono ?_
      rintro e w12x ⟨rfl, k12⟩
      have hb := hb.trans (k12.mono hb.size)
      have hB := hB1.trans (hb.mono hB1.size)
      have e1 := (hb.cell (p := ⟨w.heap.size, 0, none⟩) hlt).trans HEE.out.1
      have e2 := (hb.cell (p := ⟨w.heap.size, 1, none⟩) hlt).trans HEE.out.2.1
      have hAx := HEE.out.2.2.below hb
      rw [HC1.out.2]
      go_wp2_with fail
      with_reducible refine (error_err E E _ (HE.out.below hB)).mono ?_
      rintro e w13x ⟨rfl, k13⟩
      have hb := hb.trans (k13.mono hb.size)
      have hB := hB1.trans (hb.mono hB1.size)
      have e1 := (hb.cell (p := ⟨w.heap.size, 0, none⟩) hlt).trans HEE.out.1
      have e2 := (hb.cell (p := ⟨w.heap.size, 1, none⟩) hlt).trans HEE.out.2.1
      have hAx := HEE.out.2.2.below hb
      go_wp2_with fail
      with_reducible refine (runs_any _ _ _ _ _ _ [] [] _ (RdP.nil _ _) (RdP.nil _ _)).mono ?_
      rintro e w14x ⟨rfl, k14⟩
      have hb := hb.trans (k14.mono hb.size)
      have hB := hB1.trans (hb.mono hB1.size)
      have e1 := (hb.cell (p := ⟨w.heap.size, 0, none⟩) hlt).trans HEE.out.1
      have e2 := (hb.cell (p := ⟨w.heap.size, 1, none⟩) hlt).trans HEE.out.2.1
      have hAx := HEE.out.2.2.below hb
      rw [show decide (([] : List (Int × Int)) = []) = true from rfl]
      go_wp2
      go_ret
      exact ⟨rfl, hB⟩
    · have hnI : ¬ (0 : Int) < (n : Int) := by omega
      go_wp2_with fail
      with_reducible refine (error_err E E _ (HE.out.below hB)).mono ?_
      rintro e w5x ⟨rfl, k5⟩
      have hb := hb.trans (k5.mono hb.size)
      have hB := hB1.trans (hb.mono hB1.size)
      have e1 := (hb.cell (p := ⟨w.heap.size, 0, none⟩) hlt).trans HEE.out.1
      have e2 := (hb.cell (p := ⟨w.heap.size, 1, none⟩) hlt).trans HEE.out.2.1
      have hAx := HEE.out.2.2.below hb
      go_wp2_with fail
      with_reducible refine (error_err E E _ (HE.out.below hB)).mono ?_
      rintro e w6x ⟨rfl, k6⟩
      have hb := hb.trans (k6.mono hb.size)
      have hB := hB1.trans (hb.mono hB1.size)
      have e1 := (hb.cell (p := ⟨w.heap.size, 0, none⟩) hlt).trans HEE.out.1
      have e2 := (hb.cell (p := ⟨w.heap.size, 1, none⟩) hlt).trans HEE.out.2.1
      have hAx := HEE.out.2.2.below hb
      go_wp2_with fail
      with_reducible refine (ch_add_bad _ _ _ l a b _ hAx HA1.out.1).mono ?_
      rintro e w7x ⟨rfl, k7⟩
      have hb := hb.trans (k7.mono hb.size)
      have hB := hB1.trans (hb.mono hB1.size)
      have e1 := (hb.cell (p := ⟨w.heap.size, 0, none⟩) hlt).trans HEE.out.1
      have e2 := (hb.cell (p := ⟨w.heap.size, 1, none⟩) hlt).trans HEE.out.2.1
      have hAx := HEE.out.2.2.below hb
      rw [HA1.out.2]
      go_wp2_with fail
      with_reducible refine (xAdd_bad _ _ _ l a b _ hAx HBD.out HA1.out.1).mono ?_
      rintro e w8x ⟨rfl, k8⟩
      have hb := hb.trans (k8.mono hb.size)
      have hB := hB1.trans (hb.mono hB1.size)
      have e1 := (hb.cell (p := ⟨w.heap.size, 0, none⟩) hlt).trans HEE.out.1
      have e2 := (hb.cell (p := ⟨w.heap.size, 1, none⟩) hlt).trans HEE.out.2.1
      have hAx := HEE.out.2.2.below hb
      rw [HA1.out.2]
      go_wp2_with fail
      with_reducible refine (error_err E E _ (HE.out.below hB)).mono ?_
      rintro e w9x ⟨rfl, k9⟩
      have hb := hb.trans (k9.mono hb.size)
      have hB := hB1.trans (hb.mono hB1.size)
      have e1 := (hb.cell (p := ⟨w.heap.size, 0, none⟩) hlt).trans HEE.out.1
      have e2 := (hb.cell (p := ⟨w.heap.size, 1, none⟩) hlt).trans HEE.out.2.1
      have hAx := HEE.out.2.2.below hb
      go_wp2_with fail
      with_reducible refine (runs_any _ _ _ _ _ _ [] [] _ (RdP.nil _ _) (RdP.nil _ _)).mono ?_
      rintro e w10x ⟨rfl, k10⟩
      have hb := hb.trans (k10.mono hb.size)
      have hB := hB1.trans (hb.mono hB1.size)
      have e1 := (hb.cell (p := ⟨w.heap.size, 0, none⟩) hlt).trans HEE.out.1
      have e2 := (hb.cell (p := ⟨w.heap.size, 1, none⟩) hlt).trans HEE.out.2.1
      have hAx := HEE.out.2.2.below hb
      rw [show decide (([] : List (Int × Int)) = []) = true from rfl]
      go_wp2_with fail
      with_reducible refine (ch_cut_bad _ _ _ l a b _ hAx HC1.out.1).mono ?_
      rintro e w11x ⟨rfl, k11⟩
      have hb := hb.trans (k11.mono hb.size)
      have hB := hB1.trans (hb.mono hB1.size)
      have e1 := (hb.cell (p := ⟨w.heap.size, 0, none⟩) hlt).trans HEE.out.1
      have e2 := (hb.cell (p := ⟨w.heap.size, 1, none⟩) hlt).trans HEE.out.2.1
      have hAx := HEE.out.2.2.below hb
      rw [HC1.out.2]
      go_wp2_with fail
      with_reducible refine (xCut_bad _ _ _ l a b _ hAx HBD.out HC1.out.1).mono ?_
      rintro e w12x ⟨rfl, k12⟩
      have hb := hb.trans (k12.mono hb.size)
      have hB := hB1.trans (hb.mono hB1.size)
      have e1 := (hb.cell (p := ⟨w.heap.size, 0, none⟩) hlt).trans HEE.out.1
      have e2 := (hb.cell (p := ⟨w.heap.size, 1, none⟩) hlt).trans HEE.out.2.1
      have hAx := HEE.out.2.2.below hb
      rw [HC1.out.2]
      go_wp2_with fail
      with_reducible refine (error_err E E _ (HE.out.below hB)).mono ?_
      rintro e w13x ⟨rfl, k13⟩
      have hb := hb.trans (k13.mono hb.size)
      have hB := hB1.trans (hb.mono hB1.size)
      have e1 := (hb.cell (p := ⟨w.heap.size, 0, none⟩) hlt).trans HEE.out.1
      have e2 := (hb.cell (p := ⟨w.heap.size, 1, none⟩) hlt).trans HEE.out.2.1
      have hAx := HEE.out.2.2.below hb
      go_wp2_with fail
      with_reducible refine (runs_any _ _ _ _ _ _ [] [] _ (RdP.nil _ _) (RdP.nil _ _)).mono ?_
      rintro e w14x ⟨rfl, k14⟩
      have hb := hb.trans (k14.mono hb.size)
      have hB := hB1.trans (hb.mono hB1.size)
      have e1 := (hb.cell (p := ⟨w.heap.size, 0, none⟩) hlt).trans HEE.out.1
      have e2 := (hb.cell (p := ⟨w.heap.size, 1, none⟩) hlt).trans HEE.out.2.1
      have hAx := HEE.out.2.2.below hb
      rw [show decide (([] : List (Int × Int)) = []) = true from rfl]
      go_wp2
      go_ret
      exact ⟨rfl, hB⟩

set_option maxHeartbeats 8000000 in
set_option maxRecDepth 100000 in
theorem walk_ok_ok (w : World) (A : Option Addr) (n c : Nat) (l : List (Int × Int)) (hA : RdP w A n (l.map rv)) (hbd : ∀ p ∈ l, (-9223372036854775808 ≤ p.1 ∧ p.1 ≤ 9223372036854775807) ∧ (-9223372036854775808 ≤ p.2 ∧ p.2 ≤ 9223372036854775807)) (hc : n ≤ c) (a b : Int) (ha : -9223372036854775808 ≤ a ∧ a ≤ 9223372036854775807) (hbb : -9223372036854775808 ≤ b ∧ b ≤ 9223372036854775807) (p : Int) (hp : -9223372036854775808 ≤ p ∧ p ≤ 9223372036854775807) (hE : ErrT w) (hr : runsE l = 0) (h1 : chE addB l (a, b) = 0) (h2 : chE cutB l (a, b) = 0) (v : Bool) (hv : hasB l p = v) :
    Calls Tryd.prog 4 #[.slice A n c, .agg #[.int .i64 a, .int .i64 b], .int .i64 p] w fun e w' => e = .returned (.bool true) ∧ Below w.heap.size w w' := by
  have hB0 := (Below.refl w.heap.size w).alloc (Nat.le_refl _) (.cells #[.int .i64 a, .int .i64 b] 39)
  have EE1 : (w.alloc (.cells #[.int .i64 a, .int .i64 b] 39)).cell? ⟨w.heap.size, 0, none⟩ = some (.int .i64 a) := by simp
  have EE2 : (w.alloc (.cells #[.int .i64 a, .int .i64 b] 39)).cell? ⟨w.heap.size, 1, none⟩ = some (.int .i64 b) := by simp
  have EE := Lib.hid (And.intro EE1 EE2)
  have HBD := Lib.hid (show Bd l from hbd)
  have HE := Lib.hid hE
  have hlen : l.length = n := by have := hA.len; simpa using this
  have HN := Lib.hid hlen
  have hmx := hA.max
  have hA0 := hA.alloc (.cells #[.int .i64 a, .int .i64 b] 39)
  clear EE1 EE2 hbd hE hlen
  have v1 : sizeV l = .tuple #[.int .i64 (sumS l), .nilIface] := by unfold sizeV; rw [if_pos hr]
  have v2 : hasV l p = .tuple #[.bool v, .nilIface] := by unfold hasV; rw [if_pos hr, hv]
  have hok := okR_mem (runsE_zero.1 hr).2
  have h16 := (runsE_zero.1 hr).1
  have HV := Lib.hid (And.intro hr (And.intro v1 (And.intro v2 (And.intro hok (And.intro h16 hv)))))
  have hvv : (v == v) = true := by cases v <;> rfl
  have HA1 := Lib.hid (And.intro h1 trivial)
  have HC1 := Lib.hid (And.intro h2 trivial)
  obtain ⟨S, hS⟩ : ∃ S, sumS l = S := ⟨_, rfl⟩
  have HS := Lib.hid hS
  have hSS : (S == S) = true := by simp
  clear h1 h2 hr v1 v2 hok h16 hv hS
  go_enter Tryd.func4, Tryd.ntmps4
  go_wp2_with fail
  with_reducible refine (rruns_any _ _ _ l _ hA0).mono ?_
  rintro e w1 ⟨rfl, k1⟩
  rw [HV.out.1]
  have hB1 := hB0.trans (k1.mono hB0.size)
  have E1 := (k1.cell (p := ⟨w.heap.size, 0, none⟩) (by simp)).trans EE.out.1
  have E2 := (k1.cell (p := ⟨w.heap.size, 1, none⟩) (by simp)).trans EE.out.2
  have hlt : w.heap.size < w1.heap.size := by have := k1.size; simp at this; omega
  have HEE := Lib.hid (And.intro E1 (And.intro E2 (hA.below hB1)))
  clear k1 E1 E2 hA0
  have hb : Below w1.heap.size w1 w1 := Below.refl _ _
  have hB := hB1
  have e1 := HEE.out.1
  have e2 := HEE.out.2.1
  have hAx := HEE.out.2.2
  go_wp2_with fail
  with_reducible refine (xcheck_bd _ _ _ l _ hAx HBD.out).mono ?_
  rintro e w15x ⟨rfl, k15⟩
  have hb := hb.trans (k15.mono hb.size)
  have hB := hB1.trans (hb.mono hB1.size)
  have e1 := (hb.cell (p := ⟨w.heap.size, 0, none⟩) hlt).trans HEE.out.1
  have e2 := (hb.cell (p := ⟨w.heap.size, 1, none⟩) hlt).trans HEE.out.2.1
  have hAx := HEE.out.2.2.below hb
  rw [HV.out.1, errR_zero]
  go_wp2_with fail
  with_reducible refine (error_nil _ _).mono ?_
  rintro e w' ⟨rfl, rfl⟩
  go_wp2_with fail
  with_reducible refine (size_bd _ _ _ l _ hAx HBD.out).mono ?_
  rintro e w16x ⟨rfl, k16⟩
  have hb := hb.trans (k16.mono hb.size)
  have hB := hB1.trans (hb.mono hB1.size)
  have e1 := (hb.cell (p := ⟨w.heap.size, 0, none⟩) hlt).trans HEE.out.1
  have e2 := (hb.cell (p := ⟨w.heap.size, 1, none⟩) hlt).trans HEE.out.2.1
  have hAx := HEE.out.2.2.below hb
  rw [HV.out.2.1, HS.out]
  go_wp2_with fail
  with_reducible refine (xhas_bd _ _ _ l p _ hAx HBD.out).mono ?_
  rintro e w17x ⟨rfl, k17⟩
  have hb := hb.trans (k17.mono hb.size)
  have hB := hB1.trans (hb.mono hB1.size)
  have e1 := (hb.cell (p := ⟨w.heap.size, 0, none⟩) hlt).trans HEE.out.1
  have e2 := (hb.cell (p := ⟨w.heap.size, 1, none⟩) hlt).trans HEE.out.2.1
  have hAx := HEE.out.2.2.below hb
  rw [HV.out.2.2.1]
  go_wp2
  go_loop [13, 14] (fun s i => ∃ k : Nat, k ≤ n ∧ i = .int .i64 k ∧ s = .int .i64 (sumS (l.take k))) (fun _ i => n - (intOf i).toNat)
  case atStart => exact ⟨0, Nat.zero_le _, rfl, rfl⟩
  case round =>
    obtain ⟨k, hk, rfl, rfl⟩ := hrel
    have hsb := sum_bound (l.take k) (fun r hr => HV.out.2.2.2.1 r (List.mem_of_mem_take hr))
    rw [List.length_take] at hsb
    have h16 := HV.out.2.2.2.2.1
    obtain ⟨hs0, hs1⟩ := hsb
    by_cases hkn : k < n
    · obtain ⟨b', off, rfl, hbl, hcc⟩ := hAx.at_ (by omega)
      obtain ⟨c1, c2⟩ := hcc k hkn
      have hkl : k < l.length := by rw [HN.out]; exact hkn
      rw [rv_get hkl] at c1 c2
      have hsn : l.take (k + 1) = l.take k ++ [l[k]] := List.take_succ_eq_append_getElem hkl
      have hss := sumS_snoc (l.take k) l[k]
      rw [← hsn] at hss
      have hokk := HV.out.2.2.2.1 l[k] (List.getElem_mem _)
      obtain ⟨r, hr⟩ : ∃ r, l[k] = r := ⟨_, rfl⟩
      rw [hr] at c1 c2 hss hokk
      obtain ⟨ra, rb⟩ := r
      obtain ⟨o1, o2, o3, o4⟩ := hokk
      simp only at o1 o2 o3 o4 hss
      change World.cell? _ ⟨b', off + k * 2 + 1, none⟩ = some (.int .i64 rb) at c2
      obtain ⟨U, hU⟩ : ∃ U, sumS (l.take k) = U := ⟨_, rfl⟩
      rw [hU] at hs0 hs1 hss ⊢
      have hs2 : U ≤ 1000000 := by omega
      have HU := Lib.hid hss
      have hkI : (k : Int) < (n : Int) := by omega
      clear hcc c1 hsn hss hr hU hkl hs1
      go_wp2
      go_round
      case rel => exact ⟨k + 1, by omega, by go_num, by rw [HU.out]⟩
      case measure => simp [intOf]; omega
    · obtain rfl : k = n := by omega
      rw [List.take_of_length_le (by rw [HN.out]; omega), HS.out] at *
      have hkI : ¬ (k : Int) < (k : Int) := by omega
      go_wp2_with fail
      with_reducible refine (error_nil _ _).mono ?_
      rintro e w' ⟨rfl, rfl⟩
      go_wp2_with fail
      with_reducible refine (error_nil _ _).mono ?_
      rintro e w' ⟨rfl, rfl⟩
      go_wp2_with fail
      with_reducible refine (inruns_any _ _ _ l p _ hAx HV.out.2.2.2.1).mono ?_
      rintro e w18x ⟨rfl, k18⟩
      have hb := hb.trans (k18.mono hb.size)
      have hB := hB1.trans (hb.mono hB1.size)
      have e1 := (hb.cell (p := ⟨w.heap.size, 0, none⟩) hlt).trans HEE.out.1
      have e2 := (hb.cell (p := ⟨w.heap.size, 1, none⟩) hlt).trans HEE.out.2.1
      have hAx := HEE.out.2.2.below hb
      rw [HV.out.2.2.2.2.2]
      go_wp2_with fail
      with_reducible refine (ch_add_ok _ _ _ l a b _ hAx HA1.out.1).mono ?_
      rintro e w19x ⟨⟨C, m, c', rfl, hm, hown⟩, k19⟩
      have hb := hb.trans (k19.mono hb.size)
      have hB := hB1.trans (hb.mono hB1.size)
      have e1 := (hb.cell (p := ⟨w.heap.size, 0, none⟩) hlt).trans HEE.out.1
      have e2 := (hb.cell (p := ⟨w.heap.size, 1, none⟩) hlt).trans HEE.out.2.1
      have hAx := HEE.out.2.2.below hb
      have hpW := hown.rd (by omega)
      clear hown
      go_wp2_with fail
      with_reducible refine (xAdd_ok _ _ _ l a b _ hAx HBD.out HA1.out.1).mono ?_
      rintro e w20x ⟨⟨C2, m2, c2, rfl, hm2, hown2⟩, k20⟩
      have hb := hb.trans (k20.mono hb.size)
      have hB := hB1.trans (hb.mono hB1.size)
      have e1 := (hb.cell (p := ⟨w.heap.size, 0, none⟩) hlt).trans HEE.out.1
      have e2 := (hb.cell (p := ⟨w.heap.size, 1, none⟩) hlt).trans HEE.out.2.1
      have hAx := HEE.out.2.2.below hb
      have hpM := hown2.rd (by omega)
      clear hown2
      have hpW := hpW.below k20
      go_wp2_with fail
      with_reducible refine (error_nil _ _).mono ?_
      rintro e w' ⟨rfl, rfl⟩
      go_wp2_with fail
      with_reducible refine (runs_any _ _ _ _ _ _ _ _ _ hpM hpW).mono ?_
      rintro e w21x ⟨rfl, k21⟩
      have hb := hb.trans (k21.mono hb.size)
      have hB := hB1.trans (hb.mono hB1.size)
      have e1 := (hb.cell (p := ⟨w.heap.size, 0, none⟩) hlt).trans HEE.out.1
      have e2 := (hb.cell (p := ⟨w.heap.size, 1, none⟩) hlt).trans HEE.out.2.1
      have hAx := HEE.out.2.2.below hb
      rw [show decide (chL addB l (a, b) = chL addB l (a, b)) = true from by simp]
      go_wp2_with fail
      with_reducible refine (ch_cut_ok _ _ _ l a b _ hAx HC1.out.1).mono ?_
      rintro e w22x ⟨⟨C, m, c', rfl, hm, hown⟩, k22⟩
      have hb := hb.trans (k22.mono hb.size)
      have hB := hB1.trans (hb.mono hB1.size)
      have e1 := (hb.cell (p := ⟨w.heap.size, 0, none⟩) hlt).trans HEE.out.1
      have e2 := (hb.cell (p := ⟨w.heap.size, 1, none⟩) hlt).trans HEE.out.2.1
      have hAx := HEE.out.2.2.below hb
      have hpW := hown.rd (by omega)
      clear hown
      go_wp2_with fail
      with_reducible refine (xCut_ok _ _ _ l a b _ hAx HBD.out HC1.out.1).mono ?_
      rintro e w23x ⟨⟨C2, m2, c2, rfl, hm2, hown2⟩, k23⟩
      have hb := hb.trans (k23.mono hb.size)
      have hB := hB1.trans (hb.mono hB1.size)
      have e1 := (hb.cell (p := ⟨w.heap.size, 0, none⟩) hlt).trans HEE.out.1
      have e2 := (hb.cell (p := ⟨w.heap.size, 1, none⟩) hlt).trans HEE.out.2.1
      have hAx := HEE.out.2.2.below hb
      have hpM := hown2.rd (by omega)
      clear hown2
      have hpW := hpW.below k23
      go_wp2_with fail
      with_reducible refine (error_nil _ _).mono ?_
      rintro e w' ⟨rfl, rfl⟩
      go_wp2_with fail
      with_reducible refine (runs_any _ _ _ _ _ _ _ _ _ hpM hpW).mono ?_
      rintro e w24x ⟨rfl, k24⟩
      have hb := hb.trans (k24.mono hb.size)
      have hB := hB1.trans (hb.mono hB1.size)
      have e1 := (hb.cell (p := ⟨w.heap.size, 0, none⟩) hlt).trans HEE.out.1
      have e2 := (hb.cell (p := ⟨w.heap.size, 1, none⟩) hlt).trans HEE.out.2.1
      have hAx := HEE.out.2.2.below hb
      rw [show decide (chL cutB l (a, b) = chL cutB l (a, b)) = true from by simp]
      go_wp2
      go_ret
      exact ⟨rfl, hB⟩

set_option maxHeartbeats 8000000 in
set_option maxRecDepth 100000 in
theorem walk_ok_bad (w : World) (A : Option Addr) (n c : Nat) (l : List (Int × Int)) (hA : RdP w A n (l.map rv)) (hbd : ∀ p ∈ l, (-9223372036854775808 ≤ p.1 ∧ p.1 ≤ 9223372036854775807) ∧ (-9223372036854775808 ≤ p.2 ∧ p.2 ≤ 9223372036854775807)) (hc : n ≤ c) (a b : Int) (ha : -9223372036854775808 ≤ a ∧ a ≤ 9223372036854775807) (hbb : -9223372036854775808 ≤ b ∧ b ≤ 9223372036854775807) (p : Int) (hp : -9223372036854775808 ≤ p ∧ p ≤ 9223372036854775807) (hE : ErrT w) (hr : runsE l = 0) (h1 : chE addB l (a, b) = 0) (EC : Int) (h2 : chE cutB l (a, b) = EC) (g2 : EC ≠ 0) (v : Bool) (hv : hasB l p = v) :
    Calls Tryd.prog 4 #[.slice A n c, .agg #[.int .i64 a, .int .i64 b], .int .i64 p] w fun e w' => e = .returned (.bool true) ∧ Below w.heap.size w w' := by
  have hB0 := (Below.refl w.heap.size w).alloc (Nat.le_refl _) (.cells #[.int .i64 a, .int .i64 b] 39)
  have EE1 : (w.alloc (.cells #[.int .i64 a, .int .i64 b] 39)).cell? ⟨w.heap.size, 0, none⟩ = some (.int .i64 a) := by simp
  have EE2 : (w.alloc (.cells #[.int .i64 a, .int .i64 b] 39)).cell? ⟨w.heap.size, 1, none⟩ = some (.int .i64 b) := by simp
  have EE := Lib.hid (And.intro EE1 EE2)
  have HBD := Lib.hid (show Bd l from hbd)
  have HE := Lib.hid hE
  have hlen : l.length = n := by have := hA.len; simpa using this
  have HN := Lib.hid hlen
  have hmx := hA.max
  have hA0 := hA.alloc (.cells #[.int .i64 a, .int .i64 b] 39)
  clear EE1 EE2 hbd hE hlen
  have v1 : sizeV l = .tuple #[.int .i64 (sumS l), .nilIface] := by unfold sizeV; rw [if_pos hr]
  have v2 : hasV l p = .tuple #[.bool v, .nilIface] := by unfold hasV; rw [if_pos hr, hv]
  have hok := okR_mem (runsE_zero.1 hr).2
  have h16 := (runsE_zero.1 hr).1
  have HV := Lib.hid (And.intro hr (And.intro v1 (And.intro v2 (And.intro hok (And.intro h16 hv)))))
  have hvv : (v == v) = true := by cases v <;> rfl
  have HA1 := Lib.hid (And.intro h1 trivial)
  have HC1 := Lib.hid (And.intro (show chE cutB l (a, b) ≠ 0 by rw [h2]; exact g2) h2)
  have hCs : (EC == EC) = true := by simp
  have hCb : (EC == 0) = false := by simpa using g2
  clear g2
  obtain ⟨S, hS⟩ : ∃ S, sumS l = S := ⟨_, rfl⟩
  have HS := Lib.hid hS
  have hSS : (S == S) = true := by simp
  clear h1 h2 hr v1 v2 hok h16 hv hS
  go_enter Tryd.func4, Tryd.ntmps4
  go_wp2_with fail
  with_reducible refine (rruns_any _ _ _ l _ hA0).mono ?_
  rintro e w1 ⟨rfl, k1⟩
  rw [HV.out.1]
  have hB1 := hB0.trans (k1.mono hB0.size)
  have E1 := (k1.cell (p := ⟨w.heap.size, 0, none⟩) (by simp)).trans EE.out.1
  have E2 := (k1.cell (p := ⟨w.heap.size, 1, none⟩) (by simp)).trans EE.out.2
  have hlt : w.heap.size < w1.heap.size := by have := k1.size; simp at this; omega
  have HEE := Lib.hid (And.intro E1 (And.intro E2 (hA.below hB1)))
  clear k1 E1 E2 hA0
  have hb : Below w1.heap.size w1 w1 := Below.refl _ _
  have hB := hB1
  have e1 := HEE.out.1
  have e2 := HEE.out.2.1
  have hAx := HEE.out.2.2
  go_wp2_with fail
  with_reducible refine (xcheck_bd _ _ _ l _ hAx HBD.out).mono ?_
  rintro e w25x ⟨rfl, k25⟩
  have hb := hb.trans (k25.mono hb.size)
  have hB := hB1.trans (hb.mono hB1.size)
  have e1 := (hb.cell (p := ⟨w.heap.size, 0, none⟩) hlt).trans HEE.out.1
  have e2 := (hb.cell (p := ⟨w.heap.size, 1, none⟩) hlt).trans HEE.out.2.1
  have hAx := HEE.out.2.2.below hb
  rw [HV.out.1, errR_zero]
  go_wp2_with fail
  with_reducible refine (error_nil _ _).mono ?_
  rintro e w' ⟨rfl, rfl⟩
  go_wp2_with fail
  with_reducible refine (size_bd _ _ _ l _ hAx HBD.out).mono ?_
  rintro e w26x ⟨rfl, k26⟩
  have hb := hb.trans (k26.mono hb.size)
  have hB := hB1.trans (hb.mono hB1.size)
  have e1 := (hb.cell (p := ⟨w.heap.size, 0, none⟩) hlt).trans HEE.out.1
  have e2 := (hb.cell (p := ⟨w.heap.size, 1, none⟩) hlt).trans HEE.out.2.1
  have hAx := HEE.out.2.2.below hb
  rw [HV.out.2.1, HS.out]
  go_wp2_with fail
  with_reducible refine (xhas_bd _ _ _ l p _ hAx HBD.out).mono ?_
  rintro e w27x ⟨rfl, k27⟩
  have hb := hb.trans (k27.mono hb.size)
  have hB := hB1.trans (hb.mono hB1.size)
  have e1 := (hb.cell (p := ⟨w.heap.size, 0, none⟩) hlt).trans HEE.out.1
  have e2 := (hb.cell (p := ⟨w.heap.size, 1, none⟩) hlt).trans HEE.out.2.1
  have hAx := HEE.out.2.2.below hb
  rw [HV.out.2.2.1]
  go_wp2
  go_loop [13, 14] (fun s i => ∃ k : Nat, k ≤ n ∧ i = .int .i64 k ∧ s = .int .i64 (sumS (l.take k))) (fun _ i => n - (intOf i).toNat)
  case atStart => exact ⟨0, Nat.zero_le _, rfl, rfl⟩
  case round =>
    obtain ⟨k, hk, rfl, rfl⟩ := hrel
    have hsb := sum_bound (l.take k) (fun r hr => HV.out.2.2.2.1 r (List.mem_of_mem_take hr))
    rw [List.length_take] at hsb
    have h16 := HV.out.2.2.2.2.1
    obtain ⟨hs0, hs1⟩ := hsb
    by_cases hkn : k < n
    · obtain ⟨b', off, rfl, hbl, hcc⟩ := hAx.at_ (by omega)
      obtain ⟨c1, c2⟩ := hcc k hkn
      have hkl : k < l.length := by rw [HN.out]; exact hkn
      rw [rv_get hkl] at c1 c2
      have hsn : l.take (k + 1) = l.take k ++ [l[k]] := List.take_succ_eq_append_getElem hkl
      have hss := sumS_snoc (l.take k) l[k]
      rw [← hsn] at hss
      have hokk := HV.out.2.2.2.1 l[k] (List.getElem_mem _)
      obtain ⟨r, hr⟩ : ∃ r, l[k] = r := ⟨_, rfl⟩
      rw [hr] at c1 c2 hss hokk
      obtain ⟨ra, rb⟩ := r
      obtain ⟨o1, o2, o3, o4⟩ := hokk
      simp only at o1 o2 o3 o4 hss
      change World.cell? _ ⟨b', off + k * 2 + 1, none⟩ = some (.int .i64 rb) at c2
      obtain ⟨U, hU⟩ : ∃ U, sumS (l.take k) = U := ⟨_, rfl⟩
      rw [hU] at hs0 hs1 hss ⊢
      have hs2 : U ≤ 1000000 := by omega
      have HU := Lib.hid hss
      have hkI : (k : Int) < (n : Int) := by omega
      clear hcc c1 hsn hss hr hU hkl hs1
      go_wp2
      go_round
      case rel => exact ⟨k + 1, by omega, by go_num, by rw [HU.out]⟩
      case measure => simp [intOf]; omega
    · obtain rfl : k = n := by omega
      rw [List.take_of_length_le (by rw [HN.out]; omega), HS.out] at *
      have hkI : ¬ (k : Int) < (k : Int) := by omega
      go_wp2_with fail
      with_reducible refine (error_nil _ _).mono ?_
      rintro e w' ⟨rfl, rfl⟩
      go_wp2_with fail
      with_reducible refine (error_nil _ _).mono ?_
      rintro e w' ⟨rfl, rfl⟩
      go_wp2_with fail
      with_reducible refine (inruns_any _ _ _ l p _ hAx HV.out.2.2.2.1).mono ?_
      rintro e w28x ⟨rfl, k28⟩
      have hb := hb.trans (k28.mono hb.size)
      have hB := hB1.trans (hb.mono hB1.size)
      have e1 := (hb.cell (p := ⟨w.heap.size, 0, none⟩) hlt).trans HEE.out.1
      have e2 := (hb.cell (p := ⟨w.heap.size, 1, none⟩) hlt).trans HEE.out.2.1
      have hAx := HEE.out.2.2.below hb
      rw [HV.out.2.2.2.2.2]
      go_wp2_with fail
      with_reducible refine (ch_add_ok _ _ _ l a b _ hAx HA1.out.1).mono ?_
      rintro e w29x ⟨⟨C, m, c', rfl, hm, hown⟩, k29⟩
      have hb := hb.trans (k29.mono hb.size)
      have hB := hB1.trans (hb.mono hB1.size)
      have e1 := (hb.cell (p := ⟨w.heap.size, 0, none⟩) hlt).trans HEE.out.1
      have e2 := (hb.cell (p := ⟨w.heap.size, 1, none⟩) hlt).trans HEE.out.2.1
      have hAx := HEE.out.2.2.below hb
      have hpW := hown.rd (by omega)
      clear hown
      go_wp2_with fail
      with_reducible refine (xAdd_ok _ _ _ l a b _ hAx HBD.out HA1.out.1).mono ?_
      rintro e w30x ⟨⟨C2, m2, c2, rfl, hm2, hown2⟩, k30⟩
      have hb := hb.trans (k30.mono hb.size)
      have hB := hB1.trans (hb.mono hB1.size)
      have e1 := (hb.cell (p := ⟨w.heap.size, 0, none⟩) hlt).trans HEE.out.1
      have e2 := (hb.cell (p := ⟨w.heap.size, 1, none⟩) hlt).trans HEE.out.2.1
      have hAx := HEE.out.2.2.below hb
      have hpM := hown2.rd (by omega)
      clear hown2
      have hpW := hpW.below k30
      go_wp2_with fail
      with_reducible refine (error_nil _ _).mono ?_
      rintro e w' ⟨rfl, rfl⟩
      go_wp2_with fail
      with_reducible refine (runs_any _ _ _ _ _ _ _ _ _ hpM hpW).mono ?_
      rintro e w31x ⟨rfl, k31⟩
      have hb := hb.trans (k31.mono hb.size)
      have hB := hB1.trans (hb.mono hB1.size)
      have e1 := (hb.cell (p := ⟨w.heap.size, 0, none⟩) hlt).trans HEE.out.1
      have e2 := (hb.cell (p := ⟨w.heap.size, 1, none⟩) hlt).trans HEE.out.2.1
      have hAx := HEE.out.2.2.below hb
      rw [show decide (chL addB l (a, b) = chL addB l (a, b)) = true from by simp]
      go_wp2_with fail
      with_reducible refine (ch_cut_bad _ _ _ l a b _ hAx HC1.out.1).mono ?_
      rintro e w32x ⟨rfl, k32⟩
      have hb := hb.trans (k32.mono hb.size)
      have hB := hB1.trans (hb.mono hB1.size)
      have e1 := (hb.cell (p := ⟨w.heap.size, 0, none⟩) hlt).trans HEE.out.1
      have e2 := (hb.cell (p := ⟨w.heap.size, 1, none⟩) hlt).trans HEE.out.2.1
      have hAx := HEE.out.2.2.below hb
      rw [HC1.out.2]
      go_wp2_with fail
      with_reducible refine (xCut_bad _ _ _ l a b _ hAx HBD.out HC1.out.1).mono ?_
      rintro e w33x ⟨rfl, k33⟩
      have hb := hb.trans (k33.mono hb.size)
      have hB := hB1.trans (hb.mono hB1.size)
      have e1 := (hb.cell (p := ⟨w.heap.size, 0, none⟩) hlt).trans HEE.out.1
      have e2 := (hb.cell (p := ⟨w.heap.size, 1, none⟩) hlt).trans HEE.out.2.1
      have hAx := HEE.out.2.2.below hb
      rw [HC1.out.2]
      go_wp2_with fail
      with_reducible refine (error_err EC EC _ (HE.out.below hB)).mono ?_
      rintro e w34x ⟨rfl, k34⟩
      have hb := hb.trans (k34.mono hb.size)
      have hB := hB1.trans (hb.mono hB1.size)
      have e1 := (hb.cell (p := ⟨w.heap.size, 0, none⟩) hlt).trans HEE.out.1
      have e2 := (hb.cell (p := ⟨w.heap.size, 1, none⟩) hlt).trans HEE.out.2.1
      have hAx := HEE.out.2.2.below hb
      go_wp2_with fail
      with_reducible refine (runs_any _ _ _ _ _ _ [] [] _ (RdP.nil _ _) (RdP.nil _ _)).mono ?_
      rintro e w35x ⟨rfl, k35⟩
      have hb := hb.trans (k35.mono hb.size)
      have hB := hB1.trans (hb.mono hB1.size)
      have e1 := (hb.cell (p := ⟨w.heap.size, 0, none⟩) hlt).trans HEE.out.1
      have e2 := (hb.cell (p := ⟨w.heap.size, 1, none⟩) hlt).trans HEE.out.2.1
      have hAx := HEE.out.2.2.below hb
      rw [show decide (([] : List (Int × Int)) = []) = true from rfl]
      go_wp2
      go_ret
      exact ⟨rfl, hB⟩

set_option maxHeartbeats 8000000 in
set_option maxRecDepth 100000 in
theorem walk_bad_ok (w : World) (A : Option Addr) (n c : Nat) (l : List (Int × Int)) (hA : RdP w A n (l.map rv)) (hbd : ∀ p ∈ l, (-9223372036854775808 ≤ p.1 ∧ p.1 ≤ 9223372036854775807) ∧ (-9223372036854775808 ≤ p.2 ∧ p.2 ≤ 9223372036854775807)) (hc : n ≤ c) (a b : Int) (ha : -9223372036854775808 ≤ a ∧ a ≤ 9223372036854775807) (hbb : -9223372036854775808 ≤ b ∧ b ≤ 9223372036854775807) (p : Int) (hp : -9223372036854775808 ≤ p ∧ p ≤ 9223372036854775807) (hE : ErrT w) (hr : runsE l = 0) (EA : Int) (h1 : chE addB l (a, b) = EA) (g1 : EA ≠ 0) (h2 : chE cutB l (a, b) = 0) (v : Bool) (hv : hasB l p = v) :
    Calls Tryd.prog 4 #[.slice A n c, .agg #[.int .i64 a, .int .i64 b], .int .i64 p] w fun e w' => e = .returned (.bool true) ∧ Below w.heap.size w w' := by
  have hB0 := (Below.refl w.heap.size w).alloc (Nat.le_refl _) (.cells #[.int .i64 a, .int .i64 b] 39)
  have EE1 : (w.alloc (.cells #[.int .i64 a, .int .i64 b] 39)).cell? ⟨w.heap.size, 0, none⟩ = some (.int .i64 a) := by simp
  have EE2 : (w.alloc (.cells #[.int .i64 a, .int .i64 b] 39)).cell? ⟨w.heap.size, 1, none⟩ = some (.int .i64 b) := by simp
  have EE := Lib.hid (And.intro EE1 EE2)
  have HBD := Lib.hid (show Bd l from hbd)
  have HE := Lib.hid hE
  have hlen : l.length = n := by have := hA.len; simpa using this
  have HN := Lib.hid hlen
  have hmx := hA.max
  have hA0 := hA.alloc (.cells #[.int .i64 a, .int .i64 b] 39)
  clear EE1 EE2 hbd hE hlen
  have v1 : sizeV l = .tuple #[.int .i64 (sumS l), .nilIface] := by unfold sizeV; rw [if_pos hr]
  have v2 : hasV l p = .tuple #[.bool v, .nilIface] := by unfold hasV; rw [if_pos hr, hv]
  have hok := okR_mem (runsE_zero.1 hr).2
  have h16 := (runsE_zero.1 hr).1
  have HV := Lib.hid (And.intro hr (And.intro v1 (And.intro v2 (And.intro hok (And.intro h16 hv)))))
  have hvv : (v == v) = true := by cases v <;> rfl
  have HA1 := Lib.hid (And.intro (show chE addB l (a, b) ≠ 0 by rw [h1]; exact g1) h1)
  have hAs : (EA == EA) = true := by simp
  have hAb : (EA == 0) = false := by simpa using g1
  clear g1
  have HC1 := Lib.hid (And.intro h2 trivial)
  obtain ⟨S, hS⟩ : ∃ S, sumS l = S := ⟨_, rfl⟩
  have HS := Lib.hid hS
  have hSS : (S == S) = true := by simp
  clear h1 h2 hr v1 v2 hok h16 hv hS
  go_enter Tryd.func4, Tryd.ntmps4
  go_wp2_with fail
  with_reducible refine (rruns_any _ _ _ l _ hA0).mono ?_
  rintro e w1 ⟨rfl, k1⟩
  rw [HV.out.1]
  have hB1 := hB0.trans (k1.mono hB0.size)
  have E1 := (k1.cell (p := ⟨w.heap.size, 0, none⟩) (by simp)).trans EE.out.1
  have E2 := (k1.cell (p := ⟨w.heap.size, 1, none⟩) (by simp)).trans EE.out.2
  have hlt : w.heap.size < w1.heap.size := by have := k1.size; simp at this; omega
  have HEE := Lib.hid (And.intro E1 (And.intro E2 (hA.below hB1)))
  clear k1 E1 E2 hA0
  have hb : Below w1.heap.size w1 w1 := Below.refl _ _
  have hB := hB1
  have e1 := HEE.out.1
  have e2 := HEE.out.2.1
  have hAx := HEE.out.2.2
  go_wp2_with fail
  with_reducible refine (xcheck_bd _ _ _ l _ hAx HBD.out).mono ?_
  rintro e w36x ⟨rfl, k36⟩
  have hb := hb.trans (k36.mono hb.size)
  have hB := hB1.trans (hb.mono hB1.size)
  have e1 := (hb.cell (p := ⟨w.heap.size, 0, none⟩) hlt).trans HEE.out.1
  have e2 := (hb.cell (p := ⟨w.heap.size, 1, none⟩) hlt).trans HEE.out.2.1
  have hAx := HEE.out.2.2.below hb
  rw [HV.out.1, errR_zero]
  go_wp2_with fail
  with_reducible refine (error_nil _ _).mono ?_
  rintro e w' ⟨rfl, rfl⟩
  go_wp2_with fail
  with_reducible refine (size_bd _ _ _ l _ hAx HBD.out).mono ?_
  rintro e w37x ⟨rfl, k37⟩
  have hb := hb.trans (k37.mono hb.size)
  have hB := hB1.trans (hb.mono hB1.size)
  have e1 := (hb.cell (p := ⟨w.heap.size, 0, none⟩) hlt).trans HEE.out.1
  have e2 := (hb.cell (p := ⟨w.heap.size, 1, none⟩) hlt).trans HEE.out.2.1
  have hAx := HEE.out.2.2.below hb
  rw [HV.out.2.1, HS.out]
  go_wp2_with fail
  with_reducible refine (xhas_bd _ _ _ l p _ hAx HBD.out).mono ?_
  rintro e w38x ⟨rfl, k38⟩
  have hb := hb.trans (k38.mono hb.size)
  have hB := hB1.trans (hb.mono hB1.size)
  have e1 := (hb.cell (p := ⟨w.heap.size, 0, none⟩) hlt).trans HEE.out.1
  have e2 := (hb.cell (p := ⟨w.heap.size, 1, none⟩) hlt).trans HEE.out.2.1
  have hAx := HEE.out.2.2.below hb
  rw [HV.out.2.2.1]
  go_wp2
  go_loop [13, 14] (fun s i => ∃ k : Nat, k ≤ n ∧ i = .int .i64 k ∧ s = .int .i64 (sumS (l.take k))) (fun _ i => n - (intOf i).toNat)
  case atStart => exact ⟨0, Nat.zero_le _, rfl, rfl⟩
  case round =>
    obtain ⟨k, hk, rfl, rfl⟩ := hrel
    have hsb := sum_bound (l.take k) (fun r hr => HV.out.2.2.2.1 r (List.mem_of_mem_take hr))
    rw [List.length_take] at hsb
    have h16 := HV.out.2.2.2.2.1
    obtain ⟨hs0, hs1⟩ := hsb
    by_cases hkn : k < n
    · obtain ⟨b', off, rfl, hbl, hcc⟩ := hAx.at_ (by omega)
      obtain ⟨c1, c2⟩ := hcc k hkn
      have hkl : k < l.length := by rw [HN.out]; exact hkn
      rw [rv_get hkl] at c1 c2
      have hsn : l.take (k + 1) = l.take k ++ [l[k]] := List.take_succ_eq_append_getElem hkl
      have hss := sumS_snoc (l.take k) l[k]
      rw [← hsn] at hss
      have hokk := HV.out.2.2.2.1 l[k] (List.getElem_mem _)
      obtain ⟨r, hr⟩ : ∃ r, l[k] = r := ⟨_, rfl⟩
      rw [hr] at c1 c2 hss hokk
      obtain ⟨ra, rb⟩ := r
      obtain ⟨o1, o2, o3, o4⟩ := hokk
      simp only at o1 o2 o3 o4 hss
      change World.cell? _ ⟨b', off + k * 2 + 1, none⟩ = some (.int .i64 rb) at c2
      obtain ⟨U, hU⟩ : ∃ U, sumS (l.take k) = U := ⟨_, rfl⟩
      rw [hU] at hs0 hs1 hss ⊢
      have hs2 : U ≤ 1000000 := by omega
      have HU := Lib.hid hss
      have hkI : (k : Int) < (n : Int) := by omega
      clear hcc c1 hsn hss hr hU hkl hs1
      go_wp2
      go_round
      case rel => exact ⟨k + 1, by omega, by go_num, by rw [HU.out]⟩
      case measure => simp [intOf]; omega
    · obtain rfl : k = n := by omega
      rw [List.take_of_length_le (by rw [HN.out]; omega), HS.out] at *
      have hkI : ¬ (k : Int) < (k : Int) := by omega
      go_wp2_with fail
      with_reducible refine (error_nil _ _).mono ?_
      rintro e w' ⟨rfl, rfl⟩
      go_wp2_with fail
      with_reducible refine (error_nil _ _).mono ?_
      rintro e w' ⟨rfl, rfl⟩
      go_wp2_with fail
      with_reducible refine (inruns_any _ _ _ l p _ hAx HV.out.2.2.2.1).mono ?_
      rintro e w39x ⟨rfl, k39⟩
      have hb := hb.trans (k39.mono hb.size)
      have hB := hB1.trans (hb.mono hB1.size)
      have e1 := (hb.cell (p := ⟨w.heap.size, 0, none⟩) hlt).trans HEE.out.1
      have e2 := (hb.cell (p := ⟨w.heap.size, 1, none⟩) hlt).trans HEE.out.2.1
      have hAx := HEE.out.2.2.below hb
      rw [HV.out.2.2.2.2.2]
      go_wp2_with fail
      with_reducible refine (ch_add_bad _ _ _ l a b _ hAx HA1.out.1).mono ?_
      rintro e w40x ⟨rfl, k40⟩
      have hb := hb.trans (k40.mono hb.size)
      have hB := hB1.trans (hb.mono hB1.size)
      have e1 := (hb.cell (p := ⟨w.heap.size, 0, none⟩) hlt).trans HEE.out.1
      have e2 := (hb.cell (p := ⟨w.heap.size, 1, none⟩) hlt).trans HEE.out.2.1
      have hAx := HEE.out.2.2.below hb
      rw [HA1.out.2]
      go_wp2_with fail
      with_reducible refine (xAdd_bad _ _ _ l a b _ hAx HBD.out HA1.out.1).mono ?_
      rintro e w41x ⟨rfl, k41⟩
      have hb := hb.trans (k41.mono hb.size)
      have hB := hB1.trans (hb.mono hB1.size)
      have e1 := (hb.cell (p := ⟨w.heap.size, 0, none⟩) hlt).trans HEE.out.1
      have e2 := (hb.cell (p := ⟨w.heap.size, 1, none⟩) hlt).trans HEE.out.2.1
      have hAx := HEE.out.2.2.below hb
      rw [HA1.out.2]
      go_wp2_with fail
      with_reducible refine (error_err EA EA _ (HE.out.below hB)).mono ?_
      rintro e w42x ⟨rfl, k42⟩
      have hb := hb.trans (k42.mono hb.size)
      have hB := hB1.trans (hb.mono hB1.size)
      have e1 := (hb.cell (p := ⟨w.heap.size, 0, none⟩) hlt).trans HEE.out.1
      have e2 := (hb.cell (p := ⟨w.heap.size, 1, none⟩) hlt).trans HEE.out.2.1
      have hAx := HEE.out.2.2.below hb
      go_wp2_with fail
      with_reducible refine (runs_any _ _ _ _ _ _ [] [] _ (RdP.nil _ _) (RdP.nil _ _)).mono ?_
      rintro e w43x ⟨rfl, k43⟩
      have hb := hb.trans (k43.mono hb.size)
      have hB := hB1.trans (hb.mono hB1.size)
      have e1 := (hb.cell (p := ⟨w.heap.size, 0, none⟩) hlt).trans HEE.out.1
      have e2 := (hb.cell (p := ⟨w.heap.size, 1, none⟩) hlt).trans HEE.out.2.1
      have hAx := HEE.out.2.2.below hb
      rw [show decide (([] : List (Int × Int)) = []) = true from rfl]
      go_wp2_with fail
      with_reducible refine (ch_cut_ok _ _ _ l a b _ hAx HC1.out.1).mono ?_
      rintro e w44x ⟨⟨C, m, c', rfl, hm, hown⟩, k44⟩
      have hb := hb.trans (k44.mono hb.size)
      have hB := hB1.trans (hb.mono hB1.size)
      have e1 := (hb.cell (p := ⟨w.heap.size, 0, none⟩) hlt).trans HEE.out.1
      have e2 := (hb.cell (p := ⟨w.heap.size, 1, none⟩) hlt).trans HEE.out.2.1
      have hAx := HEE.out.2.2.below hb
      have hpW := hown.rd (by omega)
      clear hown
      go_wp2_with fail
      with_reducible refine (xCut_ok _ _ _ l a b _ hAx HBD.out HC1.out.1).mono ?_
      rintro e w45x ⟨⟨C2, m2, c2, rfl, hm2, hown2⟩, k45⟩
      have hb := hb.trans (k45.mono hb.size)
      have hB := hB1.trans (hb.mono hB1.size)
      have e1 := (hb.cell (p := ⟨w.heap.size, 0, none⟩) hlt).trans HEE.out.1
      have e2 := (hb.cell (p := ⟨w.heap.size, 1, none⟩) hlt).trans HEE.out.2.1
      have hAx := HEE.out.2.2.below hb
      have hpM := hown2.rd (by omega)
      clear hown2
      have hpW := hpW.below k45
      go_wp2_with fail
      with_reducible refine (error_nil _ _).mono ?_
      rintro e w' ⟨rfl, rfl⟩
      go_wp2_with fail
      with_reducible refine (runs_any _ _ _ _ _ _ _ _ _ hpM hpW).mono ?_
      rintro e w46x ⟨rfl, k46⟩
      have hb := hb.trans (k46.mono hb.size)
      have hB := hB1.trans (hb.mono hB1.size)
      have e1 := (hb.cell (p := ⟨w.heap.size, 0, none⟩) hlt).trans HEE.out.1
      have e2 := (hb.cell (p := ⟨w.heap.size, 1, none⟩) hlt).trans HEE.out.2.1
      have hAx := HEE.out.2.2.below hb
      rw [show decide (chL cutB l (a, b) = chL cutB l (a, b)) = true from by simp]
      go_wp2
      go_ret
      exact ⟨rfl, hB⟩

set_option maxHeartbeats 8000000 in
set_option maxRecDepth 100000 in
theorem walk_bad_bad (w : World) (A : Option Addr) (n c : Nat) (l : List (Int × Int)) (hA : RdP w A n (l.map rv)) (hbd : ∀ p ∈ l, (-9223372036854775808 ≤ p.1 ∧ p.1 ≤ 9223372036854775807) ∧ (-9223372036854775808 ≤ p.2 ∧ p.2 ≤ 9223372036854775807)) (hc : n ≤ c) (a b : Int) (ha : -9223372036854775808 ≤ a ∧ a ≤ 9223372036854775807) (hbb : -9223372036854775808 ≤ b ∧ b ≤ 9223372036854775807) (p : Int) (hp : -9223372036854775808 ≤ p ∧ p ≤ 9223372036854775807) (hE : ErrT w) (hr : runsE l = 0) (EA : Int) (h1 : chE addB l (a, b) = EA) (g1 : EA ≠ 0) (EC : Int) (h2 : chE cutB l (a, b) = EC) (g2 : EC ≠ 0) (v : Bool) (hv : hasB l p = v) :
    Calls Tryd.prog 4 #[.slice A n c, .agg #[.int .i64 a, .int .i64 b], .int .i64 p] w fun e w' => e = .returned (.bool true) ∧ Below w.heap.size w w' := by
  have hB0 := (Below.refl w.heap.size w).alloc (Nat.le_refl _) (.cells #[.int .i64 a, .int .i64 b] 39)
  have EE1 : (w.alloc (.cells #[.int .i64 a, .int .i64 b] 39)).cell? ⟨w.heap.size, 0, none⟩ = some (.int .i64 a) := by simp
  have EE2 : (w.alloc (.cells #[.int .i64 a, .int .i64 b] 39)).cell? ⟨w.heap.size, 1, none⟩ = some (.int .i64 b) := by simp
  have EE := Lib.hid (And.intro EE1 EE2)
  have HBD := Lib.hid (show Bd l from hbd)
  have HE := Lib.hid hE
  have hlen : l.length = n := by have := hA.len; simpa using this
  have HN := Lib.hid hlen
  have hmx := hA.max
  have hA0 := hA.alloc (.cells #[.int .i64 a, .int .i64 b] 39)
  clear EE1 EE2 hbd hE hlen
  have v1 : sizeV l = .tuple #[.int .i64 (sumS l), .nilIface] := by unfold sizeV; rw [if_pos hr]
  have v2 : hasV l p = .tuple #[.bool v, .nilIface] := by unfold hasV; rw [if_pos hr, hv]
  have hok := okR_mem (runsE_zero.1 hr).2
  have h16 := (runsE_zero.1 hr).1
  have HV := Lib.hid (And.intro hr (And.intro v1 (And.intro v2 (And.intro hok (And.intro h16 hv)))))
  have hvv : (v == v) = true := by cases v <;> rfl
  have HA1 := Lib.hid (And.intro (show chE addB l (a, b) ≠ 0 by rw [h1]; exact g1) h1)
  have hAs : (EA == EA) = true := by simp
  have hAb : (EA == 0) = false := by simpa using g1
  clear g1
  have HC1 := Lib.hid (And.intro (show chE cutB l (a, b) ≠ 0 by rw [h2]; exact g2) h2)
  have hCs : (EC == EC) = true := by simp
  have hCb : (EC == 0) = false := by simpa using g2
  clear g2
  obtain ⟨S, hS⟩ : ∃ S, sumS l = S := ⟨_, rfl⟩
  have HS := Lib.hid hS
  have hSS : (S == S) = true := by simp
  clear h1 h2 hr v1 v2 hok h16 hv hS
  go_enter Tryd.func4, Tryd.ntmps4
  go_wp2_with fail
  with_reducible refine (rruns_any _ _ _ l _ hA0).mono ?_
  rintro e w1 ⟨rfl, k1⟩
  rw [HV.out.1]
  have hB1 := hB0.trans (k1.mono hB0.size)
  have E1 := (k1.cell (p := ⟨w.heap.size, 0, none⟩) (by simp)).trans EE.out.1
  have E2 := (k1.cell (p := ⟨w.heap.size, 1, none⟩) (by simp)).trans EE.out.2
  have hlt : w.heap.size < w1.heap.size := by have := k1.size; simp at this; omega
  have HEE := Lib.hid (And.intro E1 (And.intro E2 (hA.below hB1)))
  clear k1 E1 E2 hA0
  have hb : Below w1.heap.size w1 w1 := Below.refl _ _
  have hB := hB1
  have e1 := HEE.out.1
  have e2 := HEE.out.2.1
  have hAx := HEE.out.2.2
  go_wp2_with fail
  with_reducible refine (xcheck_bd _ _ _ l _ hAx HBD.out).mono ?_
  rintro e w47x ⟨rfl, k47⟩
  have hb := hb.trans (k47.mono hb.size)
  have hB := hB1.trans (hb.mono hB1.size)
  have e1 := (hb.cell (p := ⟨w.heap.size, 0, none⟩) hlt).trans HEE.out.1
  have e2 := (hb.cell (p := ⟨w.heap.size, 1, none⟩) hlt).trans HEE.out.2.1
  have hAx := HEE.out.2.2.below hb
  rw [HV.out.1, errR_zero]
  go_wp2_with fail
  with_reducible refine (error_nil _ _).mono ?_
  rintro e w' ⟨rfl, rfl⟩
  go_wp2_with fail
  with_reducible refine (size_bd _ _ _ l _ hAx HBD.out).mono ?_
  rintro e w48x ⟨rfl, k48⟩
  have hb := hb.trans (k48.mono hb.size)
  have hB := hB1.trans (hb.mono hB1.size)
  have e1 := (hb.cell (p := ⟨w.heap.size, 0, none⟩) hlt).trans HEE.out.1
  have e2 := (hb.cell (p := ⟨w.heap.size, 1, none⟩) hlt).trans HEE.out.2.1
  have hAx := HEE.out.2.2.below hb
  rw [HV.out.2.1, HS.out]
  go_wp2_with fail
  with_reducible refine (xhas_bd _ _ _ l p _ hAx HBD.out).mono ?_
  rintro e w49x ⟨rfl, k49⟩
  have hb := hb.trans (k49.mono hb.size)
  have hB := hB1.trans (hb.mono hB1.size)
  have e1 := (hb.cell (p := ⟨w.heap.size, 0, none⟩) hlt).trans HEE.out.1
  have e2 := (hb.cell (p := ⟨w.heap.size, 1, none⟩) hlt).trans HEE.out.2.1
  have hAx := HEE.out.2.2.below hb
  rw [HV.out.2.2.1]
  go_wp2
  go_loop [13, 14] (fun s i => ∃ k : Nat, k ≤ n ∧ i = .int .i64 k ∧ s = .int .i64 (sumS (l.take k))) (fun _ i => n - (intOf i).toNat)
  case atStart => exact ⟨0, Nat.zero_le _, rfl, rfl⟩
  case round =>
    obtain ⟨k, hk, rfl, rfl⟩ := hrel
    have hsb := sum_bound (l.take k) (fun r hr => HV.out.2.2.2.1 r (List.mem_of_mem_take hr))
    rw [List.length_take] at hsb
    have h16 := HV.out.2.2.2.2.1
    obtain ⟨hs0, hs1⟩ := hsb
    by_cases hkn : k < n
    · obtain ⟨b', off, rfl, hbl, hcc⟩ := hAx.at_ (by omega)
      obtain ⟨c1, c2⟩ := hcc k hkn
      have hkl : k < l.length := by rw [HN.out]; exact hkn
      rw [rv_get hkl] at c1 c2
      have hsn : l.take (k + 1) = l.take k ++ [l[k]] := List.take_succ_eq_append_getElem hkl
      have hss := sumS_snoc (l.take k) l[k]
      rw [← hsn] at hss
      have hokk := HV.out.2.2.2.1 l[k] (List.getElem_mem _)
      obtain ⟨r, hr⟩ : ∃ r, l[k] = r := ⟨_, rfl⟩
      rw [hr] at c1 c2 hss hokk
      obtain ⟨ra, rb⟩ := r
      obtain ⟨o1, o2, o3, o4⟩ := hokk
      simp only at o1 o2 o3 o4 hss
      change World.cell? _ ⟨b', off + k * 2 + 1, none⟩ = some (.int .i64 rb) at c2
      obtain ⟨U, hU⟩ : ∃ U, sumS (l.take k) = U := ⟨_, rfl⟩
      rw [hU] at hs0 hs1 hss ⊢
      have hs2 : U ≤ 1000000 := by omega
      have HU := Lib.hid hss
      have hkI : (k : Int) < (n : Int) := by omega
      clear hcc c1 hsn hss hr hU hkl hs1
      go_wp2
      go_round
      case rel => exact ⟨k + 1, by omega, by go_num, by rw [HU.out]⟩
      case measure => simp [intOf]; omega
    · obtain rfl : k = n := by omega
      rw [List.take_of_length_le (by rw [HN.out]; omega), HS.out] at *
      have hkI : ¬ (k : Int) < (k : Int) := by omega
      go_wp2_with fail
      with_reducible refine (error_nil _ _).mono ?_
      rintro e w' ⟨rfl, rfl⟩
      go_wp2_with fail
      with_reducible refine (error_nil _ _).mono ?_
      rintro e w' ⟨rfl, rfl⟩
      go_wp2_with fail
      with_reducible refine (inruns_any _ _ _ l p _ hAx HV.out.2.2.2.1).mono ?_
      rintro e w50x ⟨rfl, k50⟩
      have hb := hb.trans (k50.mono hb.size)
      have hB := hB1.trans (hb.mono hB1.size)
      have e1 := (hb.cell (p := ⟨w.heap.size, 0, none⟩) hlt).trans HEE.out.1
      have e2 := (hb.cell (p := ⟨w.heap.size, 1, none⟩) hlt).trans HEE.out.2.1
      have hAx := HEE.out.2.2.below hb
      rw [HV.out.2.2.2.2.2]
      go_wp2_with fail
      with_reducible refine (ch_add_bad _ _ _ l a b _ hAx HA1.out.1).mono ?_
      rintro e w51x ⟨rfl, k51⟩
      have hb := hb.trans (k51.mono hb.size)
      have hB := hB1.trans (hb.mono hB1.size)
      have e1 := (hb.cell (p := ⟨w.heap.size, 0, none⟩) hlt).trans HEE.out.1
      have e2 := (hb.cell (p := ⟨w.heap.size, 1, none⟩) hlt).trans HEE.out.2.1
      have hAx := HEE.out.2.2.below hb
      rw [HA1.out.2]
      go_wp2_with fail
      with_reducible refine (xAdd_bad _ _ _ l a b _ hAx HBD.out HA1.out.1).mono ?_
      rintro e w52x ⟨rfl, k52⟩
      have hb := hb.trans (k52.mono hb.size)
      have hB := hB1.trans (hb.mono hB1.size)
      have e1 := (hb.cell (p := ⟨w.heap.size, 0, none⟩) hlt).trans HEE.out.1
      have e2 := (hb.cell (p := ⟨w.heap.size, 1, none⟩) hlt).trans HEE.out.2.1
      have hAx := HEE.out.2.2.below hb
      rw [HA1.out.2]
      go_wp2_with fail
      with_reducible refine (error_err EA EA _ (HE.out.below hB)).mono ?_
      rintro e w53x ⟨rfl, k53⟩
      have hb := hb.trans (k53.mono hb.size)
      have hB := hB1.trans (hb.mono hB1.size)
      have e1 := (hb.cell (p := ⟨w.heap.size, 0, none⟩) hlt).trans HEE.out.1
      have e2 := (hb.cell (p := ⟨w.heap.size, 1, none⟩) hlt).trans HEE.out.2.1
      have hAx := HEE.out.2.2.below hb
      go_wp2_with fail
      with_reducible refine (runs_any _ _ _ _ _ _ [] [] _ (RdP.nil _ _) (RdP.nil _ _)).mono ?_
      rintro e w54x ⟨rfl, k54⟩
      have hb := hb.trans (k54.mono hb.size)
      have hB := hB1.trans (hb.mono hB1.size)
      have e1 := (hb.cell (p := ⟨w.heap.size, 0, none⟩) hlt).trans HEE.out.1
      have e2 := (hb.cell (p := ⟨w.heap.size, 1, none⟩) hlt).trans HEE.out.2.1
      have hAx := HEE.out.2.2.below hb
      rw [show decide (([] : List (Int × Int)) = []) = true from rfl]
      go_wp2_with fail
      with_reducible refine (ch_cut_bad _ _ _ l a b _ hAx HC1.out.1).mono ?_
      rintro e w55x ⟨rfl, k55⟩
      have hb := hb.trans (k55.mono hb.size)
      have hB := hB1.trans (hb.mono hB1.size)
      have e1 := (hb.cell (p := ⟨w.heap.size, 0, none⟩) hlt).trans HEE.out.1
      have e2 := (hb.cell (p := ⟨w.heap.size, 1, none⟩) hlt).trans HEE.out.2.1
      have hAx := HEE.out.2.2.below hb
      rw [HC1.out.2]
      go_wp2_with fail
      with_reducible refine (xCut_bad _ _ _ l a b _ hAx HBD.out HC1.out.1).mono ?_
      rintro e w56x ⟨rfl, k56⟩
      have hb := hb.trans (k56.mono hb.size)
      have hB := hB1.trans (hb.mono hB1.size)
      have e1 := (hb.cell (p := ⟨w.heap.size, 0, none⟩) hlt).trans HEE.out.1
      have e2 := (hb.cell (p := ⟨w.heap.size, 1, none⟩) hlt).trans HEE.out.2.1
      have hAx := HEE.out.2.2.below hb
      rw [HC1.out.2]
      go_wp2_with fail
      with_reducible refine (error_err EC EC _ (HE.out.below hB)).mono ?_
      rintro e w57x ⟨rfl, k57⟩
      have hb := hb.trans (k57.mono hb.size)
      have hB := hB1.trans (hb.mono hB1.size)
      have e1 := (hb.cell (p := ⟨w.heap.size, 0, none⟩) hlt).trans HEE.out.1
      have e2 := (hb.cell (p := ⟨w.heap.size, 1, none⟩) hlt).trans HEE.out.2.1
      have hAx := HEE.out.2.2.below hb
      go_wp2_with fail
      with_reducible refine (runs_any _ _ _ _ _ _ [] [] _ (RdP.nil _ _) (RdP.nil _ _)).mono ?_
      rintro e w58x ⟨rfl, k58⟩
      have hb := hb.trans (k58.mono hb.size)
      have hB := hB1.trans (hb.mono hB1.size)
      have e1 := (hb.cell (p := ⟨w.heap.size, 0, none⟩) hlt).trans HEE.out.1
      have e2 := (hb.cell (p := ⟨w.heap.size, 1, none⟩) hlt).trans HEE.out.2.1
      have hAx := HEE.out.2.2.below hb
      rw [show decide (([] : List (Int × Int)) = []) = true from rfl]
      go_wp2
      go_ret
      exact ⟨rfl, hB⟩

theorem walk (w : World) (A : Option Addr) (n c : Nat) (l : List (Int × Int)) (hA : RdP w A n (l.map rv)) (hbd : ∀ p ∈ l, (-9223372036854775808 ≤ p.1 ∧ p.1 ≤ 9223372036854775807) ∧ (-9223372036854775808 ≤ p.2 ∧ p.2 ≤ 9223372036854775807)) (hc : n ≤ c) (a b : Int) (ha : -9223372036854775808 ≤ a ∧ a ≤ 9223372036854775807) (hbb : -9223372036854775808 ≤ b ∧ b ≤ 9223372036854775807) (p : Int) (hp : -9223372036854775808 ≤ p ∧ p ≤ 9223372036854775807) (hE : ErrT w) :
    Calls Tryd.prog 4 #[.slice A n c, .agg #[.int .i64 a, .int .i64 b], .int .i64 p] w fun e w' => e = .returned (.bool true) ∧ Below w.heap.size w w' := by
  by_cases hr : runsE l = 0
  · by_cases h1 : chE addB l (a, b) = 0
    · by_cases h2 : chE cutB l (a, b) = 0
      · exact walk_ok_ok w A n c l hA hbd hc a b ha hbb p hp hE hr h1 h2 _ rfl
      · exact walk_ok_bad w A n c l hA hbd hc a b ha hbb p hp hE hr h1 _ rfl h2 _ rfl
    · by_cases h2 : chE cutB l (a, b) = 0
      · exact walk_bad_ok w A n c l hA hbd hc a b ha hbb p hp hE hr _ rfl h1 h2 _ rfl
      · exact walk_bad_bad w A n c l hA hbd hc a b ha hbb p hp hE hr _ rfl h1 _ rfl h2 _ rfl
  · exact walk_no w A n c l hA hbd hc a b ha hbb p hp hE _ rfl hr

set_option maxRecDepth 100000 in
theorem lifted (os : Os) (started : os.Started) (H : Type) (enc : TypeId × Value → H) :
    ReturnsInHanded {} Tryd.checked os 4 .any (fun w args => (Rows.extentSaysSpec.pre enc Tryd.prog Tryd.f4 [] false w args ∧ laidMetH Tryd.prog Rows.extentSaysRow.laid w) ∧ sizedMet enc Tryd.prog Tryd.f4 (OpenSpec.ofChange Rows.extentSaysSpec) false w args)
      (Rows.extentSaysSpec.post enc Tryd.prog Tryd.f4 false true false false) := by
  refine returnsInHanded_of_change_and (C := Tryd.checked) (X := fun w _ => laidMetH Tryd.prog Rows.extentSaysRow.laid w) (fun _ _ _ hh h => h.of_heap hh) own started (by kernel_rfl) Tryd.func4
    (ChangeSpec.witness_at (enc := enc) (C := Tryd.checked) (os := os) (X := fun w _ => laidMetH Tryd.prog Rows.extentSaysRow.laid w) false (laidWorld os) #[.slice none 0 0, .agg #[.int .i64 0, .int .i64 0], .int .i64 0] 8 rfl (by kernel_rfl) (by kernel_rfl) (by kernel_rfl) (by kernel_rfl) (by kernel_rfl) (laidWorld_met os _)) ?_
  intro W base args ds gs before hval0 hW _ _ hL _
  have hval : ∀ (j : Nat) t v, Tryd.f4.params[j]? = some t → args[j]? = some v → Value.okWide Tryd.prog W .any base t v := hval0
  have hW' := hW
  obtain ⟨p, q, hA0, hV, rfl, hfz, hnd⟩ := hW
  have hA : DataW.TrodAll enc Tryd.prog W 0 (fun _ => true) true Tryd.f4.params.toList args.toList ds p := hA0
  rw [Tryd.params4] at hA hval
  obtain ⟨v0, vs0, d0, ds0, p0, q0, hargs, rfl, rfl, h0, r0⟩ := trodAll_cons hA
  obtain ⟨v1, vs1, d1, ds1, p1, q1, rfl, rfl, rfl, h1, r1⟩ := trodAll_cons r0
  obtain ⟨v2, vs2, d2, ds2, p2, q2, rfl, rfl, rfl, h2, r2⟩ := trodAll_cons r1
  obtain ⟨rfl, rfl, rfl⟩ := trodAll_nil r2
  obtain rfl : args = #[v0, v1, v2] := by cases args; simp_all
  obtain ⟨rfl, rfl⟩ := trodVars_none hV
  have k0 := h0
  have lt0 : ∀ x ∈ p0, x.block < W.heap.size := by obtain ⟨m, hm⟩ := k0; exact DataW.trod_lt m _ _ _ hm
  obtain ⟨A0, n0, c0, rfl⟩ := okWide_slice Tryd.underlying37 (hval 0 37 v0 rfl rfl)
  obtain ⟨l0, w0, hb0, hc0⟩ : ∃ l : List (Int × Int), RdP W A0 n0 (l.map rv) ∧ (∀ p ∈ l, (-9223372036854775808 ≤ p.1 ∧ p.1 ≤ 9223372036854775807) ∧ (-9223372036854775808 ≤ p.2 ∧ p.2 ≤ 9223372036854775807)) ∧ n0 ≤ c0 := by
    obtain ⟨fuel, hf⟩ := h0
    rcases Go.Deep.open_slice_pairs Tryd.underlying37 Tryd.underlying39 (by kernel_rfl) rfl rfl (by kernel_rfl) (by kernel_rfl) hf with ⟨hcs, _⟩ | ⟨x, l, c, m, nn, V0, V1, D0, D1, P0, P1, hcs, _, hl, hm, hmm, _, hrow⟩
    · simp [Value.cells] at hcs
      obtain ⟨rfl, rfl, rfl⟩ := hcs
      exact ⟨[], RdP.nil _ _, by simp, Nat.le_refl _⟩
    · simp [Value.cells] at hcs
      obtain ⟨rfl, rfl, rfl⟩ := hcs
      have hlm : n0 ≤ m := by rw [hmm]; split <;> omega
      have hp := rdp_of_cells (w := W) (V0 := V0) (V1 := V1) hl hm (fun j hj => ⟨(hrow j (by omega)).1, (hrow j (by omega)).2.1⟩)
      obtain ⟨l', h1, h2⟩ := runs_of hp (fun j hj => by
        obtain ⟨_, _, g2, g3⟩ := hrow j (by omega)
        obtain ⟨b, e0, _, e4⟩ := DataW.trod_int Tryd.underlying3 g2
        obtain ⟨s, e1, _, e3⟩ := DataW.trod_int Tryd.underlying3 g3
        exact ⟨b, s, by simpa using e0, by simpa using e1, wf_range e4, wf_range e3⟩)
      exact ⟨l', h1, h2, hl⟩
  have k1 := h1
  have lt1 : ∀ x ∈ p1, x.block < W.heap.size := by obtain ⟨m, hm⟩ := k1; exact DataW.trod_lt m _ _ _ hm
  obtain ⟨y10, y11, z10, z11, m1, rfl, rfl, rfl, hy10, hy11⟩ := Go.Joins.open_agg2 Tryd.underlying39 (by kernel_rfl) (by kernel_rfl) (hval 1 39 v1 rfl rfl) h1
  obtain ⟨a1, ea1, _, wa1⟩ := DataW.trod_int Tryd.underlying3 hy10
  obtain ⟨b1, eb1, _, wb1⟩ := DataW.trod_int Tryd.underlying3 hy11
  simp at ea1 eb1
  subst ea1
  subst eb1
  have k2 := h2
  have lt2 : ∀ x ∈ p2, x.block < W.heap.size := by obtain ⟨m, hm⟩ := k2; exact DataW.trod_lt m _ _ _ hm
  obtain ⟨a2, rfl, rfl, rfl, w2⟩ := open_int Tryd.underlying3 (hval 2 3 v2 rfl rfl) h2
  clear hA0 hval0
  refine (walk W A0 n0 c0 l0 w0 hb0 hc0 a1 b1 (wf_range wa1) (wf_range wb1) a2 (wf_range w2) (handle_of_laid hL)).mono fun e W' ⟨he, bel⟩ => ?_
  subst he
  exact ⟨_, rfl, _, _, _, [], _, [], hW', trodAll_mk1 (shut_bool Tryd.underlying4 _), (trodAll_cons_mk (Below.trod laidOut (by kernel_rfl) (of_decide_eq_true (by kernel_rfl)) k0 bel lt0) (trodAll_cons_mk (Below.trod laidOut (by kernel_rfl) (of_decide_eq_true (by kernel_rfl)) k1 bel lt1) (trodAll_cons_mk (Below.trod laidOut (by kernel_rfl) (of_decide_eq_true (by kernel_rfl)) k2 bel lt2) trodAll_mk0))), rfl, bel.frame _, fun h => by cases h⟩

theorem over : Rows.extentSaysRow.holds Tryd.pinned (OpenSpec.ofChange Rows.extentSaysSpec) :=
  OpenClaim.holds_of_wide 4 Tryd.f4 rfl rfl rfl rfl rfl rfl rfl ⟨rfl, rfl, rfl, rfl, rfl⟩ rfl rfl rfl rfl rfl (by kernel_rfl) Tryd.func4 (by kernel_rfl)
    (of_decide_eq_true (by kernel_rfl)) (by unfold Func.isWrapper; first | (rw [if_pos (by decide +kernel)]; kernel_rfl) | (rw [if_neg (by decide +kernel)]; exact ⟨rfl, rfl⟩))
    (fun os started H enc _ => lifted os started H enc)

theorem card_holds : Rows.ExtentSaysCardSaid :=
  Claim7.holds_tied_plain_at .later [] [.handle] true Rows.extentSaysCard.stood.harness Rows.extentSaysCard.stood.looks
    over (fun _ h => by cases h) (by kernel_rfl) (fun _ h => by cases h) extentSays_row_tie rfl ⟨rfl, rfl⟩ (by kernel_rfl) rfl
    (fun f fn hf hfn => by
      obtain rfl : f = 4 := Option.some.inj ((show Tryd.prog.funcNamed "platterhold/platterholdlaw1.ExtentSays" = some 4 by kernel_rfl).symm.trans hf) |>.symm
      obtain rfl : fn = Tryd.f4 := (Option.some.inj (Tryd.func4.symm.trans hfn)).symm
      exact ⟨by kernel_rfl, fun j t ht => by
        rw [Tryd.params4] at ht
        have hm : t ∈ [37, 39, 3] := by simpa using Array.mem_of_getElem? ht
        have hall : ([37, 39, 3].all fun u => !Tryd.prog.wantsStandIn u) = true := by kernel_rfl
        exact (show Tryd.prog.wantsStandIn t = false by simpa using List.all_eq_true.1 hall t hm)⟩)
    (by kernel_rfl)
theorem proved : Rows.ExtentSaysCardSaid := card_holds
#print axioms proved
end Go.Proofs.YtllacbogbbbcaaaDoor.extentSays
