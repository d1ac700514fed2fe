/- Adding and removing a run have the effect of set union and difference: ExtentSet answers true at every slice of runs, run, int. Conditions: none beside the row's own. -/
import Derived.Test.YtllacbogbbbcaaaExt4
import Derived.Test.YtllacbogbbbcaaaRunO
namespace Go.Proofs.Ytllacbogbbbcaaa.extentSet
open Go Go.ChangeShapes Go.WideShapes Go.ChangeAt Go.RowKit
set_option linter.unusedVariables false
set_option maxRecDepth 20000

theorem has_ch {op : Bool → Bool → Bool} {l : List Rn} {r : Rn} (hl : runsE l = 0) (hr : okR r) (h0 : op false false = false) (p : Int) : hasB (chL op l r) p = op (hasB l p) (inR r p) := by
  by_cases hp : 0 ≤ p ∧ p ≤ 999
  · exact hasB_eq hp.1 hp.2
  · have e1 : hasB l p = false := by rw [Bool.eq_false_iff]; intro h; exact hp (hasB_in (runsE_zero.1 hl).2 h)
    have e2 : inR r p = false := by
      rw [Bool.eq_false_iff]; intro h
      obtain ⟨a, b, c, d⟩ := hr
      have := inR_iff.1 h
      exact hp (by omega)
    have e3 : hasB (chL op l r) p = false := by rw [Bool.eq_false_iff]; intro h; exact hp (by have := (chL_has _ _ _ _).1 h; omega)
    rw [e1, e2, e3, h0]
theorem hasV_ok {l : List Rn} (h : runsE l = 0) (p : Int) {v : Bool} (hv : hasB l p = v) : hasV l p = .tuple #[.bool v, .nilIface] := by unfold hasV; rw [if_pos h, hv]

set_option maxHeartbeats 8000000 in
set_option maxRecDepth 100000 in
theorem walk_ok_ok_in (w : World) (A : Option Addr) (n c : Nat) (l : List (Int × Int)) (hA : RdP w A n (l.map rv)) (hbd : ∀ p ∈ l, (-9223372036854775808 ≤ p.1 ∧ p.1 ≤ 9223372036854775807) ∧ (-9223372036854775808 ≤ p.2 ∧ p.2 ≤ 9223372036854775807)) (hc : n ≤ c) (a b : Int) (ha : -9223372036854775808 ≤ a ∧ a ≤ 9223372036854775807) (hbb : -9223372036854775808 ≤ b ∧ b ≤ 9223372036854775807) (p : Int) (hp : -9223372036854775808 ≤ p ∧ p ≤ 9223372036854775807) (hr : runsE l = 0) (hk : okR (a, b)) (hadd : chE addB l (a, b) = 0) (hcut : chE cutB l (a, b) = 0) (h1 : a ≤ p) (h2 : p < a + b) (v : Bool) (hv : hasB l p = v) :
    Calls Try.prog 7 #[.slice A n c, .agg #[.int .i64 a, .int .i64 b], .int .i64 p] w fun e w' => e = .returned (.bool true) ∧ Below w.heap.size w w' := by
  have hB0 := (Below.refl w.heap.size w).alloc (Nat.le_refl _) (.cells #[.int .i64 a, .int .i64 b] 40)
  have EE1 : (w.alloc (.cells #[.int .i64 a, .int .i64 b] 40)).cell? ⟨w.heap.size, 0, none⟩ = some (.int .i64 a) := by simp
  have EE2 : (w.alloc (.cells #[.int .i64 a, .int .i64 b] 40)).cell? ⟨w.heap.size, 1, none⟩ = some (.int .i64 b) := by simp
  have EE := Lib.hid (And.intro EE1 EE2)
  have HBD := Lib.hid (show Bd l from hbd)
  clear EE1 EE2 hbd
  have hrr := decide_eq_true hk
  obtain ⟨o1, o2, o3, o4⟩ := id hk
  simp only at o1 o2 o3 o4
  have hin : inR (a, b) p = true := inR_iff.2 ⟨h1, h2⟩
  have gM := hasV_ok (chE_ok_runs hadd) p (has_ch hr hk rfl p)
  rw [hv, hin] at gM
  have HM := Lib.hid gM
  clear gM
  have gK := hasV_ok (chE_ok_runs hcut) p (has_ch hr hk rfl p)
  rw [hv, hin] at gK
  have HK := Lib.hid gK
  clear gK
  have HH := Lib.hid (And.intro hadd (And.intro hcut (And.intro (hasV_ok hr p hv) hrr)))
  clear hadd hcut hr hk hv hin hrr
  cases v
  · skip
    go_enter Try.func7, Try.ntmps7
    go_wp2_with fail
    with_reducible refine (extentFact_any _).mono ?_
    rintro e w1 ⟨rfl, k1⟩
    have hB1 := hB0.trans (k1.mono hB0.size)
    have E1 := (k1.cell (p := ⟨w.heap.size, 0, none⟩) (by simp)).trans EE.out.1
    have E2 := (k1.cell (p := ⟨w.heap.size, 1, none⟩) (by simp)).trans EE.out.2
    have hlt : w.heap.size < w1.heap.size := by have := k1.size; simp at this; omega
    have HEE := Lib.hid (And.intro E1 (And.intro E2 (hA.below hB1)))
    clear k1 E1 E2
    have hb : Below w1.heap.size w1 w1 := Below.refl _ _
    have hB := hB1
    have e1 := HEE.out.1
    have e2 := HEE.out.2.1
    have hAx := HEE.out.2.2
    go_wp2_with fail
    with_reducible refine (xhas_bd _ _ _ l p _ hAx HBD.out).mono ?_
    rintro e w31x ⟨rfl, k31⟩
    have hb := hb.trans (k31.mono hb.size)
    have hB := hB1.trans (hb.mono hB1.size)
    have e1 := (hb.cell (p := ⟨w.heap.size, 0, none⟩) hlt).trans HEE.out.1
    have e2 := (hb.cell (p := ⟨w.heap.size, 1, none⟩) hlt).trans HEE.out.2.1
    have hAx := HEE.out.2.2.below hb
    rw [HH.out.2.2.1]
    go_wp2_with fail
    with_reducible refine (rrun_any a b _).mono ?_
    rintro e w32x ⟨rfl, k32⟩
    have hb := hb.trans (k32.mono hb.size)
    have hB := hB1.trans (hb.mono hB1.size)
    have e1 := (hb.cell (p := ⟨w.heap.size, 0, none⟩) hlt).trans HEE.out.1
    have e2 := (hb.cell (p := ⟨w.heap.size, 1, none⟩) hlt).trans HEE.out.2.1
    have hAx := HEE.out.2.2.below hb
    rw [HH.out.2.2.2]
    go_wp2_with fail
    with_reducible refine (xAdd_ok _ _ _ l a b _ hAx HBD.out HH.out.1).mono ?_
    rintro e w33x ⟨⟨C, m, c', rfl, hm, hown⟩, k33⟩
    have hb := hb.trans (k33.mono hb.size)
    have hB := hB1.trans (hb.mono hB1.size)
    have e1 := (hb.cell (p := ⟨w.heap.size, 0, none⟩) hlt).trans HEE.out.1
    have e2 := (hb.cell (p := ⟨w.heap.size, 1, none⟩) hlt).trans HEE.out.2.1
    have hAx := HEE.out.2.2.below hb
    have hpM := hown.rd (by omega)
    clear hown
    go_wp2_with fail
    with_reducible refine (xhas_bd _ _ _ _ p _ hpM (bd_ch _ _ _)).mono ?_
    rintro e w34x ⟨rfl, k34⟩
    have hb := hb.trans (k34.mono hb.size)
    have hB := hB1.trans (hb.mono hB1.size)
    have e1 := (hb.cell (p := ⟨w.heap.size, 0, none⟩) hlt).trans HEE.out.1
    have e2 := (hb.cell (p := ⟨w.heap.size, 1, none⟩) hlt).trans HEE.out.2.1
    have hAx := HEE.out.2.2.below hb
    rw [HM.out]
    rw [show addB false true = true from rfl]
    go_wp2_with fail
    with_reducible refine (xCut_ok _ _ _ l a b _ hAx HBD.out HH.out.2.1).mono ?_
    rintro e w35x ⟨⟨C2, m2, c2, rfl, hm2, hown2⟩, k35⟩
    have hb := hb.trans (k35.mono hb.size)
    have hB := hB1.trans (hb.mono hB1.size)
    have e1 := (hb.cell (p := ⟨w.heap.size, 0, none⟩) hlt).trans HEE.out.1
    have e2 := (hb.cell (p := ⟨w.heap.size, 1, none⟩) hlt).trans HEE.out.2.1
    have hAx := HEE.out.2.2.below hb
    have hpK := hown2.rd (by omega)
    clear hown2
    go_wp2_with fail
    with_reducible refine (xhas_bd _ _ _ _ p _ hpK (bd_ch _ _ _)).mono ?_
    rintro e w36x ⟨rfl, k36⟩
    have hb := hb.trans (k36.mono hb.size)
    have hB := hB1.trans (hb.mono hB1.size)
    have e1 := (hb.cell (p := ⟨w.heap.size, 0, none⟩) hlt).trans HEE.out.1
    have e2 := (hb.cell (p := ⟨w.heap.size, 1, none⟩) hlt).trans HEE.out.2.1
    have hAx := HEE.out.2.2.below hb
    rw [HK.out]
    rw [show cutB false true = false from rfl]
    go_wp2
    go_ret
    exact ⟨rfl, hB⟩
  · skip
    go_enter Try.func7, Try.ntmps7
    go_wp2_with fail
    with_reducible refine (extentFact_any _).mono ?_
    rintro e w1 ⟨rfl, k1⟩
    have hB1 := hB0.trans (k1.mono hB0.size)
    have E1 := (k1.cell (p := ⟨w.heap.size, 0, none⟩) (by simp)).trans EE.out.1
    have E2 := (k1.cell (p := ⟨w.heap.size, 1, none⟩) (by simp)).trans EE.out.2
    have hlt : w.heap.size < w1.heap.size := by have := k1.size; simp at this; omega
    have HEE := Lib.hid (And.intro E1 (And.intro E2 (hA.below hB1)))
    clear k1 E1 E2
    have hb : Below w1.heap.size w1 w1 := Below.refl _ _
    have hB := hB1
    have e1 := HEE.out.1
    have e2 := HEE.out.2.1
    have hAx := HEE.out.2.2
    go_wp2_with fail
    with_reducible refine (xhas_bd _ _ _ l p _ hAx HBD.out).mono ?_
    rintro e w37x ⟨rfl, k37⟩
    have hb := hb.trans (k37.mono hb.size)
    have hB := hB1.trans (hb.mono hB1.size)
    have e1 := (hb.cell (p := ⟨w.heap.size, 0, none⟩) hlt).trans HEE.out.1
    have e2 := (hb.cell (p := ⟨w.heap.size, 1, none⟩) hlt).trans HEE.out.2.1
    have hAx := HEE.out.2.2.below hb
    rw [HH.out.2.2.1]
    go_wp2_with fail
    with_reducible refine (rrun_any a b _).mono ?_
    rintro e w38x ⟨rfl, k38⟩
    have hb := hb.trans (k38.mono hb.size)
    have hB := hB1.trans (hb.mono hB1.size)
    have e1 := (hb.cell (p := ⟨w.heap.size, 0, none⟩) hlt).trans HEE.out.1
    have e2 := (hb.cell (p := ⟨w.heap.size, 1, none⟩) hlt).trans HEE.out.2.1
    have hAx := HEE.out.2.2.below hb
    rw [HH.out.2.2.2]
    go_wp2_with fail
    with_reducible refine (xAdd_ok _ _ _ l a b _ hAx HBD.out HH.out.1).mono ?_
    rintro e w39x ⟨⟨C, m, c', rfl, hm, hown⟩, k39⟩
    have hb := hb.trans (k39.mono hb.size)
    have hB := hB1.trans (hb.mono hB1.size)
    have e1 := (hb.cell (p := ⟨w.heap.size, 0, none⟩) hlt).trans HEE.out.1
    have e2 := (hb.cell (p := ⟨w.heap.size, 1, none⟩) hlt).trans HEE.out.2.1
    have hAx := HEE.out.2.2.below hb
    have hpM := hown.rd (by omega)
    clear hown
    go_wp2_with fail
    with_reducible refine (xhas_bd _ _ _ _ p _ hpM (bd_ch _ _ _)).mono ?_
    rintro e w40x ⟨rfl, k40⟩
    have hb := hb.trans (k40.mono hb.size)
    have hB := hB1.trans (hb.mono hB1.size)
    have e1 := (hb.cell (p := ⟨w.heap.size, 0, none⟩) hlt).trans HEE.out.1
    have e2 := (hb.cell (p := ⟨w.heap.size, 1, none⟩) hlt).trans HEE.out.2.1
    have hAx := HEE.out.2.2.below hb
    rw [HM.out]
    rw [show addB true true = true from rfl]
    go_wp2_with fail
    with_reducible refine (xCut_ok _ _ _ l a b _ hAx HBD.out HH.out.2.1).mono ?_
    rintro e w41x ⟨⟨C2, m2, c2, rfl, hm2, hown2⟩, k41⟩
    have hb := hb.trans (k41.mono hb.size)
    have hB := hB1.trans (hb.mono hB1.size)
    have e1 := (hb.cell (p := ⟨w.heap.size, 0, none⟩) hlt).trans HEE.out.1
    have e2 := (hb.cell (p := ⟨w.heap.size, 1, none⟩) hlt).trans HEE.out.2.1
    have hAx := HEE.out.2.2.below hb
    have hpK := hown2.rd (by omega)
    clear hown2
    go_wp2_with fail
    with_reducible refine (xhas_bd _ _ _ _ p _ hpK (bd_ch _ _ _)).mono ?_
    rintro e w42x ⟨rfl, k42⟩
    have hb := hb.trans (k42.mono hb.size)
    have hB := hB1.trans (hb.mono hB1.size)
    have e1 := (hb.cell (p := ⟨w.heap.size, 0, none⟩) hlt).trans HEE.out.1
    have e2 := (hb.cell (p := ⟨w.heap.size, 1, none⟩) hlt).trans HEE.out.2.1
    have hAx := HEE.out.2.2.below hb
    rw [HK.out]
    rw [show cutB true true = false from rfl]
    go_wp2
    go_ret
    exact ⟨rfl, hB⟩

set_option maxHeartbeats 8000000 in
set_option maxRecDepth 100000 in
theorem walk_ok_ok_hi (w : World) (A : Option Addr) (n c : Nat) (l : List (Int × Int)) (hA : RdP w A n (l.map rv)) (hbd : ∀ p ∈ l, (-9223372036854775808 ≤ p.1 ∧ p.1 ≤ 9223372036854775807) ∧ (-9223372036854775808 ≤ p.2 ∧ p.2 ≤ 9223372036854775807)) (hc : n ≤ c) (a b : Int) (ha : -9223372036854775808 ≤ a ∧ a ≤ 9223372036854775807) (hbb : -9223372036854775808 ≤ b ∧ b ≤ 9223372036854775807) (p : Int) (hp : -9223372036854775808 ≤ p ∧ p ≤ 9223372036854775807) (hr : runsE l = 0) (hk : okR (a, b)) (hadd : chE addB l (a, b) = 0) (hcut : chE cutB l (a, b) = 0) (h1 : a ≤ p) (h2 : ¬ p < a + b) (v : Bool) (hv : hasB l p = v) :
    Calls Try.prog 7 #[.slice A n c, .agg #[.int .i64 a, .int .i64 b], .int .i64 p] w fun e w' => e = .returned (.bool true) ∧ Below w.heap.size w w' := by
  have hB0 := (Below.refl w.heap.size w).alloc (Nat.le_refl _) (.cells #[.int .i64 a, .int .i64 b] 40)
  have EE1 : (w.alloc (.cells #[.int .i64 a, .int .i64 b] 40)).cell? ⟨w.heap.size, 0, none⟩ = some (.int .i64 a) := by simp
  have EE2 : (w.alloc (.cells #[.int .i64 a, .int .i64 b] 40)).cell? ⟨w.heap.size, 1, none⟩ = some (.int .i64 b) := by simp
  have EE := Lib.hid (And.intro EE1 EE2)
  have HBD := Lib.hid (show Bd l from hbd)
  clear EE1 EE2 hbd
  have hrr := decide_eq_true hk
  obtain ⟨o1, o2, o3, o4⟩ := id hk
  simp only at o1 o2 o3 o4
  have hin : inR (a, b) p = false := by rw [Bool.eq_false_iff]; intro h; exact h2 (inR_iff.1 h).2
  have hd : decide (p < a + b) = false := decide_eq_false h2
  have gM := hasV_ok (chE_ok_runs hadd) p (has_ch hr hk rfl p)
  rw [hv, hin] at gM
  have HM := Lib.hid gM
  clear gM
  have gK := hasV_ok (chE_ok_runs hcut) p (has_ch hr hk rfl p)
  rw [hv, hin] at gK
  have HK := Lib.hid gK
  clear gK
  have HH := Lib.hid (And.intro hadd (And.intro hcut (And.intro (hasV_ok hr p hv) hrr)))
  clear hadd hcut hr hk hv hin hrr
  cases v
  · skip
    go_enter Try.func7, Try.ntmps7
    go_wp2_with fail
    with_reducible refine (extentFact_any _).mono ?_
    rintro e w1 ⟨rfl, k1⟩
    have hB1 := hB0.trans (k1.mono hB0.size)
    have E1 := (k1.cell (p := ⟨w.heap.size, 0, none⟩) (by simp)).trans EE.out.1
    have E2 := (k1.cell (p := ⟨w.heap.size, 1, none⟩) (by simp)).trans EE.out.2
    have hlt : w.heap.size < w1.heap.size := by have := k1.size; simp at this; omega
    have HEE := Lib.hid (And.intro E1 (And.intro E2 (hA.below hB1)))
    clear k1 E1 E2
    have hb : Below w1.heap.size w1 w1 := Below.refl _ _
    have hB := hB1
    have e1 := HEE.out.1
    have e2 := HEE.out.2.1
    have hAx := HEE.out.2.2
    go_wp2_with fail
    with_reducible refine (xhas_bd _ _ _ l p _ hAx HBD.out).mono ?_
    rintro e w43x ⟨rfl, k43⟩
    have hb := hb.trans (k43.mono hb.size)
    have hB := hB1.trans (hb.mono hB1.size)
    have e1 := (hb.cell (p := ⟨w.heap.size, 0, none⟩) hlt).trans HEE.out.1
    have e2 := (hb.cell (p := ⟨w.heap.size, 1, none⟩) hlt).trans HEE.out.2.1
    have hAx := HEE.out.2.2.below hb
    rw [HH.out.2.2.1]
    go_wp2_with fail
    with_reducible refine (rrun_any a b _).mono ?_
    rintro e w44x ⟨rfl, k44⟩
    have hb := hb.trans (k44.mono hb.size)
    have hB := hB1.trans (hb.mono hB1.size)
    have e1 := (hb.cell (p := ⟨w.heap.size, 0, none⟩) hlt).trans HEE.out.1
    have e2 := (hb.cell (p := ⟨w.heap.size, 1, none⟩) hlt).trans HEE.out.2.1
    have hAx := HEE.out.2.2.below hb
    rw [HH.out.2.2.2]
    go_wp2_with fail
    with_reducible refine (xAdd_ok _ _ _ l a b _ hAx HBD.out HH.out.1).mono ?_
    rintro e w45x ⟨⟨C, m, c', rfl, hm, hown⟩, k45⟩
    have hb := hb.trans (k45.mono hb.size)
    have hB := hB1.trans (hb.mono hB1.size)
    have e1 := (hb.cell (p := ⟨w.heap.size, 0, none⟩) hlt).trans HEE.out.1
    have e2 := (hb.cell (p := ⟨w.heap.size, 1, none⟩) hlt).trans HEE.out.2.1
    have hAx := HEE.out.2.2.below hb
    have hpM := hown.rd (by omega)
    clear hown
    go_wp2_with fail
    with_reducible refine (xhas_bd _ _ _ _ p _ hpM (bd_ch _ _ _)).mono ?_
    rintro e w46x ⟨rfl, k46⟩
    have hb := hb.trans (k46.mono hb.size)
    have hB := hB1.trans (hb.mono hB1.size)
    have e1 := (hb.cell (p := ⟨w.heap.size, 0, none⟩) hlt).trans HEE.out.1
    have e2 := (hb.cell (p := ⟨w.heap.size, 1, none⟩) hlt).trans HEE.out.2.1
    have hAx := HEE.out.2.2.below hb
    rw [HM.out]
    rw [show addB false false = false from rfl]
    go_wp2_with fail
    with_reducible refine (xCut_ok _ _ _ l a b _ hAx HBD.out HH.out.2.1).mono ?_
    rintro e w47x ⟨⟨C2, m2, c2, rfl, hm2, hown2⟩, k47⟩
    have hb := hb.trans (k47.mono hb.size)
    have hB := hB1.trans (hb.mono hB1.size)
    have e1 := (hb.cell (p := ⟨w.heap.size, 0, none⟩) hlt).trans HEE.out.1
    have e2 := (hb.cell (p := ⟨w.heap.size, 1, none⟩) hlt).trans HEE.out.2.1
    have hAx := HEE.out.2.2.below hb
    have hpK := hown2.rd (by omega)
    clear hown2
    go_wp2_with fail
    with_reducible refine (xhas_bd _ _ _ _ p _ hpK (bd_ch _ _ _)).mono ?_
    rintro e w48x ⟨rfl, k48⟩
    have hb := hb.trans (k48.mono hb.size)
    have hB := hB1.trans (hb.mono hB1.size)
    have e1 := (hb.cell (p := ⟨w.heap.size, 0, none⟩) hlt).trans HEE.out.1
    have e2 := (hb.cell (p := ⟨w.heap.size, 1, none⟩) hlt).trans HEE.out.2.1
    have hAx := HEE.out.2.2.below hb
    rw [HK.out]
    rw [show cutB false false = false from rfl]
    go_wp2
    go_ret
    exact ⟨rfl, hB⟩
  · skip
    go_enter Try.func7, Try.ntmps7
    go_wp2_with fail
    with_reducible refine (extentFact_any _).mono ?_
    rintro e w1 ⟨rfl, k1⟩
    have hB1 := hB0.trans (k1.mono hB0.size)
    have E1 := (k1.cell (p := ⟨w.heap.size, 0, none⟩) (by simp)).trans EE.out.1
    have E2 := (k1.cell (p := ⟨w.heap.size, 1, none⟩) (by simp)).trans EE.out.2
    have hlt : w.heap.size < w1.heap.size := by have := k1.size; simp at this; omega
    have HEE := Lib.hid (And.intro E1 (And.intro E2 (hA.below hB1)))
    clear k1 E1 E2
    have hb : Below w1.heap.size w1 w1 := Below.refl _ _
    have hB := hB1
    have e1 := HEE.out.1
    have e2 := HEE.out.2.1
    have hAx := HEE.out.2.2
    go_wp2_with fail
    with_reducible refine (xhas_bd _ _ _ l p _ hAx HBD.out).mono ?_
    rintro e w49x ⟨rfl, k49⟩
    have hb := hb.trans (k49.mono hb.size)
    have hB := hB1.trans (hb.mono hB1.size)
    have e1 := (hb.cell (p := ⟨w.heap.size, 0, none⟩) hlt).trans HEE.out.1
    have e2 := (hb.cell (p := ⟨w.heap.size, 1, none⟩) hlt).trans HEE.out.2.1
    have hAx := HEE.out.2.2.below hb
    rw [HH.out.2.2.1]
    go_wp2_with fail
    with_reducible refine (rrun_any a b _).mono ?_
    rintro e w50x ⟨rfl, k50⟩
    have hb := hb.trans (k50.mono hb.size)
    have hB := hB1.trans (hb.mono hB1.size)
    have e1 := (hb.cell (p := ⟨w.heap.size, 0, none⟩) hlt).trans HEE.out.1
    have e2 := (hb.cell (p := ⟨w.heap.size, 1, none⟩) hlt).trans HEE.out.2.1
    have hAx := HEE.out.2.2.below hb
    rw [HH.out.2.2.2]
    go_wp2_with fail
    with_reducible refine (xAdd_ok _ _ _ l a b _ hAx HBD.out HH.out.1).mono ?_
    rintro e w51x ⟨⟨C, m, c', rfl, hm, hown⟩, k51⟩
    have hb := hb.trans (k51.mono hb.size)
    have hB := hB1.trans (hb.mono hB1.size)
    have e1 := (hb.cell (p := ⟨w.heap.size, 0, none⟩) hlt).trans HEE.out.1
    have e2 := (hb.cell (p := ⟨w.heap.size, 1, none⟩) hlt).trans HEE.out.2.1
    have hAx := HEE.out.2.2.below hb
    have hpM := hown.rd (by omega)
    clear hown
    go_wp2_with fail
    with_reducible refine (xhas_bd _ _ _ _ p _ hpM (bd_ch _ _ _)).mono ?_
    rintro e w52x ⟨rfl, k52⟩
    have hb := hb.trans (k52.mono hb.size)
    have hB := hB1.trans (hb.mono hB1.size)
    have e1 := (hb.cell (p := ⟨w.heap.size, 0, none⟩) hlt).trans HEE.out.1
    have e2 := (hb.cell (p := ⟨w.heap.size, 1, none⟩) hlt).trans HEE.out.2.1
    have hAx := HEE.out.2.2.below hb
    rw [HM.out]
    rw [show addB true false = true from rfl]
    go_wp2_with fail
    with_reducible refine (xCut_ok _ _ _ l a b _ hAx HBD.out HH.out.2.1).mono ?_
    rintro e w53x ⟨⟨C2, m2, c2, rfl, hm2, hown2⟩, k53⟩
    have hb := hb.trans (k53.mono hb.size)
    have hB := hB1.trans (hb.mono hB1.size)
    have e1 := (hb.cell (p := ⟨w.heap.size, 0, none⟩) hlt).trans HEE.out.1
    have e2 := (hb.cell (p := ⟨w.heap.size, 1, none⟩) hlt).trans HEE.out.2.1
    have hAx := HEE.out.2.2.below hb
    have hpK := hown2.rd (by omega)
    clear hown2
    go_wp2_with fail
    with_reducible refine (xhas_bd _ _ _ _ p _ hpK (bd_ch _ _ _)).mono ?_
    rintro e w54x ⟨rfl, k54⟩
    have hb := hb.trans (k54.mono hb.size)
    have hB := hB1.trans (hb.mono hB1.size)
    have e1 := (hb.cell (p := ⟨w.heap.size, 0, none⟩) hlt).trans HEE.out.1
    have e2 := (hb.cell (p := ⟨w.heap.size, 1, none⟩) hlt).trans HEE.out.2.1
    have hAx := HEE.out.2.2.below hb
    rw [HK.out]
    rw [show cutB true false = true from rfl]
    go_wp2
    go_ret
    exact ⟨rfl, hB⟩

set_option maxHeartbeats 8000000 in
set_option maxRecDepth 100000 in
theorem walk_ok_ok_lo (w : World) (A : Option Addr) (n c : Nat) (l : List (Int × Int)) (hA : RdP w A n (l.map rv)) (hbd : ∀ p ∈ l, (-9223372036854775808 ≤ p.1 ∧ p.1 ≤ 9223372036854775807) ∧ (-9223372036854775808 ≤ p.2 ∧ p.2 ≤ 9223372036854775807)) (hc : n ≤ c) (a b : Int) (ha : -9223372036854775808 ≤ a ∧ a ≤ 9223372036854775807) (hbb : -9223372036854775808 ≤ b ∧ b ≤ 9223372036854775807) (p : Int) (hp : -9223372036854775808 ≤ p ∧ p ≤ 9223372036854775807) (hr : runsE l = 0) (hk : okR (a, b)) (hadd : chE addB l (a, b) = 0) (hcut : chE cutB l (a, b) = 0) (h1 : ¬ a ≤ p) (v : Bool) (hv : hasB l p = v) :
    Calls Try.prog 7 #[.slice A n c, .agg #[.int .i64 a, .int .i64 b], .int .i64 p] w fun e w' => e = .returned (.bool true) ∧ Below w.heap.size w w' := by
  have hB0 := (Below.refl w.heap.size w).alloc (Nat.le_refl _) (.cells #[.int .i64 a, .int .i64 b] 40)
  have EE1 : (w.alloc (.cells #[.int .i64 a, .int .i64 b] 40)).cell? ⟨w.heap.size, 0, none⟩ = some (.int .i64 a) := by simp
  have EE2 : (w.alloc (.cells #[.int .i64 a, .int .i64 b] 40)).cell? ⟨w.heap.size, 1, none⟩ = some (.int .i64 b) := by simp
  have EE := Lib.hid (And.intro EE1 EE2)
  have HBD := Lib.hid (show Bd l from hbd)
  clear EE1 EE2 hbd
  have hrr := decide_eq_true hk
  obtain ⟨o1, o2, o3, o4⟩ := id hk
  simp only at o1 o2 o3 o4
  have hin : inR (a, b) p = false := by rw [Bool.eq_false_iff]; intro h; exact h1 (inR_iff.1 h).1
  have hd : decide (a ≤ p) = false := decide_eq_false h1
  have gM := hasV_ok (chE_ok_runs hadd) p (has_ch hr hk rfl p)
  rw [hv, hin] at gM
  have HM := Lib.hid gM
  clear gM
  have gK := hasV_ok (chE_ok_runs hcut) p (has_ch hr hk rfl p)
  rw [hv, hin] at gK
  have HK := Lib.hid gK
  clear gK
  have HH := Lib.hid (And.intro hadd (And.intro hcut (And.intro (hasV_ok hr p hv) hrr)))
  clear hadd hcut hr hk hv hin hrr
  cases v
  · skip
    go_enter Try.func7, Try.ntmps7
    go_wp2_with fail
    with_reducible refine (extentFact_any _).mono ?_
    rintro e w1 ⟨rfl, k1⟩
    have hB1 := hB0.trans (k1.mono hB0.size)
    have E1 := (k1.cell (p := ⟨w.heap.size, 0, none⟩) (by simp)).trans EE.out.1
    have E2 := (k1.cell (p := ⟨w.heap.size, 1, none⟩) (by simp)).trans EE.out.2
    have hlt : w.heap.size < w1.heap.size := by have := k1.size; simp at this; omega
    have HEE := Lib.hid (And.intro E1 (And.intro E2 (hA.below hB1)))
    clear k1 E1 E2
    have hb : Below w1.heap.size w1 w1 := Below.refl _ _
    have hB := hB1
    have e1 := HEE.out.1
    have e2 := HEE.out.2.1
    have hAx := HEE.out.2.2
    go_wp2_with fail
    with_reducible refine (xhas_bd _ _ _ l p _ hAx HBD.out).mono ?_
    rintro e w55x ⟨rfl, k55⟩
    have hb := hb.trans (k55.mono hb.size)
    have hB := hB1.trans (hb.mono hB1.size)
    have e1 := (hb.cell (p := ⟨w.heap.size, 0, none⟩) hlt).trans HEE.out.1
    have e2 := (hb.cell (p := ⟨w.heap.size, 1, none⟩) hlt).trans HEE.out.2.1
    have hAx := HEE.out.2.2.below hb
    rw [HH.out.2.2.1]
    go_wp2_with fail
    with_reducible refine (rrun_any a b _).mono ?_
    rintro e w56x ⟨rfl, k56⟩
    have hb := hb.trans (k56.mono hb.size)
    have hB := hB1.trans (hb.mono hB1.size)
    have e1 := (hb.cell (p := ⟨w.heap.size, 0, none⟩) hlt).trans HEE.out.1
    have e2 := (hb.cell (p := ⟨w.heap.size, 1, none⟩) hlt).trans HEE.out.2.1
    have hAx := HEE.out.2.2.below hb
    rw [HH.out.2.2.2]
    go_wp2_with fail
    with_reducible refine (xAdd_ok _ _ _ l a b _ hAx HBD.out HH.out.1).mono ?_
    rintro e w57x ⟨⟨C, m, c', rfl, hm, hown⟩, k57⟩
    have hb := hb.trans (k57.mono hb.size)
    have hB := hB1.trans (hb.mono hB1.size)
    have e1 := (hb.cell (p := ⟨w.heap.size, 0, none⟩) hlt).trans HEE.out.1
    have e2 := (hb.cell (p := ⟨w.heap.size, 1, none⟩) hlt).trans HEE.out.2.1
    have hAx := HEE.out.2.2.below hb
    have hpM := hown.rd (by omega)
    clear hown
    go_wp2_with fail
    with_reducible refine (xhas_bd _ _ _ _ p _ hpM (bd_ch _ _ _)).mono ?_
    rintro e w58x ⟨rfl, k58⟩
    have hb := hb.trans (k58.mono hb.size)
    have hB := hB1.trans (hb.mono hB1.size)
    have e1 := (hb.cell (p := ⟨w.heap.size, 0, none⟩) hlt).trans HEE.out.1
    have e2 := (hb.cell (p := ⟨w.heap.size, 1, none⟩) hlt).trans HEE.out.2.1
    have hAx := HEE.out.2.2.below hb
    rw [HM.out]
    rw [show addB false false = false from rfl]
    go_wp2_with fail
    with_reducible refine (xCut_ok _ _ _ l a b _ hAx HBD.out HH.out.2.1).mono ?_
    rintro e w59x ⟨⟨C2, m2, c2, rfl, hm2, hown2⟩, k59⟩
    have hb := hb.trans (k59.mono hb.size)
    have hB := hB1.trans (hb.mono hB1.size)
    have e1 := (hb.cell (p := ⟨w.heap.size, 0, none⟩) hlt).trans HEE.out.1
    have e2 := (hb.cell (p := ⟨w.heap.size, 1, none⟩) hlt).trans HEE.out.2.1
    have hAx := HEE.out.2.2.below hb
    have hpK := hown2.rd (by omega)
    clear hown2
    go_wp2_with fail
    with_reducible refine (xhas_bd _ _ _ _ p _ hpK (bd_ch _ _ _)).mono ?_
    rintro e w60x ⟨rfl, k60⟩
    have hb := hb.trans (k60.mono hb.size)
    have hB := hB1.trans (hb.mono hB1.size)
    have e1 := (hb.cell (p := ⟨w.heap.size, 0, none⟩) hlt).trans HEE.out.1
    have e2 := (hb.cell (p := ⟨w.heap.size, 1, none⟩) hlt).trans HEE.out.2.1
    have hAx := HEE.out.2.2.below hb
    rw [HK.out]
    rw [show cutB false false = false from rfl]
    go_wp2
    go_ret
    exact ⟨rfl, hB⟩
  · skip
    go_enter Try.func7, Try.ntmps7
    go_wp2_with fail
    with_reducible refine (extentFact_any _).mono ?_
    rintro e w1 ⟨rfl, k1⟩
    have hB1 := hB0.trans (k1.mono hB0.size)
    have E1 := (k1.cell (p := ⟨w.heap.size, 0, none⟩) (by simp)).trans EE.out.1
    have E2 := (k1.cell (p := ⟨w.heap.size, 1, none⟩) (by simp)).trans EE.out.2
    have hlt : w.heap.size < w1.heap.size := by have := k1.size; simp at this; omega
    have HEE := Lib.hid (And.intro E1 (And.intro E2 (hA.below hB1)))
    clear k1 E1 E2
    have hb : Below w1.heap.size w1 w1 := Below.refl _ _
    have hB := hB1
    have e1 := HEE.out.1
    have e2 := HEE.out.2.1
    have hAx := HEE.out.2.2
    go_wp2_with fail
    with_reducible refine (xhas_bd _ _ _ l p _ hAx HBD.out).mono ?_
    rintro e w61x ⟨rfl, k61⟩
    have hb := hb.trans (k61.mono hb.size)
    have hB := hB1.trans (hb.mono hB1.size)
    have e1 := (hb.cell (p := ⟨w.heap.size, 0, none⟩) hlt).trans HEE.out.1
    have e2 := (hb.cell (p := ⟨w.heap.size, 1, none⟩) hlt).trans HEE.out.2.1
    have hAx := HEE.out.2.2.below hb
    rw [HH.out.2.2.1]
    go_wp2_with fail
    with_reducible refine (rrun_any a b _).mono ?_
    rintro e w62x ⟨rfl, k62⟩
    have hb := hb.trans (k62.mono hb.size)
    have hB := hB1.trans (hb.mono hB1.size)
    have e1 := (hb.cell (p := ⟨w.heap.size, 0, none⟩) hlt).trans HEE.out.1
    have e2 := (hb.cell (p := ⟨w.heap.size, 1, none⟩) hlt).trans HEE.out.2.1
    have hAx := HEE.out.2.2.below hb
    rw [HH.out.2.2.2]
    go_wp2_with fail
    with_reducible refine (xAdd_ok _ _ _ l a b _ hAx HBD.out HH.out.1).mono ?_
    rintro e w63x ⟨⟨C, m, c', rfl, hm, hown⟩, k63⟩
    have hb := hb.trans (k63.mono hb.size)
    have hB := hB1.trans (hb.mono hB1.size)
    have e1 := (hb.cell (p := ⟨w.heap.size, 0, none⟩) hlt).trans HEE.out.1
    have e2 := (hb.cell (p := ⟨w.heap.size, 1, none⟩) hlt).trans HEE.out.2.1
    have hAx := HEE.out.2.2.below hb
    have hpM := hown.rd (by omega)
    clear hown
    go_wp2_with fail
    with_reducible refine (xhas_bd _ _ _ _ p _ hpM (bd_ch _ _ _)).mono ?_
    rintro e w64x ⟨rfl, k64⟩
    have hb := hb.trans (k64.mono hb.size)
    have hB := hB1.trans (hb.mono hB1.size)
    have e1 := (hb.cell (p := ⟨w.heap.size, 0, none⟩) hlt).trans HEE.out.1
    have e2 := (hb.cell (p := ⟨w.heap.size, 1, none⟩) hlt).trans HEE.out.2.1
    have hAx := HEE.out.2.2.below hb
    rw [HM.out]
    rw [show addB true false = true from rfl]
    go_wp2_with fail
    with_reducible refine (xCut_ok _ _ _ l a b _ hAx HBD.out HH.out.2.1).mono ?_
    rintro e w65x ⟨⟨C2, m2, c2, rfl, hm2, hown2⟩, k65⟩
    have hb := hb.trans (k65.mono hb.size)
    have hB := hB1.trans (hb.mono hB1.size)
    have e1 := (hb.cell (p := ⟨w.heap.size, 0, none⟩) hlt).trans HEE.out.1
    have e2 := (hb.cell (p := ⟨w.heap.size, 1, none⟩) hlt).trans HEE.out.2.1
    have hAx := HEE.out.2.2.below hb
    have hpK := hown2.rd (by omega)
    clear hown2
    go_wp2_with fail
    with_reducible refine (xhas_bd _ _ _ _ p _ hpK (bd_ch _ _ _)).mono ?_
    rintro e w66x ⟨rfl, k66⟩
    have hb := hb.trans (k66.mono hb.size)
    have hB := hB1.trans (hb.mono hB1.size)
    have e1 := (hb.cell (p := ⟨w.heap.size, 0, none⟩) hlt).trans HEE.out.1
    have e2 := (hb.cell (p := ⟨w.heap.size, 1, none⟩) hlt).trans HEE.out.2.1
    have hAx := HEE.out.2.2.below hb
    rw [HK.out]
    rw [show cutB true false = true from rfl]
    go_wp2
    go_ret
    exact ⟨rfl, hB⟩

set_option maxHeartbeats 8000000 in
set_option maxRecDepth 100000 in
theorem walk_ok_bad_in (w : World) (A : Option Addr) (n c : Nat) (l : List (Int × Int)) (hA : RdP w A n (l.map rv)) (hbd : ∀ p ∈ l, (-9223372036854775808 ≤ p.1 ∧ p.1 ≤ 9223372036854775807) ∧ (-9223372036854775808 ≤ p.2 ∧ p.2 ≤ 9223372036854775807)) (hc : n ≤ c) (a b : Int) (ha : -9223372036854775808 ≤ a ∧ a ≤ 9223372036854775807) (hbb : -9223372036854775808 ≤ b ∧ b ≤ 9223372036854775807) (p : Int) (hp : -9223372036854775808 ≤ p ∧ p ≤ 9223372036854775807) (hr : runsE l = 0) (hk : okR (a, b)) (hadd : chE addB l (a, b) = 0) (hcut : chE cutB l (a, b) ≠ 0) (h1 : a ≤ p) (h2 : p < a + b) (v : Bool) (hv : hasB l p = v) :
    Calls Try.prog 7 #[.slice A n c, .agg #[.int .i64 a, .int .i64 b], .int .i64 p] w fun e w' => e = .returned (.bool true) ∧ Below w.heap.size w w' := by
  have hB0 := (Below.refl w.heap.size w).alloc (Nat.le_refl _) (.cells #[.int .i64 a, .int .i64 b] 40)
  have EE1 : (w.alloc (.cells #[.int .i64 a, .int .i64 b] 40)).cell? ⟨w.heap.size, 0, none⟩ = some (.int .i64 a) := by simp
  have EE2 : (w.alloc (.cells #[.int .i64 a, .int .i64 b] 40)).cell? ⟨w.heap.size, 1, none⟩ = some (.int .i64 b) := by simp
  have EE := Lib.hid (And.intro EE1 EE2)
  have HBD := Lib.hid (show Bd l from hbd)
  clear EE1 EE2 hbd
  have hrr := decide_eq_true hk
  obtain ⟨o1, o2, o3, o4⟩ := id hk
  simp only at o1 o2 o3 o4
  have hin : inR (a, b) p = true := inR_iff.2 ⟨h1, h2⟩
  have gM := hasV_ok (chE_ok_runs hadd) p (has_ch hr hk rfl p)
  rw [hv, hin] at gM
  have HM := Lib.hid gM
  clear gM
  have HH := Lib.hid (And.intro hadd (And.intro hcut (And.intro (hasV_ok hr p hv) hrr)))
  clear hadd hcut hr hk hv hin hrr
  cases v
  · skip
    go_enter Try.func7, Try.ntmps7
    go_wp2_with fail
    with_reducible refine (extentFact_any _).mono ?_
    rintro e w1 ⟨rfl, k1⟩
    have hB1 := hB0.trans (k1.mono hB0.size)
    have E1 := (k1.cell (p := ⟨w.heap.size, 0, none⟩) (by simp)).trans EE.out.1
    have E2 := (k1.cell (p := ⟨w.heap.size, 1, none⟩) (by simp)).trans EE.out.2
    have hlt : w.heap.size < w1.heap.size := by have := k1.size; simp at this; omega
    have HEE := Lib.hid (And.intro E1 (And.intro E2 (hA.below hB1)))
    clear k1 E1 E2
    have hb : Below w1.heap.size w1 w1 := Below.refl _ _
    have hB := hB1
    have e1 := HEE.out.1
    have e2 := HEE.out.2.1
    have hAx := HEE.out.2.2
    go_wp2_with fail
    with_reducible refine (xhas_bd _ _ _ l p _ hAx HBD.out).mono ?_
    rintro e w67x ⟨rfl, k67⟩
    have hb := hb.trans (k67.mono hb.size)
    have hB := hB1.trans (hb.mono hB1.size)
    have e1 := (hb.cell (p := ⟨w.heap.size, 0, none⟩) hlt).trans HEE.out.1
    have e2 := (hb.cell (p := ⟨w.heap.size, 1, none⟩) hlt).trans HEE.out.2.1
    have hAx := HEE.out.2.2.below hb
    rw [HH.out.2.2.1]
    go_wp2_with fail
    with_reducible refine (rrun_any a b _).mono ?_
    rintro e w68x ⟨rfl, k68⟩
    have hb := hb.trans (k68.mono hb.size)
    have hB := hB1.trans (hb.mono hB1.size)
    have e1 := (hb.cell (p := ⟨w.heap.size, 0, none⟩) hlt).trans HEE.out.1
    have e2 := (hb.cell (p := ⟨w.heap.size, 1, none⟩) hlt).trans HEE.out.2.1
    have hAx := HEE.out.2.2.below hb
    rw [HH.out.2.2.2]
    go_wp2_with fail
    with_reducible refine (xAdd_ok _ _ _ l a b _ hAx HBD.out HH.out.1).mono ?_
    rintro e w69x ⟨⟨C, m, c', rfl, hm, hown⟩, k69⟩
    have hb := hb.trans (k69.mono hb.size)
    have hB := hB1.trans (hb.mono hB1.size)
    have e1 := (hb.cell (p := ⟨w.heap.size, 0, none⟩) hlt).trans HEE.out.1
    have e2 := (hb.cell (p := ⟨w.heap.size, 1, none⟩) hlt).trans HEE.out.2.1
    have hAx := HEE.out.2.2.below hb
    have hpM := hown.rd (by omega)
    clear hown
    go_wp2_with fail
    with_reducible refine (xhas_bd _ _ _ _ p _ hpM (bd_ch _ _ _)).mono ?_
    rintro e w70x ⟨rfl, k70⟩
    have hb := hb.trans (k70.mono hb.size)
    have hB := hB1.trans (hb.mono hB1.size)
    have e1 := (hb.cell (p := ⟨w.heap.size, 0, none⟩) hlt).trans HEE.out.1
    have e2 := (hb.cell (p := ⟨w.heap.size, 1, none⟩) hlt).trans HEE.out.2.1
    have hAx := HEE.out.2.2.below hb
    rw [HM.out]
    rw [show addB false true = true from rfl]
    go_wp2_with fail
    with_reducible refine (xCut_bad _ _ _ l a b _ hAx HBD.out HH.out.2.1).mono ?_
    rintro e w71x ⟨rfl, k71⟩
    have hb := hb.trans (k71.mono hb.size)
    have hB := hB1.trans (hb.mono hB1.size)
    have e1 := (hb.cell (p := ⟨w.heap.size, 0, none⟩) hlt).trans HEE.out.1
    have e2 := (hb.cell (p := ⟨w.heap.size, 1, none⟩) hlt).trans HEE.out.2.1
    have hAx := HEE.out.2.2.below hb
    go_wp2
    go_ret
    exact ⟨rfl, hB⟩
  · skip
    go_enter Try.func7, Try.ntmps7
    go_wp2_with fail
    with_reducible refine (extentFact_any _).mono ?_
    rintro e w1 ⟨rfl, k1⟩
    have hB1 := hB0.trans (k1.mono hB0.size)
    have E1 := (k1.cell (p := ⟨w.heap.size, 0, none⟩) (by simp)).trans EE.out.1
    have E2 := (k1.cell (p := ⟨w.heap.size, 1, none⟩) (by simp)).trans EE.out.2
    have hlt : w.heap.size < w1.heap.size := by have := k1.size; simp at this; omega
    have HEE := Lib.hid (And.intro E1 (And.intro E2 (hA.below hB1)))
    clear k1 E1 E2
    have hb : Below w1.heap.size w1 w1 := Below.refl _ _
    have hB := hB1
    have e1 := HEE.out.1
    have e2 := HEE.out.2.1
    have hAx := HEE.out.2.2
    go_wp2_with fail
    with_reducible refine (xhas_bd _ _ _ l p _ hAx HBD.out).mono ?_
    rintro e w72x ⟨rfl, k72⟩
    have hb := hb.trans (k72.mono hb.size)
    have hB := hB1.trans (hb.mono hB1.size)
    have e1 := (hb.cell (p := ⟨w.heap.size, 0, none⟩) hlt).trans HEE.out.1
    have e2 := (hb.cell (p := ⟨w.heap.size, 1, none⟩) hlt).trans HEE.out.2.1
    have hAx := HEE.out.2.2.below hb
    rw [HH.out.2.2.1]
    go_wp2_with fail
    with_reducible refine (rrun_any a b _).mono ?_
    rintro e w73x ⟨rfl, k73⟩
    have hb := hb.trans (k73.mono hb.size)
    have hB := hB1.trans (hb.mono hB1.size)
    have e1 := (hb.cell (p := ⟨w.heap.size, 0, none⟩) hlt).trans HEE.out.1
    have e2 := (hb.cell (p := ⟨w.heap.size, 1, none⟩) hlt).trans HEE.out.2.1
    have hAx := HEE.out.2.2.below hb
    rw [HH.out.2.2.2]
    go_wp2_with fail
    with_reducible refine (xAdd_ok _ _ _ l a b _ hAx HBD.out HH.out.1).mono ?_
    rintro e w74x ⟨⟨C, m, c', rfl, hm, hown⟩, k74⟩
    have hb := hb.trans (k74.mono hb.size)
    have hB := hB1.trans (hb.mono hB1.size)
    have e1 := (hb.cell (p := ⟨w.heap.size, 0, none⟩) hlt).trans HEE.out.1
    have e2 := (hb.cell (p := ⟨w.heap.size, 1, none⟩) hlt).trans HEE.out.2.1
    have hAx := HEE.out.2.2.below hb
    have hpM := hown.rd (by omega)
    clear hown
    go_wp2_with fail
    with_reducible refine (xhas_bd _ _ _ _ p _ hpM (bd_ch _ _ _)).mono ?_
    rintro e w75x ⟨rfl, k75⟩
    have hb := hb.trans (k75.mono hb.size)
    have hB := hB1.trans (hb.mono hB1.size)
    have e1 := (hb.cell (p := ⟨w.heap.size, 0, none⟩) hlt).trans HEE.out.1
    have e2 := (hb.cell (p := ⟨w.heap.size, 1, none⟩) hlt).trans HEE.out.2.1
    have hAx := HEE.out.2.2.below hb
    rw [HM.out]
    rw [show addB true true = true from rfl]
    go_wp2_with fail
    with_reducible refine (xCut_bad _ _ _ l a b _ hAx HBD.out HH.out.2.1).mono ?_
    rintro e w76x ⟨rfl, k76⟩
    have hb := hb.trans (k76.mono hb.size)
    have hB := hB1.trans (hb.mono hB1.size)
    have e1 := (hb.cell (p := ⟨w.heap.size, 0, none⟩) hlt).trans HEE.out.1
    have e2 := (hb.cell (p := ⟨w.heap.size, 1, none⟩) hlt).trans HEE.out.2.1
    have hAx := HEE.out.2.2.below hb
    go_wp2
    go_ret
    exact ⟨rfl, hB⟩

set_option maxHeartbeats 8000000 in
set_option maxRecDepth 100000 in
theorem walk_ok_bad_hi (w : World) (A : Option Addr) (n c : Nat) (l : List (Int × Int)) (hA : RdP w A n (l.map rv)) (hbd : ∀ p ∈ l, (-9223372036854775808 ≤ p.1 ∧ p.1 ≤ 9223372036854775807) ∧ (-9223372036854775808 ≤ p.2 ∧ p.2 ≤ 9223372036854775807)) (hc : n ≤ c) (a b : Int) (ha : -9223372036854775808 ≤ a ∧ a ≤ 9223372036854775807) (hbb : -9223372036854775808 ≤ b ∧ b ≤ 9223372036854775807) (p : Int) (hp : -9223372036854775808 ≤ p ∧ p ≤ 9223372036854775807) (hr : runsE l = 0) (hk : okR (a, b)) (hadd : chE addB l (a, b) = 0) (hcut : chE cutB l (a, b) ≠ 0) (h1 : a ≤ p) (h2 : ¬ p < a + b) (v : Bool) (hv : hasB l p = v) :
    Calls Try.prog 7 #[.slice A n c, .agg #[.int .i64 a, .int .i64 b], .int .i64 p] w fun e w' => e = .returned (.bool true) ∧ Below w.heap.size w w' := by
  have hB0 := (Below.refl w.heap.size w).alloc (Nat.le_refl _) (.cells #[.int .i64 a, .int .i64 b] 40)
  have EE1 : (w.alloc (.cells #[.int .i64 a, .int .i64 b] 40)).cell? ⟨w.heap.size, 0, none⟩ = some (.int .i64 a) := by simp
  have EE2 : (w.alloc (.cells #[.int .i64 a, .int .i64 b] 40)).cell? ⟨w.heap.size, 1, none⟩ = some (.int .i64 b) := by simp
  have EE := Lib.hid (And.intro EE1 EE2)
  have HBD := Lib.hid (show Bd l from hbd)
  clear EE1 EE2 hbd
  have hrr := decide_eq_true hk
  obtain ⟨o1, o2, o3, o4⟩ := id hk
  simp only at o1 o2 o3 o4
  have hin : inR (a, b) p = false := by rw [Bool.eq_false_iff]; intro h; exact h2 (inR_iff.1 h).2
  have hd : decide (p < a + b) = false := decide_eq_false h2
  have gM := hasV_ok (chE_ok_runs hadd) p (has_ch hr hk rfl p)
  rw [hv, hin] at gM
  have HM := Lib.hid gM
  clear gM
  have HH := Lib.hid (And.intro hadd (And.intro hcut (And.intro (hasV_ok hr p hv) hrr)))
  clear hadd hcut hr hk hv hin hrr
  cases v
  · skip
    go_enter Try.func7, Try.ntmps7
    go_wp2_with fail
    with_reducible refine (extentFact_any _).mono ?_
    rintro e w1 ⟨rfl, k1⟩
    have hB1 := hB0.trans (k1.mono hB0.size)
    have E1 := (k1.cell (p := ⟨w.heap.size, 0, none⟩) (by simp)).trans EE.out.1
    have E2 := (k1.cell (p := ⟨w.heap.size, 1, none⟩) (by simp)).trans EE.out.2
    have hlt : w.heap.size < w1.heap.size := by have := k1.size; simp at this; omega
    have HEE := Lib.hid (And.intro E1 (And.intro E2 (hA.below hB1)))
    clear k1 E1 E2
    have hb : Below w1.heap.size w1 w1 := Below.refl _ _
    have hB := hB1
    have e1 := HEE.out.1
    have e2 := HEE.out.2.1
    have hAx := HEE.out.2.2
    go_wp2_with fail
    with_reducible refine (xhas_bd _ _ _ l p _ hAx HBD.out).mono ?_
    rintro e w77x ⟨rfl, k77⟩
    have hb := hb.trans (k77.mono hb.size)
    have hB := hB1.trans (hb.mono hB1.size)
    have e1 := (hb.cell (p := ⟨w.heap.size, 0, none⟩) hlt).trans HEE.out.1
    have e2 := (hb.cell (p := ⟨w.heap.size, 1, none⟩) hlt).trans HEE.out.2.1
    have hAx := HEE.out.2.2.below hb
    rw [HH.out.2.2.1]
    go_wp2_with fail
    with_reducible refine (rrun_any a b _).mono ?_
    rintro e w78x ⟨rfl, k78⟩
    have hb := hb.trans (k78.mono hb.size)
    have hB := hB1.trans (hb.mono hB1.size)
    have e1 := (hb.cell (p := ⟨w.heap.size, 0, none⟩) hlt).trans HEE.out.1
    have e2 := (hb.cell (p := ⟨w.heap.size, 1, none⟩) hlt).trans HEE.out.2.1
    have hAx := HEE.out.2.2.below hb
    rw [HH.out.2.2.2]
    go_wp2_with fail
    with_reducible refine (xAdd_ok _ _ _ l a b _ hAx HBD.out HH.out.1).mono ?_
    rintro e w79x ⟨⟨C, m, c', rfl, hm, hown⟩, k79⟩
    have hb := hb.trans (k79.mono hb.size)
    have hB := hB1.trans (hb.mono hB1.size)
    have e1 := (hb.cell (p := ⟨w.heap.size, 0, none⟩) hlt).trans HEE.out.1
    have e2 := (hb.cell (p := ⟨w.heap.size, 1, none⟩) hlt).trans HEE.out.2.1
    have hAx := HEE.out.2.2.below hb
    have hpM := hown.rd (by omega)
    clear hown
    go_wp2_with fail
    with_reducible refine (xhas_bd _ _ _ _ p _ hpM (bd_ch _ _ _)).mono ?_
    rintro e w80x ⟨rfl, k80⟩
    have hb := hb.trans (k80.mono hb.size)
    have hB := hB1.trans (hb.mono hB1.size)
    have e1 := (hb.cell (p := ⟨w.heap.size, 0, none⟩) hlt).trans HEE.out.1
    have e2 := (hb.cell (p := ⟨w.heap.size, 1, none⟩) hlt).trans HEE.out.2.1
    have hAx := HEE.out.2.2.below hb
    rw [HM.out]
    rw [show addB false false = false from rfl]
    go_wp2_with fail
    with_reducible refine (xCut_bad _ _ _ l a b _ hAx HBD.out HH.out.2.1).mono ?_
    rintro e w81x ⟨rfl, k81⟩
    have hb := hb.trans (k81.mono hb.size)
    have hB := hB1.trans (hb.mono hB1.size)
    have e1 := (hb.cell (p := ⟨w.heap.size, 0, none⟩) hlt).trans HEE.out.1
    have e2 := (hb.cell (p := ⟨w.heap.size, 1, none⟩) hlt).trans HEE.out.2.1
    have hAx := HEE.out.2.2.below hb
    go_wp2
    go_ret
    exact ⟨rfl, hB⟩
  · skip
    go_enter Try.func7, Try.ntmps7
    go_wp2_with fail
    with_reducible refine (extentFact_any _).mono ?_
    rintro e w1 ⟨rfl, k1⟩
    have hB1 := hB0.trans (k1.mono hB0.size)
    have E1 := (k1.cell (p := ⟨w.heap.size, 0, none⟩) (by simp)).trans EE.out.1
    have E2 := (k1.cell (p := ⟨w.heap.size, 1, none⟩) (by simp)).trans EE.out.2
    have hlt : w.heap.size < w1.heap.size := by have := k1.size; simp at this; omega
    have HEE := Lib.hid (And.intro E1 (And.intro E2 (hA.below hB1)))
    clear k1 E1 E2
    have hb : Below w1.heap.size w1 w1 := Below.refl _ _
    have hB := hB1
    have e1 := HEE.out.1
    have e2 := HEE.out.2.1
    have hAx := HEE.out.2.2
    go_wp2_with fail
    with_reducible refine (xhas_bd _ _ _ l p _ hAx HBD.out).mono ?_
    rintro e w82x ⟨rfl, k82⟩
    have hb := hb.trans (k82.mono hb.size)
    have hB := hB1.trans (hb.mono hB1.size)
    have e1 := (hb.cell (p := ⟨w.heap.size, 0, none⟩) hlt).trans HEE.out.1
    have e2 := (hb.cell (p := ⟨w.heap.size, 1, none⟩) hlt).trans HEE.out.2.1
    have hAx := HEE.out.2.2.below hb
    rw [HH.out.2.2.1]
    go_wp2_with fail
    with_reducible refine (rrun_any a b _).mono ?_
    rintro e w83x ⟨rfl, k83⟩
    have hb := hb.trans (k83.mono hb.size)
    have hB := hB1.trans (hb.mono hB1.size)
    have e1 := (hb.cell (p := ⟨w.heap.size, 0, none⟩) hlt).trans HEE.out.1
    have e2 := (hb.cell (p := ⟨w.heap.size, 1, none⟩) hlt).trans HEE.out.2.1
    have hAx := HEE.out.2.2.below hb
    rw [HH.out.2.2.2]
    go_wp2_with fail
    with_reducible refine (xAdd_ok _ _ _ l a b _ hAx HBD.out HH.out.1).mono ?_
    rintro e w84x ⟨⟨C, m, c', rfl, hm, hown⟩, k84⟩
    have hb := hb.trans (k84.mono hb.size)
    have hB := hB1.trans (hb.mono hB1.size)
    have e1 := (hb.cell (p := ⟨w.heap.size, 0, none⟩) hlt).trans HEE.out.1
    have e2 := (hb.cell (p := ⟨w.heap.size, 1, none⟩) hlt).trans HEE.out.2.1
    have hAx := HEE.out.2.2.below hb
    have hpM := hown.rd (by omega)
    clear hown
    go_wp2_with fail
    with_reducible refine (xhas_bd _ _ _ _ p _ hpM (bd_ch _ _ _)).mono ?_
    rintro e w85x ⟨rfl, k85⟩
    have hb := hb.trans (k85.mono hb.size)
    have hB := hB1.trans (hb.mono hB1.size)
    have e1 := (hb.cell (p := ⟨w.heap.size, 0, none⟩) hlt).trans HEE.out.1
    have e2 := (hb.cell (p := ⟨w.heap.size, 1, none⟩) hlt).trans HEE.out.2.1
    have hAx := HEE.out.2.2.below hb
    rw [HM.out]
    rw [show addB true false = true from rfl]
    go_wp2_with fail
    with_reducible refine (xCut_bad _ _ _ l a b _ hAx HBD.out HH.out.2.1).mono ?_
    rintro e w86x ⟨rfl, k86⟩
    have hb := hb.trans (k86.mono hb.size)
    have hB := hB1.trans (hb.mono hB1.size)
    have e1 := (hb.cell (p := ⟨w.heap.size, 0, none⟩) hlt).trans HEE.out.1
    have e2 := (hb.cell (p := ⟨w.heap.size, 1, none⟩) hlt).trans HEE.out.2.1
    have hAx := HEE.out.2.2.below hb
    go_wp2
    go_ret
    exact ⟨rfl, hB⟩

set_option maxHeartbeats 8000000 in
set_option maxRecDepth 100000 in
theorem walk_ok_bad_lo (w : World) (A : Option Addr) (n c : Nat) (l : List (Int × Int)) (hA : RdP w A n (l.map rv)) (hbd : ∀ p ∈ l, (-9223372036854775808 ≤ p.1 ∧ p.1 ≤ 9223372036854775807) ∧ (-9223372036854775808 ≤ p.2 ∧ p.2 ≤ 9223372036854775807)) (hc : n ≤ c) (a b : Int) (ha : -9223372036854775808 ≤ a ∧ a ≤ 9223372036854775807) (hbb : -9223372036854775808 ≤ b ∧ b ≤ 9223372036854775807) (p : Int) (hp : -9223372036854775808 ≤ p ∧ p ≤ 9223372036854775807) (hr : runsE l = 0) (hk : okR (a, b)) (hadd : chE addB l (a, b) = 0) (hcut : chE cutB l (a, b) ≠ 0) (h1 : ¬ a ≤ p) (v : Bool) (hv : hasB l p = v) :
    Calls Try.prog 7 #[.slice A n c, .agg #[.int .i64 a, .int .i64 b], .int .i64 p] w fun e w' => e = .returned (.bool true) ∧ Below w.heap.size w w' := by
  have hB0 := (Below.refl w.heap.size w).alloc (Nat.le_refl _) (.cells #[.int .i64 a, .int .i64 b] 40)
  have EE1 : (w.alloc (.cells #[.int .i64 a, .int .i64 b] 40)).cell? ⟨w.heap.size, 0, none⟩ = some (.int .i64 a) := by simp
  have EE2 : (w.alloc (.cells #[.int .i64 a, .int .i64 b] 40)).cell? ⟨w.heap.size, 1, none⟩ = some (.int .i64 b) := by simp
  have EE := Lib.hid (And.intro EE1 EE2)
  have HBD := Lib.hid (show Bd l from hbd)
  clear EE1 EE2 hbd
  have hrr := decide_eq_true hk
  obtain ⟨o1, o2, o3, o4⟩ := id hk
  simp only at o1 o2 o3 o4
  have hin : inR (a, b) p = false := by rw [Bool.eq_false_iff]; intro h; exact h1 (inR_iff.1 h).1
  have hd : decide (a ≤ p) = false := decide_eq_false h1
  have gM := hasV_ok (chE_ok_runs hadd) p (has_ch hr hk rfl p)
  rw [hv, hin] at gM
  have HM := Lib.hid gM
  clear gM
  have HH := Lib.hid (And.intro hadd (And.intro hcut (And.intro (hasV_ok hr p hv) hrr)))
  clear hadd hcut hr hk hv hin hrr
  cases v
  · skip
    go_enter Try.func7, Try.ntmps7
    go_wp2_with fail
    with_reducible refine (extentFact_any _).mono ?_
    rintro e w1 ⟨rfl, k1⟩
    have hB1 := hB0.trans (k1.mono hB0.size)
    have E1 := (k1.cell (p := ⟨w.heap.size, 0, none⟩) (by simp)).trans EE.out.1
    have E2 := (k1.cell (p := ⟨w.heap.size, 1, none⟩) (by simp)).trans EE.out.2
    have hlt : w.heap.size < w1.heap.size := by have := k1.size; simp at this; omega
    have HEE := Lib.hid (And.intro E1 (And.intro E2 (hA.below hB1)))
    clear k1 E1 E2
    have hb : Below w1.heap.size w1 w1 := Below.refl _ _
    have hB := hB1
    have e1 := HEE.out.1
    have e2 := HEE.out.2.1
    have hAx := HEE.out.2.2
    go_wp2_with fail
    with_reducible refine (xhas_bd _ _ _ l p _ hAx HBD.out).mono ?_
    rintro e w87x ⟨rfl, k87⟩
    have hb := hb.trans (k87.mono hb.size)
    have hB := hB1.trans (hb.mono hB1.size)
    have e1 := (hb.cell (p := ⟨w.heap.size, 0, none⟩) hlt).trans HEE.out.1
    have e2 := (hb.cell (p := ⟨w.heap.size, 1, none⟩) hlt).trans HEE.out.2.1
    have hAx := HEE.out.2.2.below hb
    rw [HH.out.2.2.1]
    go_wp2_with fail
    with_reducible refine (rrun_any a b _).mono ?_
    rintro e w88x ⟨rfl, k88⟩
    have hb := hb.trans (k88.mono hb.size)
    have hB := hB1.trans (hb.mono hB1.size)
    have e1 := (hb.cell (p := ⟨w.heap.size, 0, none⟩) hlt).trans HEE.out.1
    have e2 := (hb.cell (p := ⟨w.heap.size, 1, none⟩) hlt).trans HEE.out.2.1
    have hAx := HEE.out.2.2.below hb
    rw [HH.out.2.2.2]
    go_wp2_with fail
    with_reducible refine (xAdd_ok _ _ _ l a b _ hAx HBD.out HH.out.1).mono ?_
    rintro e w89x ⟨⟨C, m, c', rfl, hm, hown⟩, k89⟩
    have hb := hb.trans (k89.mono hb.size)
    have hB := hB1.trans (hb.mono hB1.size)
    have e1 := (hb.cell (p := ⟨w.heap.size, 0, none⟩) hlt).trans HEE.out.1
    have e2 := (hb.cell (p := ⟨w.heap.size, 1, none⟩) hlt).trans HEE.out.2.1
    have hAx := HEE.out.2.2.below hb
    have hpM := hown.rd (by omega)
    clear hown
    go_wp2_with fail
    with_reducible refine (xhas_bd _ _ _ _ p _ hpM (bd_ch _ _ _)).mono ?_
    rintro e w90x ⟨rfl, k90⟩
    have hb := hb.trans (k90.mono hb.size)
    have hB := hB1.trans (hb.mono hB1.size)
    have e1 := (hb.cell (p := ⟨w.heap.size, 0, none⟩) hlt).trans HEE.out.1
    have e2 := (hb.cell (p := ⟨w.heap.size, 1, none⟩) hlt).trans HEE.out.2.1
    have hAx := HEE.out.2.2.below hb
    rw [HM.out]
    rw [show addB false false = false from rfl]
    go_wp2_with fail
    with_reducible refine (xCut_bad _ _ _ l a b _ hAx HBD.out HH.out.2.1).mono ?_
    rintro e w91x ⟨rfl, k91⟩
    have hb := hb.trans (k91.mono hb.size)
    have hB := hB1.trans (hb.mono hB1.size)
    have e1 := (hb.cell (p := ⟨w.heap.size, 0, none⟩) hlt).trans HEE.out.1
    have e2 := (hb.cell (p := ⟨w.heap.size, 1, none⟩) hlt).trans HEE.out.2.1
    have hAx := HEE.out.2.2.below hb
    go_wp2
    go_ret
    exact ⟨rfl, hB⟩
  · skip
    go_enter Try.func7, Try.ntmps7
    go_wp2_with fail
    with_reducible refine (extentFact_any _).mono ?_
    rintro e w1 ⟨rfl, k1⟩
    have hB1 := hB0.trans (k1.mono hB0.size)
    have E1 := (k1.cell (p := ⟨w.heap.size, 0, none⟩) (by simp)).trans EE.out.1
    have E2 := (k1.cell (p := ⟨w.heap.size, 1, none⟩) (by simp)).trans EE.out.2
    have hlt : w.heap.size < w1.heap.size := by have := k1.size; simp at this; omega
    have HEE := Lib.hid (And.intro E1 (And.intro E2 (hA.below hB1)))
    clear k1 E1 E2
    have hb : Below w1.heap.size w1 w1 := Below.refl _ _
    have hB := hB1
    have e1 := HEE.out.1
    have e2 := HEE.out.2.1
    have hAx := HEE.out.2.2
    go_wp2_with fail
    with_reducible refine (xhas_bd _ _ _ l p _ hAx HBD.out).mono ?_
    rintro e w92x ⟨rfl, k92⟩
    have hb := hb.trans (k92.mono hb.size)
    have hB := hB1.trans (hb.mono hB1.size)
    have e1 := (hb.cell (p := ⟨w.heap.size, 0, none⟩) hlt).trans HEE.out.1
    have e2 := (hb.cell (p := ⟨w.heap.size, 1, none⟩) hlt).trans HEE.out.2.1
    have hAx := HEE.out.2.2.below hb
    rw [HH.out.2.2.1]
    go_wp2_with fail
    with_reducible refine (rrun_any a b _).mono ?_
    rintro e w93x ⟨rfl, k93⟩
    have hb := hb.trans (k93.mono hb.size)
    have hB := hB1.trans (hb.mono hB1.size)
    have e1 := (hb.cell (p := ⟨w.heap.size, 0, none⟩) hlt).trans HEE.out.1
    have e2 := (hb.cell (p := ⟨w.heap.size, 1, none⟩) hlt).trans HEE.out.2.1
    have hAx := HEE.out.2.2.below hb
    rw [HH.out.2.2.2]
    go_wp2_with fail
    with_reducible refine (xAdd_ok _ _ _ l a b _ hAx HBD.out HH.out.1).mono ?_
    rintro e w94x ⟨⟨C, m, c', rfl, hm, hown⟩, k94⟩
    have hb := hb.trans (k94.mono hb.size)
    have hB := hB1.trans (hb.mono hB1.size)
    have e1 := (hb.cell (p := ⟨w.heap.size, 0, none⟩) hlt).trans HEE.out.1
    have e2 := (hb.cell (p := ⟨w.heap.size, 1, none⟩) hlt).trans HEE.out.2.1
    have hAx := HEE.out.2.2.below hb
    have hpM := hown.rd (by omega)
    clear hown
    go_wp2_with fail
    with_reducible refine (xhas_bd _ _ _ _ p _ hpM (bd_ch _ _ _)).mono ?_
    rintro e w95x ⟨rfl, k95⟩
    have hb := hb.trans (k95.mono hb.size)
    have hB := hB1.trans (hb.mono hB1.size)
    have e1 := (hb.cell (p := ⟨w.heap.size, 0, none⟩) hlt).trans HEE.out.1
    have e2 := (hb.cell (p := ⟨w.heap.size, 1, none⟩) hlt).trans HEE.out.2.1
    have hAx := HEE.out.2.2.below hb
    rw [HM.out]
    rw [show addB true false = true from rfl]
    go_wp2_with fail
    with_reducible refine (xCut_bad _ _ _ l a b _ hAx HBD.out HH.out.2.1).mono ?_
    rintro e w96x ⟨rfl, k96⟩
    have hb := hb.trans (k96.mono hb.size)
    have hB := hB1.trans (hb.mono hB1.size)
    have e1 := (hb.cell (p := ⟨w.heap.size, 0, none⟩) hlt).trans HEE.out.1
    have e2 := (hb.cell (p := ⟨w.heap.size, 1, none⟩) hlt).trans HEE.out.2.1
    have hAx := HEE.out.2.2.below hb
    go_wp2
    go_ret
    exact ⟨rfl, hB⟩

set_option maxHeartbeats 8000000 in
set_option maxRecDepth 100000 in
theorem walk_bad_ok_in (w : World) (A : Option Addr) (n c : Nat) (l : List (Int × Int)) (hA : RdP w A n (l.map rv)) (hbd : ∀ p ∈ l, (-9223372036854775808 ≤ p.1 ∧ p.1 ≤ 9223372036854775807) ∧ (-9223372036854775808 ≤ p.2 ∧ p.2 ≤ 9223372036854775807)) (hc : n ≤ c) (a b : Int) (ha : -9223372036854775808 ≤ a ∧ a ≤ 9223372036854775807) (hbb : -9223372036854775808 ≤ b ∧ b ≤ 9223372036854775807) (p : Int) (hp : -9223372036854775808 ≤ p ∧ p ≤ 9223372036854775807) (hr : runsE l = 0) (hk : okR (a, b)) (hadd : chE addB l (a, b) ≠ 0) (hcut : chE cutB l (a, b) = 0) (h1 : a ≤ p) (h2 : p < a + b) (v : Bool) (hv : hasB l p = v) :
    Calls Try.prog 7 #[.slice A n c, .agg #[.int .i64 a, .int .i64 b], .int .i64 p] w fun e w' => e = .returned (.bool true) ∧ Below w.heap.size w w' := by
  have hB0 := (Below.refl w.heap.size w).alloc (Nat.le_refl _) (.cells #[.int .i64 a, .int .i64 b] 40)
  have EE1 : (w.alloc (.cells #[.int .i64 a, .int .i64 b] 40)).cell? ⟨w.heap.size, 0, none⟩ = some (.int .i64 a) := by simp
  have EE2 : (w.alloc (.cells #[.int .i64 a, .int .i64 b] 40)).cell? ⟨w.heap.size, 1, none⟩ = some (.int .i64 b) := by simp
  have EE := Lib.hid (And.intro EE1 EE2)
  have HBD := Lib.hid (show Bd l from hbd)
  clear EE1 EE2 hbd
  have hrr := decide_eq_true hk
  obtain ⟨o1, o2, o3, o4⟩ := id hk
  simp only at o1 o2 o3 o4
  have hin : inR (a, b) p = true := inR_iff.2 ⟨h1, h2⟩
  have gK := hasV_ok (chE_ok_runs hcut) p (has_ch hr hk rfl p)
  rw [hv, hin] at gK
  have HK := Lib.hid gK
  clear gK
  have HH := Lib.hid (And.intro hadd (And.intro hcut (And.intro (hasV_ok hr p hv) hrr)))
  clear hadd hcut hr hk hv hin hrr
  cases v
  · skip
    go_enter Try.func7, Try.ntmps7
    go_wp2_with fail
    with_reducible refine (extentFact_any _).mono ?_
    rintro e w1 ⟨rfl, k1⟩
    have hB1 := hB0.trans (k1.mono hB0.size)
    have E1 := (k1.cell (p := ⟨w.heap.size, 0, none⟩) (by simp)).trans EE.out.1
    have E2 := (k1.cell (p := ⟨w.heap.size, 1, none⟩) (by simp)).trans EE.out.2
    have hlt : w.heap.size < w1.heap.size := by have := k1.size; simp at this; omega
    have HEE := Lib.hid (And.intro E1 (And.intro E2 (hA.below hB1)))
    clear k1 E1 E2
    have hb : Below w1.heap.size w1 w1 := Below.refl _ _
    have hB := hB1
    have e1 := HEE.out.1
    have e2 := HEE.out.2.1
    have hAx := HEE.out.2.2
    go_wp2_with fail
    with_reducible refine (xhas_bd _ _ _ l p _ hAx HBD.out).mono ?_
    rintro e w97x ⟨rfl, k97⟩
    have hb := hb.trans (k97.mono hb.size)
    have hB := hB1.trans (hb.mono hB1.size)
    have e1 := (hb.cell (p := ⟨w.heap.size, 0, none⟩) hlt).trans HEE.out.1
    have e2 := (hb.cell (p := ⟨w.heap.size, 1, none⟩) hlt).trans HEE.out.2.1
    have hAx := HEE.out.2.2.below hb
    rw [HH.out.2.2.1]
    go_wp2_with fail
    with_reducible refine (rrun_any a b _).mono ?_
    rintro e w98x ⟨rfl, k98⟩
    have hb := hb.trans (k98.mono hb.size)
    have hB := hB1.trans (hb.mono hB1.size)
    have e1 := (hb.cell (p := ⟨w.heap.size, 0, none⟩) hlt).trans HEE.out.1
    have e2 := (hb.cell (p := ⟨w.heap.size, 1, none⟩) hlt).trans HEE.out.2.1
    have hAx := HEE.out.2.2.below hb
    rw [HH.out.2.2.2]
    go_wp2_with fail
    with_reducible refine (xAdd_bad _ _ _ l a b _ hAx HBD.out HH.out.1).mono ?_
    rintro e w99x ⟨rfl, k99⟩
    have hb := hb.trans (k99.mono hb.size)
    have hB := hB1.trans (hb.mono hB1.size)
    have e1 := (hb.cell (p := ⟨w.heap.size, 0, none⟩) hlt).trans HEE.out.1
    have e2 := (hb.cell (p := ⟨w.heap.size, 1, none⟩) hlt).trans HEE.out.2.1
    have hAx := HEE.out.2.2.below hb
    go_wp2_with fail
    with_reducible refine (xCut_ok _ _ _ l a b _ hAx HBD.out HH.out.2.1).mono ?_
    rintro e w100x ⟨⟨C2, m2, c2, rfl, hm2, hown2⟩, k100⟩
    have hb := hb.trans (k100.mono hb.size)
    have hB := hB1.trans (hb.mono hB1.size)
    have e1 := (hb.cell (p := ⟨w.heap.size, 0, none⟩) hlt).trans HEE.out.1
    have e2 := (hb.cell (p := ⟨w.heap.size, 1, none⟩) hlt).trans HEE.out.2.1
    have hAx := HEE.out.2.2.below hb
    have hpK := hown2.rd (by omega)
    clear hown2
    go_wp2_with fail
    with_reducible refine (xhas_bd _ _ _ _ p _ hpK (bd_ch _ _ _)).mono ?_
    rintro e w101x ⟨rfl, k101⟩
    have hb := hb.trans (k101.mono hb.size)
    have hB := hB1.trans (hb.mono hB1.size)
    have e1 := (hb.cell (p := ⟨w.heap.size, 0, none⟩) hlt).trans HEE.out.1
    have e2 := (hb.cell (p := ⟨w.heap.size, 1, none⟩) hlt).trans HEE.out.2.1
    have hAx := HEE.out.2.2.below hb
    rw [HK.out]
    rw [show cutB false true = false from rfl]
    go_wp2
    go_ret
    exact ⟨rfl, hB⟩
  · skip
    go_enter Try.func7, Try.ntmps7
    go_wp2_with fail
    with_reducible refine (extentFact_any _).mono ?_
    rintro e w1 ⟨rfl, k1⟩
    have hB1 := hB0.trans (k1.mono hB0.size)
    have E1 := (k1.cell (p := ⟨w.heap.size, 0, none⟩) (by simp)).trans EE.out.1
    have E2 := (k1.cell (p := ⟨w.heap.size, 1, none⟩) (by simp)).trans EE.out.2
    have hlt : w.heap.size < w1.heap.size := by have := k1.size; simp at this; omega
    have HEE := Lib.hid (And.intro E1 (And.intro E2 (hA.below hB1)))
    clear k1 E1 E2
    have hb : Below w1.heap.size w1 w1 := Below.refl _ _
    have hB := hB1
    have e1 := HEE.out.1
    have e2 := HEE.out.2.1
    have hAx := HEE.out.2.2
    go_wp2_with fail
    with_reducible refine (xhas_bd _ _ _ l p _ hAx HBD.out).mono ?_
    rintro e w102x ⟨rfl, k102⟩
    have hb := hb.trans (k102.mono hb.size)
    have hB := hB1.trans (hb.mono hB1.size)
    have e1 := (hb.cell (p := ⟨w.heap.size, 0, none⟩) hlt).trans HEE.out.1
    have e2 := (hb.cell (p := ⟨w.heap.size, 1, none⟩) hlt).trans HEE.out.2.1
    have hAx := HEE.out.2.2.below hb
    rw [HH.out.2.2.1]
    go_wp2_with fail
    with_reducible refine (rrun_any a b _).mono ?_
    rintro e w103x ⟨rfl, k103⟩
    have hb := hb.trans (k103.mono hb.size)
    have hB := hB1.trans (hb.mono hB1.size)
    have e1 := (hb.cell (p := ⟨w.heap.size, 0, none⟩) hlt).trans HEE.out.1
    have e2 := (hb.cell (p := ⟨w.heap.size, 1, none⟩) hlt).trans HEE.out.2.1
    have hAx := HEE.out.2.2.below hb
    rw [HH.out.2.2.2]
    go_wp2_with fail
    with_reducible refine (xAdd_bad _ _ _ l a b _ hAx HBD.out HH.out.1).mono ?_
    rintro e w104x ⟨rfl, k104⟩
    have hb := hb.trans (k104.mono hb.size)
    have hB := hB1.trans (hb.mono hB1.size)
    have e1 := (hb.cell (p := ⟨w.heap.size, 0, none⟩) hlt).trans HEE.out.1
    have e2 := (hb.cell (p := ⟨w.heap.size, 1, none⟩) hlt).trans HEE.out.2.1
    have hAx := HEE.out.2.2.below hb
    go_wp2_with fail
    with_reducible refine (xCut_ok _ _ _ l a b _ hAx HBD.out HH.out.2.1).mono ?_
    rintro e w105x ⟨⟨C2, m2, c2, rfl, hm2, hown2⟩, k105⟩
    have hb := hb.trans (k105.mono hb.size)
    have hB := hB1.trans (hb.mono hB1.size)
    have e1 := (hb.cell (p := ⟨w.heap.size, 0, none⟩) hlt).trans HEE.out.1
    have e2 := (hb.cell (p := ⟨w.heap.size, 1, none⟩) hlt).trans HEE.out.2.1
    have hAx := HEE.out.2.2.below hb
    have hpK := hown2.rd (by omega)
    clear hown2
    go_wp2_with fail
    with_reducible refine (xhas_bd _ _ _ _ p _ hpK (bd_ch _ _ _)).mono ?_
    rintro e w106x ⟨rfl, k106⟩
    have hb := hb.trans (k106.mono hb.size)
    have hB := hB1.trans (hb.mono hB1.size)
    have e1 := (hb.cell (p := ⟨w.heap.size, 0, none⟩) hlt).trans HEE.out.1
    have e2 := (hb.cell (p := ⟨w.heap.size, 1, none⟩) hlt).trans HEE.out.2.1
    have hAx := HEE.out.2.2.below hb
    rw [HK.out]
    rw [show cutB true true = false from rfl]
    go_wp2
    go_ret
    exact ⟨rfl, hB⟩

set_option maxHeartbeats 8000000 in
set_option maxRecDepth 100000 in
theorem walk_bad_ok_hi (w : World) (A : Option Addr) (n c : Nat) (l : List (Int × Int)) (hA : RdP w A n (l.map rv)) (hbd : ∀ p ∈ l, (-9223372036854775808 ≤ p.1 ∧ p.1 ≤ 9223372036854775807) ∧ (-9223372036854775808 ≤ p.2 ∧ p.2 ≤ 9223372036854775807)) (hc : n ≤ c) (a b : Int) (ha : -9223372036854775808 ≤ a ∧ a ≤ 9223372036854775807) (hbb : -9223372036854775808 ≤ b ∧ b ≤ 9223372036854775807) (p : Int) (hp : -9223372036854775808 ≤ p ∧ p ≤ 9223372036854775807) (hr : runsE l = 0) (hk : okR (a, b)) (hadd : chE addB l (a, b) ≠ 0) (hcut : chE cutB l (a, b) = 0) (h1 : a ≤ p) (h2 : ¬ p < a + b) (v : Bool) (hv : hasB l p = v) :
    Calls Try.prog 7 #[.slice A n c, .agg #[.int .i64 a, .int .i64 b], .int .i64 p] w fun e w' => e = .returned (.bool true) ∧ Below w.heap.size w w' := by
  have hB0 := (Below.refl w.heap.size w).alloc (Nat.le_refl _) (.cells #[.int .i64 a, .int .i64 b] 40)
  have EE1 : (w.alloc (.cells #[.int .i64 a, .int .i64 b] 40)).cell? ⟨w.heap.size, 0, none⟩ = some (.int .i64 a) := by simp
  have EE2 : (w.alloc (.cells #[.int .i64 a, .int .i64 b] 40)).cell? ⟨w.heap.size, 1, none⟩ = some (.int .i64 b) := by simp
  have EE := Lib.hid (And.intro EE1 EE2)
  have HBD := Lib.hid (show Bd l from hbd)
  clear EE1 EE2 hbd
  have hrr := decide_eq_true hk
  obtain ⟨o1, o2, o3, o4⟩ := id hk
  simp only at o1 o2 o3 o4
  have hin : inR (a, b) p = false := by rw [Bool.eq_false_iff]; intro h; exact h2 (inR_iff.1 h).2
  have hd : decide (p < a + b) = false := decide_eq_false h2
  have gK := hasV_ok (chE_ok_runs hcut) p (has_ch hr hk rfl p)
  rw [hv, hin] at gK
  have HK := Lib.hid gK
  clear gK
  have HH := Lib.hid (And.intro hadd (And.intro hcut (And.intro (hasV_ok hr p hv) hrr)))
  clear hadd hcut hr hk hv hin hrr
  cases v
  · skip
    go_enter Try.func7, Try.ntmps7
    go_wp2_with fail
    with_reducible refine (extentFact_any _).mono ?_
    rintro e w1 ⟨rfl, k1⟩
    have hB1 := hB0.trans (k1.mono hB0.size)
    have E1 := (k1.cell (p := ⟨w.heap.size, 0, none⟩) (by simp)).trans EE.out.1
    have E2 := (k1.cell (p := ⟨w.heap.size, 1, none⟩) (by simp)).trans EE.out.2
    have hlt : w.heap.size < w1.heap.size := by have := k1.size; simp at this; omega
    have HEE := Lib.hid (And.intro E1 (And.intro E2 (hA.below hB1)))
    clear k1 E1 E2
    have hb : Below w1.heap.size w1 w1 := Below.refl _ _
    have hB := hB1
    have e1 := HEE.out.1
    have e2 := HEE.out.2.1
    have hAx := HEE.out.2.2
    go_wp2_with fail
    with_reducible refine (xhas_bd _ _ _ l p _ hAx HBD.out).mono ?_
    rintro e w107x ⟨rfl, k107⟩
    have hb := hb.trans (k107.mono hb.size)
    have hB := hB1.trans (hb.mono hB1.size)
    have e1 := (hb.cell (p := ⟨w.heap.size, 0, none⟩) hlt).trans HEE.out.1
    have e2 := (hb.cell (p := ⟨w.heap.size, 1, none⟩) hlt).trans HEE.out.2.1
    have hAx := HEE.out.2.2.below hb
    rw [HH.out.2.2.1]
    go_wp2_with fail
    with_reducible refine (rrun_any a b _).mono ?_
    rintro e w108x ⟨rfl, k108⟩
    have hb := hb.trans (k108.mono hb.size)
    have hB := hB1.trans (hb.mono hB1.size)
    have e1 := (hb.cell (p := ⟨w.heap.size, 0, none⟩) hlt).trans HEE.out.1
    have e2 := (hb.cell (p := ⟨w.heap.size, 1, none⟩) hlt).trans HEE.out.2.1
    have hAx := HEE.out.2.2.below hb
    rw [HH.out.2.2.2]
    go_wp2_with fail
    with_reducible refine (xAdd_bad _ _ _ l a b _ hAx HBD.out HH.out.1).mono ?_
    rintro e w109x ⟨rfl, k109⟩
    have hb := hb.trans (k109.mono hb.size)
    have hB := hB1.trans (hb.mono hB1.size)
    have e1 := (hb.cell (p := ⟨w.heap.size, 0, none⟩) hlt).trans HEE.out.1
    have e2 := (hb.cell (p := ⟨w.heap.size, 1, none⟩) hlt).trans HEE.out.2.1
    have hAx := HEE.out.2.2.below hb
    go_wp2_with fail
    with_reducible refine (xCut_ok _ _ _ l a b _ hAx HBD.out HH.out.2.1).mono ?_
    rintro e w110x ⟨⟨C2, m2, c2, rfl, hm2, hown2⟩, k110⟩
    have hb := hb.trans (k110.mono hb.size)
    have hB := hB1.trans (hb.mono hB1.size)
    have e1 := (hb.cell (p := ⟨w.heap.size, 0, none⟩) hlt).trans HEE.out.1
    have e2 := (hb.cell (p := ⟨w.heap.size, 1, none⟩) hlt).trans HEE.out.2.1
    have hAx := HEE.out.2.2.below hb
    have hpK := hown2.rd (by omega)
    clear hown2
    go_wp2_with fail
    with_reducible refine (xhas_bd _ _ _ _ p _ hpK (bd_ch _ _ _)).mono ?_
    rintro e w111x ⟨rfl, k111⟩
    have hb := hb.trans (k111.mono hb.size)
    have hB := hB1.trans (hb.mono hB1.size)
    have e1 := (hb.cell (p := ⟨w.heap.size, 0, none⟩) hlt).trans HEE.out.1
    have e2 := (hb.cell (p := ⟨w.heap.size, 1, none⟩) hlt).trans HEE.out.2.1
    have hAx := HEE.out.2.2.below hb
    rw [HK.out]
    rw [show cutB false false = false from rfl]
    go_wp2
    go_ret
    exact ⟨rfl, hB⟩
  · skip
    go_enter Try.func7, Try.ntmps7
    go_wp2_with fail
    with_reducible refine (extentFact_any _).mono ?_
    rintro e w1 ⟨rfl, k1⟩
    have hB1 := hB0.trans (k1.mono hB0.size)
    have E1 := (k1.cell (p := ⟨w.heap.size, 0, none⟩) (by simp)).trans EE.out.1
    have E2 := (k1.cell (p := ⟨w.heap.size, 1, none⟩) (by simp)).trans EE.out.2
    have hlt : w.heap.size < w1.heap.size := by have := k1.size; simp at this; omega
    have HEE := Lib.hid (And.intro E1 (And.intro E2 (hA.below hB1)))
    clear k1 E1 E2
    have hb : Below w1.heap.size w1 w1 := Below.refl _ _
    have hB := hB1
    have e1 := HEE.out.1
    have e2 := HEE.out.2.1
    have hAx := HEE.out.2.2
    go_wp2_with fail
    with_reducible refine (xhas_bd _ _ _ l p _ hAx HBD.out).mono ?_
    rintro e w112x ⟨rfl, k112⟩
    have hb := hb.trans (k112.mono hb.size)
    have hB := hB1.trans (hb.mono hB1.size)
    have e1 := (hb.cell (p := ⟨w.heap.size, 0, none⟩) hlt).trans HEE.out.1
    have e2 := (hb.cell (p := ⟨w.heap.size, 1, none⟩) hlt).trans HEE.out.2.1
    have hAx := HEE.out.2.2.below hb
    rw [HH.out.2.2.1]
    go_wp2_with fail
    with_reducible refine (rrun_any a b _).mono ?_
    rintro e w113x ⟨rfl, k113⟩
    have hb := hb.trans (k113.mono hb.size)
    have hB := hB1.trans (hb.mono hB1.size)
    have e1 := (hb.cell (p := ⟨w.heap.size, 0, none⟩) hlt).trans HEE.out.1
    have e2 := (hb.cell (p := ⟨w.heap.size, 1, none⟩) hlt).trans HEE.out.2.1
    have hAx := HEE.out.2.2.below hb
    rw [HH.out.2.2.2]
    go_wp2_with fail
    with_reducible refine (xAdd_bad _ _ _ l a b _ hAx HBD.out HH.out.1).mono ?_
    rintro e w114x ⟨rfl, k114⟩
    have hb := hb.trans (k114.mono hb.size)
    have hB := hB1.trans (hb.mono hB1.size)
    have e1 := (hb.cell (p := ⟨w.heap.size, 0, none⟩) hlt).trans HEE.out.1
    have e2 := (hb.cell (p := ⟨w.heap.size, 1, none⟩) hlt).trans HEE.out.2.1
    have hAx := HEE.out.2.2.below hb
    go_wp2_with fail
    with_reducible refine (xCut_ok _ _ _ l a b _ hAx HBD.out HH.out.2.1).mono ?_
    rintro e w115x ⟨⟨C2, m2, c2, rfl, hm2, hown2⟩, k115⟩
    have hb := hb.trans (k115.mono hb.size)
    have hB := hB1.trans (hb.mono hB1.size)
    have e1 := (hb.cell (p := ⟨w.heap.size, 0, none⟩) hlt).trans HEE.out.1
    have e2 := (hb.cell (p := ⟨w.heap.size, 1, none⟩) hlt).trans HEE.out.2.1
    have hAx := HEE.out.2.2.below hb
    have hpK := hown2.rd (by omega)
    clear hown2
    go_wp2_with fail
    with_reducible refine (xhas_bd _ _ _ _ p _ hpK (bd_ch _ _ _)).mono ?_
    rintro e w116x ⟨rfl, k116⟩
    have hb := hb.trans (k116.mono hb.size)
    have hB := hB1.trans (hb.mono hB1.size)
    have e1 := (hb.cell (p := ⟨w.heap.size, 0, none⟩) hlt).trans HEE.out.1
    have e2 := (hb.cell (p := ⟨w.heap.size, 1, none⟩) hlt).trans HEE.out.2.1
    have hAx := HEE.out.2.2.below hb
    rw [HK.out]
    rw [show cutB true false = true from rfl]
    go_wp2
    go_ret
    exact ⟨rfl, hB⟩

set_option maxHeartbeats 8000000 in
set_option maxRecDepth 100000 in
theorem walk_bad_ok_lo (w : World) (A : Option Addr) (n c : Nat) (l : List (Int × Int)) (hA : RdP w A n (l.map rv)) (hbd : ∀ p ∈ l, (-9223372036854775808 ≤ p.1 ∧ p.1 ≤ 9223372036854775807) ∧ (-9223372036854775808 ≤ p.2 ∧ p.2 ≤ 9223372036854775807)) (hc : n ≤ c) (a b : Int) (ha : -9223372036854775808 ≤ a ∧ a ≤ 9223372036854775807) (hbb : -9223372036854775808 ≤ b ∧ b ≤ 9223372036854775807) (p : Int) (hp : -9223372036854775808 ≤ p ∧ p ≤ 9223372036854775807) (hr : runsE l = 0) (hk : okR (a, b)) (hadd : chE addB l (a, b) ≠ 0) (hcut : chE cutB l (a, b) = 0) (h1 : ¬ a ≤ p) (v : Bool) (hv : hasB l p = v) :
    Calls Try.prog 7 #[.slice A n c, .agg #[.int .i64 a, .int .i64 b], .int .i64 p] w fun e w' => e = .returned (.bool true) ∧ Below w.heap.size w w' := by
  have hB0 := (Below.refl w.heap.size w).alloc (Nat.le_refl _) (.cells #[.int .i64 a, .int .i64 b] 40)
  have EE1 : (w.alloc (.cells #[.int .i64 a, .int .i64 b] 40)).cell? ⟨w.heap.size, 0, none⟩ = some (.int .i64 a) := by simp
  have EE2 : (w.alloc (.cells #[.int .i64 a, .int .i64 b] 40)).cell? ⟨w.heap.size, 1, none⟩ = some (.int .i64 b) := by simp
  have EE := Lib.hid (And.intro EE1 EE2)
  have HBD := Lib.hid (show Bd l from hbd)
  clear EE1 EE2 hbd
  have hrr := decide_eq_true hk
  obtain ⟨o1, o2, o3, o4⟩ := id hk
  simp only at o1 o2 o3 o4
  have hin : inR (a, b) p = false := by rw [Bool.eq_false_iff]; intro h; exact h1 (inR_iff.1 h).1
  have hd : decide (a ≤ p) = false := decide_eq_false h1
  have gK := hasV_ok (chE_ok_runs hcut) p (has_ch hr hk rfl p)
  rw [hv, hin] at gK
  have HK := Lib.hid gK
  clear gK
  have HH := Lib.hid (And.intro hadd (And.intro hcut (And.intro (hasV_ok hr p hv) hrr)))
  clear hadd hcut hr hk hv hin hrr
  cases v
  · skip
    go_enter Try.func7, Try.ntmps7
    go_wp2_with fail
    with_reducible refine (extentFact_any _).mono ?_
    rintro e w1 ⟨rfl, k1⟩
    have hB1 := hB0.trans (k1.mono hB0.size)
    have E1 := (k1.cell (p := ⟨w.heap.size, 0, none⟩) (by simp)).trans EE.out.1
    have E2 := (k1.cell (p := ⟨w.heap.size, 1, none⟩) (by simp)).trans EE.out.2
    have hlt : w.heap.size < w1.heap.size := by have := k1.size; simp at this; omega
    have HEE := Lib.hid (And.intro E1 (And.intro E2 (hA.below hB1)))
    clear k1 E1 E2
    have hb : Below w1.heap.size w1 w1 := Below.refl _ _
    have hB := hB1
    have e1 := HEE.out.1
    have e2 := HEE.out.2.1
    have hAx := HEE.out.2.2
    go_wp2_with fail
    with_reducible refine (xhas_bd _ _ _ l p _ hAx HBD.out).mono ?_
    rintro e w117x ⟨rfl, k117⟩
    have hb := hb.trans (k117.mono hb.size)
    have hB := hB1.trans (hb.mono hB1.size)
    have e1 := (hb.cell (p := ⟨w.heap.size, 0, none⟩) hlt).trans HEE.out.1
    have e2 := (hb.cell (p := ⟨w.heap.size, 1, none⟩) hlt).trans HEE.out.2.1
    have hAx := HEE.out.2.2.below hb
    rw [HH.out.2.2.1]
    go_wp2_with fail
    with_reducible refine (rrun_any a b _).mono ?_
    rintro e w118x ⟨rfl, k118⟩
    have hb := hb.trans (k118.mono hb.size)
    have hB := hB1.trans (hb.mono hB1.size)
    have e1 := (hb.cell (p := ⟨w.heap.size, 0, none⟩) hlt).trans HEE.out.1
    have e2 := (hb.cell (p := ⟨w.heap.size, 1, none⟩) hlt).trans HEE.out.2.1
    have hAx := HEE.out.2.2.below hb
    rw [HH.out.2.2.2]
    go_wp2_with fail
    with_reducible refine (xAdd_bad _ _ _ l a b _ hAx HBD.out HH.out.1).mono ?_
    rintro e w119x ⟨rfl, k119⟩
    have hb := hb.trans (k119.mono hb.size)
    have hB := hB1.trans (hb.mono hB1.size)
    have e1 := (hb.cell (p := ⟨w.heap.size, 0, none⟩) hlt).trans HEE.out.1
    have e2 := (hb.cell (p := ⟨w.heap.size, 1, none⟩) hlt).trans HEE.out.2.1
    have hAx := HEE.out.2.2.below hb
    go_wp2_with fail
    with_reducible refine (xCut_ok _ _ _ l a b _ hAx HBD.out HH.out.2.1).mono ?_
    rintro e w120x ⟨⟨C2, m2, c2, rfl, hm2, hown2⟩, k120⟩
    have hb := hb.trans (k120.mono hb.size)
    have hB := hB1.trans (hb.mono hB1.size)
    have e1 := (hb.cell (p := ⟨w.heap.size, 0, none⟩) hlt).trans HEE.out.1
    have e2 := (hb.cell (p := ⟨w.heap.size, 1, none⟩) hlt).trans HEE.out.2.1
    have hAx := HEE.out.2.2.below hb
    have hpK := hown2.rd (by omega)
    clear hown2
    go_wp2_with fail
    with_reducible refine (xhas_bd _ _ _ _ p _ hpK (bd_ch _ _ _)).mono ?_
    rintro e w121x ⟨rfl, k121⟩
    have hb := hb.trans (k121.mono hb.size)
    have hB := hB1.trans (hb.mono hB1.size)
    have e1 := (hb.cell (p := ⟨w.heap.size, 0, none⟩) hlt).trans HEE.out.1
    have e2 := (hb.cell (p := ⟨w.heap.size, 1, none⟩) hlt).trans HEE.out.2.1
    have hAx := HEE.out.2.2.below hb
    rw [HK.out]
    rw [show cutB false false = false from rfl]
    go_wp2
    go_ret
    exact ⟨rfl, hB⟩
  · skip
    go_enter Try.func7, Try.ntmps7
    go_wp2_with fail
    with_reducible refine (extentFact_any _).mono ?_
    rintro e w1 ⟨rfl, k1⟩
    have hB1 := hB0.trans (k1.mono hB0.size)
    have E1 := (k1.cell (p := ⟨w.heap.size, 0, none⟩) (by simp)).trans EE.out.1
    have E2 := (k1.cell (p := ⟨w.heap.size, 1, none⟩) (by simp)).trans EE.out.2
    have hlt : w.heap.size < w1.heap.size := by have := k1.size; simp at this; omega
    have HEE := Lib.hid (And.intro E1 (And.intro E2 (hA.below hB1)))
    clear k1 E1 E2
    have hb : Below w1.heap.size w1 w1 := Below.refl _ _
    have hB := hB1
    have e1 := HEE.out.1
    have e2 := HEE.out.2.1
    have hAx := HEE.out.2.2
    go_wp2_with fail
    with_reducible refine (xhas_bd _ _ _ l p _ hAx HBD.out).mono ?_
    rintro e w122x ⟨rfl, k122⟩
    have hb := hb.trans (k122.mono hb.size)
    have hB := hB1.trans (hb.mono hB1.size)
    have e1 := (hb.cell (p := ⟨w.heap.size, 0, none⟩) hlt).trans HEE.out.1
    have e2 := (hb.cell (p := ⟨w.heap.size, 1, none⟩) hlt).trans HEE.out.2.1
    have hAx := HEE.out.2.2.below hb
    rw [HH.out.2.2.1]
    go_wp2_with fail
    with_reducible refine (rrun_any a b _).mono ?_
    rintro e w123x ⟨rfl, k123⟩
    have hb := hb.trans (k123.mono hb.size)
    have hB := hB1.trans (hb.mono hB1.size)
    have e1 := (hb.cell (p := ⟨w.heap.size, 0, none⟩) hlt).trans HEE.out.1
    have e2 := (hb.cell (p := ⟨w.heap.size, 1, none⟩) hlt).trans HEE.out.2.1
    have hAx := HEE.out.2.2.below hb
    rw [HH.out.2.2.2]
    go_wp2_with fail
    with_reducible refine (xAdd_bad _ _ _ l a b _ hAx HBD.out HH.out.1).mono ?_
    rintro e w124x ⟨rfl, k124⟩
    have hb := hb.trans (k124.mono hb.size)
    have hB := hB1.trans (hb.mono hB1.size)
    have e1 := (hb.cell (p := ⟨w.heap.size, 0, none⟩) hlt).trans HEE.out.1
    have e2 := (hb.cell (p := ⟨w.heap.size, 1, none⟩) hlt).trans HEE.out.2.1
    have hAx := HEE.out.2.2.below hb
    go_wp2_with fail
    with_reducible refine (xCut_ok _ _ _ l a b _ hAx HBD.out HH.out.2.1).mono ?_
    rintro e w125x ⟨⟨C2, m2, c2, rfl, hm2, hown2⟩, k125⟩
    have hb := hb.trans (k125.mono hb.size)
    have hB := hB1.trans (hb.mono hB1.size)
    have e1 := (hb.cell (p := ⟨w.heap.size, 0, none⟩) hlt).trans HEE.out.1
    have e2 := (hb.cell (p := ⟨w.heap.size, 1, none⟩) hlt).trans HEE.out.2.1
    have hAx := HEE.out.2.2.below hb
    have hpK := hown2.rd (by omega)
    clear hown2
    go_wp2_with fail
    with_reducible refine (xhas_bd _ _ _ _ p _ hpK (bd_ch _ _ _)).mono ?_
    rintro e w126x ⟨rfl, k126⟩
    have hb := hb.trans (k126.mono hb.size)
    have hB := hB1.trans (hb.mono hB1.size)
    have e1 := (hb.cell (p := ⟨w.heap.size, 0, none⟩) hlt).trans HEE.out.1
    have e2 := (hb.cell (p := ⟨w.heap.size, 1, none⟩) hlt).trans HEE.out.2.1
    have hAx := HEE.out.2.2.below hb
    rw [HK.out]
    rw [show cutB true false = true from rfl]
    go_wp2
    go_ret
    exact ⟨rfl, hB⟩

set_option maxHeartbeats 8000000 in
set_option maxRecDepth 100000 in
theorem walk_bad_bad_in (w : World) (A : Option Addr) (n c : Nat) (l : List (Int × Int)) (hA : RdP w A n (l.map rv)) (hbd : ∀ p ∈ l, (-9223372036854775808 ≤ p.1 ∧ p.1 ≤ 9223372036854775807) ∧ (-9223372036854775808 ≤ p.2 ∧ p.2 ≤ 9223372036854775807)) (hc : n ≤ c) (a b : Int) (ha : -9223372036854775808 ≤ a ∧ a ≤ 9223372036854775807) (hbb : -9223372036854775808 ≤ b ∧ b ≤ 9223372036854775807) (p : Int) (hp : -9223372036854775808 ≤ p ∧ p ≤ 9223372036854775807) (hr : runsE l = 0) (hk : okR (a, b)) (hadd : chE addB l (a, b) ≠ 0) (hcut : chE cutB l (a, b) ≠ 0) (h1 : a ≤ p) (h2 : p < a + b) (v : Bool) (hv : hasB l p = v) :
    Calls Try.prog 7 #[.slice A n c, .agg #[.int .i64 a, .int .i64 b], .int .i64 p] w fun e w' => e = .returned (.bool true) ∧ Below w.heap.size w w' := by
  have hB0 := (Below.refl w.heap.size w).alloc (Nat.le_refl _) (.cells #[.int .i64 a, .int .i64 b] 40)
  have EE1 : (w.alloc (.cells #[.int .i64 a, .int .i64 b] 40)).cell? ⟨w.heap.size, 0, none⟩ = some (.int .i64 a) := by simp
  have EE2 : (w.alloc (.cells #[.int .i64 a, .int .i64 b] 40)).cell? ⟨w.heap.size, 1, none⟩ = some (.int .i64 b) := by simp
  have EE := Lib.hid (And.intro EE1 EE2)
  have HBD := Lib.hid (show Bd l from hbd)
  clear EE1 EE2 hbd
  have hrr := decide_eq_true hk
  obtain ⟨o1, o2, o3, o4⟩ := id hk
  simp only at o1 o2 o3 o4
  have hin : inR (a, b) p = true := inR_iff.2 ⟨h1, h2⟩
  have HH := Lib.hid (And.intro hadd (And.intro hcut (And.intro (hasV_ok hr p hv) hrr)))
  clear hadd hcut hr hk hv hin hrr
  cases v
  · skip
    go_enter Try.func7, Try.ntmps7
    go_wp2_with fail
    with_reducible refine (extentFact_any _).mono ?_
    rintro e w1 ⟨rfl, k1⟩
    have hB1 := hB0.trans (k1.mono hB0.size)
    have E1 := (k1.cell (p := ⟨w.heap.size, 0, none⟩) (by simp)).trans EE.out.1
    have E2 := (k1.cell (p := ⟨w.heap.size, 1, none⟩) (by simp)).trans EE.out.2
    have hlt : w.heap.size < w1.heap.size := by have := k1.size; simp at this; omega
    have HEE := Lib.hid (And.intro E1 (And.intro E2 (hA.below hB1)))
    clear k1 E1 E2
    have hb : Below w1.heap.size w1 w1 := Below.refl _ _
    have hB := hB1
    have e1 := HEE.out.1
    have e2 := HEE.out.2.1
    have hAx := HEE.out.2.2
    go_wp2_with fail
    with_reducible refine (xhas_bd _ _ _ l p _ hAx HBD.out).mono ?_
    rintro e w127x ⟨rfl, k127⟩
    have hb := hb.trans (k127.mono hb.size)
    have hB := hB1.trans (hb.mono hB1.size)
    have e1 := (hb.cell (p := ⟨w.heap.size, 0, none⟩) hlt).trans HEE.out.1
    have e2 := (hb.cell (p := ⟨w.heap.size, 1, none⟩) hlt).trans HEE.out.2.1
    have hAx := HEE.out.2.2.below hb
    rw [HH.out.2.2.1]
    go_wp2_with fail
    with_reducible refine (rrun_any a b _).mono ?_
    rintro e w128x ⟨rfl, k128⟩
    have hb := hb.trans (k128.mono hb.size)
    have hB := hB1.trans (hb.mono hB1.size)
    have e1 := (hb.cell (p := ⟨w.heap.size, 0, none⟩) hlt).trans HEE.out.1
    have e2 := (hb.cell (p := ⟨w.heap.size, 1, none⟩) hlt).trans HEE.out.2.1
    have hAx := HEE.out.2.2.below hb
    rw [HH.out.2.2.2]
    go_wp2_with fail
    with_reducible refine (xAdd_bad _ _ _ l a b _ hAx HBD.out HH.out.1).mono ?_
    rintro e w129x ⟨rfl, k129⟩
    have hb := hb.trans (k129.mono hb.size)
    have hB := hB1.trans (hb.mono hB1.size)
    have e1 := (hb.cell (p := ⟨w.heap.size, 0, none⟩) hlt).trans HEE.out.1
    have e2 := (hb.cell (p := ⟨w.heap.size, 1, none⟩) hlt).trans HEE.out.2.1
    have hAx := HEE.out.2.2.below hb
    go_wp2_with fail
    with_reducible refine (xCut_bad _ _ _ l a b _ hAx HBD.out HH.out.2.1).mono ?_
    rintro e w130x ⟨rfl, k130⟩
    have hb := hb.trans (k130.mono hb.size)
    have hB := hB1.trans (hb.mono hB1.size)
    have e1 := (hb.cell (p := ⟨w.heap.size, 0, none⟩) hlt).trans HEE.out.1
    have e2 := (hb.cell (p := ⟨w.heap.size, 1, none⟩) hlt).trans HEE.out.2.1
    have hAx := HEE.out.2.2.below hb
    go_wp2
    go_ret
    exact ⟨rfl, hB⟩
  · skip
    go_enter Try.func7, Try.ntmps7
    go_wp2_with fail
    with_reducible refine (extentFact_any _).mono ?_
    rintro e w1 ⟨rfl, k1⟩
    have hB1 := hB0.trans (k1.mono hB0.size)
    have E1 := (k1.cell (p := ⟨w.heap.size, 0, none⟩) (by simp)).trans EE.out.1
    have E2 := (k1.cell (p := ⟨w.heap.size, 1, none⟩) (by simp)).trans EE.out.2
    have hlt : w.heap.size < w1.heap.size := by have := k1.size; simp at this; omega
    have HEE := Lib.hid (And.intro E1 (And.intro E2 (hA.below hB1)))
    clear k1 E1 E2
    have hb : Below w1.heap.size w1 w1 := Below.refl _ _
    have hB := hB1
    have e1 := HEE.out.1
    have e2 := HEE.out.2.1
    have hAx := HEE.out.2.2
    go_wp2_with fail
    with_reducible refine (xhas_bd _ _ _ l p _ hAx HBD.out).mono ?_
    rintro e w131x ⟨rfl, k131⟩
    have hb := hb.trans (k131.mono hb.size)
    have hB := hB1.trans (hb.mono hB1.size)
    have e1 := (hb.cell (p := ⟨w.heap.size, 0, none⟩) hlt).trans HEE.out.1
    have e2 := (hb.cell (p := ⟨w.heap.size, 1, none⟩) hlt).trans HEE.out.2.1
    have hAx := HEE.out.2.2.below hb
    rw [HH.out.2.2.1]
    go_wp2_with fail
    with_reducible refine (rrun_any a b _).mono ?_
    rintro e w132x ⟨rfl, k132⟩
    have hb := hb.trans (k132.mono hb.size)
    have hB := hB1.trans (hb.mono hB1.size)
    have e1 := (hb.cell (p := ⟨w.heap.size, 0, none⟩) hlt).trans HEE.out.1
    have e2 := (hb.cell (p := ⟨w.heap.size, 1, none⟩) hlt).trans HEE.out.2.1
    have hAx := HEE.out.2.2.below hb
    rw [HH.out.2.2.2]
    go_wp2_with fail
    with_reducible refine (xAdd_bad _ _ _ l a b _ hAx HBD.out HH.out.1).mono ?_
    rintro e w133x ⟨rfl, k133⟩
    have hb := hb.trans (k133.mono hb.size)
    have hB := hB1.trans (hb.mono hB1.size)
    have e1 := (hb.cell (p := ⟨w.heap.size, 0, none⟩) hlt).trans HEE.out.1
    have e2 := (hb.cell (p := ⟨w.heap.size, 1, none⟩) hlt).trans HEE.out.2.1
    have hAx := HEE.out.2.2.below hb
    go_wp2_with fail
    with_reducible refine (xCut_bad _ _ _ l a b _ hAx HBD.out HH.out.2.1).mono ?_
    rintro e w134x ⟨rfl, k134⟩
    have hb := hb.trans (k134.mono hb.size)
    have hB := hB1.trans (hb.mono hB1.size)
    have e1 := (hb.cell (p := ⟨w.heap.size, 0, none⟩) hlt).trans HEE.out.1
    have e2 := (hb.cell (p := ⟨w.heap.size, 1, none⟩) hlt).trans HEE.out.2.1
    have hAx := HEE.out.2.2.below hb
    go_wp2
    go_ret
    exact ⟨rfl, hB⟩

set_option maxHeartbeats 8000000 in
set_option maxRecDepth 100000 in
theorem walk_bad_bad_hi (w : World) (A : Option Addr) (n c : Nat) (l : List (Int × Int)) (hA : RdP w A n (l.map rv)) (hbd : ∀ p ∈ l, (-9223372036854775808 ≤ p.1 ∧ p.1 ≤ 9223372036854775807) ∧ (-9223372036854775808 ≤ p.2 ∧ p.2 ≤ 9223372036854775807)) (hc : n ≤ c) (a b : Int) (ha : -9223372036854775808 ≤ a ∧ a ≤ 9223372036854775807) (hbb : -9223372036854775808 ≤ b ∧ b ≤ 9223372036854775807) (p : Int) (hp : -9223372036854775808 ≤ p ∧ p ≤ 9223372036854775807) (hr : runsE l = 0) (hk : okR (a, b)) (hadd : chE addB l (a, b) ≠ 0) (hcut : chE cutB l (a, b) ≠ 0) (h1 : a ≤ p) (h2 : ¬ p < a + b) (v : Bool) (hv : hasB l p = v) :
    Calls Try.prog 7 #[.slice A n c, .agg #[.int .i64 a, .int .i64 b], .int .i64 p] w fun e w' => e = .returned (.bool true) ∧ Below w.heap.size w w' := by
  have hB0 := (Below.refl w.heap.size w).alloc (Nat.le_refl _) (.cells #[.int .i64 a, .int .i64 b] 40)
  have EE1 : (w.alloc (.cells #[.int .i64 a, .int .i64 b] 40)).cell? ⟨w.heap.size, 0, none⟩ = some (.int .i64 a) := by simp
  have EE2 : (w.alloc (.cells #[.int .i64 a, .int .i64 b] 40)).cell? ⟨w.heap.size, 1, none⟩ = some (.int .i64 b) := by simp
  have EE := Lib.hid (And.intro EE1 EE2)
  have HBD := Lib.hid (show Bd l from hbd)
  clear EE1 EE2 hbd
  have hrr := decide_eq_true hk
  obtain ⟨o1, o2, o3, o4⟩ := id hk
  simp only at o1 o2 o3 o4
  have hin : inR (a, b) p = false := by rw [Bool.eq_false_iff]; intro h; exact h2 (inR_iff.1 h).2
  have hd : decide (p < a + b) = false := decide_eq_false h2
  have HH := Lib.hid (And.intro hadd (And.intro hcut (And.intro (hasV_ok hr p hv) hrr)))
  clear hadd hcut hr hk hv hin hrr
  cases v
  · skip
    go_enter Try.func7, Try.ntmps7
    go_wp2_with fail
    with_reducible refine (extentFact_any _).mono ?_
    rintro e w1 ⟨rfl, k1⟩
    have hB1 := hB0.trans (k1.mono hB0.size)
    have E1 := (k1.cell (p := ⟨w.heap.size, 0, none⟩) (by simp)).trans EE.out.1
    have E2 := (k1.cell (p := ⟨w.heap.size, 1, none⟩) (by simp)).trans EE.out.2
    have hlt : w.heap.size < w1.heap.size := by have := k1.size; simp at this; omega
    have HEE := Lib.hid (And.intro E1 (And.intro E2 (hA.below hB1)))
    clear k1 E1 E2
    have hb : Below w1.heap.size w1 w1 := Below.refl _ _
    have hB := hB1
    have e1 := HEE.out.1
    have e2 := HEE.out.2.1
    have hAx := HEE.out.2.2
    go_wp2_with fail
    with_reducible refine (xhas_bd _ _ _ l p _ hAx HBD.out).mono ?_
    rintro e w135x ⟨rfl, k135⟩
    have hb := hb.trans (k135.mono hb.size)
    have hB := hB1.trans (hb.mono hB1.size)
    have e1 := (hb.cell (p := ⟨w.heap.size, 0, none⟩) hlt).trans HEE.out.1
    have e2 := (hb.cell (p := ⟨w.heap.size, 1, none⟩) hlt).trans HEE.out.2.1
    have hAx := HEE.out.2.2.below hb
    rw [HH.out.2.2.1]
    go_wp2_with fail
    with_reducible refine (rrun_any a b _).mono ?_
    rintro e w136x ⟨rfl, k136⟩
    have hb := hb.trans (k136.mono hb.size)
    have hB := hB1.trans (hb.mono hB1.size)
    have e1 := (hb.cell (p := ⟨w.heap.size, 0, none⟩) hlt).trans HEE.out.1
    have e2 := (hb.cell (p := ⟨w.heap.size, 1, none⟩) hlt).trans HEE.out.2.1
    have hAx := HEE.out.2.2.below hb
    rw [HH.out.2.2.2]
    go_wp2_with fail
    with_reducible refine (xAdd_bad _ _ _ l a b _ hAx HBD.out HH.out.1).mono ?_
    rintro e w137x ⟨rfl, k137⟩
    have hb := hb.trans (k137.mono hb.size)
    have hB := hB1.trans (hb.mono hB1.size)
    have e1 := (hb.cell (p := ⟨w.heap.size, 0, none⟩) hlt).trans HEE.out.1
    have e2 := (hb.cell (p := ⟨w.heap.size, 1, none⟩) hlt).trans HEE.out.2.1
    have hAx := HEE.out.2.2.below hb
    go_wp2_with fail
    with_reducible refine (xCut_bad _ _ _ l a b _ hAx HBD.out HH.out.2.1).mono ?_
    rintro e w138x ⟨rfl, k138⟩
    have hb := hb.trans (k138.mono hb.size)
    have hB := hB1.trans (hb.mono hB1.size)
    have e1 := (hb.cell (p := ⟨w.heap.size, 0, none⟩) hlt).trans HEE.out.1
    have e2 := (hb.cell (p := ⟨w.heap.size, 1, none⟩) hlt).trans HEE.out.2.1
    have hAx := HEE.out.2.2.below hb
    go_wp2
    go_ret
    exact ⟨rfl, hB⟩
  · skip
    go_enter Try.func7, Try.ntmps7
    go_wp2_with fail
    with_reducible refine (extentFact_any _).mono ?_
    rintro e w1 ⟨rfl, k1⟩
    have hB1 := hB0.trans (k1.mono hB0.size)
    have E1 := (k1.cell (p := ⟨w.heap.size, 0, none⟩) (by simp)).trans EE.out.1
    have E2 := (k1.cell (p := ⟨w.heap.size, 1, none⟩) (by simp)).trans EE.out.2
    have hlt : w.heap.size < w1.heap.size := by have := k1.size; simp at this; omega
    have HEE := Lib.hid (And.intro E1 (And.intro E2 (hA.below hB1)))
    clear k1 E1 E2
    have hb : Below w1.heap.size w1 w1 := Below.refl _ _
    have hB := hB1
    have e1 := HEE.out.1
    have e2 := HEE.out.2.1
    have hAx := HEE.out.2.2
    go_wp2_with fail
    with_reducible refine (xhas_bd _ _ _ l p _ hAx HBD.out).mono ?_
    rintro e w139x ⟨rfl, k139⟩
    have hb := hb.trans (k139.mono hb.size)
    have hB := hB1.trans (hb.mono hB1.size)
    have e1 := (hb.cell (p := ⟨w.heap.size, 0, none⟩) hlt).trans HEE.out.1
    have e2 := (hb.cell (p := ⟨w.heap.size, 1, none⟩) hlt).trans HEE.out.2.1
    have hAx := HEE.out.2.2.below hb
    rw [HH.out.2.2.1]
    go_wp2_with fail
    with_reducible refine (rrun_any a b _).mono ?_
    rintro e w140x ⟨rfl, k140⟩
    have hb := hb.trans (k140.mono hb.size)
    have hB := hB1.trans (hb.mono hB1.size)
    have e1 := (hb.cell (p := ⟨w.heap.size, 0, none⟩) hlt).trans HEE.out.1
    have e2 := (hb.cell (p := ⟨w.heap.size, 1, none⟩) hlt).trans HEE.out.2.1
    have hAx := HEE.out.2.2.below hb
    rw [HH.out.2.2.2]
    go_wp2_with fail
    with_reducible refine (xAdd_bad _ _ _ l a b _ hAx HBD.out HH.out.1).mono ?_
    rintro e w141x ⟨rfl, k141⟩
    have hb := hb.trans (k141.mono hb.size)
    have hB := hB1.trans (hb.mono hB1.size)
    have e1 := (hb.cell (p := ⟨w.heap.size, 0, none⟩) hlt).trans HEE.out.1
    have e2 := (hb.cell (p := ⟨w.heap.size, 1, none⟩) hlt).trans HEE.out.2.1
    have hAx := HEE.out.2.2.below hb
    go_wp2_with fail
    with_reducible refine (xCut_bad _ _ _ l a b _ hAx HBD.out HH.out.2.1).mono ?_
    rintro e w142x ⟨rfl, k142⟩
    have hb := hb.trans (k142.mono hb.size)
    have hB := hB1.trans (hb.mono hB1.size)
    have e1 := (hb.cell (p := ⟨w.heap.size, 0, none⟩) hlt).trans HEE.out.1
    have e2 := (hb.cell (p := ⟨w.heap.size, 1, none⟩) hlt).trans HEE.out.2.1
    have hAx := HEE.out.2.2.below hb
    go_wp2
    go_ret
    exact ⟨rfl, hB⟩

set_option maxHeartbeats 8000000 in
set_option maxRecDepth 100000 in
theorem walk_bad_bad_lo (w : World) (A : Option Addr) (n c : Nat) (l : List (Int × Int)) (hA : RdP w A n (l.map rv)) (hbd : ∀ p ∈ l, (-9223372036854775808 ≤ p.1 ∧ p.1 ≤ 9223372036854775807) ∧ (-9223372036854775808 ≤ p.2 ∧ p.2 ≤ 9223372036854775807)) (hc : n ≤ c) (a b : Int) (ha : -9223372036854775808 ≤ a ∧ a ≤ 9223372036854775807) (hbb : -9223372036854775808 ≤ b ∧ b ≤ 9223372036854775807) (p : Int) (hp : -9223372036854775808 ≤ p ∧ p ≤ 9223372036854775807) (hr : runsE l = 0) (hk : okR (a, b)) (hadd : chE addB l (a, b) ≠ 0) (hcut : chE cutB l (a, b) ≠ 0) (h1 : ¬ a ≤ p) (v : Bool) (hv : hasB l p = v) :
    Calls Try.prog 7 #[.slice A n c, .agg #[.int .i64 a, .int .i64 b], .int .i64 p] w fun e w' => e = .returned (.bool true) ∧ Below w.heap.size w w' := by
  have hB0 := (Below.refl w.heap.size w).alloc (Nat.le_refl _) (.cells #[.int .i64 a, .int .i64 b] 40)
  have EE1 : (w.alloc (.cells #[.int .i64 a, .int .i64 b] 40)).cell? ⟨w.heap.size, 0, none⟩ = some (.int .i64 a) := by simp
  have EE2 : (w.alloc (.cells #[.int .i64 a, .int .i64 b] 40)).cell? ⟨w.heap.size, 1, none⟩ = some (.int .i64 b) := by simp
  have EE := Lib.hid (And.intro EE1 EE2)
  have HBD := Lib.hid (show Bd l from hbd)
  clear EE1 EE2 hbd
  have hrr := decide_eq_true hk
  obtain ⟨o1, o2, o3, o4⟩ := id hk
  simp only at o1 o2 o3 o4
  have hin : inR (a, b) p = false := by rw [Bool.eq_false_iff]; intro h; exact h1 (inR_iff.1 h).1
  have hd : decide (a ≤ p) = false := decide_eq_false h1
  have HH := Lib.hid (And.intro hadd (And.intro hcut (And.intro (hasV_ok hr p hv) hrr)))
  clear hadd hcut hr hk hv hin hrr
  cases v
  · skip
    go_enter Try.func7, Try.ntmps7
    go_wp2_with fail
    with_reducible refine (extentFact_any _).mono ?_
    rintro e w1 ⟨rfl, k1⟩
    have hB1 := hB0.trans (k1.mono hB0.size)
    have E1 := (k1.cell (p := ⟨w.heap.size, 0, none⟩) (by simp)).trans EE.out.1
    have E2 := (k1.cell (p := ⟨w.heap.size, 1, none⟩) (by simp)).trans EE.out.2
    have hlt : w.heap.size < w1.heap.size := by have := k1.size; simp at this; omega
    have HEE := Lib.hid (And.intro E1 (And.intro E2 (hA.below hB1)))
    clear k1 E1 E2
    have hb : Below w1.heap.size w1 w1 := Below.refl _ _
    have hB := hB1
    have e1 := HEE.out.1
    have e2 := HEE.out.2.1
    have hAx := HEE.out.2.2
    go_wp2_with fail
    with_reducible refine (xhas_bd _ _ _ l p _ hAx HBD.out).mono ?_
    rintro e w143x ⟨rfl, k143⟩
    have hb := hb.trans (k143.mono hb.size)
    have hB := hB1.trans (hb.mono hB1.size)
    have e1 := (hb.cell (p := ⟨w.heap.size, 0, none⟩) hlt).trans HEE.out.1
    have e2 := (hb.cell (p := ⟨w.heap.size, 1, none⟩) hlt).trans HEE.out.2.1
    have hAx := HEE.out.2.2.below hb
    rw [HH.out.2.2.1]
    go_wp2_with fail
    with_reducible refine (rrun_any a b _).mono ?_
    rintro e w144x ⟨rfl, k144⟩
    have hb := hb.trans (k144.mono hb.size)
    have hB := hB1.trans (hb.mono hB1.size)
    have e1 := (hb.cell (p := ⟨w.heap.size, 0, none⟩) hlt).trans HEE.out.1
    have e2 := (hb.cell (p := ⟨w.heap.size, 1, none⟩) hlt).trans HEE.out.2.1
    have hAx := HEE.out.2.2.below hb
    rw [HH.out.2.2.2]
    go_wp2_with fail
    with_reducible refine (xAdd_bad _ _ _ l a b _ hAx HBD.out HH.out.1).mono ?_
    rintro e w145x ⟨rfl, k145⟩
    have hb := hb.trans (k145.mono hb.size)
    have hB := hB1.trans (hb.mono hB1.size)
    have e1 := (hb.cell (p := ⟨w.heap.size, 0, none⟩) hlt).trans HEE.out.1
    have e2 := (hb.cell (p := ⟨w.heap.size, 1, none⟩) hlt).trans HEE.out.2.1
    have hAx := HEE.out.2.2.below hb
    go_wp2_with fail
    with_reducible refine (xCut_bad _ _ _ l a b _ hAx HBD.out HH.out.2.1).mono ?_
    rintro e w146x ⟨rfl, k146⟩
    have hb := hb.trans (k146.mono hb.size)
    have hB := hB1.trans (hb.mono hB1.size)
    have e1 := (hb.cell (p := ⟨w.heap.size, 0, none⟩) hlt).trans HEE.out.1
    have e2 := (hb.cell (p := ⟨w.heap.size, 1, none⟩) hlt).trans HEE.out.2.1
    have hAx := HEE.out.2.2.below hb
    go_wp2
    go_ret
    exact ⟨rfl, hB⟩
  · skip
    go_enter Try.func7, Try.ntmps7
    go_wp2_with fail
    with_reducible refine (extentFact_any _).mono ?_
    rintro e w1 ⟨rfl, k1⟩
    have hB1 := hB0.trans (k1.mono hB0.size)
    have E1 := (k1.cell (p := ⟨w.heap.size, 0, none⟩) (by simp)).trans EE.out.1
    have E2 := (k1.cell (p := ⟨w.heap.size, 1, none⟩) (by simp)).trans EE.out.2
    have hlt : w.heap.size < w1.heap.size := by have := k1.size; simp at this; omega
    have HEE := Lib.hid (And.intro E1 (And.intro E2 (hA.below hB1)))
    clear k1 E1 E2
    have hb : Below w1.heap.size w1 w1 := Below.refl _ _
    have hB := hB1
    have e1 := HEE.out.1
    have e2 := HEE.out.2.1
    have hAx := HEE.out.2.2
    go_wp2_with fail
    with_reducible refine (xhas_bd _ _ _ l p _ hAx HBD.out).mono ?_
    rintro e w147x ⟨rfl, k147⟩
    have hb := hb.trans (k147.mono hb.size)
    have hB := hB1.trans (hb.mono hB1.size)
    have e1 := (hb.cell (p := ⟨w.heap.size, 0, none⟩) hlt).trans HEE.out.1
    have e2 := (hb.cell (p := ⟨w.heap.size, 1, none⟩) hlt).trans HEE.out.2.1
    have hAx := HEE.out.2.2.below hb
    rw [HH.out.2.2.1]
    go_wp2_with fail
    with_reducible refine (rrun_any a b _).mono ?_
    rintro e w148x ⟨rfl, k148⟩
    have hb := hb.trans (k148.mono hb.size)
    have hB := hB1.trans (hb.mono hB1.size)
    have e1 := (hb.cell (p := ⟨w.heap.size, 0, none⟩) hlt).trans HEE.out.1
    have e2 := (hb.cell (p := ⟨w.heap.size, 1, none⟩) hlt).trans HEE.out.2.1
    have hAx := HEE.out.2.2.below hb
    rw [HH.out.2.2.2]
    go_wp2_with fail
    with_reducible refine (xAdd_bad _ _ _ l a b _ hAx HBD.out HH.out.1).mono ?_
    rintro e w149x ⟨rfl, k149⟩
    have hb := hb.trans (k149.mono hb.size)
    have hB := hB1.trans (hb.mono hB1.size)
    have e1 := (hb.cell (p := ⟨w.heap.size, 0, none⟩) hlt).trans HEE.out.1
    have e2 := (hb.cell (p := ⟨w.heap.size, 1, none⟩) hlt).trans HEE.out.2.1
    have hAx := HEE.out.2.2.below hb
    go_wp2_with fail
    with_reducible refine (xCut_bad _ _ _ l a b _ hAx HBD.out HH.out.2.1).mono ?_
    rintro e w150x ⟨rfl, k150⟩
    have hb := hb.trans (k150.mono hb.size)
    have hB := hB1.trans (hb.mono hB1.size)
    have e1 := (hb.cell (p := ⟨w.heap.size, 0, none⟩) hlt).trans HEE.out.1
    have e2 := (hb.cell (p := ⟨w.heap.size, 1, none⟩) hlt).trans HEE.out.2.1
    have hAx := HEE.out.2.2.below hb
    go_wp2
    go_ret
    exact ⟨rfl, hB⟩

set_option maxHeartbeats 8000000 in
set_option maxRecDepth 100000 in
theorem walk_nor (w : World) (A : Option Addr) (n c : Nat) (l : List (Int × Int)) (hA : RdP w A n (l.map rv)) (hbd : ∀ p ∈ l, (-9223372036854775808 ≤ p.1 ∧ p.1 ≤ 9223372036854775807) ∧ (-9223372036854775808 ≤ p.2 ∧ p.2 ≤ 9223372036854775807)) (hc : n ≤ c) (a b : Int) (ha : -9223372036854775808 ≤ a ∧ a ≤ 9223372036854775807) (hbb : -9223372036854775808 ≤ b ∧ b ≤ 9223372036854775807) (p : Int) (hp : -9223372036854775808 ≤ p ∧ p ≤ 9223372036854775807) (hr : runsE l = 0) (hk : ¬ okR (a, b)) (v : Bool) (hv : hasB l p = v) :
    Calls Try.prog 7 #[.slice A n c, .agg #[.int .i64 a, .int .i64 b], .int .i64 p] w fun e w' => e = .returned (.bool true) ∧ Below w.heap.size w w' := by
  have hB0 := (Below.refl w.heap.size w).alloc (Nat.le_refl _) (.cells #[.int .i64 a, .int .i64 b] 40)
  have EE1 : (w.alloc (.cells #[.int .i64 a, .int .i64 b] 40)).cell? ⟨w.heap.size, 0, none⟩ = some (.int .i64 a) := by simp
  have EE2 : (w.alloc (.cells #[.int .i64 a, .int .i64 b] 40)).cell? ⟨w.heap.size, 1, none⟩ = some (.int .i64 b) := by simp
  have EE := Lib.hid (And.intro EE1 EE2)
  have HBD := Lib.hid (show Bd l from hbd)
  clear EE1 EE2 hbd
  have h : chE addB l (a, b) ≠ 0 := fun h => hk (chE_zero.1 h).2.1
  have h2 : chE cutB l (a, b) ≠ 0 := fun h => hk (chE_zero.1 h).2.1
  have HH := Lib.hid (And.intro h (And.intro h2 (And.intro (hasV_ok hr p hv) (decide_eq_false hk))))
  clear h h2 hr hk hv
  go_enter Try.func7, Try.ntmps7
  go_wp2_with fail
  with_reducible refine (extentFact_any _).mono ?_
  rintro e w1 ⟨rfl, k1⟩
  have hB1 := hB0.trans (k1.mono hB0.size)
  have E1 := (k1.cell (p := ⟨w.heap.size, 0, none⟩) (by simp)).trans EE.out.1
  have E2 := (k1.cell (p := ⟨w.heap.size, 1, none⟩) (by simp)).trans EE.out.2
  have hlt : w.heap.size < w1.heap.size := by have := k1.size; simp at this; omega
  have HEE := Lib.hid (And.intro E1 (And.intro E2 (hA.below hB1)))
  clear k1 E1 E2
  have hb : Below w1.heap.size w1 w1 := Below.refl _ _
  have hB := hB1
  have e1 := HEE.out.1
  have e2 := HEE.out.2.1
  have hAx := HEE.out.2.2
  go_wp2_with fail
  with_reducible refine (xhas_bd _ _ _ l p _ hAx HBD.out).mono ?_
  rintro e w151x ⟨rfl, k151⟩
  have hb := hb.trans (k151.mono hb.size)
  have hB := hB1.trans (hb.mono hB1.size)
  have e1 := (hb.cell (p := ⟨w.heap.size, 0, none⟩) hlt).trans HEE.out.1
  have e2 := (hb.cell (p := ⟨w.heap.size, 1, none⟩) hlt).trans HEE.out.2.1
  have hAx := HEE.out.2.2.below hb
  rw [HH.out.2.2.1]
  go_wp2_with fail
  with_reducible refine (rrun_any a b _).mono ?_
  rintro e w152x ⟨rfl, k152⟩
  have hb := hb.trans (k152.mono hb.size)
  have hB := hB1.trans (hb.mono hB1.size)
  have e1 := (hb.cell (p := ⟨w.heap.size, 0, none⟩) hlt).trans HEE.out.1
  have e2 := (hb.cell (p := ⟨w.heap.size, 1, none⟩) hlt).trans HEE.out.2.1
  have hAx := HEE.out.2.2.below hb
  rw [HH.out.2.2.2]
  go_wp2_with fail
  with_reducible refine (xAdd_bad _ _ _ l a b _ hAx HBD.out HH.out.1).mono ?_
  rintro e w153x ⟨rfl, k153⟩
  have hb := hb.trans (k153.mono hb.size)
  have hB := hB1.trans (hb.mono hB1.size)
  have e1 := (hb.cell (p := ⟨w.heap.size, 0, none⟩) hlt).trans HEE.out.1
  have e2 := (hb.cell (p := ⟨w.heap.size, 1, none⟩) hlt).trans HEE.out.2.1
  have hAx := HEE.out.2.2.below hb
  go_wp2_with fail
  with_reducible refine (xCut_bad _ _ _ l a b _ hAx HBD.out HH.out.2.1).mono ?_
  rintro e w154x ⟨rfl, k154⟩
  have hb := hb.trans (k154.mono hb.size)
  have hB := hB1.trans (hb.mono hB1.size)
  have e1 := (hb.cell (p := ⟨w.heap.size, 0, none⟩) hlt).trans HEE.out.1
  have e2 := (hb.cell (p := ⟨w.heap.size, 1, none⟩) hlt).trans HEE.out.2.1
  have hAx := HEE.out.2.2.below hb
  go_wp2
  go_ret
  exact ⟨rfl, hB⟩

set_option maxHeartbeats 8000000 in
set_option maxRecDepth 100000 in
theorem walk_no (w : World) (A : Option Addr) (n c : Nat) (l : List (Int × Int)) (hA : RdP w A n (l.map rv)) (hbd : ∀ p ∈ l, (-9223372036854775808 ≤ p.1 ∧ p.1 ≤ 9223372036854775807) ∧ (-9223372036854775808 ≤ p.2 ∧ p.2 ≤ 9223372036854775807)) (hc : n ≤ c) (a b : Int) (ha : -9223372036854775808 ≤ a ∧ a ≤ 9223372036854775807) (hbb : -9223372036854775808 ≤ b ∧ b ≤ 9223372036854775807) (p : Int) (hp : -9223372036854775808 ≤ p ∧ p ≤ 9223372036854775807) (hr : runsE l ≠ 0) :
    Calls Try.prog 7 #[.slice A n c, .agg #[.int .i64 a, .int .i64 b], .int .i64 p] w fun e w' => e = .returned (.bool true) ∧ Below w.heap.size w w' := by
  have hB0 := (Below.refl w.heap.size w).alloc (Nat.le_refl _) (.cells #[.int .i64 a, .int .i64 b] 40)
  have EE1 : (w.alloc (.cells #[.int .i64 a, .int .i64 b] 40)).cell? ⟨w.heap.size, 0, none⟩ = some (.int .i64 a) := by simp
  have EE2 : (w.alloc (.cells #[.int .i64 a, .int .i64 b] 40)).cell? ⟨w.heap.size, 1, none⟩ = some (.int .i64 b) := by simp
  have EE := Lib.hid (And.intro EE1 EE2)
  have HBD := Lib.hid (show Bd l from hbd)
  clear EE1 EE2 hbd
  have v1 : hasV l p = .tuple #[.bool false, .iface 23 (.int .i64 (runsE l))] := by unfold hasV; rw [if_neg hr]
  have HH := Lib.hid v1
  clear v1 hr
  go_enter Try.func7, Try.ntmps7
  go_wp2_with fail
  with_reducible refine (extentFact_any _).mono ?_
  rintro e w1 ⟨rfl, k1⟩
  have hB1 := hB0.trans (k1.mono hB0.size)
  have E1 := (k1.cell (p := ⟨w.heap.size, 0, none⟩) (by simp)).trans EE.out.1
  have E2 := (k1.cell (p := ⟨w.heap.size, 1, none⟩) (by simp)).trans EE.out.2
  have hlt : w.heap.size < w1.heap.size := by have := k1.size; simp at this; omega
  have HEE := Lib.hid (And.intro E1 (And.intro E2 (hA.below hB1)))
  clear k1 E1 E2
  have hb : Below w1.heap.size w1 w1 := Below.refl _ _
  have hB := hB1
  have e1 := HEE.out.1
  have e2 := HEE.out.2.1
  have hAx := HEE.out.2.2
  go_wp2_with fail
  with_reducible refine (xhas_bd _ _ _ l p _ hAx HBD.out).mono ?_
  rintro e w155x ⟨rfl, k155⟩
  have hb := hb.trans (k155.mono hb.size)
  have hB := hB1.trans (hb.mono hB1.size)
  have e1 := (hb.cell (p := ⟨w.heap.size, 0, none⟩) hlt).trans HEE.out.1
  have e2 := (hb.cell (p := ⟨w.heap.size, 1, none⟩) hlt).trans HEE.out.2.1
  have hAx := HEE.out.2.2.below hb
  rw [HH.out]
  go_wp2
  go_ret
  exact ⟨rfl, hB⟩

theorem walk (w : World) (A : Option Addr) (n c : Nat) (l : List (Int × Int)) (hA : RdP w A n (l.map rv)) (hbd : ∀ p ∈ l, (-9223372036854775808 ≤ p.1 ∧ p.1 ≤ 9223372036854775807) ∧ (-9223372036854775808 ≤ p.2 ∧ p.2 ≤ 9223372036854775807)) (hc : n ≤ c) (a b : Int) (ha : -9223372036854775808 ≤ a ∧ a ≤ 9223372036854775807) (hbb : -9223372036854775808 ≤ b ∧ b ≤ 9223372036854775807) (p : Int) (hp : -9223372036854775808 ≤ p ∧ p ≤ 9223372036854775807) :
    Calls Try.prog 7 #[.slice A n c, .agg #[.int .i64 a, .int .i64 b], .int .i64 p] w fun e w' => e = .returned (.bool true) ∧ Below w.heap.size w w' := by
  by_cases hr : runsE l = 0
  · by_cases hk : okR (a, b)
    · by_cases hadd : chE addB l (a, b) = 0
      · skip
        by_cases hcut : chE cutB l (a, b) = 0
        · by_cases h1 : a ≤ p
          · by_cases h2 : p < a + b
            · exact walk_ok_ok_in w A n c l hA hbd hc a b ha hbb p hp hr hk hadd hcut h1 h2 _ rfl
            · exact walk_ok_ok_hi w A n c l hA hbd hc a b ha hbb p hp hr hk hadd hcut h1 h2 _ rfl
          · exact walk_ok_ok_lo w A n c l hA hbd hc a b ha hbb p hp hr hk hadd hcut h1 _ rfl
        · by_cases h1 : a ≤ p
          · by_cases h2 : p < a + b
            · exact walk_ok_bad_in w A n c l hA hbd hc a b ha hbb p hp hr hk hadd hcut h1 h2 _ rfl
            · exact walk_ok_bad_hi w A n c l hA hbd hc a b ha hbb p hp hr hk hadd hcut h1 h2 _ rfl
          · exact walk_ok_bad_lo w A n c l hA hbd hc a b ha hbb p hp hr hk hadd hcut h1 _ rfl
      · skip
        by_cases hcut : chE cutB l (a, b) = 0
        · by_cases h1 : a ≤ p
          · by_cases h2 : p < a + b
            · exact walk_bad_ok_in w A n c l hA hbd hc a b ha hbb p hp hr hk hadd hcut h1 h2 _ rfl
            · exact walk_bad_ok_hi w A n c l hA hbd hc a b ha hbb p hp hr hk hadd hcut h1 h2 _ rfl
          · exact walk_bad_ok_lo w A n c l hA hbd hc a b ha hbb p hp hr hk hadd hcut h1 _ rfl
        · by_cases h1 : a ≤ p
          · by_cases h2 : p < a + b
            · exact walk_bad_bad_in w A n c l hA hbd hc a b ha hbb p hp hr hk hadd hcut h1 h2 _ rfl
            · exact walk_bad_bad_hi w A n c l hA hbd hc a b ha hbb p hp hr hk hadd hcut h1 h2 _ rfl
          · exact walk_bad_bad_lo w A n c l hA hbd hc a b ha hbb p hp hr hk hadd hcut h1 _ rfl
    · exact walk_nor w A n c l hA hbd hc a b ha hbb p hp hr hk _ rfl
  · exact walk_no w A n c l hA hbd hc a b ha hbb p hp hr

set_option maxRecDepth 100000 in
theorem lifted (os : Os) (started : os.Started) (H : Type) (enc : TypeId × Value → H) :
    ReturnsInHanded {} Try.checked os 7 .any (Rows.extentSetSpec.pre6 enc Try.prog Try.f7 Rows.extentSetRow.domain false) (Rows.extentSetSpec.post enc Try.prog Try.f7 false true false false) := by
  refine returnsInHanded_of_change (C := Try.checked) own started (by kernel_rfl) Try.func7
    (ChangeSpec.witness6 (enc := enc) (C := Try.checked) false ⟨#[], #[.slice none 0 0, .agg #[.int .i64 0, .int .i64 0], .int .i64 0], []⟩ 8 (by kernel_rfl) (by kernel_rfl) (by kernel_rfl) (by kernel_rfl)) ?_
  intro W base args ds gs before hval0 hW hcnd _
  have hval : ∀ (j : Nat) t v, Try.f7.params[j]? = some t → args[j]? = some v → Value.okWide Try.prog W .any base t v := hval0
  have hW' := hW
  obtain ⟨p, q, hA0, hV, rfl, hfz, hnd⟩ := hW
  have hA : DataW.TrodAll enc Try.prog W 0 (fun _ => true) true Try.f7.params.toList args.toList ds p := hA0
  rw [Try.params7] at hA hval
  obtain ⟨v0, vs0, d0, ds0, p0, q0, hargs, rfl, rfl, h0, r0⟩ := trodAll_cons hA
  obtain ⟨v1, vs1, d1, ds1, p1, q1, rfl, rfl, rfl, h1, r1⟩ := trodAll_cons r0
  obtain ⟨v2, vs2, d2, ds2, p2, q2, rfl, rfl, rfl, h2, r2⟩ := trodAll_cons r1
  obtain ⟨rfl, rfl, rfl⟩ := trodAll_nil r2
  obtain rfl : args = #[v0, v1, v2] := by cases args; simp_all
  obtain ⟨rfl, rfl⟩ := trodVars_none hV
  have k0 := h0
  have lt0 : ∀ x ∈ p0, x.block < W.heap.size := by obtain ⟨m, hm⟩ := k0; exact DataW.trod_lt m _ _ _ hm
  obtain ⟨A0, n0, c0, rfl⟩ := okWide_slice Try.underlying38 (hval 0 38 v0 rfl rfl)
  obtain ⟨l0, w0, hb0, hc0⟩ : ∃ l : List (Int × Int), RdP W A0 n0 (l.map rv) ∧ (∀ p ∈ l, (-9223372036854775808 ≤ p.1 ∧ p.1 ≤ 9223372036854775807) ∧ (-9223372036854775808 ≤ p.2 ∧ p.2 ≤ 9223372036854775807)) ∧ n0 ≤ c0 := by
    obtain ⟨fuel, hf⟩ := h0
    rcases Go.Deep.open_slice_pairs Try.underlying38 Try.underlying40 (by kernel_rfl) rfl rfl (by kernel_rfl) (by kernel_rfl) hf with ⟨hcs, _⟩ | ⟨x, l, c, m, nn, V0, V1, D0, D1, P0, P1, hcs, _, hl, hm, hmm, _, hrow⟩
    · simp [Value.cells] at hcs
      obtain ⟨rfl, rfl, rfl⟩ := hcs
      exact ⟨[], RdP.nil _ _, by simp, Nat.le_refl _⟩
    · simp [Value.cells] at hcs
      obtain ⟨rfl, rfl, rfl⟩ := hcs
      have hlm : n0 ≤ m := by rw [hmm]; split <;> omega
      have hp := rdp_of_cells (w := W) (V0 := V0) (V1 := V1) hl hm (fun j hj => ⟨(hrow j (by omega)).1, (hrow j (by omega)).2.1⟩)
      obtain ⟨l', h1, h2⟩ := runs_of hp (fun j hj => by
        obtain ⟨_, _, g2, g3⟩ := hrow j (by omega)
        obtain ⟨b, e0, _, e4⟩ := DataW.trod_int Try.underlying3 g2
        obtain ⟨s, e1, _, e3⟩ := DataW.trod_int Try.underlying3 g3
        exact ⟨b, s, by simpa using e0, by simpa using e1, wf_range e4, wf_range e3⟩)
      exact ⟨l', h1, h2, hl⟩
  have k1 := h1
  have lt1 : ∀ x ∈ p1, x.block < W.heap.size := by obtain ⟨m, hm⟩ := k1; exact DataW.trod_lt m _ _ _ hm
  obtain ⟨y10, y11, z10, z11, m1, rfl, rfl, rfl, hy10, hy11⟩ := Go.Joins.open_agg2 Try.underlying40 (by kernel_rfl) (by kernel_rfl) (hval 1 40 v1 rfl rfl) h1
  obtain ⟨a1, ea1, _, wa1⟩ := DataW.trod_int Try.underlying3 hy10
  obtain ⟨b1, eb1, _, wb1⟩ := DataW.trod_int Try.underlying3 hy11
  simp at ea1 eb1
  subst ea1
  subst eb1
  have k2 := h2
  have lt2 : ∀ x ∈ p2, x.block < W.heap.size := by obtain ⟨m, hm⟩ := k2; exact DataW.trod_lt m _ _ _ hm
  obtain ⟨a2, rfl, rfl, rfl, w2⟩ := open_int Try.underlying3 (hval 2 3 v2 rfl rfl) h2
  clear hA0 hval0
  refine (walk W A0 n0 c0 l0 w0 hb0 hc0 a1 b1 (wf_range wa1) (wf_range wb1) a2 (wf_range w2)).mono fun e W' ⟨he, bel⟩ => ?_
  subst he
  exact ⟨_, rfl, _, _, _, [], _, [], hW', trodAll_mk1 (shut_bool Try.underlying4 _), (trodAll_cons_mk (Below.trod laidOut (by kernel_rfl) (of_decide_eq_true (by kernel_rfl)) k0 bel lt0) (trodAll_cons_mk (Below.trod laidOut (by kernel_rfl) (of_decide_eq_true (by kernel_rfl)) k1 bel lt1) (trodAll_cons_mk (Below.trod laidOut (by kernel_rfl) (of_decide_eq_true (by kernel_rfl)) k2 bel lt2) trodAll_mk0))), rfl, bel.frame _, fun h => by cases h⟩

theorem over : Rows.extentSetRow.holds Try.pinned (OpenSpec.ofChange Rows.extentSetSpec) :=
  OpenClaim.holds_of_wide 7 Try.f7 rfl rfl rfl rfl rfl rfl rfl ⟨rfl, rfl, rfl, rfl, rfl⟩ rfl rfl rfl rfl rfl (by kernel_rfl) Try.func7 (by kernel_rfl)
    (of_decide_eq_true (by kernel_rfl)) (by unfold Func.isWrapper; first | (rw [if_pos (by decide +kernel)]; kernel_rfl) | (rw [if_neg (by decide +kernel)]; exact ⟨rfl, rfl⟩))
    (fun os started H enc _ => lifted os started H enc)

theorem proved : Rows.ExtentSetSaid := over
#print axioms proved
end Go.Proofs.Ytllacbogbbbcaaa.extentSet
