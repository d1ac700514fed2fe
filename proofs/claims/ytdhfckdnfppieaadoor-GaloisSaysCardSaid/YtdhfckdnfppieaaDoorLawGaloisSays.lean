/- The functions of package galois return what the document specifies: GaloisSays answers true at every three ints, slice of ints; errors.errorType is tied to the program's text. Conditions: none beside the card's own. -/
import Derived.Test.YtdhfckdnfppieaaDoorRGf
import Derived.Test.YtdhfckdnfppieaaDoorGaloisLaw
import Derived.Test.YtdhfckdnfppieaaDoorRBytes
import Derived.Test.YtdhfckdnfppieaaDoorIn
import Derived.Test.YtdhfckdnfppieaaDoorOpenD
import Derived.Test.YtdhfckdnfppieaaDoorTold
namespace Go.Proofs.YtdhfckdnfppieaaDoor
open Go Go.RowKit Go.Shelf
attribute [local go_sem] Oper.semAt_some
set_option maxRecDepth 20000 in
theorem at_xbad (A : Option Addr) (len cap : Nat) (zs : List Int) (x : Int) (w : World) (hA : Rd w A len zs) (hE : bytesE zs 16 = 0) (hw : Wide x) (hx : ¬ Byte x) :
    Calls Tryd.prog 21 #[.slice A len cap, .int .i64 x] w fun e W' => e = .returned (.tuple #[.int .i64 0, .iface 53 (.int .i64 1)]) ∧ Below w.heap.size w W' := by
  have hA1 := hA.alloc (.cells #[.int .i64 x] 3)
  have hB := ((Below.refl w.heap.size w).alloc (Nat.le_refl _) (.cells #[.int .i64 x] 3)).alloc (by simp) (.cells #[.int .i64 x] 3)
  obtain ⟨h16, hall⟩ := bytesE_zero.1 hE
  rw [hA.len] at h16
  have hb := bytes_ok A len cap 16 zs _ hA1 h16 hall
  have hR := rd_one (w.alloc (.cells #[.int .i64 x] 3)) x hw
  rw [World.size_alloc] at hR
  have hbad : allB [x] 0 255 = false := by rw [Bool.eq_false_iff]; intro e; exact hx (all_one.1 e)
  have hk := check_bad _ 1 1 [x] _ hR hbad
  have HB := Lib.hid hb
  have HK := Lib.hid hk
  clear hb hk hE hall hR hbad
  refine (callsIn_wide (n := 3)).1 ?_
  refine callsIn_of_wp_marks Tryd.func21 rfl trivial ?_ rfl
  simp only [Tryd.ntmps21, List.size_toArray, List.length_cons, List.length_nil, Nat.reduceAdd, Nat.reduceSub, Array.replicate_succ, Array.replicate_zero, List.push_toArray, List.append_toArray, List.nil_append, List.cons_append]
  gi_wp2_with (first
    | (refine ⟨trivial, ?_⟩; gi_at_call 43; refine (callsIn_wide.2 HB.out).mono ?_; rintro e w' ⟨rfl, rfl⟩)
    | (refine ⟨trivial, ?_⟩; gi_at_call 36; refine (callsIn_wide.2 HK.out).mono ?_; rintro e w' ⟨rfl, rfl⟩))
  refine ⟨.tuple #[.int .i64 0, .iface 53 (.int .i64 1)], ?_, rfl, hB⟩
  simp [results, Tryd.f21, go_sem]
end Go.Proofs.YtdhfckdnfppieaaDoor
namespace Go.Proofs.YtdhfckdnfppieaaDoor.galoisSays
open Go Go.ChangeShapes Go.WideShapes Go.ChangeAt Go.RowKit
set_option linter.unusedVariables false
set_option maxRecDepth 20000

theorem at_good (A : Option Addr) (n c : Nat) (xs : List Int) (x : Int) (w : World) (hA : Rd w A n xs) (hE : bytesE xs 16 = 0) (hx : Byte x) :
    Calls Tryd.prog 21 #[.slice A n c, .int .i64 x] w fun e w' => e = .returned (.tuple #[.int .i64 (horn x xs), .nilIface]) ∧ Below w.heap.size w w' := by
  obtain ⟨h16, hall⟩ := bytesE_zero.1 hE
  have hl := hA.len
  have h := at_ok A n c xs x w hA (by omega) hall (bz hall) hx
  rw [atI_horn hl] at h
  exact h
theorem rat_good (A : Option Addr) (n c : Nat) (xs : List Int) (x : Int) (w : World) (hA : Rd w A n xs) (hE : bytesE xs 16 = 0) (hx : Byte x) :
    Calls Tryd.prog 20 #[.slice A n c, .int .i64 x] w fun e w' => e = .returned (.int .i64 (horn x xs)) ∧ Below w.heap.size w w' := by
  obtain ⟨h16, hall⟩ := bytesE_zero.1 hE
  have hl := hA.len
  exact rat_any A n c xs x w hA (by omega) hall hx

set_option maxHeartbeats 8000000 in
set_option maxRecDepth 100000 in
theorem walk_out (w : World) (a : Int) (ha : -9223372036854775808 ≤ a ∧ a ≤ 9223372036854775807) (b : Int) (hb : -9223372036854775808 ≤ b ∧ b ≤ 9223372036854775807) (n : Int) (hn : -9223372036854775808 ≤ n ∧ n ≤ 9223372036854775807) (A : Option Addr) (l c : Nat) (xs : List Int) (hA : Rd w A l xs) (hc : l ≤ c) (hE : ErrT w) (haa : a < 0 ∨ 255 < a) :
    Calls Tryd.prog 4 #[.int .i64 a, .int .i64 b, .int .i64 n, .slice A l c] w fun e w' => e = .returned (.bool true) ∧ Below w.heap.size w w' := by
  have HE := Lib.hid hE
  clear hE
  have HW := Lib.hid (And.intro (show Wide a from ha) (show Wide b from hb))
  have hB : Below w.heap.size w w := Below.refl _ _
  have HAB := Lib.hid (show ¬ Byte a from fun h => by have := h.1; have := h.2; omega)
  have HNB := Lib.hid (show ¬ (Byte a ∧ Byte b) from fun h => HAB.out h.1)
  go_enter Tryd.func4, Tryd.ntmps4
  go_wp2_with fail
  with_reducible refine (in_no _ _ _ _ haa).mono ?_
  rintro e w' ⟨rfl, rfl⟩
  go_wp2_with fail
  with_reducible refine (Mul_bad a b _ HW.out.1 HW.out.2 HNB.out).mono ?_
  rintro e' w1x ⟨rfl, k1⟩
  have hB := hB.trans (k1.mono hB.size)
  clear k1
  go_wp2_with fail
  with_reducible refine (error_err 1 1 _ (HE.out.below hB)).mono ?_
  rintro e' w2x ⟨rfl, k2⟩
  have hB := hB.trans (k2.mono hB.size)
  clear k2
  go_wp2_with fail
  with_reducible refine (Div_bad a b _ HW.out.1 HW.out.2 HNB.out).mono ?_
  rintro e' w3x ⟨rfl, k3⟩
  have hB := hB.trans (k3.mono hB.size)
  clear k3
  go_wp2_with fail
  with_reducible refine (error_err 1 1 _ (HE.out.below hB)).mono ?_
  rintro e' w4x ⟨rfl, k4⟩
  have hB := hB.trans (k4.mono hB.size)
  clear k4
  go_wp2_with fail
  with_reducible refine (in_no _ _ _ _ haa).mono ?_
  rintro e w' ⟨rfl, rfl⟩
  go_wp2_with fail
  with_reducible refine (Pow_byte a n _ HW.out.1 HAB.out).mono ?_
  rintro e' w5x ⟨rfl, k5⟩
  have hB := hB.trans (k5.mono hB.size)
  clear k5
  go_wp2_with fail
  with_reducible refine (error_err 1 1 _ (HE.out.below hB)).mono ?_
  rintro e' w6x ⟨rfl, k6⟩
  have hB := hB.trans (k6.mono hB.size)
  clear k6
  by_cases hF : bytesE xs 16 = 0
  · have HF := Lib.hid hF
    clear hF
    have hAx := hA.below hB
    go_wp2_with fail
    with_reducible refine (rbytes_any _ _ _ _ xs _ hAx).mono ?_
    rintro e w' ⟨rfl, rfl⟩
    rw [HF.out]
    go_wp2_with fail
    with_reducible refine (in_no _ _ _ _ haa).mono ?_
    rintro e w' ⟨rfl, rfl⟩
    go_wp2_with fail
    with_reducible refine (at_xbad _ _ _ xs a _ hAx HF.out HW.out.1 HAB.out).mono ?_
    rintro e' w9x ⟨rfl, k9⟩
    have hB := hB.trans (k9.mono hB.size)
    clear k9
    go_wp2_with fail
    with_reducible refine (error_err 1 1 _ (HE.out.below hB)).mono ?_
    rintro e' w10x ⟨rfl, k10⟩
    have hB := hB.trans (k10.mono hB.size)
    clear k10
    go_wp2
    go_ret
    exact ⟨rfl, hB⟩
  · obtain ⟨F, hFF⟩ : ∃ F, bytesE xs 16 = F := ⟨_, rfl⟩
    rw [hFF] at hF
    have HF := Lib.hid hFF
    have HF0 := Lib.hid hF
    have hFs : (F == F) = true := by simp
    have hFb : (F == 0) = false := by simpa using hF
    clear hF hFF
    have hAx := hA.below hB
    go_wp2_with fail
    with_reducible refine (rbytes_any _ _ _ _ xs _ hAx).mono ?_
    rintro e w' ⟨rfl, rfl⟩
    rw [HF.out]
    go_wp2_with fail
    with_reducible refine (at_full _ _ _ xs a _ hAx (by rw [HF.out]; exact HF0.out)).mono ?_
    rintro e' w7x ⟨rfl, k7⟩
    have hB := hB.trans (k7.mono hB.size)
    clear k7
    rw [HF.out]
    go_wp2_with fail
    with_reducible refine (error_err F F _ (HE.out.below hB)).mono ?_
    rintro e' w8x ⟨rfl, k8⟩
    have hB := hB.trans (k8.mono hB.size)
    clear k8
    go_wp2
    go_ret
    exact ⟨rfl, hB⟩

set_option maxHeartbeats 8000000 in
set_option maxRecDepth 100000 in
theorem walk_bad (w : World) (a : Int) (ha : -9223372036854775808 ≤ a ∧ a ≤ 9223372036854775807) (b : Int) (hb : -9223372036854775808 ≤ b ∧ b ≤ 9223372036854775807) (n : Int) (hn : -9223372036854775808 ≤ n ∧ n ≤ 9223372036854775807) (A : Option Addr) (l c : Nat) (xs : List Int) (hA : Rd w A l xs) (hc : l ≤ c) (hE : ErrT w) (a0 : 0 ≤ a) (a1 : a ≤ 255) (hbb : b < 0 ∨ 255 < b) :
    Calls Tryd.prog 4 #[.int .i64 a, .int .i64 b, .int .i64 n, .slice A l c] w fun e w' => e = .returned (.bool true) ∧ Below w.heap.size w w' := by
  have HE := Lib.hid hE
  clear hE
  have HW := Lib.hid (And.intro (show Wide a from ha) (show Wide b from hb))
  have hB : Below w.heap.size w w := Below.refl _ _
  have HAB := Lib.hid (show Byte a from ⟨a0, a1⟩)
  have HBB := Lib.hid (show ¬ Byte b from fun h => by have := h.1; have := h.2; omega)
  have HNB := Lib.hid (show ¬ (Byte a ∧ Byte b) from fun h => HBB.out h.2)
  go_enter Tryd.func4, Tryd.ntmps4
  go_wp2_with fail
  with_reducible refine (in_yes _ _ _ _ a0 a1).mono ?_
  rintro e w' ⟨rfl, rfl⟩
  go_wp2_with fail
  with_reducible refine (in_no _ _ _ _ hbb).mono ?_
  rintro e w' ⟨rfl, rfl⟩
  go_wp2_with fail
  with_reducible refine (Mul_bad a b _ HW.out.1 HW.out.2 HNB.out).mono ?_
  rintro e' w11x ⟨rfl, k11⟩
  have hB := hB.trans (k11.mono hB.size)
  clear k11
  go_wp2_with fail
  with_reducible refine (error_err 1 1 _ (HE.out.below hB)).mono ?_
  rintro e' w12x ⟨rfl, k12⟩
  have hB := hB.trans (k12.mono hB.size)
  clear k12
  go_wp2_with fail
  with_reducible refine (Div_bad a b _ HW.out.1 HW.out.2 HNB.out).mono ?_
  rintro e' w13x ⟨rfl, k13⟩
  have hB := hB.trans (k13.mono hB.size)
  clear k13
  go_wp2_with fail
  with_reducible refine (error_err 1 1 _ (HE.out.below hB)).mono ?_
  rintro e' w14x ⟨rfl, k14⟩
  have hB := hB.trans (k14.mono hB.size)
  clear k14
  by_cases hnn2 : n < 0 ∨ 1000 < n
  · skip
    go_wp2_with fail
    with_reducible refine (in_yes _ _ _ _ a0 a1).mono ?_
    rintro e w' ⟨rfl, rfl⟩
    go_wp2_with fail
    with_reducible refine (in_no _ _ _ _ hnn2).mono ?_
    rintro e w' ⟨rfl, rfl⟩
    go_wp2_with fail
    with_reducible refine (Pow_range a n _ HAB.out hnn2).mono ?_
    rintro e' w15x ⟨rfl, k15⟩
    have hB := hB.trans (k15.mono hB.size)
    clear k15
    go_wp2_with fail
    with_reducible refine (error_err 1 1 _ (HE.out.below hB)).mono ?_
    rintro e' w16x ⟨rfl, k16⟩
    have hB := hB.trans (k16.mono hB.size)
    clear k16
    by_cases hF : bytesE xs 16 = 0
    · have HF := Lib.hid hF
      clear hF
      obtain ⟨HN, hHN⟩ : ∃ HN, horn a xs = HN := ⟨_, rfl⟩
      have HHN := Lib.hid hHN
      have hnn : (HN == HN) = true := by simp
      clear hHN
      have hAx := hA.below hB
      go_wp2_with fail
      with_reducible refine (rbytes_any _ _ _ _ xs _ hAx).mono ?_
      rintro e w' ⟨rfl, rfl⟩
      rw [HF.out]
      go_wp2_with fail
      with_reducible refine (in_yes _ _ _ _ a0 a1).mono ?_
      rintro e w' ⟨rfl, rfl⟩
      go_wp2_with fail
      with_reducible refine (rat_good _ _ _ xs a _ hAx HF.out HAB.out).mono ?_
      rintro e' w19x ⟨rfl, k19⟩
      have hB := hB.trans (k19.mono hB.size)
      clear k19
      rw [HHN.out]
      have hAx := hA.below hB
      go_wp2_with fail
      with_reducible refine (at_good _ _ _ xs a _ hAx HF.out HAB.out).mono ?_
      rintro e' w20x ⟨rfl, k20⟩
      have hB := hB.trans (k20.mono hB.size)
      clear k20
      rw [HHN.out]
      go_wp2_with fail
      with_reducible refine (error_nil _ _).mono ?_
      rintro e w' ⟨rfl, rfl⟩
      go_wp2
      go_ret
      exact ⟨rfl, hB⟩
    · obtain ⟨F, hFF⟩ : ∃ F, bytesE xs 16 = F := ⟨_, rfl⟩
      rw [hFF] at hF
      have HF := Lib.hid hFF
      have HF0 := Lib.hid hF
      have hFs : (F == F) = true := by simp
      have hFb : (F == 0) = false := by simpa using hF
      clear hF hFF
      have hAx := hA.below hB
      go_wp2_with fail
      with_reducible refine (rbytes_any _ _ _ _ xs _ hAx).mono ?_
      rintro e w' ⟨rfl, rfl⟩
      rw [HF.out]
      go_wp2_with fail
      with_reducible refine (at_full _ _ _ xs a _ hAx (by rw [HF.out]; exact HF0.out)).mono ?_
      rintro e' w17x ⟨rfl, k17⟩
      have hB := hB.trans (k17.mono hB.size)
      clear k17
      rw [HF.out]
      go_wp2_with fail
      with_reducible refine (error_err F F _ (HE.out.below hB)).mono ?_
      rintro e' w18x ⟨rfl, k18⟩
      have hB := hB.trans (k18.mono hB.size)
      clear k18
      go_wp2
      go_ret
      exact ⟨rfl, hB⟩
  · obtain ⟨nn, rfl⟩ : ∃ nn : Nat, n = nn := ⟨n.toNat, by omega⟩
    have n0 : (0 : Int) ≤ (nn : Int) := by omega
    have n1 : (nn : Int) ≤ 1000 := by omega
    obtain ⟨Q, hQ⟩ : ∃ Q, powI a nn = Q := ⟨_, rfl⟩
    have HQ := Lib.hid hQ
    have hQs : (Q == Q) = true := by simp
    clear hQ
    go_wp2_with fail
    with_reducible refine (in_yes _ _ _ _ a0 a1).mono ?_
    rintro e w' ⟨rfl, rfl⟩
    go_wp2_with fail
    with_reducible refine (in_yes _ _ _ _ n0 n1).mono ?_
    rintro e w' ⟨rfl, rfl⟩
    go_wp2_with fail
    with_reducible refine (rpow_any a nn _ HAB.out (by omega)).mono ?_
    rintro e w' ⟨rfl, rfl⟩
    rw [HQ.out]
    go_wp2_with fail
    with_reducible refine (Pow_ok a nn _ HAB.out (by omega)).mono ?_
    rintro e' w21x ⟨rfl, k21⟩
    have hB := hB.trans (k21.mono hB.size)
    clear k21
    rw [HQ.out]
    go_wp2_with fail
    with_reducible refine (error_nil _ _).mono ?_
    rintro e w' ⟨rfl, rfl⟩
    by_cases hF : bytesE xs 16 = 0
    · have HF := Lib.hid hF
      clear hF
      obtain ⟨HN, hHN⟩ : ∃ HN, horn a xs = HN := ⟨_, rfl⟩
      have HHN := Lib.hid hHN
      have hnn : (HN == HN) = true := by simp
      clear hHN
      have hAx := hA.below hB
      go_wp2_with fail
      with_reducible refine (rbytes_any _ _ _ _ xs _ hAx).mono ?_
      rintro e w' ⟨rfl, rfl⟩
      rw [HF.out]
      go_wp2_with fail
      with_reducible refine (in_yes _ _ _ _ a0 a1).mono ?_
      rintro e w' ⟨rfl, rfl⟩
      go_wp2_with fail
      with_reducible refine (rat_good _ _ _ xs a _ hAx HF.out HAB.out).mono ?_
      rintro e' w24x ⟨rfl, k24⟩
      have hB := hB.trans (k24.mono hB.size)
      clear k24
      rw [HHN.out]
      have hAx := hA.below hB
      go_wp2_with fail
      with_reducible refine (at_good _ _ _ xs a _ hAx HF.out HAB.out).mono ?_
      rintro e' w25x ⟨rfl, k25⟩
      have hB := hB.trans (k25.mono hB.size)
      clear k25
      rw [HHN.out]
      go_wp2_with fail
      with_reducible refine (error_nil _ _).mono ?_
      rintro e w' ⟨rfl, rfl⟩
      go_wp2
      go_ret
      exact ⟨rfl, hB⟩
    · obtain ⟨F, hFF⟩ : ∃ F, bytesE xs 16 = F := ⟨_, rfl⟩
      rw [hFF] at hF
      have HF := Lib.hid hFF
      have HF0 := Lib.hid hF
      have hFs : (F == F) = true := by simp
      have hFb : (F == 0) = false := by simpa using hF
      clear hF hFF
      have hAx := hA.below hB
      go_wp2_with fail
      with_reducible refine (rbytes_any _ _ _ _ xs _ hAx).mono ?_
      rintro e w' ⟨rfl, rfl⟩
      rw [HF.out]
      go_wp2_with fail
      with_reducible refine (at_full _ _ _ xs a _ hAx (by rw [HF.out]; exact HF0.out)).mono ?_
      rintro e' w22x ⟨rfl, k22⟩
      have hB := hB.trans (k22.mono hB.size)
      clear k22
      rw [HF.out]
      go_wp2_with fail
      with_reducible refine (error_err F F _ (HE.out.below hB)).mono ?_
      rintro e' w23x ⟨rfl, k23⟩
      have hB := hB.trans (k23.mono hB.size)
      clear k23
      go_wp2
      go_ret
      exact ⟨rfl, hB⟩

set_option maxHeartbeats 8000000 in
set_option maxRecDepth 100000 in
theorem walk_zero (w : World) (a : Int) (ha : -9223372036854775808 ≤ a ∧ a ≤ 9223372036854775807) (b : Int) (hb : -9223372036854775808 ≤ b ∧ b ≤ 9223372036854775807) (n : Int) (hn : -9223372036854775808 ≤ n ∧ n ≤ 9223372036854775807) (A : Option Addr) (l c : Nat) (xs : List Int) (hA : Rd w A l xs) (hc : l ≤ c) (hE : ErrT w) (a0 : 0 ≤ a) (a1 : a ≤ 255) (hb0 : b = 0) :
    Calls Tryd.prog 4 #[.int .i64 a, .int .i64 b, .int .i64 n, .slice A l c] w fun e w' => e = .returned (.bool true) ∧ Below w.heap.size w w' := by
  have HE := Lib.hid hE
  clear hE
  have HW := Lib.hid (And.intro (show Wide a from ha) (show Wide b from hb))
  have hB : Below w.heap.size w w := Below.refl _ _
  have HAB := Lib.hid (show Byte a from ⟨a0, a1⟩)
  subst hb0
  have b0 : (0 : Int) ≤ 0 := by omega
  have b1 : (0 : Int) ≤ 255 := by omega
  have HBB := Lib.hid (show Byte 0 from ⟨b0, b1⟩)
  have hm0 : mulI a 0 = 0 := mulI_zero a
  have HM := Lib.hid hm0
  clear hm0
  go_enter Tryd.func4, Tryd.ntmps4
  go_wp2_with fail
  with_reducible refine (in_yes _ _ _ _ a0 a1).mono ?_
  rintro e w' ⟨rfl, rfl⟩
  go_wp2_with fail
  with_reducible refine (in_yes _ _ _ _ b0 b1).mono ?_
  rintro e w' ⟨rfl, rfl⟩
  go_wp2_with fail
  with_reducible refine (rmul_any a 0 _ HAB.out HBB.out).mono ?_
  rintro e w' ⟨rfl, rfl⟩
  rw [HM.out]
  go_wp2_with fail
  with_reducible refine (Mul_ok a 0 _ HAB.out HBB.out).mono ?_
  rintro e' w26x ⟨rfl, k26⟩
  have hB := hB.trans (k26.mono hB.size)
  clear k26
  rw [HM.out]
  go_wp2_with fail
  with_reducible refine (error_nil _ _).mono ?_
  rintro e w' ⟨rfl, rfl⟩
  go_wp2_with fail
  with_reducible refine (Div_zero a _ HAB.out).mono ?_
  rintro e' w27x ⟨rfl, k27⟩
  have hB := hB.trans (k27.mono hB.size)
  clear k27
  go_wp2_with fail
  with_reducible refine (error_err 5 5 _ (HE.out.below hB)).mono ?_
  rintro e' w28x ⟨rfl, k28⟩
  have hB := hB.trans (k28.mono hB.size)
  clear k28
  by_cases hnn2 : n < 0 ∨ 1000 < n
  · skip
    go_wp2_with fail
    with_reducible refine (in_yes _ _ _ _ a0 a1).mono ?_
    rintro e w' ⟨rfl, rfl⟩
    go_wp2_with fail
    with_reducible refine (in_no _ _ _ _ hnn2).mono ?_
    rintro e w' ⟨rfl, rfl⟩
    go_wp2_with fail
    with_reducible refine (Pow_range a n _ HAB.out hnn2).mono ?_
    rintro e' w29x ⟨rfl, k29⟩
    have hB := hB.trans (k29.mono hB.size)
    clear k29
    go_wp2_with fail
    with_reducible refine (error_err 1 1 _ (HE.out.below hB)).mono ?_
    rintro e' w30x ⟨rfl, k30⟩
    have hB := hB.trans (k30.mono hB.size)
    clear k30
    by_cases hF : bytesE xs 16 = 0
    · have HF := Lib.hid hF
      clear hF
      obtain ⟨HN, hHN⟩ : ∃ HN, horn a xs = HN := ⟨_, rfl⟩
      have HHN := Lib.hid hHN
      have hnn : (HN == HN) = true := by simp
      clear hHN
      have hAx := hA.below hB
      go_wp2_with fail
      with_reducible refine (rbytes_any _ _ _ _ xs _ hAx).mono ?_
      rintro e w' ⟨rfl, rfl⟩
      rw [HF.out]
      go_wp2_with fail
      with_reducible refine (in_yes _ _ _ _ a0 a1).mono ?_
      rintro e w' ⟨rfl, rfl⟩
      go_wp2_with fail
      with_reducible refine (rat_good _ _ _ xs a _ hAx HF.out HAB.out).mono ?_
      rintro e' w33x ⟨rfl, k33⟩
      have hB := hB.trans (k33.mono hB.size)
      clear k33
      rw [HHN.out]
      have hAx := hA.below hB
      go_wp2_with fail
      with_reducible refine (at_good _ _ _ xs a _ hAx HF.out HAB.out).mono ?_
      rintro e' w34x ⟨rfl, k34⟩
      have hB := hB.trans (k34.mono hB.size)
      clear k34
      rw [HHN.out]
      go_wp2_with fail
      with_reducible refine (error_nil _ _).mono ?_
      rintro e w' ⟨rfl, rfl⟩
      go_wp2
      go_ret
      exact ⟨rfl, hB⟩
    · obtain ⟨F, hFF⟩ : ∃ F, bytesE xs 16 = F := ⟨_, rfl⟩
      rw [hFF] at hF
      have HF := Lib.hid hFF
      have HF0 := Lib.hid hF
      have hFs : (F == F) = true := by simp
      have hFb : (F == 0) = false := by simpa using hF
      clear hF hFF
      have hAx := hA.below hB
      go_wp2_with fail
      with_reducible refine (rbytes_any _ _ _ _ xs _ hAx).mono ?_
      rintro e w' ⟨rfl, rfl⟩
      rw [HF.out]
      go_wp2_with fail
      with_reducible refine (at_full _ _ _ xs a _ hAx (by rw [HF.out]; exact HF0.out)).mono ?_
      rintro e' w31x ⟨rfl, k31⟩
      have hB := hB.trans (k31.mono hB.size)
      clear k31
      rw [HF.out]
      go_wp2_with fail
      with_reducible refine (error_err F F _ (HE.out.below hB)).mono ?_
      rintro e' w32x ⟨rfl, k32⟩
      have hB := hB.trans (k32.mono hB.size)
      clear k32
      go_wp2
      go_ret
      exact ⟨rfl, hB⟩
  · obtain ⟨nn, rfl⟩ : ∃ nn : Nat, n = nn := ⟨n.toNat, by omega⟩
    have n0 : (0 : Int) ≤ (nn : Int) := by omega
    have n1 : (nn : Int) ≤ 1000 := by omega
    obtain ⟨Q, hQ⟩ : ∃ Q, powI a nn = Q := ⟨_, rfl⟩
    have HQ := Lib.hid hQ
    have hQs : (Q == Q) = true := by simp
    clear hQ
    go_wp2_with fail
    with_reducible refine (in_yes _ _ _ _ a0 a1).mono ?_
    rintro e w' ⟨rfl, rfl⟩
    go_wp2_with fail
    with_reducible refine (in_yes _ _ _ _ n0 n1).mono ?_
    rintro e w' ⟨rfl, rfl⟩
    go_wp2_with fail
    with_reducible refine (rpow_any a nn _ HAB.out (by omega)).mono ?_
    rintro e w' ⟨rfl, rfl⟩
    rw [HQ.out]
    go_wp2_with fail
    with_reducible refine (Pow_ok a nn _ HAB.out (by omega)).mono ?_
    rintro e' w35x ⟨rfl, k35⟩
    have hB := hB.trans (k35.mono hB.size)
    clear k35
    rw [HQ.out]
    go_wp2_with fail
    with_reducible refine (error_nil _ _).mono ?_
    rintro e w' ⟨rfl, rfl⟩
    by_cases hF : bytesE xs 16 = 0
    · have HF := Lib.hid hF
      clear hF
      obtain ⟨HN, hHN⟩ : ∃ HN, horn a xs = HN := ⟨_, rfl⟩
      have HHN := Lib.hid hHN
      have hnn : (HN == HN) = true := by simp
      clear hHN
      have hAx := hA.below hB
      go_wp2_with fail
      with_reducible refine (rbytes_any _ _ _ _ xs _ hAx).mono ?_
      rintro e w' ⟨rfl, rfl⟩
      rw [HF.out]
      go_wp2_with fail
      with_reducible refine (in_yes _ _ _ _ a0 a1).mono ?_
      rintro e w' ⟨rfl, rfl⟩
      go_wp2_with fail
      with_reducible refine (rat_good _ _ _ xs a _ hAx HF.out HAB.out).mono ?_
      rintro e' w38x ⟨rfl, k38⟩
      have hB := hB.trans (k38.mono hB.size)
      clear k38
      rw [HHN.out]
      have hAx := hA.below hB
      go_wp2_with fail
      with_reducible refine (at_good _ _ _ xs a _ hAx HF.out HAB.out).mono ?_
      rintro e' w39x ⟨rfl, k39⟩
      have hB := hB.trans (k39.mono hB.size)
      clear k39
      rw [HHN.out]
      go_wp2_with fail
      with_reducible refine (error_nil _ _).mono ?_
      rintro e w' ⟨rfl, rfl⟩
      go_wp2
      go_ret
      exact ⟨rfl, hB⟩
    · obtain ⟨F, hFF⟩ : ∃ F, bytesE xs 16 = F := ⟨_, rfl⟩
      rw [hFF] at hF
      have HF := Lib.hid hFF
      have HF0 := Lib.hid hF
      have hFs : (F == F) = true := by simp
      have hFb : (F == 0) = false := by simpa using hF
      clear hF hFF
      have hAx := hA.below hB
      go_wp2_with fail
      with_reducible refine (rbytes_any _ _ _ _ xs _ hAx).mono ?_
      rintro e w' ⟨rfl, rfl⟩
      rw [HF.out]
      go_wp2_with fail
      with_reducible refine (at_full _ _ _ xs a _ hAx (by rw [HF.out]; exact HF0.out)).mono ?_
      rintro e' w36x ⟨rfl, k36⟩
      have hB := hB.trans (k36.mono hB.size)
      clear k36
      rw [HF.out]
      go_wp2_with fail
      with_reducible refine (error_err F F _ (HE.out.below hB)).mono ?_
      rintro e' w37x ⟨rfl, k37⟩
      have hB := hB.trans (k37.mono hB.size)
      clear k37
      go_wp2
      go_ret
      exact ⟨rfl, hB⟩

set_option maxHeartbeats 8000000 in
set_option maxRecDepth 100000 in
theorem walk_ok (w : World) (a : Int) (ha : -9223372036854775808 ≤ a ∧ a ≤ 9223372036854775807) (b : Int) (hb : -9223372036854775808 ≤ b ∧ b ≤ 9223372036854775807) (n : Int) (hn : -9223372036854775808 ≤ n ∧ n ≤ 9223372036854775807) (A : Option Addr) (l c : Nat) (xs : List Int) (hA : Rd w A l xs) (hc : l ≤ c) (hE : ErrT w) (a0 : 0 ≤ a) (a1 : a ≤ 255) (b0 : 0 ≤ b) (b1 : b ≤ 255) (hbn : b ≠ 0) :
    Calls Tryd.prog 4 #[.int .i64 a, .int .i64 b, .int .i64 n, .slice A l c] w fun e w' => e = .returned (.bool true) ∧ Below w.heap.size w w' := by
  have HE := Lib.hid hE
  clear hE
  have HW := Lib.hid (And.intro (show Wide a from ha) (show Wide b from hb))
  have hB : Below w.heap.size w w := Below.refl _ _
  have HAB := Lib.hid (show Byte a from ⟨a0, a1⟩)
  have HBB := Lib.hid (show Byte b from ⟨b0, b1⟩)
  have hbz : (b == 0) = false := by simpa using hbn
  have HBN := Lib.hid hbn
  clear hbn
  obtain ⟨M, hM⟩ : ∃ M, mulI a b = M := ⟨_, rfl⟩
  have HM := Lib.hid hM
  have hMs : (M == M) = true := by simp
  obtain ⟨V, hV⟩ : ∃ V, mulI a (invI b) = V := ⟨_, rfl⟩
  have HV := Lib.hid hV
  have hVs : (V == V) = true := by simp
  clear hM hV
  go_enter Tryd.func4, Tryd.ntmps4
  go_wp2_with fail
  with_reducible refine (in_yes _ _ _ _ a0 a1).mono ?_
  rintro e w' ⟨rfl, rfl⟩
  go_wp2_with fail
  with_reducible refine (in_yes _ _ _ _ b0 b1).mono ?_
  rintro e w' ⟨rfl, rfl⟩
  go_wp2_with fail
  with_reducible refine (rmul_any a b _ HAB.out HBB.out).mono ?_
  rintro e w' ⟨rfl, rfl⟩
  rw [HM.out]
  go_wp2_with fail
  with_reducible refine (Mul_ok a b _ HAB.out HBB.out).mono ?_
  rintro e' w40x ⟨rfl, k40⟩
  have hB := hB.trans (k40.mono hB.size)
  clear k40
  rw [HM.out]
  go_wp2_with fail
  with_reducible refine (error_nil _ _).mono ?_
  rintro e w' ⟨rfl, rfl⟩
  go_wp2_with fail
  with_reducible refine (rdiv_any a b _ HAB.out HBB.out HBN.out).mono ?_
  rintro e w' ⟨rfl, rfl⟩
  rw [HV.out]
  go_wp2_with fail
  with_reducible refine (Div_ok a b _ HAB.out HBB.out HBN.out).mono ?_
  rintro e' w41x ⟨rfl, k41⟩
  have hB := hB.trans (k41.mono hB.size)
  clear k41
  rw [HV.out]
  go_wp2_with fail
  with_reducible refine (error_nil _ _).mono ?_
  rintro e w' ⟨rfl, rfl⟩
  by_cases hnn2 : n < 0 ∨ 1000 < n
  · skip
    go_wp2_with fail
    with_reducible refine (in_yes _ _ _ _ a0 a1).mono ?_
    rintro e w' ⟨rfl, rfl⟩
    go_wp2_with fail
    with_reducible refine (in_no _ _ _ _ hnn2).mono ?_
    rintro e w' ⟨rfl, rfl⟩
    go_wp2_with fail
    with_reducible refine (Pow_range a n _ HAB.out hnn2).mono ?_
    rintro e' w42x ⟨rfl, k42⟩
    have hB := hB.trans (k42.mono hB.size)
    clear k42
    go_wp2_with fail
    with_reducible refine (error_err 1 1 _ (HE.out.below hB)).mono ?_
    rintro e' w43x ⟨rfl, k43⟩
    have hB := hB.trans (k43.mono hB.size)
    clear k43
    by_cases hF : bytesE xs 16 = 0
    · have HF := Lib.hid hF
      clear hF
      obtain ⟨HN, hHN⟩ : ∃ HN, horn a xs = HN := ⟨_, rfl⟩
      have HHN := Lib.hid hHN
      have hnn : (HN == HN) = true := by simp
      clear hHN
      have hAx := hA.below hB
      go_wp2_with fail
      with_reducible refine (rbytes_any _ _ _ _ xs _ hAx).mono ?_
      rintro e w' ⟨rfl, rfl⟩
      rw [HF.out]
      go_wp2_with fail
      with_reducible refine (in_yes _ _ _ _ a0 a1).mono ?_
      rintro e w' ⟨rfl, rfl⟩
      go_wp2_with fail
      with_reducible refine (rat_good _ _ _ xs a _ hAx HF.out HAB.out).mono ?_
      rintro e' w46x ⟨rfl, k46⟩
      have hB := hB.trans (k46.mono hB.size)
      clear k46
      rw [HHN.out]
      have hAx := hA.below hB
      go_wp2_with fail
      with_reducible refine (at_good _ _ _ xs a _ hAx HF.out HAB.out).mono ?_
      rintro e' w47x ⟨rfl, k47⟩
      have hB := hB.trans (k47.mono hB.size)
      clear k47
      rw [HHN.out]
      go_wp2_with fail
      with_reducible refine (error_nil _ _).mono ?_
      rintro e w' ⟨rfl, rfl⟩
      go_wp2
      go_ret
      exact ⟨rfl, hB⟩
    · obtain ⟨F, hFF⟩ : ∃ F, bytesE xs 16 = F := ⟨_, rfl⟩
      rw [hFF] at hF
      have HF := Lib.hid hFF
      have HF0 := Lib.hid hF
      have hFs : (F == F) = true := by simp
      have hFb : (F == 0) = false := by simpa using hF
      clear hF hFF
      have hAx := hA.below hB
      go_wp2_with fail
      with_reducible refine (rbytes_any _ _ _ _ xs _ hAx).mono ?_
      rintro e w' ⟨rfl, rfl⟩
      rw [HF.out]
      go_wp2_with fail
      with_reducible refine (at_full _ _ _ xs a _ hAx (by rw [HF.out]; exact HF0.out)).mono ?_
      rintro e' w44x ⟨rfl, k44⟩
      have hB := hB.trans (k44.mono hB.size)
      clear k44
      rw [HF.out]
      go_wp2_with fail
      with_reducible refine (error_err F F _ (HE.out.below hB)).mono ?_
      rintro e' w45x ⟨rfl, k45⟩
      have hB := hB.trans (k45.mono hB.size)
      clear k45
      go_wp2
      go_ret
      exact ⟨rfl, hB⟩
  · obtain ⟨nn, rfl⟩ : ∃ nn : Nat, n = nn := ⟨n.toNat, by omega⟩
    have n0 : (0 : Int) ≤ (nn : Int) := by omega
    have n1 : (nn : Int) ≤ 1000 := by omega
    obtain ⟨Q, hQ⟩ : ∃ Q, powI a nn = Q := ⟨_, rfl⟩
    have HQ := Lib.hid hQ
    have hQs : (Q == Q) = true := by simp
    clear hQ
    go_wp2_with fail
    with_reducible refine (in_yes _ _ _ _ a0 a1).mono ?_
    rintro e w' ⟨rfl, rfl⟩
    go_wp2_with fail
    with_reducible refine (in_yes _ _ _ _ n0 n1).mono ?_
    rintro e w' ⟨rfl, rfl⟩
    go_wp2_with fail
    with_reducible refine (rpow_any a nn _ HAB.out (by omega)).mono ?_
    rintro e w' ⟨rfl, rfl⟩
    rw [HQ.out]
    go_wp2_with fail
    with_reducible refine (Pow_ok a nn _ HAB.out (by omega)).mono ?_
    rintro e' w48x ⟨rfl, k48⟩
    have hB := hB.trans (k48.mono hB.size)
    clear k48
    rw [HQ.out]
    go_wp2_with fail
    with_reducible refine (error_nil _ _).mono ?_
    rintro e w' ⟨rfl, rfl⟩
    by_cases hF : bytesE xs 16 = 0
    · have HF := Lib.hid hF
      clear hF
      obtain ⟨HN, hHN⟩ : ∃ HN, horn a xs = HN := ⟨_, rfl⟩
      have HHN := Lib.hid hHN
      have hnn : (HN == HN) = true := by simp
      clear hHN
      have hAx := hA.below hB
      go_wp2_with fail
      with_reducible refine (rbytes_any _ _ _ _ xs _ hAx).mono ?_
      rintro e w' ⟨rfl, rfl⟩
      rw [HF.out]
      go_wp2_with fail
      with_reducible refine (in_yes _ _ _ _ a0 a1).mono ?_
      rintro e w' ⟨rfl, rfl⟩
      go_wp2_with fail
      with_reducible refine (rat_good _ _ _ xs a _ hAx HF.out HAB.out).mono ?_
      rintro e' w51x ⟨rfl, k51⟩
      have hB := hB.trans (k51.mono hB.size)
      clear k51
      rw [HHN.out]
      have hAx := hA.below hB
      go_wp2_with fail
      with_reducible refine (at_good _ _ _ xs a _ hAx HF.out HAB.out).mono ?_
      rintro e' w52x ⟨rfl, k52⟩
      have hB := hB.trans (k52.mono hB.size)
      clear k52
      rw [HHN.out]
      go_wp2_with fail
      with_reducible refine (error_nil _ _).mono ?_
      rintro e w' ⟨rfl, rfl⟩
      go_wp2
      go_ret
      exact ⟨rfl, hB⟩
    · obtain ⟨F, hFF⟩ : ∃ F, bytesE xs 16 = F := ⟨_, rfl⟩
      rw [hFF] at hF
      have HF := Lib.hid hFF
      have HF0 := Lib.hid hF
      have hFs : (F == F) = true := by simp
      have hFb : (F == 0) = false := by simpa using hF
      clear hF hFF
      have hAx := hA.below hB
      go_wp2_with fail
      with_reducible refine (rbytes_any _ _ _ _ xs _ hAx).mono ?_
      rintro e w' ⟨rfl, rfl⟩
      rw [HF.out]
      go_wp2_with fail
      with_reducible refine (at_full _ _ _ xs a _ hAx (by rw [HF.out]; exact HF0.out)).mono ?_
      rintro e' w49x ⟨rfl, k49⟩
      have hB := hB.trans (k49.mono hB.size)
      clear k49
      rw [HF.out]
      go_wp2_with fail
      with_reducible refine (error_err F F _ (HE.out.below hB)).mono ?_
      rintro e' w50x ⟨rfl, k50⟩
      have hB := hB.trans (k50.mono hB.size)
      clear k50
      go_wp2
      go_ret
      exact ⟨rfl, hB⟩

theorem walk (w : World) (a : Int) (ha : -9223372036854775808 ≤ a ∧ a ≤ 9223372036854775807) (b : Int) (hb : -9223372036854775808 ≤ b ∧ b ≤ 9223372036854775807) (n : Int) (hn : -9223372036854775808 ≤ n ∧ n ≤ 9223372036854775807) (A : Option Addr) (l c : Nat) (xs : List Int) (hA : Rd w A l xs) (hc : l ≤ c) (hE : ErrT w) :
    Calls Tryd.prog 4 #[.int .i64 a, .int .i64 b, .int .i64 n, .slice A l c] w fun e w' => e = .returned (.bool true) ∧ Below w.heap.size w w' := by
  by_cases haa : a < 0 ∨ 255 < a
  · exact walk_out w a ha b hb n hn A l c xs hA hc hE haa
  · by_cases hbb : b < 0 ∨ 255 < b
    · exact walk_bad w a ha b hb n hn A l c xs hA hc hE (by omega) (by omega) hbb
    · by_cases hb0 : b = 0
      · exact walk_zero w a ha b hb n hn A l c xs hA hc hE (by omega) (by omega) hb0
      · exact walk_ok w a ha b hb n hn A l c xs hA hc hE (by omega) (by omega) (by omega) (by omega) hb0

set_option maxRecDepth 100000 in
theorem lifted (os : Os) (started : os.Started) (H : Type) (enc : TypeId × Value → H) :
    ReturnsInHanded {} Tryd.checked os 4 .any (fun w args => (Rows.galoisSaysSpec.pre enc Tryd.prog Tryd.f4 [] false w args ∧ laidMetH Tryd.prog Rows.galoisSaysRow.laid w) ∧ sizedMet enc Tryd.prog Tryd.f4 (OpenSpec.ofChange Rows.galoisSaysSpec) false w args)
      (Rows.galoisSaysSpec.post enc Tryd.prog Tryd.f4 false true false false) := by
  refine returnsInHanded_of_change_and (C := Tryd.checked) (X := fun w _ => laidMetH Tryd.prog Rows.galoisSaysRow.laid w) (fun _ _ _ hh h => h.of_heap hh) own started (by kernel_rfl) Tryd.func4
    (ChangeSpec.witness_at (enc := enc) (C := Tryd.checked) (os := os) (X := fun w _ => laidMetH Tryd.prog Rows.galoisSaysRow.laid w) false (laidWorld os) #[.int .i64 0, .int .i64 0, .int .i64 0, .slice none 0 0] 8 rfl (by kernel_rfl) (by kernel_rfl) (by kernel_rfl) (by kernel_rfl) (by kernel_rfl) (laidWorld_met os _)) ?_
  intro W base args ds gs before hval0 hW _ _ hL _
  have hval : ∀ (j : Nat) t v, Tryd.f4.params[j]? = some t → args[j]? = some v → Value.okWide Tryd.prog W .any base t v := hval0
  have hW' := hW
  obtain ⟨p, q, hA0, hV, rfl, hfz, hnd⟩ := hW
  have hA : DataW.TrodAll enc Tryd.prog W 0 (fun _ => true) true Tryd.f4.params.toList args.toList ds p := hA0
  rw [Tryd.params4] at hA hval
  obtain ⟨v0, vs0, d0, ds0, p0, q0, hargs, rfl, rfl, h0, r0⟩ := trodAll_cons hA
  obtain ⟨v1, vs1, d1, ds1, p1, q1, rfl, rfl, rfl, h1, r1⟩ := trodAll_cons r0
  obtain ⟨v2, vs2, d2, ds2, p2, q2, rfl, rfl, rfl, h2, r2⟩ := trodAll_cons r1
  obtain ⟨v3, vs3, d3, ds3, p3, q3, rfl, rfl, rfl, h3, r3⟩ := trodAll_cons r2
  obtain ⟨rfl, rfl, rfl⟩ := trodAll_nil r3
  obtain rfl : args = #[v0, v1, v2, v3] := by cases args; simp_all
  obtain ⟨rfl, rfl⟩ := trodVars_none hV
  have k0 := h0
  have lt0 : ∀ x ∈ p0, x.block < W.heap.size := by obtain ⟨m, hm⟩ := k0; exact DataW.trod_lt m _ _ _ hm
  obtain ⟨a0, rfl, rfl, rfl, w0⟩ := open_int Tryd.underlying3 (hval 0 3 v0 rfl rfl) h0
  have k1 := h1
  have lt1 : ∀ x ∈ p1, x.block < W.heap.size := by obtain ⟨m, hm⟩ := k1; exact DataW.trod_lt m _ _ _ hm
  obtain ⟨a1, rfl, rfl, rfl, w1⟩ := open_int Tryd.underlying3 (hval 1 3 v1 rfl rfl) h1
  have k2 := h2
  have lt2 : ∀ x ∈ p2, x.block < W.heap.size := by obtain ⟨m, hm⟩ := k2; exact DataW.trod_lt m _ _ _ hm
  obtain ⟨a2, rfl, rfl, rfl, w2⟩ := open_int Tryd.underlying3 (hval 2 3 v2 rfl rfl) h2
  have k3 := h3
  have lt3 : ∀ x ∈ p3, x.block < W.heap.size := by obtain ⟨m, hm⟩ := k3; exact DataW.trod_lt m _ _ _ hm
  obtain ⟨A3, n3, c3, rfl⟩ := okWide_slice Tryd.underlying31 (hval 3 31 v3 rfl rfl)
  obtain ⟨xs3, w3, hc3⟩ : ∃ xs, Rd W A3 n3 xs ∧ n3 ≤ c3 := by
    obtain ⟨fuel, hf⟩ := h3
    rcases open_ints Tryd.underlying31 Tryd.underlying3 (by kernel_rfl) hf with ⟨hcs, _⟩ | ⟨x, l, c, zs, hcs, _, hl, hm, hz, _, hcell, hwz⟩
    · simp [Value.cells] at hcs
      obtain ⟨rfl, rfl, rfl⟩ := hcs
      exact ⟨[], Rd.nil _ _, Nat.le_refl _⟩
    · simp [Value.cells] at hcs
      obtain ⟨rfl, rfl, rfl⟩ := hcs
      exact ⟨_, rd_of_cells (by simp at hz; omega) hl hm hcell hwz, hl⟩
  clear hA0 hval0
  refine (walk W a0 (wf_range w0) a1 (wf_range w1) a2 (wf_range w2) A3 n3 c3 xs3 w3 hc3 (handle_of_laid hL)).mono fun e W' ⟨he, bel⟩ => ?_
  subst he
  exact ⟨_, rfl, _, _, _, [], _, [], hW', trodAll_mk1 (shut_bool Tryd.underlying4 _), (trodAll_cons_mk (Below.trod laidOut (by kernel_rfl) (of_decide_eq_true (by kernel_rfl)) k0 bel lt0) (trodAll_cons_mk (Below.trod laidOut (by kernel_rfl) (of_decide_eq_true (by kernel_rfl)) k1 bel lt1) (trodAll_cons_mk (Below.trod laidOut (by kernel_rfl) (of_decide_eq_true (by kernel_rfl)) k2 bel lt2) (trodAll_cons_mk (Below.trod laidOut (by kernel_rfl) (of_decide_eq_true (by kernel_rfl)) k3 bel lt3) trodAll_mk0)))), rfl, bel.frame _, fun h => by cases h⟩

theorem over : Rows.galoisSaysRow.holds Tryd.pinned (OpenSpec.ofChange Rows.galoisSaysSpec) :=
  OpenClaim.holds_of_wide 4 Tryd.f4 rfl rfl rfl rfl rfl rfl rfl ⟨rfl, rfl, rfl, rfl, rfl⟩ rfl rfl rfl rfl rfl (by kernel_rfl) Tryd.func4 (by kernel_rfl)
    (of_decide_eq_true (by kernel_rfl)) (by unfold Func.isWrapper; first | (rw [if_pos (by decide +kernel)]; kernel_rfl) | (rw [if_neg (by decide +kernel)]; exact ⟨rfl, rfl⟩))
    (fun os started H enc _ => lifted os started H enc)

theorem card_holds : Rows.GaloisSaysCardSaid :=
  Claim7.holds_tied_plain_at .later [] [.handle] true Rows.galoisSaysCard.stood.harness Rows.galoisSaysCard.stood.looks
    over (fun _ h => by cases h) (by kernel_rfl) (fun _ h => by cases h) galoisSays_row_tie rfl ⟨rfl, rfl⟩ (by kernel_rfl) rfl
    (fun f fn hf hfn => by
      obtain rfl : f = 4 := Option.some.inj ((show Tryd.prog.funcNamed "platterhold/platterholdlaw1.GaloisSays" = some 4 by kernel_rfl).symm.trans hf) |>.symm
      obtain rfl : fn = Tryd.f4 := (Option.some.inj (Tryd.func4.symm.trans hfn)).symm
      exact ⟨by kernel_rfl, fun j t ht => by
        rw [Tryd.params4] at ht
        have hm : t ∈ [3, 3, 3, 31] := by simpa using Array.mem_of_getElem? ht
        have hall : ([3, 3, 3, 31].all fun u => !Tryd.prog.wantsStandIn u) = true := by kernel_rfl
        exact (show Tryd.prog.wantsStandIn t = false by simpa using List.all_eq_true.1 hall t hm)⟩)
    (by kernel_rfl)
theorem proved : Rows.GaloisSaysCardSaid := card_holds
#print axioms proved
end Go.Proofs.YtdhfckdnfppieaaDoor.galoisSays
