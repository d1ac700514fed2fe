/- Any single inverted bit is located and corrected: HammingFix answers true at every two ints; the table hamming.checks is tied to the program's text. Conditions: none beside the card's own. -/
import Derived.Test.YtfkbbmomanaabaaDoorOpenH
import Derived.Test.YtfkbbmomanaabaaDoorHamL
import Derived.Test.YtfkbbmomanaabaaDoorXor
import Derived.Test.YtfkbbmomanaabaaDoorPower
namespace Go.Proofs.YtfkbbmomanaabaaDoor.hammingFix
open Go Go.ChangeShapes Go.WideShapes Go.ChangeAt Go.RowKit
set_option linter.unusedVariables false

set_option maxHeartbeats 1000000 in
theorem walk (w : World) (n : Int) (hn : -9223372036854775808 ≤ n ∧ n ≤ 9223372036854775807) (p : Int) (hp : -9223372036854775808 ≤ p ∧ p ≤ 9223372036854775807) (hT : ChkT w) :
    Calls Tryd.prog 3 #[.int .i64 n, .int .i64 p] w fun e w' => e = .returned (.bool true) ∧ Below w.heap.size w w' := by
  have HT := Lib.hid hT
  clear hT
  by_cases hn1 : 0 ≤ n ∧ n ≤ 15
  · obtain ⟨n0, n15⟩ := hn1
    have hr := write_range n0 n15
    obtain ⟨W, hW⟩ : ∃ W, writeI n = W := ⟨_, rfl⟩
    rw [hW] at hr
    obtain ⟨W0, W127⟩ := hr
    have HW := Lib.hid hW
    clear hW
    by_cases hp1 : 0 ≤ p ∧ p ≤ 7
    · obtain ⟨p0, p7⟩ := hp1
      by_cases hz : p = 0
      · subst hz
        have hf := ham_fix0 n0 n15
        rw [HW.out] at hf
        have H1 := Lib.hid hf.1
        have H2 := Lib.hid hf.2
        clear hf
        go_enter Tryd.func3, Tryd.ntmps3
        go_wp2_with fail
        with_reducible refine (hammingFact_any _ HT.out).mono ?_
        rintro e w5 ⟨rfl, hB⟩
        go_wp2_with fail
        with_reducible refine (write_ok n _ n0 n15 (HT.out.below hB)).mono ?_
        rintro e w6 ⟨rfl, k⟩
        rw [HW.out]
        have hB := chain hB k
        clear k
        go_wp2_with fail
        with_reducible refine (in_yes _ _ _ _ p0 p7).mono ?_
        rintro e w' ⟨rfl, rfl⟩
        go_wp2_with fail
        with_reducible refine (in_yes _ _ _ _ W0 W127).mono ?_
        rintro e w' ⟨rfl, rfl⟩
        go_wp2_with fail
        with_reducible refine (read_ok W _ W0 W127 (HT.out.below hB)).mono ?_
        rintro e w9 ⟨rfl, k⟩
        rw [H1.out, H2.out]
        have hB := chain hB k
        clear k
        go_wp2
        go_ret
        exact ⟨rfl, hB⟩
      · have hp0 : 0 < p := by omega
        have hf := ham_fix n0 n15 (show 1 ≤ p by omega) p7
        rw [HW.out] at hf
        obtain ⟨P, hP⟩ : ∃ P, ((2 ^ (p - 1).toNat : Nat) : Int) = P := ⟨_, rfl⟩
        have P0 : 0 ≤ P := by rw [← hP]; exact Int.natCast_nonneg _
        rw [hP] at hf
        have HP := Lib.hid hP
        obtain ⟨h1, h2, h3, h4⟩ := hf
        obtain ⟨X, hX⟩ : ∃ X, xorI W P = X := ⟨_, rfl⟩
        have X0 : 0 ≤ X := by rw [← hX]; exact xorI_nonneg _ _
        rw [hX] at h1 h2 h3
        have HX := Lib.hid hX
        have H1 := Lib.hid h1
        have H2 := Lib.hid h2
        clear hP hX h1 h2 hz
        go_enter Tryd.func3, Tryd.ntmps3
        go_wp2_with fail
        with_reducible refine (hammingFact_any _ HT.out).mono ?_
        rintro e w10 ⟨rfl, hB⟩
        go_wp2_with fail
        with_reducible refine (write_ok n _ n0 n15 (HT.out.below hB)).mono ?_
        rintro e w11 ⟨rfl, k⟩
        rw [HW.out]
        have hB := chain hB k
        clear k
        go_wp2_with fail
        with_reducible refine (in_yes _ _ _ _ p0 p7).mono ?_
        rintro e w' ⟨rfl, rfl⟩
        go_wp2_with fail
        with_reducible refine (in_yes _ _ _ _ W0 W127).mono ?_
        rintro e w' ⟨rfl, rfl⟩
        go_wp2_with fail
        with_reducible refine (power_any (p - 1) _ (by omega) (by omega)).mono ?_
        rintro e w' ⟨rfl, rfl⟩
        rw [HP.out]
        go_wp2_with fail
        with_reducible refine (xor_any W P _ W0 (by omega) P0 (by omega)).mono ?_
        rintro e w' ⟨rfl, rfl⟩
        rw [HX.out]
        go_wp2_with fail
        with_reducible refine (read_ok X _ X0 h3 (HT.out.below hB)).mono ?_
        rintro e w16 ⟨rfl, k⟩
        rw [H1.out, H2.out]
        have hB := chain hB k
        clear k
        go_wp2
        go_ret
        exact ⟨rfl, hB⟩
    · skip
      go_enter Tryd.func3, Tryd.ntmps3
      go_wp2_with fail
      with_reducible refine (hammingFact_any _ HT.out).mono ?_
      rintro e w17 ⟨rfl, hB⟩
      go_wp2_with fail
      with_reducible refine (write_ok n _ n0 n15 (HT.out.below hB)).mono ?_
      rintro e w18 ⟨rfl, k⟩
      rw [HW.out]
      have hB := chain hB k
      clear k
      go_wp2_with fail
      with_reducible refine (in_no _ _ _ _ (by omega)).mono ?_
      rintro e w' ⟨rfl, rfl⟩
      go_wp2_with fail
      with_reducible refine (in_yes _ _ _ _ W0 W127).mono ?_
      rintro e w' ⟨rfl, rfl⟩
      go_wp2
      go_ret
      exact ⟨rfl, hB⟩
  · skip
    go_enter Tryd.func3, Tryd.ntmps3
    go_wp2_with fail
    with_reducible refine (hammingFact_any _ HT.out).mono ?_
    rintro e w21 ⟨rfl, hB⟩
    go_wp2_with fail
    with_reducible refine (write_bad n _ (by omega)).mono ?_
    rintro e w' ⟨rfl, rfl⟩
    go_wp2_with fail
    with_reducible refine (in_no _ _ _ _ (by omega)).mono ?_
    rintro e w' ⟨rfl, rfl⟩
    go_wp2
    go_ret
    exact ⟨rfl, hB⟩

set_option maxRecDepth 100000 in
theorem lifted (os : Os) (started : os.Started) (H : Type) (enc : TypeId × Value → H) :
    ReturnsInHanded {} Tryd.checked os 3 .any (fun w args => (Rows.hammingFixSpec.pre enc Tryd.prog Tryd.f3 [] false w args ∧ laidMetH Tryd.prog Rows.hammingFixRow.laid w) ∧ sizedMet enc Tryd.prog Tryd.f3 (OpenSpec.ofChange Rows.hammingFixSpec) false w args)
      (Rows.hammingFixSpec.post enc Tryd.prog Tryd.f3 false true false false) := by
  refine returnsInHanded_of_change_and (C := Tryd.checked) (X := fun w _ => laidMetH Tryd.prog Rows.hammingFixRow.laid w) (fun _ _ _ hh h => h.of_heap hh) own started (by kernel_rfl) Tryd.func3
    (ChangeSpec.witness_at (enc := enc) (C := Tryd.checked) (os := os) (X := fun w _ => laidMetH Tryd.prog Rows.hammingFixRow.laid w) false (laidWorldC os) #[.int .i64 0, .int .i64 0] 8 rfl (by kernel_rfl) (by kernel_rfl) (by kernel_rfl) (by kernel_rfl) (by kernel_rfl) (laidWorldC_met os _)) ?_
  intro W base args ds gs before hval0 hW _ _ hL _
  have hval : ∀ (j : Nat) t v, Tryd.f3.params[j]? = some t → args[j]? = some v → Value.okWide Tryd.prog W .any base t v := hval0
  have hW' := hW
  obtain ⟨p, q, hA0, hV, rfl, hfz, hnd⟩ := hW
  have hA : DataW.TrodAll enc Tryd.prog W 0 (fun _ => true) true Tryd.f3.params.toList args.toList ds p := hA0
  rw [Tryd.params3] at hA hval
  obtain ⟨v0, vs0, d0, ds0, p0, q0, hargs, rfl, rfl, h0, r0⟩ := trodAll_cons hA
  obtain ⟨v1, vs1, d1, ds1, p1, q1, rfl, rfl, rfl, h1, r1⟩ := trodAll_cons r0
  obtain ⟨rfl, rfl, rfl⟩ := trodAll_nil r1
  obtain rfl : args = #[v0, v1] := by cases args; simp_all
  obtain ⟨rfl, rfl⟩ := trodVars_none hV
  have k0 := h0
  have lt0 : ∀ x ∈ p0, x.block < W.heap.size := by obtain ⟨m, hm⟩ := k0; exact DataW.trod_lt m _ _ _ hm
  obtain ⟨a0, rfl, rfl, rfl, w0⟩ := open_int Tryd.underlying3 (hval 0 3 v0 rfl rfl) h0
  have k1 := h1
  have lt1 : ∀ x ∈ p1, x.block < W.heap.size := by obtain ⟨m, hm⟩ := k1; exact DataW.trod_lt m _ _ _ hm
  obtain ⟨a1, rfl, rfl, rfl, w1⟩ := open_int Tryd.underlying3 (hval 1 3 v1 rfl rfl) h1
  clear hA0 hval0
  refine (walk W a0 (wf_range w0) a1 (wf_range w1) (chk_of_laidC hL)).mono fun e W' ⟨he, bel⟩ => ?_
  subst he
  exact ⟨_, rfl, _, _, _, [], _, [], hW', trodAll_mk1 (shut_bool Tryd.underlying4 _), (trodAll_cons_mk (Below.trod laidOut (by kernel_rfl) (of_decide_eq_true (by kernel_rfl)) k0 bel lt0) (trodAll_cons_mk (Below.trod laidOut (by kernel_rfl) (of_decide_eq_true (by kernel_rfl)) k1 bel lt1) trodAll_mk0)), rfl, bel.frame _, fun h => by cases h⟩

theorem over : Rows.hammingFixRow.holds Tryd.pinned (OpenSpec.ofChange Rows.hammingFixSpec) :=
  OpenClaim.holds_of_wide 3 Tryd.f3 rfl rfl rfl rfl rfl rfl rfl ⟨rfl, rfl, rfl, rfl, rfl⟩ rfl rfl rfl rfl rfl (by kernel_rfl) Tryd.func3 (by kernel_rfl)
    (of_decide_eq_true (by kernel_rfl)) (by unfold Func.isWrapper; first | (rw [if_pos (by decide +kernel)]; kernel_rfl) | (rw [if_neg (by decide +kernel)]; exact ⟨rfl, rfl⟩))
    (fun os started H enc _ => lifted os started H enc)

theorem card_holds : Rows.HammingFixCardSaid :=
  Claim7.holds_tied_plain_at .later [] [.data] true Rows.hammingFixCard.stood.harness Rows.hammingFixCard.stood.looks
    over (fun _ h => by cases h) (by kernel_rfl) (fun _ h => by cases h) hammingFix_row_tie rfl ⟨rfl, rfl⟩ (by kernel_rfl) rfl
    (fun f fn hf hfn => by
      obtain rfl : f = 3 := Option.some.inj ((show Tryd.prog.funcNamed "platterhold/platterholdlaw1.HammingFix" = some 3 by kernel_rfl).symm.trans hf) |>.symm
      obtain rfl : fn = Tryd.f3 := (Option.some.inj (Tryd.func3.symm.trans hfn)).symm
      exact ⟨by kernel_rfl, fun j t ht => by
        rw [Tryd.params3] at ht
        have hm : t ∈ [3, 3] := by simpa using Array.mem_of_getElem? ht
        have hall : ([3, 3].all fun u => !Tryd.prog.wantsStandIn u) = true := by kernel_rfl
        exact (show Tryd.prog.wantsStandIn t = false by simpa using List.all_eq_true.1 hall t hm)⟩)
    (by kernel_rfl)
theorem proved : Rows.HammingFixCardSaid := card_holds
#print axioms proved
end Go.Proofs.YtfkbbmomanaabaaDoor.hammingFix
