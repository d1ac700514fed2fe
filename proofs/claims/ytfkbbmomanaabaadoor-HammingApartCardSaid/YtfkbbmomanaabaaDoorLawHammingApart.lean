/- Code words differ in at least three bits, and their exclusive or is a code word: HammingApart answers true at every two ints; the table hamming.checks is tied to the program's text. Conditions: none beside the card's own. -/
import Derived.Test.YtfkbbmomanaabaaDoorOpenH
import Derived.Test.YtfkbbmomanaabaaDoorHamL
import Derived.Test.YtfkbbmomanaabaaDoorXor
namespace Go.Proofs.YtfkbbmomanaabaaDoor.hammingApart
open Go Go.ChangeShapes Go.WideShapes Go.ChangeAt Go.RowKit
set_option linter.unusedVariables false

set_option maxHeartbeats 1000000 in
theorem walk_in (w : World) (a b : Int) (a0 : 0 ≤ a) (a15 : a ≤ 15) (b0 : 0 ≤ b) (b15 : b ≤ 15) (hT : ChkT w) :
    Calls Tryd.prog 4 #[.int .i64 a, .int .i64 b] w fun e w' => e = .returned (.bool true) ∧ Below w.heap.size w w' := by
  have HT := Lib.hid hT
  clear hT
  have hx := write_range a0 a15
  have hy := write_range b0 b15
  obtain ⟨hs, hs15, hd127, hpe, hpn⟩ := ham_sum a0 a15 b0 b15
  obtain ⟨X, hX⟩ : ∃ X, writeI a = X := ⟨_, rfl⟩
  obtain ⟨Y, hY⟩ : ∃ Y, writeI b = Y := ⟨_, rfl⟩
  rw [hX] at hx hs hd127 hpe hpn
  rw [hY] at hy hs hd127 hpe hpn
  obtain ⟨x0, x127⟩ := hx
  obtain ⟨y0, y127⟩ := hy
  obtain ⟨S, hS⟩ : ∃ S, xorI a b = S := ⟨_, rfl⟩
  have s0 : 0 ≤ S := by rw [← hS]; exact xorI_nonneg _ _
  rw [hS] at hs hs15
  obtain ⟨D, hD⟩ : ∃ D, xorI X Y = D := ⟨_, rfl⟩
  have d0 : 0 ≤ D := by rw [← hD]; exact xorI_nonneg _ _
  rw [hD] at hs hd127 hpe hpn
  obtain ⟨d, rfl⟩ := Int.eq_ofNat_of_zero_le d0
  obtain ⟨T, hTp⟩ : ∃ T, popI (d : Int) = T := ⟨_, rfl⟩
  have hT8 : T ≤ 8 := by rw [← hTp]; exact popF_le 8 _
  rw [hTp] at hpe hpn
  have hTp' : popF 8 d = T := by rw [← hTp]; simp [popI]
  have HX := Lib.hid hX
  have HY := Lib.hid hY
  have HS := Lib.hid hS
  have HD := Lib.hid hD
  have HW := Lib.hid hs
  have HP := Lib.hid hTp'
  have HPE := Lib.hid hpe
  have HPN := Lib.hid hpn
  clear hX hY hS hD hs hTp hTp' hpe hpn d0
  go_enter Tryd.func4, Tryd.ntmps4
  go_wp2_with fail
  with_reducible refine (hammingFact_any _ HT.out).mono ?_
  rintro e w1 ⟨rfl, hB⟩
  go_wp2_with fail
  with_reducible refine (write_ok a _ a0 a15 (HT.out.below hB)).mono ?_
  rintro e w2 ⟨rfl, k⟩
  rw [HX.out]
  have hB := chain hB k
  clear k
  go_wp2_with fail
  with_reducible refine (write_ok b _ b0 b15 (HT.out.below hB)).mono ?_
  rintro e w3 ⟨rfl, k⟩
  rw [HY.out]
  have hB := chain hB k
  clear k
  go_wp2_with fail
  with_reducible refine (in_yes _ _ _ _ x0 x127).mono ?_
  rintro e w' ⟨rfl, rfl⟩
  go_wp2_with fail
  with_reducible refine (in_yes _ _ _ _ y0 y127).mono ?_
  rintro e w' ⟨rfl, rfl⟩
  go_wp2_with fail
  with_reducible refine (xor_any X Y _ x0 (by omega) y0 (by omega)).mono ?_
  rintro e w' ⟨rfl, rfl⟩
  rw [HD.out]
  go_wp2
  go_loop [10, 11] (fun sa sd => ∃ p q j : Nat, sa = .int .i64 p ∧ sd = .int .i64 q ∧ q < 2 ^ j ∧ j ≤ 8 ∧ p + popF j q = T) (fun _ sd => (intOf sd).toNat)
  case atStart => exact ⟨0, d, 8, rfl, rfl, by omega, by omega, by rw [Nat.zero_add]; exact HP.out⟩
  case round =>
    obtain ⟨p, q, j, rfl, rfl, hq, hj, hsum⟩ := hrel
    have hp8 : p ≤ 8 := by omega
    have HQ := Lib.hid hq
    have HSUM := Lib.hid hsum
    clear hq hsum
    have hq256 : q < 256 := by
      have h8 : (2 : Nat) ^ j ≤ 2 ^ 8 := Nat.pow_le_pow_right (by decide) hj
      have := HQ.out; omega
    by_cases hpos : 0 < q
    · obtain ⟨i, rfl⟩ : ∃ i, j = i + 1 := by
        rcases j with _ | i
        · have := HQ.out; simp at this; omega
        · exact ⟨i, rfl⟩
      have hq2 : q / 2 < 2 ^ i := by have := HQ.out; rw [Nat.pow_succ] at this; omega
      have hs2 : p + q % 2 + popF i (q / 2) = T := by have : p + (q % 2 + popF i (q / 2)) = T := HSUM.out; omega
      have HQ2 := Lib.hid hq2
      have HS2 := Lib.hid hs2
      clear hq2 hs2
      go_wp2
      go_round
      case rel => exact ⟨p + q % 2, q / 2, i, by go_num, by go_num, HQ2.out, by omega, HS2.out⟩
      case measure => simp [intOf]; omega
    · obtain rfl : q = 0 := by omega
      have hpT : p = T := by have := HSUM.out; rw [popF_zero] at this; omega
      subst hpT
      by_cases hab : a = b
      · subst hab
        have hT0 := HPE.out rfl
        subst hT0
        go_wp2_with fail
        with_reducible refine (xor_any a a _ a0 (by omega) b0 (by omega)).mono ?_
        rintro e w' ⟨rfl, rfl⟩
        rw [HS.out]
        go_wp2_with fail
        with_reducible refine (write_ok S _ s0 hs15 (HT.out.below hB)).mono ?_
        rintro e w8 ⟨rfl, k⟩
        rw [HW.out]
        have hB := chain hB k
        clear k
        go_wp2_with fail
        with_reducible refine (xor_any X Y _ x0 (by omega) y0 (by omega)).mono ?_
        rintro e w' ⟨rfl, rfl⟩
        rw [HD.out]
        go_wp2
        go_ret
        exact ⟨rfl, hB⟩
      · have hT3 := HPN.out hab
        have hb1 : (a == b) = false := by simpa using hab
        have hb2 : (a != b) = true := by simpa using hab
        have hd3 : decide ((3 : Int) ≤ (p : Int)) = true := by simp; omega
        clear hab
        go_wp2_with fail
        with_reducible refine (xor_any a b _ a0 (by omega) b0 (by omega)).mono ?_
        rintro e w' ⟨rfl, rfl⟩
        rw [HS.out]
        go_wp2_with fail
        with_reducible refine (write_ok S _ s0 hs15 (HT.out.below hB)).mono ?_
        rintro e w11 ⟨rfl, k⟩
        rw [HW.out]
        have hB := chain hB k
        clear k
        go_wp2_with fail
        with_reducible refine (xor_any X Y _ x0 (by omega) y0 (by omega)).mono ?_
        rintro e w' ⟨rfl, rfl⟩
        rw [HD.out]
        go_wp2
        go_ret
        exact ⟨rfl, hB⟩

set_option maxHeartbeats 1000000 in
theorem walk (w : World) (a : Int) (ha : -9223372036854775808 ≤ a ∧ a ≤ 9223372036854775807) (b : Int) (hb : -9223372036854775808 ≤ b ∧ b ≤ 9223372036854775807) (hT : ChkT w) :
    Calls Tryd.prog 4 #[.int .i64 a, .int .i64 b] w fun e w' => e = .returned (.bool true) ∧ Below w.heap.size w w' := by
  have HT := Lib.hid hT
  clear hT
  by_cases h1 : 0 ≤ a ∧ a ≤ 15
  · obtain ⟨a0, a15⟩ := h1
    by_cases h2 : 0 ≤ b ∧ b ≤ 15
    · exact walk_in w a b a0 a15 h2.1 h2.2 HT.out
    · skip
      go_enter Tryd.func4, Tryd.ntmps4
      go_wp2_with fail
      with_reducible refine (hammingFact_any _ HT.out).mono ?_
      rintro e w13 ⟨rfl, hB⟩
      go_wp2_with fail
      with_reducible refine (write_ok a _ a0 a15 (HT.out.below hB)).mono ?_
      rintro e w14 ⟨rfl, k⟩
      have hB := chain hB k
      clear k
      go_wp2_with fail
      with_reducible refine (write_bad b _ (by omega)).mono ?_
      rintro e w' ⟨rfl, rfl⟩
      go_wp2_with fail
      with_reducible refine (in_yes _ _ _ _ a0 a15).mono ?_
      rintro e w' ⟨rfl, rfl⟩
      go_wp2_with fail
      with_reducible refine (in_no _ _ _ _ (by omega)).mono ?_
      rintro e w' ⟨rfl, rfl⟩
      go_wp2
      go_ret
      exact ⟨rfl, hB⟩
  · by_cases h2 : 0 ≤ b ∧ b ≤ 15
    · obtain ⟨b0, b15⟩ := h2
      go_enter Tryd.func4, Tryd.ntmps4
      go_wp2_with fail
      with_reducible refine (hammingFact_any _ HT.out).mono ?_
      rintro e w18 ⟨rfl, hB⟩
      go_wp2_with fail
      with_reducible refine (write_bad a _ (by omega)).mono ?_
      rintro e w' ⟨rfl, rfl⟩
      go_wp2_with fail
      with_reducible refine (write_ok b _ b0 b15 (HT.out.below hB)).mono ?_
      rintro e w20 ⟨rfl, k⟩
      have hB := chain hB k
      clear k
      go_wp2_with fail
      with_reducible refine (in_no _ _ _ _ (by omega)).mono ?_
      rintro e w' ⟨rfl, rfl⟩
      go_wp2
      go_ret
      exact ⟨rfl, hB⟩
    · skip
      go_enter Tryd.func4, Tryd.ntmps4
      go_wp2_with fail
      with_reducible refine (hammingFact_any _ HT.out).mono ?_
      rintro e w22 ⟨rfl, hB⟩
      go_wp2_with fail
      with_reducible refine (write_bad a _ (by omega)).mono ?_
      rintro e w' ⟨rfl, rfl⟩
      go_wp2_with fail
      with_reducible refine (write_bad b _ (by omega)).mono ?_
      rintro e w' ⟨rfl, rfl⟩
      go_wp2_with fail
      with_reducible refine (in_no _ _ _ _ (by omega)).mono ?_
      rintro e w' ⟨rfl, rfl⟩
      go_wp2
      go_ret
      exact ⟨rfl, hB⟩

set_option maxRecDepth 100000 in
theorem lifted (os : Os) (started : os.Started) (H : Type) (enc : TypeId × Value → H) :
    ReturnsInHanded {} Tryd.checked os 4 .any (fun w args => (Rows.hammingApartSpec.pre enc Tryd.prog Tryd.f4 [] false w args ∧ laidMetH Tryd.prog Rows.hammingApartRow.laid w) ∧ sizedMet enc Tryd.prog Tryd.f4 (OpenSpec.ofChange Rows.hammingApartSpec) false w args)
      (Rows.hammingApartSpec.post enc Tryd.prog Tryd.f4 false true false false) := by
  refine returnsInHanded_of_change_and (C := Tryd.checked) (X := fun w _ => laidMetH Tryd.prog Rows.hammingApartRow.laid w) (fun _ _ _ hh h => h.of_heap hh) own started (by kernel_rfl) Tryd.func4
    (ChangeSpec.witness_at (enc := enc) (C := Tryd.checked) (os := os) (X := fun w _ => laidMetH Tryd.prog Rows.hammingApartRow.laid w) false (laidWorldC os) #[.int .i64 0, .int .i64 0] 8 rfl (by kernel_rfl) (by kernel_rfl) (by kernel_rfl) (by kernel_rfl) (by kernel_rfl) (laidWorldC_met os _)) ?_
  intro W base args ds gs before hval0 hW _ _ hL _
  have hval : ∀ (j : Nat) t v, Tryd.f4.params[j]? = some t → args[j]? = some v → Value.okWide Tryd.prog W .any base t v := hval0
  have hW' := hW
  obtain ⟨p, q, hA0, hV, rfl, hfz, hnd⟩ := hW
  have hA : DataW.TrodAll enc Tryd.prog W 0 (fun _ => true) true Tryd.f4.params.toList args.toList ds p := hA0
  rw [Tryd.params4] at hA hval
  obtain ⟨v0, vs0, d0, ds0, p0, q0, hargs, rfl, rfl, h0, r0⟩ := trodAll_cons hA
  obtain ⟨v1, vs1, d1, ds1, p1, q1, rfl, rfl, rfl, h1, r1⟩ := trodAll_cons r0
  obtain ⟨rfl, rfl, rfl⟩ := trodAll_nil r1
  obtain rfl : args = #[v0, v1] := by cases args; simp_all
  obtain ⟨rfl, rfl⟩ := trodVars_none hV
  have k0 := h0
  have lt0 : ∀ x ∈ p0, x.block < W.heap.size := by obtain ⟨m, hm⟩ := k0; exact DataW.trod_lt m _ _ _ hm
  obtain ⟨a0, rfl, rfl, rfl, w0⟩ := open_int Tryd.underlying3 (hval 0 3 v0 rfl rfl) h0
  have k1 := h1
  have lt1 : ∀ x ∈ p1, x.block < W.heap.size := by obtain ⟨m, hm⟩ := k1; exact DataW.trod_lt m _ _ _ hm
  obtain ⟨a1, rfl, rfl, rfl, w1⟩ := open_int Tryd.underlying3 (hval 1 3 v1 rfl rfl) h1
  clear hA0 hval0
  refine (walk W a0 (wf_range w0) a1 (wf_range w1) (chk_of_laidC hL)).mono fun e W' ⟨he, bel⟩ => ?_
  subst he
  exact ⟨_, rfl, _, _, _, [], _, [], hW', trodAll_mk1 (shut_bool Tryd.underlying4 _), (trodAll_cons_mk (Below.trod laidOut (by kernel_rfl) (of_decide_eq_true (by kernel_rfl)) k0 bel lt0) (trodAll_cons_mk (Below.trod laidOut (by kernel_rfl) (of_decide_eq_true (by kernel_rfl)) k1 bel lt1) trodAll_mk0)), rfl, bel.frame _, fun h => by cases h⟩

theorem over : Rows.hammingApartRow.holds Tryd.pinned (OpenSpec.ofChange Rows.hammingApartSpec) :=
  OpenClaim.holds_of_wide 4 Tryd.f4 rfl rfl rfl rfl rfl rfl rfl ⟨rfl, rfl, rfl, rfl, rfl⟩ rfl rfl rfl rfl rfl (by kernel_rfl) Tryd.func4 (by kernel_rfl)
    (of_decide_eq_true (by kernel_rfl)) (by unfold Func.isWrapper; first | (rw [if_pos (by decide +kernel)]; kernel_rfl) | (rw [if_neg (by decide +kernel)]; exact ⟨rfl, rfl⟩))
    (fun os started H enc _ => lifted os started H enc)

theorem card_holds : Rows.HammingApartCardSaid :=
  Claim7.holds_tied_plain_at .later [] [.data] true Rows.hammingApartCard.stood.harness Rows.hammingApartCard.stood.looks
    over (fun _ h => by cases h) (by kernel_rfl) (fun _ h => by cases h) hammingApart_row_tie rfl ⟨rfl, rfl⟩ (by kernel_rfl) rfl
    (fun f fn hf hfn => by
      obtain rfl : f = 4 := Option.some.inj ((show Tryd.prog.funcNamed "platterhold/platterholdlaw1.HammingApart" = some 4 by kernel_rfl).symm.trans hf) |>.symm
      obtain rfl : fn = Tryd.f4 := (Option.some.inj (Tryd.func4.symm.trans hfn)).symm
      exact ⟨by kernel_rfl, fun j t ht => by
        rw [Tryd.params4] at ht
        have hm : t ∈ [3, 3] := by simpa using Array.mem_of_getElem? ht
        have hall : ([3, 3].all fun u => !Tryd.prog.wantsStandIn u) = true := by kernel_rfl
        exact (show Tryd.prog.wantsStandIn t = false by simpa using List.all_eq_true.1 hall t hm)⟩)
    (by kernel_rfl)
theorem proved : Rows.HammingApartCardSaid := card_holds
#print axioms proved
end Go.Proofs.YtfkbbmomanaabaaDoor.hammingApart
