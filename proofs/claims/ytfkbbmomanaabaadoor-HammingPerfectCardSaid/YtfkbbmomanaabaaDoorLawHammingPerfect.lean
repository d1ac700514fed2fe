/- Every word is a code word or differs from exactly one code word in one bit: HammingPerfect answers true at every int; hamming.checks and errors.errorType are tied to the program's text. Conditions: none beside the card's own. -/
import Derived.Test.YtfkbbmomanaabaaDoorOpenH
import Derived.Test.YtfkbbmomanaabaaDoorHamL
import Derived.Test.YtfkbbmomanaabaaDoorXor
namespace Go.Proofs.YtfkbbmomanaabaaDoor.hammingPerfect
open Go Go.ChangeShapes Go.WideShapes Go.ChangeAt Go.RowKit
set_option linter.unusedVariables false

theorem near_step (v : Int) (k d : Nat) (T : Nat) (hd : xorI (writeI (k : Int)) v = (d : Int)) (hT : popF 8 d = T) : nearN v (k + 1) = nearN v k + if T ≤ 1 then 1 else 0 := by
  show nearN v k + (if popI (xorI (writeI (k : Int)) v) ≤ 1 then 1 else 0) = _
  rw [hd]
  have : popI (d : Int) = T := by rw [← hT]; simp [popI]
  rw [this]

set_option maxHeartbeats 1000000 in
set_option maxRecDepth 100000 in
theorem walk_in (w : World) (v : Int) (v0 : 0 ≤ v) (v127 : v ≤ 127) (hT : ChkT w) :
    Calls Tryd.prog 6 #[.int .i64 v] w fun e w' => e = .returned (.bool true) ∧ Below w.heap.size w w' := by
  have HT := Lib.hid hT
  have HN := Lib.hid (ham_near v0 v127)
  clear hT
  go_enter Tryd.func6, Tryd.ntmps6
  go_wp2_with fail
  with_reducible refine (hammingFact_any _ HT.out).mono ?_
  rintro e w1 ⟨rfl, hB⟩
  go_wp2_with fail
  with_reducible refine (in_yes _ _ _ _ v0 v127).mono ?_
  rintro e w' ⟨rfl, rfl⟩
  go_wp2
  go_loopw [7, 8] (fun sm sn wr => ∃ k m : Nat, k ≤ 16 ∧ sn = .int .i64 k ∧ sm = .int .i64 m ∧ m = nearN v k ∧ Below w.heap.size w wr) (fun _ sn _ => 16 - (intOf sn).toNat)
  case atStart => exact ⟨0, 0, by omega, rfl, rfl, rfl, hB⟩
  case round =>
    obtain ⟨k, m, hk, rfl, rfl, hm, hB⟩ := hrel
    have hm16 : m ≤ 16 := by have := nearN_le v k; omega
    have HM := Lib.hid hm
    clear hm
    by_cases hlt : k < 16
    · have k0 : (0 : Int) ≤ (k : Int) := by omega
      have k15 : (k : Int) ≤ 15 := by omega
      have hx := write_range k0 k15
      obtain ⟨X, hX⟩ : ∃ X, writeI (k : Int) = X := ⟨_, rfl⟩
      rw [hX] at hx
      obtain ⟨x0, x127⟩ := hx
      obtain ⟨D, hD⟩ : ∃ D, xorI X v = D := ⟨_, rfl⟩
      have d0 : 0 ≤ D := by rw [← hD]; exact xorI_nonneg _ _
      have d127 : D < 256 := by rw [← hD]; exact xorI_256 (by omega) (by omega)
      obtain ⟨d, rfl⟩ := Int.eq_ofNat_of_zero_le d0
      obtain ⟨T, hTp⟩ : ∃ T, popF 8 d = T := ⟨_, rfl⟩
      have hT8 : T ≤ 8 := by rw [← hTp]; exact popF_le 8 _
      have hstep := near_step v k d T (by rw [hX, hD]) hTp
      have HX := Lib.hid hX
      have HD := Lib.hid hD
      have HP := Lib.hid hTp
      have HS := Lib.hid hstep
      clear hX hD hTp hstep d0
      go_wp2_with fail
      with_reducible refine (write_ok k _ k0 k15 (HT.out.below hB)).mono ?_
      rintro e w3 ⟨rfl, k⟩
      rw [HX.out]
      have hB := chain hB k
      clear k
      go_wp2_with fail
      with_reducible refine (in_yes _ _ _ _ x0 x127).mono ?_
      rintro e w' ⟨rfl, rfl⟩
      go_wp2_with fail
      with_reducible refine (xor_any X v _ x0 (by omega) v0 (by omega)).mono ?_
      rintro e w' ⟨rfl, rfl⟩
      rw [HD.out]
      go_wp2
      go_loop [11, 12] (fun sa sd => ∃ p q j : Nat, sa = .int .i64 p ∧ sd = .int .i64 q ∧ q < 2 ^ j ∧ j ≤ 8 ∧ p + popF j q = T) (fun _ sd => (intOf sd).toNat)
      case atStart => exact ⟨0, d, 8, rfl, rfl, by omega, by omega, by rw [Nat.zero_add]; exact HP.out⟩
      case round =>
        obtain ⟨p, q, j, rfl, rfl, hq, hj, hsum⟩ := hrel
        have hp8 : p ≤ 8 := by omega
        have HQ := Lib.hid hq
        have HSUM := Lib.hid hsum
        clear hq hsum
        have hq256 : q < 256 := by
          have h8 : (2 : Nat) ^ j ≤ 2 ^ 8 := Nat.pow_le_pow_right (by decide) hj
          have := HQ.out; omega
        by_cases hpos : 0 < q
        · obtain ⟨i, rfl⟩ : ∃ i, j = i + 1 := by
            rcases j with _ | i
            · have := HQ.out; simp at this; omega
            · exact ⟨i, rfl⟩
          have hq2 : q / 2 < 2 ^ i := by have := HQ.out; rw [Nat.pow_succ] at this; omega
          have hs2 : p + q % 2 + popF i (q / 2) = T := by have : p + (q % 2 + popF i (q / 2)) = T := HSUM.out; omega
          have HQ2 := Lib.hid hq2
          have HS2 := Lib.hid hs2
          clear hq2 hs2
          go_wp2
          go_round
          case rel => exact ⟨p + q % 2, q / 2, i, by go_num, by go_num, HQ2.out, by omega, HS2.out⟩
          case measure => simp [intOf]; omega
        · obtain rfl : q = 0 := by omega
          have hpT : p = T := by have := HSUM.out; rw [popF_zero] at this; omega
          subst hpT
          by_cases hp1 : p ≤ 1
          · have hp1' : (p : Int) ≤ 1 := by omega
            go_wp2
            go_roundw
            case rel => exact ⟨k + 1, m + 1, by omega, by go_num, by go_num, by rw [HS.out, if_pos hp1, HM.out], hB⟩
            case measure => simp [intOf]; omega
          · have hp1' : ¬ (p : Int) ≤ 1 := by omega
            go_wp2
            go_roundw
            case rel => exact ⟨k + 1, m, by omega, by go_num, rfl, by rw [HS.out, if_neg hp1, HM.out]; rfl, hB⟩
            case measure => simp [intOf]; omega
    · have : k = 16 := by omega
      subst this
      obtain rfl : m = 1 := by rw [HM.out, HN.out]
      go_wp2
      go_ret
      exact ⟨rfl, hB⟩

theorem walk (w : World) (v : Int) (hv : -9223372036854775808 ≤ v ∧ v ≤ 9223372036854775807) (hT : ErrT w ∧ ChkT w) :
    Calls Tryd.prog 6 #[.int .i64 v] w fun e w' => e = .returned (.bool true) ∧ Below w.heap.size w w' := by
  by_cases h1 : 0 ≤ v ∧ v ≤ 127
  · exact walk_in w v h1.1 h1.2 hT.2
  · have HT := Lib.hid hT.2
    have HE := Lib.hid hT.1
    clear hT
    go_enter Tryd.func6, Tryd.ntmps6
    go_wp2_with fail
    with_reducible refine (hammingFact_any _ HT.out).mono ?_
    rintro e w6 ⟨rfl, hB⟩
    go_wp2_with fail
    with_reducible refine (in_no _ _ _ _ (by omega)).mono ?_
    rintro e w' ⟨rfl, rfl⟩
    go_wp2_with fail
    with_reducible refine (read_bad v _ (by omega)).mono ?_
    rintro e w' ⟨rfl, rfl⟩
    go_wp2_with fail
    with_reducible refine (error_err 1 1 _ (HE.out.below hB)).mono ?_
    rintro e w9 ⟨rfl, k⟩
    have hB := chain hB k
    clear k
    go_wp2
    go_ret
    exact ⟨rfl, hB⟩

set_option maxRecDepth 100000 in
theorem lifted (os : Os) (started : os.Started) (H : Type) (enc : TypeId × Value → H) :
    ReturnsInHanded {} Tryd.checked os 6 .any (fun w args => (Rows.hammingPerfectSpec.pre enc Tryd.prog Tryd.f6 [] false w args ∧ laidMetH Tryd.prog Rows.hammingPerfectRow.laid w) ∧ sizedMet enc Tryd.prog Tryd.f6 (OpenSpec.ofChange Rows.hammingPerfectSpec) false w args)
      (Rows.hammingPerfectSpec.post enc Tryd.prog Tryd.f6 false true false false) := by
  refine returnsInHanded_of_change_and (C := Tryd.checked) (X := fun w _ => laidMetH Tryd.prog Rows.hammingPerfectRow.laid w) (fun _ _ _ hh h => h.of_heap hh) own started (by kernel_rfl) Tryd.func6
    (ChangeSpec.witness_at (enc := enc) (C := Tryd.checked) (os := os) (X := fun w _ => laidMetH Tryd.prog Rows.hammingPerfectRow.laid w) false (laidWorldEC os) #[.int .i64 0] 8 rfl (by kernel_rfl) (by kernel_rfl) (by kernel_rfl) (by kernel_rfl) (by kernel_rfl) (laidWorldEC_met os _)) ?_
  intro W base args ds gs before hval0 hW _ _ hL _
  have hval : ∀ (j : Nat) t v, Tryd.f6.params[j]? = some t → args[j]? = some v → Value.okWide Tryd.prog W .any base t v := hval0
  have hW' := hW
  obtain ⟨p, q, hA0, hV, rfl, hfz, hnd⟩ := hW
  have hA : DataW.TrodAll enc Tryd.prog W 0 (fun _ => true) true Tryd.f6.params.toList args.toList ds p := hA0
  rw [Tryd.params6] at hA hval
  obtain ⟨v0, vs0, d0, ds0, p0, q0, hargs, rfl, rfl, h0, r0⟩ := trodAll_cons hA
  obtain ⟨rfl, rfl, rfl⟩ := trodAll_nil r0
  obtain rfl : args = #[v0] := by cases args; simp_all
  obtain ⟨rfl, rfl⟩ := trodVars_none hV
  have k0 := h0
  have lt0 : ∀ x ∈ p0, x.block < W.heap.size := by obtain ⟨m, hm⟩ := k0; exact DataW.trod_lt m _ _ _ hm
  obtain ⟨a0, rfl, rfl, rfl, w0⟩ := open_int Tryd.underlying3 (hval 0 3 v0 rfl rfl) h0
  clear hA0 hval0
  refine (walk W a0 (wf_range w0) (both_of_laid hL)).mono fun e W' ⟨he, bel⟩ => ?_
  subst he
  exact ⟨_, rfl, _, _, _, [], _, [], hW', trodAll_mk1 (shut_bool Tryd.underlying4 _), (trodAll_cons_mk (Below.trod laidOut (by kernel_rfl) (of_decide_eq_true (by kernel_rfl)) k0 bel lt0) trodAll_mk0), rfl, bel.frame _, fun h => by cases h⟩

theorem over : Rows.hammingPerfectRow.holds Tryd.pinned (OpenSpec.ofChange Rows.hammingPerfectSpec) :=
  OpenClaim.holds_of_wide 6 Tryd.f6 rfl rfl rfl rfl rfl rfl rfl ⟨rfl, rfl, rfl, rfl, rfl⟩ rfl rfl rfl rfl rfl (by kernel_rfl) Tryd.func6 (by kernel_rfl)
    (of_decide_eq_true (by kernel_rfl)) (by unfold Func.isWrapper; first | (rw [if_pos (by decide +kernel)]; kernel_rfl) | (rw [if_neg (by decide +kernel)]; exact ⟨rfl, rfl⟩))
    (fun os started H enc _ => lifted os started H enc)

theorem card_holds : Rows.HammingPerfectCardSaid :=
  Claim7.holds_tied_plain_at .later [] [.handle, .data] true Rows.hammingPerfectCard.stood.harness Rows.hammingPerfectCard.stood.looks
    over (fun _ h => by cases h) (by kernel_rfl) (fun _ h => by cases h) hammingPerfect_row_tie rfl ⟨rfl, rfl⟩ (by kernel_rfl) rfl
    (fun f fn hf hfn => by
      obtain rfl : f = 6 := Option.some.inj ((show Tryd.prog.funcNamed "platterhold/platterholdlaw1.HammingPerfect" = some 6 by kernel_rfl).symm.trans hf) |>.symm
      obtain rfl : fn = Tryd.f6 := (Option.some.inj (Tryd.func6.symm.trans hfn)).symm
      exact ⟨by kernel_rfl, fun j t ht => by
        rw [Tryd.params6] at ht
        have hm : t ∈ [3] := by simpa using Array.mem_of_getElem? ht
        have hall : ([3].all fun u => !Tryd.prog.wantsStandIn u) = true := by kernel_rfl
        exact (show Tryd.prog.wantsStandIn t = false by simpa using List.all_eq_true.1 hall t hm)⟩)
    (by kernel_rfl)
theorem proved : Rows.HammingPerfectCardSaid := card_holds
#print axioms proved
end Go.Proofs.YtfkbbmomanaabaaDoor.hammingPerfect
