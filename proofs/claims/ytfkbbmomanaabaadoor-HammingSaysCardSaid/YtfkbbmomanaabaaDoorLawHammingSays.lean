/- The functions of package hamming return what the document specifies: HammingSays answers true at every two ints; hamming.checks and errors.errorType are tied to the program's text. Conditions: none beside the card's own. -/
import Derived.Test.YtfkbbmomanaabaaDoorOpenH
import Derived.Test.YtfkbbmomanaabaaDoorRHam
import Derived.Test.YtfkbbmomanaabaaDoorTold
import Derived.Test.YtfkbbmomanaabaaDoorIn
namespace Go.Proofs.YtfkbbmomanaabaaDoor.hammingSays
open Go Go.ChangeShapes Go.WideShapes Go.ChangeAt Go.RowKit
set_option linter.unusedVariables false

set_option maxHeartbeats 1000000 in
theorem walk (w : World) (n : Int) (hn : -9223372036854775808 ≤ n ∧ n ≤ 9223372036854775807) (v : Int) (hv : -9223372036854775808 ≤ v ∧ v ≤ 9223372036854775807) (hT : ErrT w ∧ ChkT w) :
    Calls Tryd.prog 5 #[.int .i64 n, .int .i64 v] w fun e w' => e = .returned (.bool true) ∧ Below w.heap.size w w' := by
  have HE := Lib.hid hT.1
  have HT := Lib.hid hT.2
  clear hT
  have hB : Below w.heap.size w w := Below.refl _ _
  by_cases hN : 0 ≤ n ∧ n ≤ 15
  · obtain ⟨n0, n1⟩ := hN
    obtain ⟨X, hX⟩ : ∃ X, writeI n = X := ⟨_, rfl⟩
    have HX := Lib.hid hX
    clear hX
    have hself : (X == X) = true := by simp
    by_cases hV : 0 ≤ v ∧ v ≤ 127
    · obtain ⟨v0, v1⟩ := hV
      obtain ⟨Y, hY⟩ : ∃ Y, readI v = Y := ⟨_, rfl⟩
      obtain ⟨Z, hZ⟩ : ∃ Z, wrongI v = Z := ⟨_, rfl⟩
      have HY := Lib.hid hY
      have HZ := Lib.hid hZ
      clear hY hZ
      have hself2 : (Y == Y) = true := by simp
      have hself3 : (Z == Z) = true := by simp
      go_enter Tryd.func5, Tryd.ntmps5
      go_wp2_with fail
      with_reducible refine (in_yes _ _ _ _ n0 n1).mono ?_
      rintro e w' ⟨rfl, rfl⟩
      go_wp2_with fail
      with_reducible refine (rword_any n _ n0 n1).mono ?_
      rintro e w' ⟨rfl, rfl⟩
      rw [HX.out]
      go_wp2_with fail
      with_reducible refine (write_ok n _ n0 n1 HT.out).mono ?_
      rintro e w3 ⟨rfl, k⟩
      rw [HX.out]
      have hB := chain hB k
      clear k
      go_wp2_with fail
      with_reducible refine (error_nil _ _).mono ?_
      rintro e w' ⟨rfl, rfl⟩
      go_wp2_with fail
      with_reducible refine (in_yes _ _ _ _ v0 v1).mono ?_
      rintro e w' ⟨rfl, rfl⟩
      go_wp2_with fail
      with_reducible refine (rfound_any v _ v0 v1).mono ?_
      rintro e w' ⟨rfl, rfl⟩
      rw [HY.out, HZ.out]
      go_wp2_with fail
      with_reducible refine (read_ok v _ v0 v1 (HT.out.below hB)).mono ?_
      rintro e w7 ⟨rfl, k⟩
      rw [HY.out, HZ.out]
      have hB := chain hB k
      clear k
      go_wp2_with fail
      with_reducible refine (error_nil _ _).mono ?_
      rintro e w' ⟨rfl, rfl⟩
      go_wp2
      go_ret
      exact ⟨rfl, hB⟩
    · skip
      go_enter Tryd.func5, Tryd.ntmps5
      go_wp2_with fail
      with_reducible refine (in_yes _ _ _ _ n0 n1).mono ?_
      rintro e w' ⟨rfl, rfl⟩
      go_wp2_with fail
      with_reducible refine (rword_any n _ n0 n1).mono ?_
      rintro e w' ⟨rfl, rfl⟩
      rw [HX.out]
      go_wp2_with fail
      with_reducible refine (write_ok n _ n0 n1 HT.out).mono ?_
      rintro e w11 ⟨rfl, k⟩
      rw [HX.out]
      have hB := chain hB k
      clear k
      go_wp2_with fail
      with_reducible refine (error_nil _ _).mono ?_
      rintro e w' ⟨rfl, rfl⟩
      go_wp2_with fail
      with_reducible refine (in_no _ _ _ _ (by omega)).mono ?_
      rintro e w' ⟨rfl, rfl⟩
      go_wp2_with fail
      with_reducible refine (read_bad v _ (by omega)).mono ?_
      rintro e w' ⟨rfl, rfl⟩
      go_wp2_with fail
      with_reducible refine (error_err 1 1 _ (HE.out.below hB)).mono ?_
      rintro e w15 ⟨rfl, k⟩
      have hB := chain hB k
      clear k
      go_wp2
      go_ret
      exact ⟨rfl, hB⟩
  · by_cases hV : 0 ≤ v ∧ v ≤ 127
    · obtain ⟨v0, v1⟩ := hV
      obtain ⟨Y, hY⟩ : ∃ Y, readI v = Y := ⟨_, rfl⟩
      obtain ⟨Z, hZ⟩ : ∃ Z, wrongI v = Z := ⟨_, rfl⟩
      have HY := Lib.hid hY
      have HZ := Lib.hid hZ
      clear hY hZ
      have hself2 : (Y == Y) = true := by simp
      have hself3 : (Z == Z) = true := by simp
      go_enter Tryd.func5, Tryd.ntmps5
      go_wp2_with fail
      with_reducible refine (in_no _ _ _ _ (by omega)).mono ?_
      rintro e w' ⟨rfl, rfl⟩
      go_wp2_with fail
      with_reducible refine (write_bad n _ (by omega)).mono ?_
      rintro e w' ⟨rfl, rfl⟩
      go_wp2_with fail
      with_reducible refine (error_err 1 1 _ HE.out).mono ?_
      rintro e w18 ⟨rfl, k⟩
      have hB := chain hB k
      clear k
      go_wp2_with fail
      with_reducible refine (in_yes _ _ _ _ v0 v1).mono ?_
      rintro e w' ⟨rfl, rfl⟩
      go_wp2_with fail
      with_reducible refine (rfound_any v _ v0 v1).mono ?_
      rintro e w' ⟨rfl, rfl⟩
      rw [HY.out, HZ.out]
      go_wp2_with fail
      with_reducible refine (read_ok v _ v0 v1 (HT.out.below hB)).mono ?_
      rintro e w21 ⟨rfl, k⟩
      rw [HY.out, HZ.out]
      have hB := chain hB k
      clear k
      go_wp2_with fail
      with_reducible refine (error_nil _ _).mono ?_
      rintro e w' ⟨rfl, rfl⟩
      go_wp2
      go_ret
      exact ⟨rfl, hB⟩
    · skip
      go_enter Tryd.func5, Tryd.ntmps5
      go_wp2_with fail
      with_reducible refine (in_no _ _ _ _ (by omega)).mono ?_
      rintro e w' ⟨rfl, rfl⟩
      go_wp2_with fail
      with_reducible refine (write_bad n _ (by omega)).mono ?_
      rintro e w' ⟨rfl, rfl⟩
      go_wp2_with fail
      with_reducible refine (error_err 1 1 _ HE.out).mono ?_
      rintro e w25 ⟨rfl, k⟩
      have hB := chain hB k
      clear k
      go_wp2_with fail
      with_reducible refine (in_no _ _ _ _ (by omega)).mono ?_
      rintro e w' ⟨rfl, rfl⟩
      go_wp2_with fail
      with_reducible refine (read_bad v _ (by omega)).mono ?_
      rintro e w' ⟨rfl, rfl⟩
      go_wp2_with fail
      with_reducible refine (error_err 1 1 _ (HE.out.below hB)).mono ?_
      rintro e w28 ⟨rfl, k⟩
      have hB := chain hB k
      clear k
      go_wp2
      go_ret
      exact ⟨rfl, hB⟩

set_option maxRecDepth 100000 in
theorem lifted (os : Os) (started : os.Started) (H : Type) (enc : TypeId × Value → H) :
    ReturnsInHanded {} Tryd.checked os 5 .any (fun w args => (Rows.hammingSaysSpec.pre enc Tryd.prog Tryd.f5 [] false w args ∧ laidMetH Tryd.prog Rows.hammingSaysRow.laid w) ∧ sizedMet enc Tryd.prog Tryd.f5 (OpenSpec.ofChange Rows.hammingSaysSpec) false w args)
      (Rows.hammingSaysSpec.post enc Tryd.prog Tryd.f5 false true false false) := by
  refine returnsInHanded_of_change_and (C := Tryd.checked) (X := fun w _ => laidMetH Tryd.prog Rows.hammingSaysRow.laid w) (fun _ _ _ hh h => h.of_heap hh) own started (by kernel_rfl) Tryd.func5
    (ChangeSpec.witness_at (enc := enc) (C := Tryd.checked) (os := os) (X := fun w _ => laidMetH Tryd.prog Rows.hammingSaysRow.laid w) false (laidWorldEC os) #[.int .i64 0, .int .i64 0] 8 rfl (by kernel_rfl) (by kernel_rfl) (by kernel_rfl) (by kernel_rfl) (by kernel_rfl) (laidWorldEC_met os _)) ?_
  intro W base args ds gs before hval0 hW _ _ hL _
  have hval : ∀ (j : Nat) t v, Tryd.f5.params[j]? = some t → args[j]? = some v → Value.okWide Tryd.prog W .any base t v := hval0
  have hW' := hW
  obtain ⟨p, q, hA0, hV, rfl, hfz, hnd⟩ := hW
  have hA : DataW.TrodAll enc Tryd.prog W 0 (fun _ => true) true Tryd.f5.params.toList args.toList ds p := hA0
  rw [Tryd.params5] at hA hval
  obtain ⟨v0, vs0, d0, ds0, p0, q0, hargs, rfl, rfl, h0, r0⟩ := trodAll_cons hA
  obtain ⟨v1, vs1, d1, ds1, p1, q1, rfl, rfl, rfl, h1, r1⟩ := trodAll_cons r0
  obtain ⟨rfl, rfl, rfl⟩ := trodAll_nil r1
  obtain rfl : args = #[v0, v1] := by cases args; simp_all
  obtain ⟨rfl, rfl⟩ := trodVars_none hV
  have k0 := h0
  have lt0 : ∀ x ∈ p0, x.block < W.heap.size := by obtain ⟨m, hm⟩ := k0; exact DataW.trod_lt m _ _ _ hm
  obtain ⟨a0, rfl, rfl, rfl, w0⟩ := open_int Tryd.underlying3 (hval 0 3 v0 rfl rfl) h0
  have k1 := h1
  have lt1 : ∀ x ∈ p1, x.block < W.heap.size := by obtain ⟨m, hm⟩ := k1; exact DataW.trod_lt m _ _ _ hm
  obtain ⟨a1, rfl, rfl, rfl, w1⟩ := open_int Tryd.underlying3 (hval 1 3 v1 rfl rfl) h1
  clear hA0 hval0
  refine (walk W a0 (wf_range w0) a1 (wf_range w1) (both_of_laid hL)).mono fun e W' ⟨he, bel⟩ => ?_
  subst he
  exact ⟨_, rfl, _, _, _, [], _, [], hW', trodAll_mk1 (shut_bool Tryd.underlying4 _), (trodAll_cons_mk (Below.trod laidOut (by kernel_rfl) (of_decide_eq_true (by kernel_rfl)) k0 bel lt0) (trodAll_cons_mk (Below.trod laidOut (by kernel_rfl) (of_decide_eq_true (by kernel_rfl)) k1 bel lt1) trodAll_mk0)), rfl, bel.frame _, fun h => by cases h⟩

theorem over : Rows.hammingSaysRow.holds Tryd.pinned (OpenSpec.ofChange Rows.hammingSaysSpec) :=
  OpenClaim.holds_of_wide 5 Tryd.f5 rfl rfl rfl rfl rfl rfl rfl ⟨rfl, rfl, rfl, rfl, rfl⟩ rfl rfl rfl rfl rfl (by kernel_rfl) Tryd.func5 (by kernel_rfl)
    (of_decide_eq_true (by kernel_rfl)) (by unfold Func.isWrapper; first | (rw [if_pos (by decide +kernel)]; kernel_rfl) | (rw [if_neg (by decide +kernel)]; exact ⟨rfl, rfl⟩))
    (fun os started H enc _ => lifted os started H enc)

theorem card_holds : Rows.HammingSaysCardSaid :=
  Claim7.holds_tied_plain_at .later [] [.handle, .data] true Rows.hammingSaysCard.stood.harness Rows.hammingSaysCard.stood.looks
    over (fun _ h => by cases h) (by kernel_rfl) (fun _ h => by cases h) hammingSays_row_tie rfl ⟨rfl, rfl⟩ (by kernel_rfl) rfl
    (fun f fn hf hfn => by
      obtain rfl : f = 5 := Option.some.inj ((show Tryd.prog.funcNamed "platterhold/platterholdlaw1.HammingSays" = some 5 by kernel_rfl).symm.trans hf) |>.symm
      obtain rfl : fn = Tryd.f5 := (Option.some.inj (Tryd.func5.symm.trans hfn)).symm
      exact ⟨by kernel_rfl, fun j t ht => by
        rw [Tryd.params5] at ht
        have hm : t ∈ [3, 3] := by simpa using Array.mem_of_getElem? ht
        have hall : ([3, 3].all fun u => !Tryd.prog.wantsStandIn u) = true := by kernel_rfl
        exact (show Tryd.prog.wantsStandIn t = false by simpa using List.all_eq_true.1 hall t hm)⟩)
    (by kernel_rfl)
theorem proved : Rows.HammingSaysCardSaid := card_holds
#print axioms proved
end Go.Proofs.YtfkbbmomanaabaaDoor.hammingSays
