/- Division inverts multiplication by nonzero bytes, and there are no zero divisors: GaloisInverse answers true at every two ints; errors.errorType is tied to the program's text. Conditions: none beside the card's own. -/
import Derived.Test.YtdhfckdnfppieaaDoorOpenD
import Derived.Test.YtdhfckdnfppieaaDoorGaloisLaw
import Derived.Test.YtdhfckdnfppieaaDoorIn
namespace Go.Proofs.YtdhfckdnfppieaaDoor.galoisInverse
open Go Go.ChangeShapes Go.WideShapes Go.ChangeAt Go.RowKit
set_option linter.unusedVariables false

theorem inv_byte {x : Int} (hx : Byte x) : Byte (invI x) := ⟨invI_nonneg _, invI_le hx.2⟩
theorem back {a b : Int} (ha : Byte a) (hb : Byte b) (h0 : b ≠ 0) : mulI (mulI a (invI b)) b = a := by
  show ((mulN (mulI a (invI b)).toNat b.toNat : Nat) : Int) = a
  rw [mulI_toNat, show (invI b).toNat = invN b.toNat from by unfold invI; omega, div_mul (nat256 ha) (nat256 hb) (by have := hb.1; omega)]
  have := ha.1; omega
theorem no_zero {a b : Int} (ha : Byte a) (hb : Byte b) (h0 : b ≠ 0) : (mulI a b == 0) = (a == 0) := by
  rw [Bool.eq_iff_iff, beq_iff_eq, beq_iff_eq]
  have := mul_eq_zero (nat256 ha) (nat256 hb)
  have ha0 := ha.1
  have hb0 := hb.1
  unfold mulI
  constructor
  · intro h
    rcases this.1 (by omega) with h | h <;> omega
  · rintro rfl
    rw [show (0 : Int).toNat = 0 from rfl, zero_mul]; rfl

set_option maxHeartbeats 1000000 in
theorem walk (w : World) (a : Int) (ha : -9223372036854775808 ≤ a ∧ a ≤ 9223372036854775807) (b : Int) (hb : -9223372036854775808 ≤ b ∧ b ≤ 9223372036854775807) (hE : ErrT w) :
    Calls Tryd.prog 3 #[.int .i64 a, .int .i64 b] w fun e w' => e = .returned (.bool true) ∧ Below w.heap.size w w' := by
  have HE := Lib.hid hE
  have wa : Wide a := ha
  have wb : Wide b := hb
  clear hE
  by_cases hA : 0 ≤ a ∧ a ≤ 255
  · have hA' : Byte a := hA
    obtain ⟨a0, a1⟩ := hA
    by_cases hB : 0 ≤ b ∧ b ≤ 255
    · have hB' : Byte b := hB
      obtain ⟨b0, b1⟩ := hB
      by_cases hz : b = 0
      · subst hz
        go_enter Tryd.func3, Tryd.ntmps3
        go_wp2_with fail
        with_reducible refine (galoisFact_any _).mono ?_
        rintro e w1 ⟨rfl, hB⟩
        go_wp2_with fail
        with_reducible refine (Div_zero a _ hA').mono ?_
        rintro e w2 ⟨rfl, k⟩
        have hB := chain hB k
        clear k
        go_wp2_with fail
        with_reducible refine (in_yes _ _ _ _ a0 a1).mono ?_
        rintro e w' ⟨rfl, rfl⟩
        go_wp2_with fail
        with_reducible refine (in_yes _ _ _ _ b0 b1).mono ?_
        rintro e w' ⟨rfl, rfl⟩
        go_wp2_with fail
        with_reducible refine (error_err 5 5 _ (HE.out.below hB)).mono ?_
        rintro e w5 ⟨rfl, k⟩
        have hB := chain hB k
        clear k
        go_wp2
        go_ret
        exact ⟨rfl, hB⟩
      · have hbz : (b == 0) = false := by simpa using hz
        have hd := mulI_byte (invI b) hA'
        have HB := Lib.hid (back hA' hB' hz)
        have HN := Lib.hid (no_zero hA' hB' hz)
        have hself : ∀ q : Bool, (q == q) = true := fun q => by cases q <;> rfl
        obtain ⟨q, hq⟩ : ∃ q, (a == 0) = q := ⟨_, rfl⟩
        obtain ⟨P, hP⟩ : ∃ P, mulI a b = P := ⟨_, rfl⟩
        have hPq : (P == 0) = q := by rw [← hP, HN.out, hq]
        have HP := Lib.hid hP
        go_enter Tryd.func3, Tryd.ntmps3
        go_wp2_with fail
        with_reducible refine (galoisFact_any _).mono ?_
        rintro e w6 ⟨rfl, hB⟩
        go_wp2_with fail
        with_reducible refine (Div_ok a b _ hA' hB' hz).mono ?_
        rintro e w7 ⟨rfl, k⟩
        have hB := chain hB k
        clear k
        go_wp2_with fail
        with_reducible refine (in_yes _ _ _ _ a0 a1).mono ?_
        rintro e w' ⟨rfl, rfl⟩
        go_wp2_with fail
        with_reducible refine (in_yes _ _ _ _ b0 b1).mono ?_
        rintro e w' ⟨rfl, rfl⟩
        go_wp2_with fail
        with_reducible refine (lmul_ok (mulI a (invI b)) b _ hd hB').mono ?_
        rintro e w10 ⟨rfl, k⟩
        rw [HB.out]
        have hB := chain hB k
        clear k
        go_wp2_with fail
        with_reducible refine (lmul_ok a b _ hA' hB').mono ?_
        rintro e w11 ⟨rfl, k⟩
        rw [HP.out]
        have hB := chain hB k
        clear k
        go_wp2
        go_ret
        exact ⟨rfl, hB⟩
    · have hbad : ¬ (Byte a ∧ Byte b) := fun h => hB h.2
      go_enter Tryd.func3, Tryd.ntmps3
      go_wp2_with fail
      with_reducible refine (galoisFact_any _).mono ?_
      rintro e w12 ⟨rfl, hB⟩
      go_wp2_with fail
      with_reducible refine (Div_bad a b _ wa wb hbad).mono ?_
      rintro e w13 ⟨rfl, k⟩
      have hB := chain hB k
      clear k
      go_wp2_with fail
      with_reducible refine (in_yes _ _ _ _ a0 a1).mono ?_
      rintro e w' ⟨rfl, rfl⟩
      go_wp2_with fail
      with_reducible refine (in_no _ _ _ _ (by omega)).mono ?_
      rintro e w' ⟨rfl, rfl⟩
      go_wp2_with fail
      with_reducible refine (error_err 1 1 _ (HE.out.below hB)).mono ?_
      rintro e w16 ⟨rfl, k⟩
      have hB := chain hB k
      clear k
      go_wp2
      go_ret
      exact ⟨rfl, hB⟩
  · have hbad : ¬ (Byte a ∧ Byte b) := fun h => hA h.1
    go_enter Tryd.func3, Tryd.ntmps3
    go_wp2_with fail
    with_reducible refine (galoisFact_any _).mono ?_
    rintro e w17 ⟨rfl, hB⟩
    go_wp2_with fail
    with_reducible refine (Div_bad a b _ wa wb hbad).mono ?_
    rintro e w18 ⟨rfl, k⟩
    have hB := chain hB k
    clear k
    go_wp2_with fail
    with_reducible refine (in_no _ _ _ _ (by omega)).mono ?_
    rintro e w' ⟨rfl, rfl⟩
    go_wp2_with fail
    with_reducible refine (error_err 1 1 _ (HE.out.below hB)).mono ?_
    rintro e w20 ⟨rfl, k⟩
    have hB := chain hB k
    clear k
    go_wp2
    go_ret
    exact ⟨rfl, hB⟩

set_option maxRecDepth 100000 in
theorem lifted (os : Os) (started : os.Started) (H : Type) (enc : TypeId × Value → H) :
    ReturnsInHanded {} Tryd.checked os 3 .any (fun w args => (Rows.galoisInverseSpec.pre enc Tryd.prog Tryd.f3 [] false w args ∧ laidMetH Tryd.prog Rows.galoisInverseRow.laid w) ∧ sizedMet enc Tryd.prog Tryd.f3 (OpenSpec.ofChange Rows.galoisInverseSpec) false w args)
      (Rows.galoisInverseSpec.post enc Tryd.prog Tryd.f3 false true false false) := by
  refine returnsInHanded_of_change_and (C := Tryd.checked) (X := fun w _ => laidMetH Tryd.prog Rows.galoisInverseRow.laid w) (fun _ _ _ hh h => h.of_heap hh) own started (by kernel_rfl) Tryd.func3
    (ChangeSpec.witness_at (enc := enc) (C := Tryd.checked) (os := os) (X := fun w _ => laidMetH Tryd.prog Rows.galoisInverseRow.laid w) false (laidWorld os) #[.int .i64 0, .int .i64 0] 8 rfl (by kernel_rfl) (by kernel_rfl) (by kernel_rfl) (by kernel_rfl) (by kernel_rfl) (laidWorld_met os _)) ?_
  intro W base args ds gs before hval0 hW _ _ hL _
  have hval : ∀ (j : Nat) t v, Tryd.f3.params[j]? = some t → args[j]? = some v → Value.okWide Tryd.prog W .any base t v := hval0
  have hW' := hW
  obtain ⟨p, q, hA0, hV, rfl, hfz, hnd⟩ := hW
  have hA : DataW.TrodAll enc Tryd.prog W 0 (fun _ => true) true Tryd.f3.params.toList args.toList ds p := hA0
  rw [Tryd.params3] at hA hval
  obtain ⟨v0, vs0, d0, ds0, p0, q0, hargs, rfl, rfl, h0, r0⟩ := trodAll_cons hA
  obtain ⟨v1, vs1, d1, ds1, p1, q1, rfl, rfl, rfl, h1, r1⟩ := trodAll_cons r0
  obtain ⟨rfl, rfl, rfl⟩ := trodAll_nil r1
  obtain rfl : args = #[v0, v1] := by cases args; simp_all
  obtain ⟨rfl, rfl⟩ := trodVars_none hV
  have k0 := h0
  have lt0 : ∀ x ∈ p0, x.block < W.heap.size := by obtain ⟨m, hm⟩ := k0; exact DataW.trod_lt m _ _ _ hm
  obtain ⟨a0, rfl, rfl, rfl, w0⟩ := open_int Tryd.underlying3 (hval 0 3 v0 rfl rfl) h0
  have k1 := h1
  have lt1 : ∀ x ∈ p1, x.block < W.heap.size := by obtain ⟨m, hm⟩ := k1; exact DataW.trod_lt m _ _ _ hm
  obtain ⟨a1, rfl, rfl, rfl, w1⟩ := open_int Tryd.underlying3 (hval 1 3 v1 rfl rfl) h1
  clear hA0 hval0
  refine (walk W a0 (wf_range w0) a1 (wf_range w1) (handle_of_laid hL)).mono fun e W' ⟨he, bel⟩ => ?_
  subst he
  exact ⟨_, rfl, _, _, _, [], _, [], hW', trodAll_mk1 (shut_bool Tryd.underlying4 _), (trodAll_cons_mk (Below.trod laidOut (by kernel_rfl) (of_decide_eq_true (by kernel_rfl)) k0 bel lt0) (trodAll_cons_mk (Below.trod laidOut (by kernel_rfl) (of_decide_eq_true (by kernel_rfl)) k1 bel lt1) trodAll_mk0)), rfl, bel.frame _, fun h => by cases h⟩

theorem over : Rows.galoisInverseRow.holds Tryd.pinned (OpenSpec.ofChange Rows.galoisInverseSpec) :=
  OpenClaim.holds_of_wide 3 Tryd.f3 rfl rfl rfl rfl rfl rfl rfl ⟨rfl, rfl, rfl, rfl, rfl⟩ rfl rfl rfl rfl rfl (by kernel_rfl) Tryd.func3 (by kernel_rfl)
    (of_decide_eq_true (by kernel_rfl)) (by unfold Func.isWrapper; first | (rw [if_pos (by decide +kernel)]; kernel_rfl) | (rw [if_neg (by decide +kernel)]; exact ⟨rfl, rfl⟩))
    (fun os started H enc _ => lifted os started H enc)

theorem card_holds : Rows.GaloisInverseCardSaid :=
  Claim7.holds_tied_plain_at .later [] [.handle] true Rows.galoisInverseCard.stood.harness Rows.galoisInverseCard.stood.looks
    over (fun _ h => by cases h) (by kernel_rfl) (fun _ h => by cases h) galoisInverse_row_tie rfl ⟨rfl, rfl⟩ (by kernel_rfl) rfl
    (fun f fn hf hfn => by
      obtain rfl : f = 3 := Option.some.inj ((show Tryd.prog.funcNamed "platterhold/platterholdlaw1.GaloisInverse" = some 3 by kernel_rfl).symm.trans hf) |>.symm
      obtain rfl : fn = Tryd.f3 := (Option.some.inj (Tryd.func3.symm.trans hfn)).symm
      exact ⟨by kernel_rfl, fun j t ht => by
        rw [Tryd.params3] at ht
        have hm : t ∈ [3, 3] := by simpa using Array.mem_of_getElem? ht
        have hall : ([3, 3].all fun u => !Tryd.prog.wantsStandIn u) = true := by kernel_rfl
        exact (show Tryd.prog.wantsStandIn t = false by simpa using List.all_eq_true.1 hall t hm)⟩)
    (by kernel_rfl)
theorem proved : Rows.GaloisInverseCardSaid := card_holds
#print axioms proved
end Go.Proofs.YtdhfckdnfppieaaDoor.galoisInverse
