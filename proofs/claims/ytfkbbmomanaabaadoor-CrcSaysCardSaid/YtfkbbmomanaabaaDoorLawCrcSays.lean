/- The functions of package crc return what the document specifies: CrcSays answers true at every slice of ints; errors.errorType is tied to the program's text. Conditions: none beside the card's own. -/
import Derived.Test.YtfkbbmomanaabaaDoorOpenD
import Derived.Test.YtfkbbmomanaabaaDoorRCrc
import Derived.Test.YtfkbbmomanaabaaDoorRBytes
import Derived.Test.YtfkbbmomanaabaaDoorTold
namespace Go.Proofs.YtfkbbmomanaabaaDoor.crcSays
open Go Go.ChangeShapes Go.WideShapes Go.ChangeAt Go.RowKit
set_option linter.unusedVariables false

set_option maxHeartbeats 1000000 in
theorem walk (w : World) (A : Option Addr) (n c : Nat) (xs : List Int) (hA : Rd w A n xs) (hc : n ≤ c) (hE : ErrT w) :
    Calls Tryd.prog 7 #[.slice A n c] w fun e w' => e = .returned (.bool true) ∧ Below w.heap.size w w' := by
  have HE := Lib.hid hE
  clear hE
  have hB : Below w.heap.size w w := Below.refl _ _
  by_cases hx : bytesE xs 64 = 0
  · obtain ⟨hx1, hx2⟩ := bytesE_zero.1 hx
    have hlx := hA.len
    rw [hlx] at hx1
    have HX0 := Lib.hid hx
    clear hx
    obtain ⟨X, hX⟩ : ∃ X, crcI xs = X := ⟨_, rfl⟩
    have HX := Lib.hid hX
    have HAX := Lib.hid hx2
    clear hX hx2
    by_cases h0 : n = 0
    · subst h0
      have hx0 : X = 0 := by
        have := HX.out
        rw [List.eq_nil_of_length_eq_zero hlx] at this
        rw [← this]; rfl
      subst hx0
      clear hlx
      go_enter Tryd.func7, Tryd.ntmps7
      go_wp2_with fail
      with_reducible refine (rbytes_any _ _ _ _ xs _ hA).mono ?_
      rintro e w' ⟨rfl, rfl⟩
      rw [HX0.out]
      go_wp2_with fail
      with_reducible refine (rcrc_any _ _ _ xs _ hA (by omega) HAX.out).mono ?_
      rintro e w2 ⟨rfl, k⟩
      rw [HX.out]
      have hB := chain hB k
      clear k
      have hB2 := hB
      go_wp2_with fail
      with_reducible refine (sum_ok _ _ _ xs _ (hA.below hB2) (by omega) HAX.out).mono ?_
      rintro e w' ⟨rfl, rfl⟩
      rw [HX.out]
      go_wp2_with fail
      with_reducible refine (error_nil _ _).mono ?_
      rintro e w' ⟨rfl, rfl⟩
      go_wp2_with fail
      with_reducible refine (good_nil _ _ _).mono ?_
      rintro e w' ⟨rfl, rfl⟩
      go_wp2_with fail
      with_reducible refine (error_err 5 5 _ (HE.out.below hB2)).mono ?_
      rintro e w5 ⟨rfl, k5⟩
      go_wp2
      go_ret
      exact ⟨rfl, hB2.trans (k5.mono hB2.size)⟩
    · have hne0 : ((n : Int) == 0) = false := by simp; omega
      have hpos : 0 < n := by omega
      obtain ⟨q, hq⟩ : ∃ q, (X == 0) = q := ⟨_, rfl⟩
      have hself : (q == q) = true := by cases q <;> rfl
      clear hlx
      go_enter Tryd.func7, Tryd.ntmps7
      go_wp2_with fail
      with_reducible refine (rbytes_any _ _ _ _ xs _ hA).mono ?_
      rintro e w' ⟨rfl, rfl⟩
      rw [HX0.out]
      go_wp2_with fail
      with_reducible refine (rcrc_any _ _ _ xs _ hA (by omega) HAX.out).mono ?_
      rintro e w7 ⟨rfl, k⟩
      rw [HX.out]
      have hB := chain hB k
      clear k
      have hB2 := hB
      go_wp2_with fail
      with_reducible refine (sum_ok _ _ _ xs _ (hA.below hB2) (by omega) HAX.out).mono ?_
      rintro e w' ⟨rfl, rfl⟩
      rw [HX.out]
      go_wp2_with fail
      with_reducible refine (error_nil _ _).mono ?_
      rintro e w' ⟨rfl, rfl⟩
      go_wp2_with fail
      with_reducible refine (good_ok _ _ _ xs _ (hA.below hB2) hpos (by omega) HAX.out).mono ?_
      rintro e w' ⟨rfl, rfl⟩
      rw [HX.out]
      go_wp2_with fail
      with_reducible refine (error_nil _ _).mono ?_
      rintro e w' ⟨rfl, rfl⟩
      go_wp2
      go_ret
      exact ⟨rfl, hB2⟩
  · have hpos : 0 < n := by
      rcases Nat.eq_zero_or_pos n with h | h
      · subst h
        exact absurd (bytesE_zero.2 (by rw [List.eq_nil_of_length_eq_zero hA.len]; simp [allB])) hx
      · exact h
    have hne0 : ((n : Int) == 0) = false := by simp; omega
    obtain ⟨q, hq⟩ : ∃ q, bytesE xs 64 = q := ⟨_, rfl⟩
    have hq0 : (q == 0) = false := by rw [← hq]; simpa using hx
    have HQ := Lib.hid hq
    have HX := Lib.hid hx
    have hself : (q == q) = true := by simp
    clear hq hx
    go_enter Tryd.func7, Tryd.ntmps7
    go_wp2_with fail
    with_reducible refine (rbytes_any _ _ _ _ xs _ hA).mono ?_
    rintro e w' ⟨rfl, rfl⟩
    rw [HQ.out]
    go_wp2_with fail
    with_reducible refine (sum_bad _ _ _ xs _ hA HX.out).mono ?_
    rintro e w' ⟨rfl, rfl⟩
    rw [HQ.out]
    go_wp2_with fail
    with_reducible refine (error_err q q _ HE.out).mono ?_
    rintro e w14 ⟨rfl, k⟩
    have hB := chain hB k
    clear k
    have hB2 := hB
    go_wp2_with fail
    with_reducible refine (good_bad _ _ _ xs _ (hA.below hB2) hpos HX.out).mono ?_
    rintro e w' ⟨rfl, rfl⟩
    rw [HQ.out]
    go_wp2_with fail
    with_reducible refine (error_err q q _ (HE.out.below hB2)).mono ?_
    rintro e w5 ⟨rfl, k5⟩
    go_wp2
    go_ret
    exact ⟨rfl, hB2.trans (k5.mono hB2.size)⟩

set_option maxRecDepth 100000 in
theorem lifted (os : Os) (started : os.Started) (H : Type) (enc : TypeId × Value → H) :
    ReturnsInHanded {} Tryd.checked os 7 .any (fun w args => (Rows.crcSaysSpec.pre enc Tryd.prog Tryd.f7 [] false w args ∧ laidMetH Tryd.prog Rows.crcSaysRow.laid w) ∧ sizedMet enc Tryd.prog Tryd.f7 (OpenSpec.ofChange Rows.crcSaysSpec) false w args)
      (Rows.crcSaysSpec.post enc Tryd.prog Tryd.f7 false true false false) := by
  refine returnsInHanded_of_change_and (C := Tryd.checked) (X := fun w _ => laidMetH Tryd.prog Rows.crcSaysRow.laid w) (fun _ _ _ hh h => h.of_heap hh) own started (by kernel_rfl) Tryd.func7
    (ChangeSpec.witness_at (enc := enc) (C := Tryd.checked) (os := os) (X := fun w _ => laidMetH Tryd.prog Rows.crcSaysRow.laid w) false (laidWorld os) #[.slice none 0 0] 8 rfl (by kernel_rfl) (by kernel_rfl) (by kernel_rfl) (by kernel_rfl) (by kernel_rfl) (laidWorld_met os _)) ?_
  intro W base args ds gs before hval0 hW _ _ hL _
  have hval : ∀ (j : Nat) t v, Tryd.f7.params[j]? = some t → args[j]? = some v → Value.okWide Tryd.prog W .any base t v := hval0
  have hW' := hW
  obtain ⟨p, q, hA0, hV, rfl, hfz, hnd⟩ := hW
  have hA : DataW.TrodAll enc Tryd.prog W 0 (fun _ => true) true Tryd.f7.params.toList args.toList ds p := hA0
  rw [Tryd.params7] at hA hval
  obtain ⟨v0, vs0, d0, ds0, p0, q0, hargs, rfl, rfl, h0, r0⟩ := trodAll_cons hA
  obtain ⟨rfl, rfl, rfl⟩ := trodAll_nil r0
  obtain rfl : args = #[v0] := by cases args; simp_all
  obtain ⟨rfl, rfl⟩ := trodVars_none hV
  have k0 := h0
  have lt0 : ∀ x ∈ p0, x.block < W.heap.size := by obtain ⟨m, hm⟩ := k0; exact DataW.trod_lt m _ _ _ hm
  obtain ⟨A0, n0, c0, rfl⟩ := okWide_slice Tryd.underlying37 (hval 0 37 v0 rfl rfl)
  obtain ⟨xs0, w0, hc0⟩ : ∃ xs, Rd W A0 n0 xs ∧ n0 ≤ c0 := by
    obtain ⟨fuel, hf⟩ := h0
    rcases open_ints Tryd.underlying37 Tryd.underlying3 (by kernel_rfl) hf with ⟨hcs, _⟩ | ⟨x, l, c, zs, hcs, _, hl, hm, hz, _, hcell, hwz⟩
    · simp [Value.cells] at hcs
      obtain ⟨rfl, rfl, rfl⟩ := hcs
      exact ⟨[], Rd.nil _ _, Nat.le_refl _⟩
    · simp [Value.cells] at hcs
      obtain ⟨rfl, rfl, rfl⟩ := hcs
      exact ⟨_, rd_of_cells (by simp at hz; omega) hl hm hcell hwz, hl⟩
  clear hA0 hval0
  refine (walk W A0 n0 c0 xs0 w0 hc0 (handle_of_laid hL)).mono fun e W' ⟨he, bel⟩ => ?_
  subst he
  exact ⟨_, rfl, _, _, _, [], _, [], hW', trodAll_mk1 (shut_bool Tryd.underlying4 _), (trodAll_cons_mk (Below.trod laidOut (by kernel_rfl) (of_decide_eq_true (by kernel_rfl)) k0 bel lt0) trodAll_mk0), rfl, bel.frame _, fun h => by cases h⟩

theorem over : Rows.crcSaysRow.holds Tryd.pinned (OpenSpec.ofChange Rows.crcSaysSpec) :=
  OpenClaim.holds_of_wide 7 Tryd.f7 rfl rfl rfl rfl rfl rfl rfl ⟨rfl, rfl, rfl, rfl, rfl⟩ rfl rfl rfl rfl rfl (by kernel_rfl) Tryd.func7 (by kernel_rfl)
    (of_decide_eq_true (by kernel_rfl)) (by unfold Func.isWrapper; first | (rw [if_pos (by decide +kernel)]; kernel_rfl) | (rw [if_neg (by decide +kernel)]; exact ⟨rfl, rfl⟩))
    (fun os started H enc _ => lifted os started H enc)

theorem card_holds : Rows.CrcSaysCardSaid :=
  Claim7.holds_tied_plain_at .later [] [.handle] true Rows.crcSaysCard.stood.harness Rows.crcSaysCard.stood.looks
    over (fun _ h => by cases h) (by kernel_rfl) (fun _ h => by cases h) crcSays_row_tie rfl ⟨rfl, rfl⟩ (by kernel_rfl) rfl
    (fun f fn hf hfn => by
      obtain rfl : f = 7 := Option.some.inj ((show Tryd.prog.funcNamed "platterhold/platterholdlaw1.CrcSays" = some 7 by kernel_rfl).symm.trans hf) |>.symm
      obtain rfl : fn = Tryd.f7 := (Option.some.inj (Tryd.func7.symm.trans hfn)).symm
      exact ⟨by kernel_rfl, fun j t ht => by
        rw [Tryd.params7] at ht
        have hm : t ∈ [37] := by simpa using Array.mem_of_getElem? ht
        have hall : ([37].all fun u => !Tryd.prog.wantsStandIn u) = true := by kernel_rfl
        exact (show Tryd.prog.wantsStandIn t = false by simpa using List.all_eq_true.1 hall t hm)⟩)
    (by kernel_rfl)
theorem proved : Rows.CrcSaysCardSaid := card_holds
#print axioms proved
end Go.Proofs.YtfkbbmomanaabaaDoor.crcSays
