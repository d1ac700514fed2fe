/- For all arguments, the functions of package reed return what the document specifies: ReedSays answers true at every two slices of ints and all ints; errors.errorType is tied to the program's text. Conditions: none beside the card's own. -/
import Derived.Test.YtdhfckdnfppieaaDoorRAgain
import Derived.Test.YtdhfckdnfppieaaDoorInts
import Derived.Test.YtdhfckdnfppieaaDoorOpenD
namespace Go.Proofs.YtdhfckdnfppieaaDoor.reedSays
open Go Go.ChangeShapes Go.WideShapes Go.ChangeAt Go.RowKit
set_option linter.unusedVariables false
set_option maxRecDepth 20000

set_option maxHeartbeats 8000000 in
theorem walk (w : World) (A : Option Addr) (n c : Nat) (xs : List Int) (hA : Sl w A n c xs) (more : Int) (hmore : -9223372036854775808 ≤ more ∧ more ≤ 9223372036854775807) (B : Option Addr) (m d : Nat) (ss : List Int) (hB0 : Rd w B m ss) (hd : m ≤ d) (many : Int) (hmany : -9223372036854775808 ≤ many ∧ many ≤ 9223372036854775807) (hE : ErrT w) :
    Calls Tryd.prog 5 #[.slice A n c, .int .i64 more, .slice B m d, .int .i64 many] w fun e w' => e = .returned (.bool true) ∧ Below w.heap.size w w' := by
  have HA := Lib.hid hA
  have HET := Lib.hid hE
  have hRA := hA.1
  obtain ⟨E1, h1⟩ : ∃ E, makeE xs more = E := ⟨_, rfl⟩
  obtain ⟨L1, h2⟩ : ∃ L, mkL xs more = L := ⟨_, rfl⟩
  obtain ⟨E2, h3⟩ : ∃ E, agF ss many = E := ⟨_, rfl⟩
  obtain ⟨L2, h4⟩ : ∃ L, agL ss many = L := ⟨_, rfl⟩
  have hrm := fun wx hx => rmake_any A n c xs more wx hx
  have hpm := fun wx hx => pmake_any A n c xs more wx hx
  have hra := fun wx hx => ragain_any B m d ss many wx hx
  have hpa := fun wx hx => pagain_any B m d ss many wx hx
  unfold MkPost at hrm hpm
  unfold AgPostV at hra hpa
  unfold intV at hrm hra
  rw [h1, h2] at hrm hpm
  rw [h3, h4] at hra hpa
  obtain ⟨V1, hV1⟩ : ∃ V, errV E1 = V := ⟨_, rfl⟩
  obtain ⟨V2, hV2⟩ : ∃ V, errV E2 = V := ⟨_, rfl⟩
  have he1 := fun wx h => error_same E1 wx h
  have he2 := fun wx h => error_same E2 wx h
  rw [hV1] at hpm he1
  rw [hV2] at hpa he2
  have HRM := Lib.hid hrm
  have HPM := Lib.hid hpm
  have HRG := Lib.hid hra
  have HPG := Lib.hid hpa
  have HE1 := Lib.hid he1
  have HE2 := Lib.hid he2
  clear hA hE h1 h2 h3 h4 hrm hpm hra hpa hV1 hV2 he1 he2
  go_enter Tryd.func5, Tryd.ntmps5
  go_wp2_with fail
  with_reducible refine (HRM.out _ hRA).mono ?_
  rintro e w1 ⟨⟨C1, k1, c1, rfl, r1⟩, hB⟩
  go_wp2_with fail
  have hA1 := HA.out.below hB
  with_reducible refine (HPM.out _ hA1).mono ?_
  rintro e w2 ⟨⟨C2, k2, c2, rfl, r2⟩, q2⟩
  have hB := hB.trans (q2.mono hB.size)
  have r1 := r1.below q2
  clear q2 hA1
  go_wp2_with fail
  have hT := HET.out.below hB
  with_reducible refine (HE1.out _ hT).mono ?_
  rintro e w3 ⟨rfl, q3⟩
  have hB := hB.trans (q3.mono hB.size)
  have r1 := r1.below q3
  have r2 := r2.below q3
  clear q3 hT
  go_wp2_with fail
  with_reducible refine (ints_any _ _ _ _ _ _ L1 L1 _ r2 r1).mono ?_
  rintro e w' ⟨rfl, q, rfl⟩
  rw [show decide (L1 = L1) = true by simp]
  have hB := below_drewN_of hB q
  have hRB := hB0.below hB
  clear r1 r2
  go_wp2_with fail
  with_reducible refine (HRG.out _ hRB).mono ?_
  rintro e w4 ⟨⟨C3, k3, c3, rfl, r3⟩, q4⟩
  have hB := hB.trans (q4.mono hB.size)
  have hRB := hRB.below q4
  clear q4
  go_wp2_with fail
  with_reducible refine (HPG.out _ hRB).mono ?_
  rintro e w5 ⟨⟨C4, k4, c4, rfl, r4⟩, q5⟩
  have hB := hB.trans (q5.mono hB.size)
  have r3 := r3.below q5
  clear q5 hRB
  go_wp2_with fail
  have hT := HET.out.below hB
  with_reducible refine (HE2.out _ hT).mono ?_
  rintro e w6 ⟨rfl, q6⟩
  have hB := hB.trans (q6.mono hB.size)
  have r3 := r3.below q6
  have r4 := r4.below q6
  clear q6 hT
  go_wp2_with fail
  with_reducible refine (ints_any _ _ _ _ _ _ L2 L2 _ r4 r3).mono ?_
  rintro e w' ⟨rfl, q7, rfl⟩
  rw [show decide (L2 = L2) = true by simp]
  go_wp2
  go_ret
  exact ⟨rfl, below_drewN_of hB _⟩

set_option maxRecDepth 100000 in
theorem lifted (os : Os) (started : os.Started) (H : Type) (enc : TypeId × Value → H) :
    ReturnsInHanded {} Tryd.checked os 5 .any (fun w args => (Rows.reedSaysSpec.pre enc Tryd.prog Tryd.f5 [] false w args ∧ laidMetH Tryd.prog Rows.reedSaysRow.laid w) ∧ sizedMet enc Tryd.prog Tryd.f5 (OpenSpec.ofChange Rows.reedSaysSpec) false w args)
      (Rows.reedSaysSpec.post enc Tryd.prog Tryd.f5 false true false false) := by
  refine returnsInHanded_of_change_and (C := Tryd.checked) (X := fun w _ => laidMetH Tryd.prog Rows.reedSaysRow.laid w) (fun _ _ _ hh h => h.of_heap hh) own started (by kernel_rfl) Tryd.func5
    (ChangeSpec.witness_at (enc := enc) (C := Tryd.checked) (os := os) (X := fun w _ => laidMetH Tryd.prog Rows.reedSaysRow.laid w) false (laidWorld os) #[.slice none 0 0, .int .i64 0, .slice none 0 0, .int .i64 0] 8 rfl (by kernel_rfl) (by kernel_rfl) (by kernel_rfl) (by kernel_rfl) (by kernel_rfl) (laidWorld_met os _)) ?_
  intro W base args ds gs before hval0 hW _ _ hL _
  have hval : ∀ (j : Nat) t v, Tryd.f5.params[j]? = some t → args[j]? = some v → Value.okWide Tryd.prog W .any base t v := hval0
  have hW' := hW
  obtain ⟨p, q, hA0, hV, rfl, hfz, hnd⟩ := hW
  have hA : DataW.TrodAll enc Tryd.prog W 0 (fun _ => true) true Tryd.f5.params.toList args.toList ds p := hA0
  rw [Tryd.params5] at hA hval
  obtain ⟨v0, vs0, d0, ds0, p0, q0, hargs, rfl, rfl, h0, r0⟩ := trodAll_cons hA
  obtain ⟨v1, vs1, d1, ds1, p1, q1, rfl, rfl, rfl, h1, r1⟩ := trodAll_cons r0
  obtain ⟨v2, vs2, d2, ds2, p2, q2, rfl, rfl, rfl, h2, r2⟩ := trodAll_cons r1
  obtain ⟨v3, vs3, d3, ds3, p3, q3, rfl, rfl, rfl, h3, r3⟩ := trodAll_cons r2
  obtain ⟨rfl, rfl, rfl⟩ := trodAll_nil r3
  obtain rfl : args = #[v0, v1, v2, v3] := by cases args; simp_all
  obtain ⟨rfl, rfl⟩ := trodVars_none hV
  have k0 := h0
  have lt0 : ∀ x ∈ p0, x.block < W.heap.size := by obtain ⟨m, hm⟩ := k0; exact DataW.trod_lt m _ _ _ hm
  obtain ⟨A0, n0, c0, rfl⟩ := okWide_slice Tryd.underlying31 (hval 0 31 v0 rfl rfl)
  obtain ⟨xs0, w0⟩ : ∃ xs, Sl W A0 n0 c0 xs := by
    obtain ⟨fuel, hf⟩ := h0
    rcases open_ints Tryd.underlying31 Tryd.underlying3 (by kernel_rfl) hf with ⟨hcs, _⟩ | ⟨x, l, c, zs, hcs, _, hl, hm, hz, _, hcell, hwz⟩
    · simp [Value.cells] at hcs
      obtain ⟨rfl, rfl, rfl⟩ := hcs
      exact ⟨[], Rd.nil _ _, Nat.le_refl _, fun _ => rfl⟩
    · simp [Value.cells] at hcs
      obtain ⟨rfl, rfl, rfl⟩ := hcs
      exact ⟨_, rd_of_cells (by simp at hz; omega) hl hm hcell hwz, hl, fun h => by cases h⟩
  have k1 := h1
  have lt1 : ∀ x ∈ p1, x.block < W.heap.size := by obtain ⟨m, hm⟩ := k1; exact DataW.trod_lt m _ _ _ hm
  obtain ⟨a1, rfl, rfl, rfl, w1⟩ := open_int Tryd.underlying3 (hval 1 3 v1 rfl rfl) h1
  have k2 := h2
  have lt2 : ∀ x ∈ p2, x.block < W.heap.size := by obtain ⟨m, hm⟩ := k2; exact DataW.trod_lt m _ _ _ hm
  obtain ⟨A2, n2, c2, rfl⟩ := okWide_slice Tryd.underlying31 (hval 2 31 v2 rfl rfl)
  obtain ⟨xs2, w2, hc2⟩ : ∃ xs, Rd W A2 n2 xs ∧ n2 ≤ c2 := by
    obtain ⟨fuel, hf⟩ := h2
    rcases open_ints Tryd.underlying31 Tryd.underlying3 (by kernel_rfl) hf with ⟨hcs, _⟩ | ⟨x, l, c, zs, hcs, _, hl, hm, hz, _, hcell, hwz⟩
    · simp [Value.cells] at hcs
      obtain ⟨rfl, rfl, rfl⟩ := hcs
      exact ⟨[], Rd.nil _ _, Nat.le_refl _⟩
    · simp [Value.cells] at hcs
      obtain ⟨rfl, rfl, rfl⟩ := hcs
      exact ⟨_, rd_of_cells (by simp at hz; omega) hl hm hcell hwz, hl⟩
  have k3 := h3
  have lt3 : ∀ x ∈ p3, x.block < W.heap.size := by obtain ⟨m, hm⟩ := k3; exact DataW.trod_lt m _ _ _ hm
  obtain ⟨a3, rfl, rfl, rfl, w3⟩ := open_int Tryd.underlying3 (hval 3 3 v3 rfl rfl) h3
  clear hA0 hval0
  refine (walk W A0 n0 c0 xs0 w0 a1 (wf_range w1) A2 n2 c2 xs2 w2 hc2 a3 (wf_range w3) (handle_of_laid hL)).mono fun e W' ⟨he, bel⟩ => ?_
  subst he
  exact ⟨_, rfl, _, _, _, [], _, [], hW', trodAll_mk1 (shut_bool Tryd.underlying4 _), (trodAll_cons_mk (Below.trod laidOut (by kernel_rfl) (of_decide_eq_true (by kernel_rfl)) k0 bel lt0) (trodAll_cons_mk (Below.trod laidOut (by kernel_rfl) (of_decide_eq_true (by kernel_rfl)) k1 bel lt1) (trodAll_cons_mk (Below.trod laidOut (by kernel_rfl) (of_decide_eq_true (by kernel_rfl)) k2 bel lt2) (trodAll_cons_mk (Below.trod laidOut (by kernel_rfl) (of_decide_eq_true (by kernel_rfl)) k3 bel lt3) trodAll_mk0)))), rfl, bel.frame _, fun h => by cases h⟩

theorem over : Rows.reedSaysRow.holds Tryd.pinned (OpenSpec.ofChange Rows.reedSaysSpec) :=
  OpenClaim.holds_of_wide 5 Tryd.f5 rfl rfl rfl rfl rfl rfl rfl ⟨rfl, rfl, rfl, rfl, rfl⟩ rfl rfl rfl rfl rfl (by kernel_rfl) Tryd.func5 (by kernel_rfl)
    (of_decide_eq_true (by kernel_rfl)) (by unfold Func.isWrapper; first | (rw [if_pos (by decide +kernel)]; kernel_rfl) | (rw [if_neg (by decide +kernel)]; exact ⟨rfl, rfl⟩))
    (fun os started H enc _ => lifted os started H enc)

theorem card_holds : Rows.ReedSaysCardSaid :=
  Claim7.holds_tied_plain_at .later [] [.handle] true Rows.reedSaysCard.stood.harness Rows.reedSaysCard.stood.looks
    over (fun _ h => by cases h) (by kernel_rfl) (fun _ h => by cases h) reedSays_row_tie rfl ⟨rfl, rfl⟩ (by kernel_rfl) rfl
    (fun f fn hf hfn => by
      obtain rfl : f = 5 := Option.some.inj ((show Tryd.prog.funcNamed "platterhold/platterholdlaw1.ReedSays" = some 5 by kernel_rfl).symm.trans hf) |>.symm
      obtain rfl : fn = Tryd.f5 := (Option.some.inj (Tryd.func5.symm.trans hfn)).symm
      exact ⟨by kernel_rfl, fun j t ht => by
        rw [Tryd.params5] at ht
        have hm : t ∈ [31, 3, 31, 3] := by simpa using Array.mem_of_getElem? ht
        have hall : ([31, 3, 31, 3].all fun u => !Tryd.prog.wantsStandIn u) = true := by kernel_rfl
        exact (show Tryd.prog.wantsStandIn t = false by simpa using List.all_eq_true.1 hall t hm)⟩)
    (by kernel_rfl)
theorem proved : Rows.ReedSaysCardSaid := card_holds
#print axioms proved
end Go.Proofs.YtdhfckdnfppieaaDoor.reedSays
