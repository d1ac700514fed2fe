/- Paths and blocks correspond one to one: PlaceBack answers true at every int and every slice of ints. Conditions: none beside the row's own. -/
import Derived.Test.YtllacbogbbbcaaaOpen
import Derived.Test.YtllacbogbbbcaaaPlaceFact
import Derived.Test.YtllacbogbbbcaaaPlaceLaw
namespace Go.Proofs.Ytllacbogbbbcaaa.placeBack
open Go.ChangeShapes Go.WideShapes Go.ChangeAt Go.RowKit
set_option linter.unusedVariables false

/-- The second half: what leads to a block is its way. -/
theorem drew_below {w w1 w2 : World} {q : Nat} (h : Below w.heap.size w w1) (e : w2 = w1.drewN q) : Below w.heap.size w w2 := by
  subst e; exact below_drewN_of h q

set_option maxHeartbeats 1000000 in
theorem walk (w : World) (i : Int) (hi : -9223372036854775808 ≤ i ∧ i ≤ 9223372036854775807) (A : Option Addr) (n c : Nat) (xs : List Int) (hA : Rd w A n xs) (hc : n ≤ c) :
    Calls Try.prog 5 #[.int .i64 i, .slice A n c] w fun e w' => e = .returned (.bool true) ∧ Below w.heap.size w w' := by
  by_cases hin : 0 ≤ i ∧ i ≤ 23
  · obtain ⟨h0, h1⟩ := hin
    have hbk := blk_ofL h0 h1
    by_cases hx : (blk xs).2 = 0
    · obtain ⟨v, hv⟩ : ∃ v, blk xs = (v, 0) := ⟨(blk xs).1, by rw [← hx]⟩
      obtain ⟨hv0, hv1, hof⟩ := ofL_blk hv
      go_enter Try.func5, Try.ntmps5
      go_wp2_with fail
      refine (placeFact_any _).mono ?_
      rintro e w1 ⟨rfl, hB⟩
      go_wp2_with fail
      refine (of_ok i _ h0 h1).mono ?_
      rintro e w3 ⟨A1, n1, rfl, hR, hB2⟩
      have hB3 := hB.trans (hB2.mono hB.size)
      go_wp2_with fail
      refine (block_good _ _ _ _ _ hR (Nat.le_refl _) i hbk).mono ?_
      rintro e w4 ⟨rfl, q, rfl⟩
      have hii : (i != i) = false := by simp
      go_wp2_with fail
      refine (block_good _ _ _ _ _ (hA.below (below_drewN_of hB3 q)) hc v hv).mono ?_
      rintro e w4 ⟨rfl, q2, rfl⟩
      go_wp2_with fail
      refine (of_ok v _ hv0 hv1).mono ?_
      rintro e w5 ⟨A2, n2, rfl, hR2, hB4⟩
      have hB5 := hB3.trans (hB4.mono (by simpa using hB3.size) |> fun h => (⟨h.os, h.tape, h.output, h.size, h.block⟩ : Below w.heap.size w3 w5))
      go_wp2_with fail
      refine (ints_any _ _ _ _ _ _ _ _ _ hR2 (hA.below hB5)).mono ?_
      rintro e w6 ⟨rfl, q3, rfl⟩
      have hd : decide (ofL v = xs) = true := by simp [hof]
      clear hof hv
      go_wp2
      go_ret
      exact ⟨rfl, below_drewN_of hB5 _⟩
    · go_enter Try.func5, Try.ntmps5
      go_wp2_with fail
      refine (placeFact_any _).mono ?_
      rintro e w1 ⟨rfl, hB⟩
      go_wp2_with fail
      refine (of_ok i _ h0 h1).mono ?_
      rintro e w3 ⟨A1, n1, rfl, hR, hB2⟩
      have hB3 := hB.trans (hB2.mono hB.size)
      go_wp2_with fail
      refine (block_good _ _ _ _ _ hR (Nat.le_refl _) i hbk).mono ?_
      rintro e w4 ⟨rfl, q, rfl⟩
      have hii : (i != i) = false := by simp
      go_wp2_with fail
      refine (block_err _ _ _ _ _ (hA.below (below_drewN_of hB3 q)) hc hx).mono ?_
      rintro e w4 ⟨rfl, q2, rfl⟩
      go_wp2
      go_ret
      exact ⟨rfl, below_drewN_of hB3 _⟩
  · have hbad : i < 0 ∨ 23 < i := by omega
    by_cases hx : (blk xs).2 = 0
    · obtain ⟨v, hv⟩ : ∃ v, blk xs = (v, 0) := ⟨(blk xs).1, by rw [← hx]⟩
      obtain ⟨hv0, hv1, hof⟩ := ofL_blk hv
      have hs : ∀ W : World, Calls Try.prog 13 #[.int .i64 i, .int .i64 0, .int .i64 23] W fun e w' => e = .returned (.bool false) ∧ W = w' := by
        intro W
        rcases hbad with hb | hb
        · go_enter Try.func13, Try.ntmps13
          go_wp2
          go_ret
          exact ⟨rfl, rfl⟩
        · have h0 : 0 ≤ i := by omega
          have hd : decide (i ≤ 23) = false := by simp; omega
          go_enter Try.func13, Try.ntmps13
          go_wp2
          go_ret
          exact ⟨rfl, rfl⟩
      go_enter Try.func5, Try.ntmps5
      go_wp2_with fail
      refine (placeFact_any _).mono ?_
      rintro e w1 ⟨rfl, hB⟩
      go_wp2_with fail
      refine (of_bad i _ hbad).mono ?_
      rintro e w3 ⟨rfl, rfl⟩
      go_wp2_with fail
      refine (hs _).mono ?_
      rintro e w3 ⟨rfl, rfl⟩
      go_wp2_with fail
      refine (block_good _ _ _ _ _ (hA.below hB) hc v hv).mono ?_
      rintro e w4 ⟨rfl, q2, rfl⟩
      go_wp2_with fail
      refine (of_ok v _ hv0 hv1).mono ?_
      rintro e w5 ⟨A2, n2, rfl, hR2, hB4⟩
      have hB5 := hB.trans (hB4.mono (by simpa using hB.size) |> fun h => (⟨h.os, h.tape, h.output, h.size, h.block⟩ : Below w.heap.size w1 w5))
      go_wp2_with fail
      refine (ints_any _ _ _ _ _ _ _ _ _ hR2 (hA.below hB5)).mono ?_
      rintro e w6 ⟨rfl, q3, rfl⟩
      have hd : decide (ofL v = xs) = true := by simp [hof]
      clear hof hv
      go_wp2
      go_ret
      exact ⟨rfl, below_drewN_of hB5 _⟩
    · have hs : ∀ W : World, Calls Try.prog 13 #[.int .i64 i, .int .i64 0, .int .i64 23] W fun e w' => e = .returned (.bool false) ∧ W = w' := by
        intro W
        rcases hbad with hb | hb
        · go_enter Try.func13, Try.ntmps13
          go_wp2
          go_ret
          exact ⟨rfl, rfl⟩
        · have h0 : 0 ≤ i := by omega
          have hd : decide (i ≤ 23) = false := by simp; omega
          go_enter Try.func13, Try.ntmps13
          go_wp2
          go_ret
          exact ⟨rfl, rfl⟩
      go_enter Try.func5, Try.ntmps5
      go_wp2_with fail
      refine (placeFact_any _).mono ?_
      rintro e w1 ⟨rfl, hB⟩
      go_wp2_with fail
      refine (of_bad i _ hbad).mono ?_
      rintro e w3 ⟨rfl, rfl⟩
      go_wp2_with fail
      refine (hs _).mono ?_
      rintro e w3 ⟨rfl, rfl⟩
      go_wp2_with fail
      refine (block_err _ _ _ _ _ (hA.below hB) hc hx).mono ?_
      rintro e w4 ⟨rfl, q2, rfl⟩
      go_wp2
      go_ret
      exact ⟨rfl, below_drewN_of hB _⟩

set_option maxRecDepth 100000 in
theorem lifted (os : Os) (started : os.Started) (H : Type) (enc : TypeId × Value → H) :
    ReturnsInHanded {} Try.checked os 5 .any (Rows.placeBackSpec.pre6 enc Try.prog Try.f5 Rows.placeBackRow.domain false) (Rows.placeBackSpec.post enc Try.prog Try.f5 false true false false) := by
  refine returnsInHanded_of_change (C := Try.checked) own started (by kernel_rfl) Try.func5
    (ChangeSpec.witness6 (enc := enc) (C := Try.checked) false ⟨#[], #[.int .i64 0, .slice none 0 0], []⟩ 8 (by kernel_rfl) (by kernel_rfl) (by kernel_rfl) (by kernel_rfl)) ?_
  intro W base args ds gs before hval0 hW hcnd _
  have hval : ∀ (j : Nat) t v, Try.f5.params[j]? = some t → args[j]? = some v → Value.okWide Try.prog W .any base t v := hval0
  have hW' := hW
  obtain ⟨p, q, hA0, hV, rfl, hfz, hnd⟩ := hW
  have hA : DataW.TrodAll enc Try.prog W 0 (fun _ => true) true Try.f5.params.toList args.toList ds p := hA0
  rw [Try.params5] at hA hval
  obtain ⟨v0, vs0, d0, ds0, p0, q0, hargs, rfl, rfl, h0, r0⟩ := trodAll_cons hA
  obtain ⟨v1, vs1, d1, ds1, p1, q1, rfl, rfl, rfl, h1, r1⟩ := trodAll_cons r0
  obtain ⟨rfl, rfl, rfl⟩ := trodAll_nil r1
  obtain rfl : args = #[v0, v1] := by cases args; simp_all
  obtain ⟨rfl, rfl⟩ := trodVars_none hV
  have k0 := h0
  have lt0 : ∀ x ∈ p0, x.block < W.heap.size := by obtain ⟨m, hm⟩ := k0; exact DataW.trod_lt m _ _ _ hm
  obtain ⟨a0, rfl, rfl, rfl, w0⟩ := open_int Try.underlying3 (hval 0 3 v0 rfl rfl) h0
  have k1 := h1
  have lt1 : ∀ x ∈ p1, x.block < W.heap.size := by obtain ⟨m, hm⟩ := k1; exact DataW.trod_lt m _ _ _ hm
  obtain ⟨A1, n1, c1, rfl⟩ := okWide_slice Try.underlying31 (hval 1 31 v1 rfl rfl)
  obtain ⟨xs1, w1, hc1⟩ : ∃ xs, Rd W A1 n1 xs ∧ n1 ≤ c1 := by
    obtain ⟨fuel, hf⟩ := h1
    rcases open_ints Try.underlying31 Try.underlying3 (by kernel_rfl) hf with ⟨hcs, _⟩ | ⟨x, l, c, zs, hcs, _, hl, hm, hz, _, hcell, hwz⟩
    · simp [Value.cells] at hcs
      obtain ⟨rfl, rfl, rfl⟩ := hcs
      exact ⟨[], Rd.nil _ _, Nat.le_refl _⟩
    · simp [Value.cells] at hcs
      obtain ⟨rfl, rfl, rfl⟩ := hcs
      exact ⟨_, rd_of_cells (by simp at hz; omega) hl hm hcell hwz, hl⟩
  clear hA0 hval0
  refine (walk W a0 (wf_range w0) A1 n1 c1 xs1 w1 hc1).mono fun e W' ⟨he, bel⟩ => ?_
  subst he
  exact ⟨_, rfl, _, _, _, [], _, [], hW', trodAll_mk1 (shut_bool Try.underlying4 _), (trodAll_cons_mk (Below.trod laidOut (by kernel_rfl) (of_decide_eq_true (by kernel_rfl)) k0 bel lt0) (trodAll_cons_mk (Below.trod laidOut (by kernel_rfl) (of_decide_eq_true (by kernel_rfl)) k1 bel lt1) trodAll_mk0)), rfl, bel.frame _, fun h => by cases h⟩

theorem over : Rows.placeBackRow.holds Try.pinned (OpenSpec.ofChange Rows.placeBackSpec) :=
  OpenClaim.holds_of_wide 5 Try.f5 rfl rfl rfl rfl rfl rfl rfl ⟨rfl, rfl, rfl, rfl, rfl⟩ rfl rfl rfl rfl rfl (by kernel_rfl) Try.func5 (by kernel_rfl)
    (of_decide_eq_true (by kernel_rfl)) (by unfold Func.isWrapper; first | (rw [if_pos (by decide +kernel)]; kernel_rfl) | (rw [if_neg (by decide +kernel)]; exact ⟨rfl, rfl⟩))
    (fun os started H enc _ => lifted os started H enc)

theorem proved : Rows.PlaceBackSaid := over
#print axioms proved
end Go.Proofs.Ytllacbogbbbcaaa.placeBack
