/- The field axioms hold: GaloisField answers true at every three ints. Conditions: none beside the row's own. -/
import Derived.Test.YtdhfckdnfppieaaOpen
import Derived.Test.YtdhfckdnfppieaaGaloisLaw
import Derived.Test.YtdhfckdnfppieaaIn
import Derived.Test.YtdhfckdnfppieaaXor
namespace Go.Proofs.Ytdhfckdnfppieaa.galoisField
open Go.ChangeShapes Go.WideShapes Go.ChangeAt Go.RowKit
set_option linter.unusedVariables false

theorem chain {w w1 w2 : World} (h : Below w.heap.size w w1) (k : Below w1.heap.size w1 w2) : Below w.heap.size w w2 := h.trans (k.mono h.size)

set_option maxHeartbeats 2000000 in
set_option maxRecDepth 100000 in
theorem walk_ok (w : World) (a b c : Int) (ha : Byte a) (hb : Byte b) (hc : Byte c) :
    Calls Try.prog 3 #[.int .i64 a, .int .i64 b, .int .i64 c] w fun e w' => e = .returned (.bool true) ∧ Below w.heap.size w w' := by
  have H1 := Lib.hid (mulI_assoc ha hb hc)
  have H2 := Lib.hid (mulI_comm ha hb)
  have H3 := Lib.hid (mulI_xor (x := a) (y := b) (z := c))
  have H4 := Lib.hid (mulI_one ha)
  have H5 := Lib.hid (mulI_zero a)
  have hab := mulI_byte b ha
  have hbc := mulI_byte c hb
  have hac := mulI_byte c ha
  have hx := xorI_byte hb hc
  have a0 : 0 ≤ a := ha.1
  have a1 : a ≤ 255 := ha.2
  have b0 : 0 ≤ b := hb.1
  have b1 : b ≤ 255 := hb.2
  have c0 : 0 ≤ c := hc.1
  have c1 : c ≤ 255 := hc.2
  have p0 : 0 ≤ mulI a b := hab.1
  have p1 : mulI a b ≤ 255 := hab.2
  have q0 : 0 ≤ mulI a c := hac.1
  have q1 : mulI a c ≤ 255 := hac.2
  go_enter Try.func3, Try.ntmps3
  go_wp2_with fail
  with_reducible refine (galoisFact_any _).mono ?_
  rintro e w1 ⟨rfl, hB⟩
  go_wp2_with fail
  with_reducible refine (in_yes _ _ _ _ a0 a1).mono ?_
  rintro e w2 ⟨rfl, rfl⟩
  go_wp2_with fail
  with_reducible refine (in_yes _ _ _ _ b0 b1).mono ?_
  rintro e w2 ⟨rfl, rfl⟩
  go_wp2_with fail
  with_reducible refine (in_yes _ _ _ _ c0 c1).mono ?_
  rintro e w2 ⟨rfl, rfl⟩
  go_wp2_with fail
  with_reducible refine (lmul_ok a b _ ha hb).mono ?_
  rintro e w2 ⟨rfl, k⟩
  have hB := chain hB k
  clear k
  go_wp2_with fail
  with_reducible refine (lmul_ok (mulI a b) c _ hab hc).mono ?_
  rintro e w3 ⟨rfl, k⟩
  have hB := chain hB k
  clear k
  go_wp2_with fail
  with_reducible refine (lmul_ok b c _ hb hc).mono ?_
  rintro e w4 ⟨rfl, k⟩
  have hB := chain hB k
  clear k
  go_wp2_with fail
  with_reducible refine (lmul_ok a (mulI b c) _ ha hbc).mono ?_
  rintro e w5 ⟨rfl, k⟩
  rw [← H1.out]
  have hB := chain hB k
  clear k
  go_wp2_with fail
  with_reducible refine (xor_any b c _ b0 (by omega) c0 (by omega)).mono ?_
  rintro e w6 ⟨rfl, rfl⟩
  go_wp2_with fail
  with_reducible refine (lmul_ok a (xorI b c) _ ha hx).mono ?_
  rintro e w6 ⟨rfl, k⟩
  rw [H3.out]
  have hB := chain hB k
  clear k
  go_wp2_with fail
  with_reducible refine (lmul_ok a b _ ha hb).mono ?_
  rintro e w7 ⟨rfl, k⟩
  have hB := chain hB k
  clear k
  go_wp2_with fail
  with_reducible refine (lmul_ok b a _ hb ha).mono ?_
  rintro e w8 ⟨rfl, k⟩
  rw [← H2.out]
  have hB := chain hB k
  clear k
  go_wp2_with fail
  with_reducible refine (lmul_ok a b _ ha hb).mono ?_
  rintro e w9 ⟨rfl, k⟩
  have hB := chain hB k
  clear k
  go_wp2_with fail
  with_reducible refine (lmul_ok a c _ ha hc).mono ?_
  rintro e w10 ⟨rfl, k⟩
  have hB := chain hB k
  clear k
  go_wp2_with fail
  with_reducible refine (xor_any (mulI a b) (mulI a c) _ p0 (by omega) q0 (by omega)).mono ?_
  rintro e w11 ⟨rfl, rfl⟩
  go_wp2_with fail
  with_reducible refine (lmul_ok a 1 _ ha (by unfold Byte; omega)).mono ?_
  rintro e w11 ⟨rfl, k⟩
  rw [H4.out]
  have hB := chain hB k
  clear k
  go_wp2_with fail
  with_reducible refine (lmul_ok a 0 _ ha (by unfold Byte; omega)).mono ?_
  rintro e w12 ⟨rfl, k⟩
  rw [H5.out]
  have hB := chain hB k
  clear k
  go_wp2
  go_ret
  exact ⟨rfl, hB⟩

set_option maxHeartbeats 1000000 in
theorem walk (w : World) (a : Int) (ha : -9223372036854775808 ≤ a ∧ a ≤ 9223372036854775807) (b : Int) (hb : -9223372036854775808 ≤ b ∧ b ≤ 9223372036854775807) (c : Int) (hc : -9223372036854775808 ≤ c ∧ c ≤ 9223372036854775807) :
    Calls Try.prog 3 #[.int .i64 a, .int .i64 b, .int .i64 c] w fun e w' => e = .returned (.bool true) ∧ Below w.heap.size w w' := by
  have wa : Wide a := ha
  have wb : Wide b := hb
  have wc : Wide c := hc
  by_cases hA : 0 ≤ a ∧ a ≤ 255
  · obtain ⟨a0, a1⟩ := hA
    by_cases hB : 0 ≤ b ∧ b ≤ 255
    · obtain ⟨b0, b1⟩ := hB
      by_cases hC : 0 ≤ c ∧ c ≤ 255
      · exact walk_ok w a b c ⟨a0, a1⟩ ⟨b0, b1⟩ hC
      · have hbad : ¬ (Byte b ∧ Byte c) := fun h => hC h.2
        have hab : Byte a ∧ Byte b := ⟨⟨a0, a1⟩, ⟨b0, b1⟩⟩
        have hmb := mulI_byte b hab.1
        have hne : (mulI a b == -1) = false := by have : 0 ≤ mulI a b := hmb.1; simp; omega
        go_enter Try.func3, Try.ntmps3
        go_wp2_with fail
        with_reducible refine (galoisFact_any _).mono ?_
        rintro e w1 ⟨rfl, hB⟩
        go_wp2_with fail
        with_reducible refine (in_yes _ _ _ _ a0 a1).mono ?_
        rintro e w2 ⟨rfl, rfl⟩
        go_wp2_with fail
        with_reducible refine (in_yes _ _ _ _ b0 b1).mono ?_
        rintro e w2 ⟨rfl, rfl⟩
        go_wp2_with fail
        with_reducible refine (in_no _ _ _ _ (by omega)).mono ?_
        rintro e w2 ⟨rfl, rfl⟩
        go_wp2_with fail
        with_reducible refine (lmul_ok a b _ hab.1 hab.2).mono ?_
        rintro e w2 ⟨rfl, k⟩
        have hB := chain hB k
        clear k
        go_wp2_with fail
        with_reducible refine (lmul_bad b c _ wb wc hbad).mono ?_
        rintro e w3 ⟨rfl, k⟩
        have hB := chain hB k
        clear k
        go_wp2
        go_ret
        exact ⟨rfl, hB⟩
    · have hbad : ¬ (Byte a ∧ Byte b) := fun h => hB h.2
      go_enter Try.func3, Try.ntmps3
      go_wp2_with fail
      with_reducible refine (galoisFact_any _).mono ?_
      rintro e w1 ⟨rfl, hB⟩
      go_wp2_with fail
      with_reducible refine (in_yes _ _ _ _ a0 a1).mono ?_
      rintro e w2 ⟨rfl, rfl⟩
      go_wp2_with fail
      with_reducible refine (in_no _ _ _ _ (by omega)).mono ?_
      rintro e w2 ⟨rfl, rfl⟩
      go_wp2_with fail
      with_reducible refine (lmul_bad a b _ wa wb hbad).mono ?_
      rintro e w3 ⟨rfl, k⟩
      have hB := chain hB k
      clear k
      go_wp2
      go_ret
      exact ⟨rfl, hB⟩
  · have hbad : ¬ (Byte a ∧ Byte b) := fun h => hA h.1
    go_enter Try.func3, Try.ntmps3
    go_wp2_with fail
    with_reducible refine (galoisFact_any _).mono ?_
    rintro e w1 ⟨rfl, hB⟩
    go_wp2_with fail
    with_reducible refine (in_no _ _ _ _ (by omega)).mono ?_
    rintro e w2 ⟨rfl, rfl⟩
    go_wp2_with fail
    with_reducible refine (lmul_bad a b _ wa wb hbad).mono ?_
    rintro e w3 ⟨rfl, k⟩
    have hB := chain hB k
    clear k
    go_wp2
    go_ret
    exact ⟨rfl, hB⟩

set_option maxRecDepth 100000 in
theorem lifted (os : Os) (started : os.Started) (H : Type) (enc : TypeId × Value → H) :
    ReturnsInHanded {} Try.checked os 3 .any (Rows.galoisFieldSpec.pre6 enc Try.prog Try.f3 Rows.galoisFieldRow.domain false) (Rows.galoisFieldSpec.post enc Try.prog Try.f3 false true false false) := by
  refine returnsInHanded_of_change (C := Try.checked) own started (by kernel_rfl) Try.func3
    (ChangeSpec.witness6 (enc := enc) (C := Try.checked) false ⟨#[], #[.int .i64 0, .int .i64 0, .int .i64 0], []⟩ 8 (by kernel_rfl) (by kernel_rfl) (by kernel_rfl) (by kernel_rfl)) ?_
  intro W base args ds gs before hval0 hW hcnd _
  have hval : ∀ (j : Nat) t v, Try.f3.params[j]? = some t → args[j]? = some v → Value.okWide Try.prog W .any base t v := hval0
  have hW' := hW
  obtain ⟨p, q, hA0, hV, rfl, hfz, hnd⟩ := hW
  have hA : DataW.TrodAll enc Try.prog W 0 (fun _ => true) true Try.f3.params.toList args.toList ds p := hA0
  rw [Try.params3] at hA hval
  obtain ⟨v0, vs0, d0, ds0, p0, q0, hargs, rfl, rfl, h0, r0⟩ := trodAll_cons hA
  obtain ⟨v1, vs1, d1, ds1, p1, q1, rfl, rfl, rfl, h1, r1⟩ := trodAll_cons r0
  obtain ⟨v2, vs2, d2, ds2, p2, q2, rfl, rfl, rfl, h2, r2⟩ := trodAll_cons r1
  obtain ⟨rfl, rfl, rfl⟩ := trodAll_nil r2
  obtain rfl : args = #[v0, v1, v2] := by cases args; simp_all
  obtain ⟨rfl, rfl⟩ := trodVars_none hV
  have k0 := h0
  have lt0 : ∀ x ∈ p0, x.block < W.heap.size := by obtain ⟨m, hm⟩ := k0; exact DataW.trod_lt m _ _ _ hm
  obtain ⟨a0, rfl, rfl, rfl, w0⟩ := open_int Try.underlying3 (hval 0 3 v0 rfl rfl) h0
  have k1 := h1
  have lt1 : ∀ x ∈ p1, x.block < W.heap.size := by obtain ⟨m, hm⟩ := k1; exact DataW.trod_lt m _ _ _ hm
  obtain ⟨a1, rfl, rfl, rfl, w1⟩ := open_int Try.underlying3 (hval 1 3 v1 rfl rfl) h1
  have k2 := h2
  have lt2 : ∀ x ∈ p2, x.block < W.heap.size := by obtain ⟨m, hm⟩ := k2; exact DataW.trod_lt m _ _ _ hm
  obtain ⟨a2, rfl, rfl, rfl, w2⟩ := open_int Try.underlying3 (hval 2 3 v2 rfl rfl) h2
  clear hA0 hval0
  refine (walk W a0 (wf_range w0) a1 (wf_range w1) a2 (wf_range w2)).mono fun e W' ⟨he, bel⟩ => ?_
  subst he
  exact ⟨_, rfl, _, _, _, [], _, [], hW', trodAll_mk1 (shut_bool Try.underlying4 _), (trodAll_cons_mk (Below.trod laidOut (by kernel_rfl) (of_decide_eq_true (by kernel_rfl)) k0 bel lt0) (trodAll_cons_mk (Below.trod laidOut (by kernel_rfl) (of_decide_eq_true (by kernel_rfl)) k1 bel lt1) (trodAll_cons_mk (Below.trod laidOut (by kernel_rfl) (of_decide_eq_true (by kernel_rfl)) k2 bel lt2) trodAll_mk0))), rfl, bel.frame _, fun h => by cases h⟩

theorem over : Rows.galoisFieldRow.holds Try.pinned (OpenSpec.ofChange Rows.galoisFieldSpec) :=
  OpenClaim.holds_of_wide 3 Try.f3 rfl rfl rfl rfl rfl rfl rfl ⟨rfl, rfl, rfl, rfl, rfl⟩ rfl rfl rfl rfl rfl (by kernel_rfl) Try.func3 (by kernel_rfl)
    (of_decide_eq_true (by kernel_rfl)) (by unfold Func.isWrapper; first | (rw [if_pos (by decide +kernel)]; kernel_rfl) | (rw [if_neg (by decide +kernel)]; exact ⟨rfl, rfl⟩))
    (fun os started H enc _ => lifted os started H enc)

theorem proved : Rows.GaloisFieldSaid := over
#print axioms proved
end Go.Proofs.Ytdhfckdnfppieaa.galoisField
