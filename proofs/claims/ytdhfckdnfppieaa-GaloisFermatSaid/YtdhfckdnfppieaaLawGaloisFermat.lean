/- The 255th power of every nonzero byte is 1, and exponents add: GaloisFermat answers true at every three ints. Conditions: none beside the row's own. -/
import Derived.Test.YtdhfckdnfppieaaOpen
import Derived.Test.YtdhfckdnfppieaaGaloisLaw
import Derived.Test.YtdhfckdnfppieaaPow
import Derived.Test.YtdhfckdnfppieaaIn
namespace Go.Proofs.Ytdhfckdnfppieaa.galoisFermat
open Go.ChangeShapes Go.WideShapes Go.ChangeAt Go.RowKit
set_option linter.unusedVariables false

theorem fermatI {x : Int} (hx : Byte x) (h0 : x ≠ 0) : powI x 255 = 1 := by
  unfold powI
  rw [fermat (nat256 hx) (by have := hx.1; omega)]; rfl
theorem zeroI : powI 0 255 = 0 := by
  unfold powI
  rw [show (0 : Int).toNat = 0 from rfl, zero_pow (by decide)]; rfl
theorem addI {x : Int} (hx : Byte x) (n m : Nat) : mulI (powI x n) (powI x m) = powI x (n + m) := by
  show ((mulN (powI x n).toNat (powI x m).toNat : Nat) : Int) = ((powN x.toNat (n + m) : Nat) : Int)
  rw [show (powI x n).toNat = powN x.toNat n from by unfold powI; omega, show (powI x m).toNat = powN x.toNat m from by unfold powI; omega, powN_add (nat256 hx)]

set_option maxHeartbeats 1000000 in
theorem walk_in (w : World) (a : Int) (n m : Int) (ha : Byte a) (hn0 : 0 ≤ n) (hn5 : n ≤ 500) (hm0 : 0 ≤ m) (hm5 : m ≤ 500) :
    Calls Try.prog 4 #[.int .i64 a, .int .i64 n, .int .i64 m] w fun e w' => e = .returned (.bool true) ∧ Below w.heap.size w w' := by
  have hadd := addI ha n.toNat m.toNat
  rw [show n.toNat + m.toNat = (n + m).toNat from by omega] at hadd
  have HA := Lib.hid hadd
  have hp := powI_byte ha n.toNat
  have hq := powI_byte ha m.toNat
  clear hadd
  by_cases h0 : a = 0
  · subst h0
    have HV := Lib.hid zeroI
    go_enter Try.func4, Try.ntmps4
    go_wp2_with fail
    with_reducible refine (galoisFact_any _).mono ?_
    rintro e w7 ⟨rfl, hB⟩
    go_wp2_with fail
    with_reducible refine (Pow_int 0 255 _ ha (by omega) (by omega)).mono ?_
    rintro e w8 ⟨rfl, k⟩
    rw [show powI 0 (255 : Int).toNat = 0 from HV.out]
    have hB := chain hB k
    clear k
    go_wp2_with fail
    with_reducible refine (in_yes _ _ _ _ hn0 hn5).mono ?_
    rintro e w' ⟨rfl, rfl⟩
    go_wp2_with fail
    with_reducible refine (in_yes _ _ _ _ hm0 hm5).mono ?_
    rintro e w' ⟨rfl, rfl⟩
    go_wp2_with fail
    with_reducible refine (Pow_int 0 n _ ha hn0 (by omega)).mono ?_
    rintro e w11 ⟨rfl, k⟩
    have hB := chain hB k
    clear k
    go_wp2_with fail
    with_reducible refine (Pow_int 0 m _ ha hm0 (by omega)).mono ?_
    rintro e w12 ⟨rfl, k⟩
    have hB := chain hB k
    clear k
    go_wp2_with fail
    with_reducible refine (Pow_int 0 (n + m) _ ha (by omega) (by omega)).mono ?_
    rintro e w13 ⟨rfl, k⟩
    have hB := chain hB k
    clear k
    go_wp2_with fail
    with_reducible refine (lmul_ok (powI 0 n.toNat) (powI 0 m.toNat) _ hp hq).mono ?_
    rintro e w14 ⟨rfl, k⟩
    rw [HA.out]
    have hB := chain hB k
    clear k
    go_wp2
    go_ret
    exact ⟨rfl, hB⟩
  · have hb0 : (a != 0) = true := by simpa using h0
    have hb1 : (a == 0) = false := by simpa using h0
    have HV := Lib.hid (fermatI ha h0)
    clear h0
    go_enter Try.func4, Try.ntmps4
    go_wp2_with fail
    with_reducible refine (galoisFact_any _).mono ?_
    rintro e w15 ⟨rfl, hB⟩
    go_wp2_with fail
    with_reducible refine (Pow_int a 255 _ ha (by omega) (by omega)).mono ?_
    rintro e w16 ⟨rfl, k⟩
    rw [show powI a (255 : Int).toNat = 1 from HV.out]
    have hB := chain hB k
    clear k
    go_wp2_with fail
    with_reducible refine (in_yes _ _ _ _ hn0 hn5).mono ?_
    rintro e w' ⟨rfl, rfl⟩
    go_wp2_with fail
    with_reducible refine (in_yes _ _ _ _ hm0 hm5).mono ?_
    rintro e w' ⟨rfl, rfl⟩
    go_wp2_with fail
    with_reducible refine (Pow_int a n _ ha hn0 (by omega)).mono ?_
    rintro e w19 ⟨rfl, k⟩
    have hB := chain hB k
    clear k
    go_wp2_with fail
    with_reducible refine (Pow_int a m _ ha hm0 (by omega)).mono ?_
    rintro e w20 ⟨rfl, k⟩
    have hB := chain hB k
    clear k
    go_wp2_with fail
    with_reducible refine (Pow_int a (n + m) _ ha (by omega) (by omega)).mono ?_
    rintro e w21 ⟨rfl, k⟩
    have hB := chain hB k
    clear k
    go_wp2_with fail
    with_reducible refine (lmul_ok (powI a n.toNat) (powI a m.toNat) _ hp hq).mono ?_
    rintro e w22 ⟨rfl, k⟩
    rw [HA.out]
    have hB := chain hB k
    clear k
    go_wp2
    go_ret
    exact ⟨rfl, hB⟩

set_option maxHeartbeats 1000000 in
theorem walk_out (w : World) (a : Int) (n m : Int) (ha : Byte a) (h : (n < 0 ∨ 500 < n) ∨ (0 ≤ n ∧ n ≤ 500 ∧ (m < 0 ∨ 500 < m))) :
    Calls Try.prog 4 #[.int .i64 a, .int .i64 n, .int .i64 m] w fun e w' => e = .returned (.bool true) ∧ Below w.heap.size w w' := by
  by_cases h0 : a = 0
  · subst h0
    have HV := Lib.hid zeroI
    rcases h with h | ⟨hn0, hn5, h⟩
    · skip
      go_enter Try.func4, Try.ntmps4
      go_wp2_with fail
      with_reducible refine (galoisFact_any _).mono ?_
      rintro e w23 ⟨rfl, hB⟩
      go_wp2_with fail
      with_reducible refine (Pow_int 0 255 _ ha (by omega) (by omega)).mono ?_
      rintro e w24 ⟨rfl, k⟩
      rw [show powI 0 (255 : Int).toNat = 0 from HV.out]
      have hB := chain hB k
      clear k
      go_wp2_with fail
      with_reducible refine (in_no _ _ _ _ h).mono ?_
      rintro e w' ⟨rfl, rfl⟩
      go_wp2
      go_ret
      exact ⟨rfl, hB⟩
    · skip
      go_enter Try.func4, Try.ntmps4
      go_wp2_with fail
      with_reducible refine (galoisFact_any _).mono ?_
      rintro e w26 ⟨rfl, hB⟩
      go_wp2_with fail
      with_reducible refine (Pow_int 0 255 _ ha (by omega) (by omega)).mono ?_
      rintro e w27 ⟨rfl, k⟩
      rw [show powI 0 (255 : Int).toNat = 0 from HV.out]
      have hB := chain hB k
      clear k
      go_wp2_with fail
      with_reducible refine (in_yes _ _ _ _ hn0 hn5).mono ?_
      rintro e w' ⟨rfl, rfl⟩
      go_wp2_with fail
      with_reducible refine (in_no _ _ _ _ h).mono ?_
      rintro e w' ⟨rfl, rfl⟩
      go_wp2
      go_ret
      exact ⟨rfl, hB⟩
  · have hb0 : (a != 0) = true := by simpa using h0
    have hb1 : (a == 0) = false := by simpa using h0
    have HV := Lib.hid (fermatI ha h0)
    clear h0
    rcases h with h | ⟨hn0, hn5, h⟩
    · skip
      go_enter Try.func4, Try.ntmps4
      go_wp2_with fail
      with_reducible refine (galoisFact_any _).mono ?_
      rintro e w30 ⟨rfl, hB⟩
      go_wp2_with fail
      with_reducible refine (Pow_int a 255 _ ha (by omega) (by omega)).mono ?_
      rintro e w31 ⟨rfl, k⟩
      rw [show powI a (255 : Int).toNat = 1 from HV.out]
      have hB := chain hB k
      clear k
      go_wp2_with fail
      with_reducible refine (in_no _ _ _ _ h).mono ?_
      rintro e w' ⟨rfl, rfl⟩
      go_wp2
      go_ret
      exact ⟨rfl, hB⟩
    · skip
      go_enter Try.func4, Try.ntmps4
      go_wp2_with fail
      with_reducible refine (galoisFact_any _).mono ?_
      rintro e w33 ⟨rfl, hB⟩
      go_wp2_with fail
      with_reducible refine (Pow_int a 255 _ ha (by omega) (by omega)).mono ?_
      rintro e w34 ⟨rfl, k⟩
      rw [show powI a (255 : Int).toNat = 1 from HV.out]
      have hB := chain hB k
      clear k
      go_wp2_with fail
      with_reducible refine (in_yes _ _ _ _ hn0 hn5).mono ?_
      rintro e w' ⟨rfl, rfl⟩
      go_wp2_with fail
      with_reducible refine (in_no _ _ _ _ h).mono ?_
      rintro e w' ⟨rfl, rfl⟩
      go_wp2
      go_ret
      exact ⟨rfl, hB⟩

set_option maxHeartbeats 1000000 in
theorem walk (w : World) (a : Int) (ha : -9223372036854775808 ≤ a ∧ a ≤ 9223372036854775807) (n : Int) (hn : -9223372036854775808 ≤ n ∧ n ≤ 9223372036854775807) (m : Int) (hm : -9223372036854775808 ≤ m ∧ m ≤ 9223372036854775807) :
    Calls Try.prog 4 #[.int .i64 a, .int .i64 n, .int .i64 m] w fun e w' => e = .returned (.bool true) ∧ Below w.heap.size w w' := by
  by_cases hA : 0 ≤ a ∧ a ≤ 255
  · by_cases h1 : 0 ≤ n ∧ n ≤ 500
    · by_cases h2 : 0 ≤ m ∧ m ≤ 500
      · exact walk_in w a n m hA h1.1 h1.2 h2.1 h2.2
      · exact walk_out w a n m hA (.inr ⟨h1.1, h1.2, by omega⟩)
    · exact walk_out w a n m hA (.inl (by omega))
  · have wa : Wide a := ha
    have hbad : ¬ Byte a := hA
    go_enter Try.func4, Try.ntmps4
    go_wp2_with fail
    with_reducible refine (galoisFact_any _).mono ?_
    rintro e w37 ⟨rfl, hB⟩
    go_wp2_with fail
    with_reducible refine (Pow_byte a 255 _ wa hbad).mono ?_
    rintro e w38 ⟨rfl, k⟩
    have hB := chain hB k
    clear k
    go_wp2_with fail
    with_reducible refine (in_no _ _ _ _ (by omega)).mono ?_
    rintro e w' ⟨rfl, rfl⟩
    go_wp2
    go_ret
    exact ⟨rfl, hB⟩

set_option maxRecDepth 100000 in
theorem lifted (os : Os) (started : os.Started) (H : Type) (enc : TypeId × Value → H) :
    ReturnsInHanded {} Try.checked os 4 .any (Rows.galoisFermatSpec.pre6 enc Try.prog Try.f4 Rows.galoisFermatRow.domain false) (Rows.galoisFermatSpec.post enc Try.prog Try.f4 false true false false) := by
  refine returnsInHanded_of_change (C := Try.checked) own started (by kernel_rfl) Try.func4
    (ChangeSpec.witness6 (enc := enc) (C := Try.checked) false ⟨#[], #[.int .i64 0, .int .i64 0, .int .i64 0], []⟩ 8 (by kernel_rfl) (by kernel_rfl) (by kernel_rfl) (by kernel_rfl)) ?_
  intro W base args ds gs before hval0 hW hcnd _
  have hval : ∀ (j : Nat) t v, Try.f4.params[j]? = some t → args[j]? = some v → Value.okWide Try.prog W .any base t v := hval0
  have hW' := hW
  obtain ⟨p, q, hA0, hV, rfl, hfz, hnd⟩ := hW
  have hA : DataW.TrodAll enc Try.prog W 0 (fun _ => true) true Try.f4.params.toList args.toList ds p := hA0
  rw [Try.params4] at hA hval
  obtain ⟨v0, vs0, d0, ds0, p0, q0, hargs, rfl, rfl, h0, r0⟩ := trodAll_cons hA
  obtain ⟨v1, vs1, d1, ds1, p1, q1, rfl, rfl, rfl, h1, r1⟩ := trodAll_cons r0
  obtain ⟨v2, vs2, d2, ds2, p2, q2, rfl, rfl, rfl, h2, r2⟩ := trodAll_cons r1
  obtain ⟨rfl, rfl, rfl⟩ := trodAll_nil r2
  obtain rfl : args = #[v0, v1, v2] := by cases args; simp_all
  obtain ⟨rfl, rfl⟩ := trodVars_none hV
  have k0 := h0
  have lt0 : ∀ x ∈ p0, x.block < W.heap.size := by obtain ⟨m, hm⟩ := k0; exact DataW.trod_lt m _ _ _ hm
  obtain ⟨a0, rfl, rfl, rfl, w0⟩ := open_int Try.underlying3 (hval 0 3 v0 rfl rfl) h0
  have k1 := h1
  have lt1 : ∀ x ∈ p1, x.block < W.heap.size := by obtain ⟨m, hm⟩ := k1; exact DataW.trod_lt m _ _ _ hm
  obtain ⟨a1, rfl, rfl, rfl, w1⟩ := open_int Try.underlying3 (hval 1 3 v1 rfl rfl) h1
  have k2 := h2
  have lt2 : ∀ x ∈ p2, x.block < W.heap.size := by obtain ⟨m, hm⟩ := k2; exact DataW.trod_lt m _ _ _ hm
  obtain ⟨a2, rfl, rfl, rfl, w2⟩ := open_int Try.underlying3 (hval 2 3 v2 rfl rfl) h2
  clear hA0 hval0
  refine (walk W a0 (wf_range w0) a1 (wf_range w1) a2 (wf_range w2)).mono fun e W' ⟨he, bel⟩ => ?_
  subst he
  exact ⟨_, rfl, _, _, _, [], _, [], hW', trodAll_mk1 (shut_bool Try.underlying4 _), (trodAll_cons_mk (Below.trod laidOut (by kernel_rfl) (of_decide_eq_true (by kernel_rfl)) k0 bel lt0) (trodAll_cons_mk (Below.trod laidOut (by kernel_rfl) (of_decide_eq_true (by kernel_rfl)) k1 bel lt1) (trodAll_cons_mk (Below.trod laidOut (by kernel_rfl) (of_decide_eq_true (by kernel_rfl)) k2 bel lt2) trodAll_mk0))), rfl, bel.frame _, fun h => by cases h⟩

theorem over : Rows.galoisFermatRow.holds Try.pinned (OpenSpec.ofChange Rows.galoisFermatSpec) :=
  OpenClaim.holds_of_wide 4 Try.f4 rfl rfl rfl rfl rfl rfl rfl ⟨rfl, rfl, rfl, rfl, rfl⟩ rfl rfl rfl rfl rfl (by kernel_rfl) Try.func4 (by kernel_rfl)
    (of_decide_eq_true (by kernel_rfl)) (by unfold Func.isWrapper; first | (rw [if_pos (by decide +kernel)]; kernel_rfl) | (rw [if_neg (by decide +kernel)]; exact ⟨rfl, rfl⟩))
    (fun os started H enc _ => lifted os started H enc)

theorem proved : Rows.GaloisFermatSaid := over
#print axioms proved
end Go.Proofs.Ytdhfckdnfppieaa.galoisFermat
