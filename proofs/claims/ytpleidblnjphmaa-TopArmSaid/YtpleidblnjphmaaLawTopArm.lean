/- A sweep bounds the distance, and wear leveling keeps counters within one: TopArm answers true. -/
import Derived.Test.YtpleidblnjphmaaLawHeadSweep
import Derived.Test.YtpleidblnjphmaaNear
import Derived.Test.YtpleidblnjphmaaWear
import Derived.Test.YtpleidblnjphmaaTIn
import Derived.Test.YtpleidblnjphmaaOpen
import Derived.Deep.QuietTactic
import Derived.BigQuiet
namespace Go.Proofs.Ytpleidblnjphmaa.topArm
open Go Go.ChangeShapes Go.WideShapes Go.ChangeAt Go.RowKit Go.Proofs.Ytpleidblnjphmaa.headSweep
set_option linter.unusedVariables false
set_option maxRecDepth 100000

theorem sl1 (w : World) : Sl (w.alloc (.cells #[.int .i64 8] 3)) (some ⟨w.heap.size, 0, none⟩) 1 1 [8] :=
  ⟨Rd.new (n := 1) rfl (by decide) (by simp) (by intro z hz; simp at hz; subst hz; decide) (fun k hk => by
    obtain rfl : k = 0 := by omega
    simp), Nat.le_refl _, fun h => by cases h⟩
theorem sl5 (w : World) : Sl (w.alloc (.cells #[.int .i64 0, .int .i64 0, .int .i64 0, .int .i64 0, .int .i64 0] 3)) (some ⟨w.heap.size, 0, none⟩) 5 5 [0, 0, 0, 0, 0] :=
  ⟨Rd.new (n := 5) rfl (by decide) (by simp) (by intro z hz; simp at hz; subst hz; decide) (fun k hk => by
    rcases (by omega : k = 0 ∨ k = 1 ∨ k = 2 ∨ k = 3 ∨ k = 4) with rfl | rfl | rfl | rfl | rfl <;> simp), Nat.le_refl _, fun h => by cases h⟩
theorem far198 {a : Int} {xs : List Int} (ha : Trk a) (hx : ∀ x ∈ xs, Trk x) : farI a (sweepL a true xs) ≤ 198 := by
  have hfar := sweep_far (a := a) (up := true) (xs := xs) (lowS_spec xs a).1 (lowS_spec xs a).2.1 (lowS_spec xs a).2.2 (highS_spec xs a).1 (highS_spec xs a).2.1 (highS_spec xs a).2.2
  have h1 := lowS_trk ha hx
  have h2 := highS_trk ha hx
  unfold Trk at h1 h2
  have := hfar.1
  omega
theorem first_fact : farI 5 [8] = 3 ∧ headE 5 [8] = 0 := by decide

set_option maxHeartbeats 4000000 in
theorem walk (w : World) (a : Int) (ha : -9223372036854775808 ≤ a ∧ a ≤ 9223372036854775807) (A : Option Addr) (n c : Nat) (xs : List Int) (hA : Rd w A n xs) (hc : n ≤ c) (many : Int) (hm : -9223372036854775808 ≤ many ∧ many ≤ 9223372036854775807) :
    Calls Try.prog 11 #[.int .i64 a, .slice A n c, .int .i64 many] w fun e w' => e = .returned (.bool true) ∧ Below w.heap.size w w' := by
  have hfi := first_ok (some ⟨w.heap.size, 0, none⟩) 1 1 [8] 5 _ (sl1 w) first_fact.2
  rw [first_fact.1] at hfi
  have HFI := Lib.hid hfi
  clear hfi
  go_enter Try.func11, Try.ntmps11
  go_wp2_with fail
  with_reducible refine HFI.out.mono ?_
  rintro e w1 ⟨A1, c1, rfl, hown1, hB1⟩
  have hB : Below w.heap.size w w1 := ((Below.refl _ w).alloc (Nat.le_refl _) _).trans (hB1.mono (by simp))
  have hA1 := hA.below hB
  clear hown1 hB1 HFI hA
  by_cases hE : headE a xs = 0
  · obtain ⟨h20, htr, hall⟩ := headE_zero hE
    have hf := far198 htr (trk_all hall)
    have hsw := sweep_ok A n c xs a true w1 hA1 hE
    obtain ⟨F, hF⟩ : ∃ F, farI a (sweepL a true xs) = F := ⟨_, rfl⟩
    rw [hF] at hf hsw
    have hF2 : ¬ F > 198 := by omega
    have HSW := Lib.hid hsw
    clear hsw hE h20 htr hall hF ha
    go_wp2_with fail
    with_reducible refine HSW.out.mono ?_
    rintro e w2 ⟨A2, c2, rfl, hown2, hB2⟩
    have hB := hB.trans (hB2.mono hB.size)
    clear hown2 hB2 HSW hA1
    by_cases hk : many < 0 ∨ 1000 < many
    · have haf := after_bad (some ⟨w2.heap.size, 0, none⟩) 5 many _ (sl5 w2).1 hk
      have hti := fun wx => tin_no many 0 1000 wx hk
      have HAF := Lib.hid (And.intro haf hti)
      have hB3 := hB.alloc hB.size (.cells #[.int .i64 0, .int .i64 0, .int .i64 0, .int .i64 0, .int .i64 0] 3)
      clear haf hti hk
      go_wp2_with fail
      with_reducible refine HAF.out.1.mono ?_
      rintro e w' ⟨rfl, rfl⟩
      go_wp2_with fail
      with_reducible refine (HAF.out.2 _).mono ?_
      rintro e w' ⟨rfl, rfl⟩
      go_wp2
      go_ret
      exact ⟨rfl, hB3⟩
    · obtain ⟨k, rfl⟩ : ∃ k : Nat, many = (k : Int) := ⟨many.toNat, by omega⟩
      have hk1 : k ≤ 1000 := by omega
      have haf := after_ok (some ⟨w2.heap.size, 0, none⟩) 5 k _ (sl5 w2) hk1
      have HAF := Lib.hid haf
      have hB3 := hB.alloc hB.size (.cells #[.int .i64 0, .int .i64 0, .int .i64 0, .int .i64 0, .int .i64 0] 3)
      clear haf hk
      go_wp2_with fail
      with_reducible refine HAF.out.mono ?_
      rintro e w5 ⟨g, c5, rfl, hown5, hB5⟩
      have hB6 := hB3.trans (hB5.mono hB3.size)
      have hr5 := hown5.rd (by omega) (fun x hx => by have := wear_mem hk1 x hx; omega)
      have hga := gap_any g c5 k w5 hk1 hr5
      have hsu := sum_any (some ⟨g, 0, none⟩) 5 c5 (wearI k) w5 hr5 (by omega) (wear_mem hk1)
      rw [wear_sum] at hsu
      have hgb : 0 ≤ ((k : Int) + 4) / 5 - (k : Int) / 5 ∧ ((k : Int) + 4) / 5 - (k : Int) / 5 ≤ 1 := by omega
      obtain ⟨G, hG⟩ : ∃ G, ((k : Int) + 4) / 5 - (k : Int) / 5 = G := ⟨_, rfl⟩
      rw [hG] at hga hgb
      obtain ⟨g0, g1⟩ := hgb
      have hkk : ((k : Int) == (k : Int)) = true := by simp
      have HGS := Lib.hid (And.intro hga hsu)
      clear hga hsu hG hown5 hB5 hB3 HAF hr5
      go_wp2_with fail
      with_reducible refine HGS.out.1.mono ?_
      rintro e w' ⟨rfl, rfl⟩
      go_wp2_with fail
      with_reducible refine HGS.out.2.mono ?_
      rintro e w' ⟨rfl, rfl⟩
      go_wp2
      go_ret
      exact ⟨rfl, hB6⟩
  · have hsw := sweep_bad A n c xs a true w1 hA1 hE
    obtain ⟨E, hEE⟩ : ∃ E, headE a xs = E := ⟨_, rfl⟩
    rw [hEE] at hsw
    have HSW := Lib.hid hsw
    clear hsw hE hEE ha hA1
    go_wp2_with fail
    with_reducible refine HSW.out.mono ?_
    rintro e w2 ⟨rfl, rfl⟩
    clear HSW
    by_cases hk : many < 0 ∨ 1000 < many
    · have haf := after_bad (some ⟨w1.heap.size, 0, none⟩) 5 many _ (sl5 w1).1 hk
      have hti := fun wx => tin_no many 0 1000 wx hk
      have HAF := Lib.hid (And.intro haf hti)
      have hB3 := hB.alloc hB.size (.cells #[.int .i64 0, .int .i64 0, .int .i64 0, .int .i64 0, .int .i64 0] 3)
      clear haf hti hk
      go_wp2_with fail
      with_reducible refine HAF.out.1.mono ?_
      rintro e w' ⟨rfl, rfl⟩
      go_wp2_with fail
      with_reducible refine (HAF.out.2 _).mono ?_
      rintro e w' ⟨rfl, rfl⟩
      go_wp2
      go_ret
      exact ⟨rfl, hB3⟩
    · obtain ⟨k, rfl⟩ : ∃ k : Nat, many = (k : Int) := ⟨many.toNat, by omega⟩
      have hk1 : k ≤ 1000 := by omega
      have haf := after_ok (some ⟨w1.heap.size, 0, none⟩) 5 k _ (sl5 w1) hk1
      have HAF := Lib.hid haf
      have hB3 := hB.alloc hB.size (.cells #[.int .i64 0, .int .i64 0, .int .i64 0, .int .i64 0, .int .i64 0] 3)
      clear haf hk
      go_wp2_with fail
      with_reducible refine HAF.out.mono ?_
      rintro e w5 ⟨g, c5, rfl, hown5, hB5⟩
      have hB6 := hB3.trans (hB5.mono hB3.size)
      have hr5 := hown5.rd (by omega) (fun x hx => by have := wear_mem hk1 x hx; omega)
      have hga := gap_any g c5 k w5 hk1 hr5
      have hsu := sum_any (some ⟨g, 0, none⟩) 5 c5 (wearI k) w5 hr5 (by omega) (wear_mem hk1)
      rw [wear_sum] at hsu
      have hgb : 0 ≤ ((k : Int) + 4) / 5 - (k : Int) / 5 ∧ ((k : Int) + 4) / 5 - (k : Int) / 5 ≤ 1 := by omega
      obtain ⟨G, hG⟩ : ∃ G, ((k : Int) + 4) / 5 - (k : Int) / 5 = G := ⟨_, rfl⟩
      rw [hG] at hga hgb
      obtain ⟨g0, g1⟩ := hgb
      have hkk : ((k : Int) == (k : Int)) = true := by simp
      have HGS := Lib.hid (And.intro hga hsu)
      clear hga hsu hG hown5 hB5 hB3 HAF hr5
      go_wp2_with fail
      with_reducible refine HGS.out.1.mono ?_
      rintro e w' ⟨rfl, rfl⟩
      go_wp2_with fail
      with_reducible refine HGS.out.2.mono ?_
      rintro e w' ⟨rfl, rfl⟩
      go_wp2
      go_ret
      exact ⟨rfl, hB6⟩

set_option maxRecDepth 100000 in
theorem lifted (os : Os) (started : os.Started) (H : Type) (enc : TypeId × Value → H) :
    ReturnsInHanded {} Try.checked os 11 .any (Rows.topArmSpec.pre6 enc Try.prog Try.f11 Rows.topArmRow.domain false) (Rows.topArmSpec.post enc Try.prog Try.f11 false true false false) := by
  refine returnsInHanded_of_change (C := Try.checked) own started (by kernel_rfl) Try.func11
    (ChangeSpec.witness6 (enc := enc) (C := Try.checked) false ⟨#[], #[.int .i64 0, .slice none 0 0, .int .i64 0], []⟩ 8 (by kernel_rfl) (by kernel_rfl) (by kernel_rfl) (by kernel_rfl)) ?_
  intro W base args ds gs before hval0 hW hcnd _
  have hval : ∀ (j : Nat) t v, Try.f11.params[j]? = some t → args[j]? = some v → Value.okWide Try.prog W .any base t v := hval0
  have hW' := hW
  obtain ⟨p, q, hA0, hV, rfl, hfz, hnd⟩ := hW
  have hA : DataW.TrodAll enc Try.prog W 0 (fun _ => true) true Try.f11.params.toList args.toList ds p := hA0
  rw [Try.params11] at hA hval
  obtain ⟨v0, vs0, d0, ds0, p0, q0, hargs, rfl, rfl, h0, r0⟩ := trodAll_cons hA
  obtain ⟨v1, vs1, d1, ds1, p1, q1, rfl, rfl, rfl, h1, r1⟩ := trodAll_cons r0
  obtain ⟨v2, vs2, d2, ds2, p2, q2, rfl, rfl, rfl, h2, r2⟩ := trodAll_cons r1
  obtain ⟨rfl, rfl, rfl⟩ := trodAll_nil r2
  obtain rfl : args = #[v0, v1, v2] := by cases args; simp_all
  obtain ⟨rfl, rfl⟩ := trodVars_none hV
  have k0 := h0
  have lt0 : ∀ x ∈ p0, x.block < W.heap.size := by obtain ⟨m, hm⟩ := k0; exact DataW.trod_lt m _ _ _ hm
  obtain ⟨a0, rfl, rfl, rfl, w0⟩ := open_int Try.underlying3 (hval 0 3 v0 rfl rfl) h0
  have k1 := h1
  have lt1 : ∀ x ∈ p1, x.block < W.heap.size := by obtain ⟨m, hm⟩ := k1; exact DataW.trod_lt m _ _ _ hm
  obtain ⟨A1, n1, c1, rfl⟩ := okWide_slice Try.underlying22 (hval 1 22 v1 rfl rfl)
  obtain ⟨xs1, w1, hc1⟩ : ∃ xs, Rd W A1 n1 xs ∧ n1 ≤ c1 := by
    obtain ⟨fuel, hf⟩ := h1
    rcases open_ints Try.underlying22 Try.underlying3 (by kernel_rfl) hf with ⟨hcs, _⟩ | ⟨x, l, c, zs, hcs, _, hl, hm, hz, _, hcell, hwz⟩
    · simp [Value.cells] at hcs
      obtain ⟨rfl, rfl, rfl⟩ := hcs
      exact ⟨[], Rd.nil _ _, Nat.le_refl _⟩
    · simp [Value.cells] at hcs
      obtain ⟨rfl, rfl, rfl⟩ := hcs
      exact ⟨_, rd_of_cells (by simp at hz; omega) hl hm hcell hwz, hl⟩
  have k2 := h2
  have lt2 : ∀ x ∈ p2, x.block < W.heap.size := by obtain ⟨m, hm⟩ := k2; exact DataW.trod_lt m _ _ _ hm
  obtain ⟨a2, rfl, rfl, rfl, w2⟩ := open_int Try.underlying3 (hval 2 3 v2 rfl rfl) h2
  clear hA0 hval0
  refine (walk W a0 (wf_range w0) A1 n1 c1 xs1 w1 hc1 a2 (wf_range w2)).mono fun e W' ⟨he, bel⟩ => ?_
  subst he
  exact ⟨_, rfl, _, _, _, [], _, [], hW', trodAll_mk1 (shut_bool Try.underlying4 _), (trodAll_cons_mk (Below.trod laidOut (by kernel_rfl) (of_decide_eq_true (by kernel_rfl)) k0 bel lt0) (trodAll_cons_mk (Below.trod laidOut (by kernel_rfl) (of_decide_eq_true (by kernel_rfl)) k1 bel lt1) (trodAll_cons_mk (Below.trod laidOut (by kernel_rfl) (of_decide_eq_true (by kernel_rfl)) k2 bel lt2) trodAll_mk0))), rfl, bel.frame _, fun h => by cases h⟩

theorem over : Rows.topArmRow.holds Try.pinned (OpenSpec.ofChange Rows.topArmSpec) :=
  OpenClaim.holds_of_wide 11 Try.f11 rfl rfl rfl rfl rfl rfl rfl ⟨rfl, rfl, rfl, rfl, rfl⟩ rfl rfl rfl rfl rfl (by kernel_rfl) Try.func11 (by kernel_rfl)
    (of_decide_eq_true (by kernel_rfl)) (by unfold Func.isWrapper; first | (rw [if_pos (by decide +kernel)]; kernel_rfl) | (rw [if_neg (by decide +kernel)]; exact ⟨rfl, rfl⟩))
    (fun os started H enc _ => lifted os started H enc)

theorem proved : Rows.TopArmSaid := over
#print axioms proved
end Go.Proofs.Ytpleidblnjphmaa.topArm
