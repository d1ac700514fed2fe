/- Every way serves each request once: HeadOnce answers true. -/
import Derived.Test.YtpleidblnjphmaaNear
import Derived.Test.YtpleidblnjphmaaRRis
import Derived.Test.YtpleidblnjphmaaHeadF
import Derived.Test.YtpleidblnjphmaaInts
import Derived.Test.YtpleidblnjphmaaOpen
import Derived.Deep.QuietTactic
import Derived.BigQuiet
namespace Go.Proofs.Ytpleidblnjphmaa.headOnce
open Go Go.ChangeShapes Go.WideShapes Go.ChangeAt Go.RowKit
set_option linter.unusedVariables false
set_option maxRecDepth 100000

theorem sweep_rising (a : Int) (up : Bool) (xs : List Int) : risingL (sweepL a up xs) = risingL xs := by
  refine risingL_of_perm ?_
  have h : (lowL a up (sortL xs) ++ highL a up (sortL xs)).Perm (sortL xs) := List.filter_append_perm _ _
  have h1 := (List.reverse_perm (lowL a up (sortL xs))).append_right (highL a up (sortL xs))
  unfold sweepL
  cases up
  · exact (h1.trans h).trans (sortL_perm xs)
  · exact ((List.perm_append_comm.trans h1).trans h).trans (sortL_perm xs)
theorem near_rising (a : Int) (xs : List Int) : risingL (nearL a xs) = risingL xs := risingL_of_perm (nearL_perm a xs)

set_option maxHeartbeats 4000000 in
theorem walk (w : World) (a : Int) (ha : -9223372036854775808 ≤ a ∧ a ≤ 9223372036854775807) (up : Bool) (A : Option Addr) (n c : Nat) (xs : List Int) (hS : Sl w A n c xs) :
    Calls Try.prog 10 #[.int .i64 a, .bool up, .slice A n c] w fun e w' => e = .returned (.bool true) ∧ Below w.heap.size w w' := by
  have hA : Rd w A n xs := hS.1
  by_cases hE : headE a xs = 0
  · obtain ⟨h20, htr, hall⟩ := headE_zero hE
    have hl := hA.len
    have hxr := trk_all hall
    have hn20 : n ≤ 20 := by omega
    have hir : ∀ (L : List Int), (∀ x ∈ L, Trk x) → ∀ x ∈ L, -9223372036854775808 ≤ x ∧ x ≤ 9223372036854775807 := fun L h x hx => by have := h x hx; unfold Trk at this; omega
    have hnt : ∀ x ∈ nearL a xs, Trk x := fun x hx => hxr x ((nearL_perm a xs).mem_iff.1 hx)
    have hst : ∀ x ∈ sweepL a up xs, Trk x := fun x hx => hxr x ((sweepL_perm a up xs x).1 hx)
    have hrt : ∀ x ∈ risingL xs, Trk x := fun x hx => hxr x ((risingL_perm xs).mem_iff.1 hx)
    have H0 := Lib.hid (And.intro hl (And.intro hxr (And.intro hE hir)))
    have HT := Lib.hid (And.intro hnt (And.intro hst hrt))
    clear hE hl hxr hall htr h20 ha hir hnt hst hrt
    go_enter Try.func10, Try.ntmps10
    go_wp2_with fail
    with_reducible refine (headFact_any _).mono ?_
    rintro e w1 ⟨rfl, hB1⟩
    have hc1 := first_ok A n c xs a w1 (hS.below hB1) H0.out.2.2.1
    have HC1 := Lib.hid hc1
    clear hc1
    go_wp2_with fail
    with_reducible refine HC1.out.mono ?_
    rintro e w2 ⟨A2, c2, rfl, hown2, hB2⟩
    have hB12 := hB1.trans (hB2.mono hB1.size)
    have hr2 := hown2.rd (by omega) (H0.out.2.2.2 _ H0.out.2.1)
    have hc2 := near_ok A n c xs a w2 (hS.below hB12) H0.out.2.2.1
    have HC2 := Lib.hid hc2
    clear hc2 hB1 hB2 HC1 hown2
    go_wp2_with fail
    with_reducible refine HC2.out.mono ?_
    rintro e w3 ⟨A3, c3, rfl, hown3, hB3⟩
    have hB13 := hB12.trans (hB3.mono hB12.size)
    have hr23 := hr2.below hB3
    have hr3 := hown3.rd (by omega) (H0.out.2.2.2 _ HT.out.1)
    have hc3 := sweep_ok A n c xs a up w3 (hA.below hB13) H0.out.2.2.1
    have HC3 := Lib.hid hc3
    clear hc3 hB12 hB3 HC2 hown3 hr2
    go_wp2_with fail
    with_reducible refine HC3.out.mono ?_
    rintro e w4 ⟨A4, c4, rfl, hown4, hB4⟩
    have hB14 := hB13.trans (hB4.mono hB13.size)
    have hr24 := hr23.below hB4
    have hr34 := hr3.below hB4
    have hr4 := hown4.rd (by omega) (H0.out.2.2.2 _ HT.out.2.1)
    have hc4 := rising_any A n c xs w4 (hA.below hB14) hn20 H0.out.2.1
    have HC4 := Lib.hid hc4
    clear hc4 hB13 hB4 HC3 hown4 hr23 hr3 hS hA
    go_wp2_with fail
    with_reducible refine HC4.out.mono ?_
    rintro e w5 ⟨⟨A5, c5, rfl, hown5⟩, hB5⟩
    have hB15 := hB14.trans (hB5.mono hB14.size)
    have hr25 := hr24.below hB5
    have hr35 := hr34.below hB5
    have hr45 := hr4.below hB5
    have hr5 := hown5.rd (by omega) (H0.out.2.2.2 _ HT.out.2.2)
    obtain ⟨R, hR⟩ : ∃ R, risingL xs = R := ⟨_, rfl⟩
    have hc5 := rising_any A2 n c2 xs w5 hr25 hn20 H0.out.2.1
    have hn1 := near_rising a xs
    have hs1 := sweep_rising a up xs
    rw [hR] at hc5 hr5 hn1 hs1
    have HR := Lib.hid (And.intro hn1 (And.intro hs1 hR))
    have HC5 := Lib.hid hc5
    have hRR : decide (R = R) = true := by simp
    clear hc5 hB14 hB5 HC4 hown5 hr24 hr34 hr4 hn1 hs1 hR hr25
    go_wp2_with fail
    with_reducible refine HC5.out.mono ?_
    rintro e w6 ⟨⟨A6, c6, rfl, hown6⟩, hB6⟩
    have hB16 := hB15.trans (hB6.mono hB15.size)
    have hr36 := hr35.below hB6
    have hr46 := hr45.below hB6
    have hr56 := hr5.below hB6
    have hr6 := hown6.rd (by omega) (H0.out.2.2.2 _ (by have := HT.out.2.2; rw [HR.out.2.2] at this; exact this))
    have hc6 := ints_any A6 A5 n n c6 c5 R R w6 hr6 hr56
    have HC6 := Lib.hid hc6
    clear hc6 hB15 hB6 HC5 hown6 hr35 hr45 hr5 hr6
    go_wp2_with fail
    with_reducible refine HC6.out.mono ?_
    rintro e w6' ⟨rfl, q6, rfl⟩
    have hc7 := rising_any A3 n c3 (nearL a xs) (w6.drewN q6) (hr36.drewN _) hn20 HT.out.1
    rw [HR.out.1] at hc7
    have HC7 := Lib.hid hc7
    clear hc7 HC6
    rw [hRR]
    go_wp2_with fail
    with_reducible refine HC7.out.mono ?_
    rintro e w7 ⟨⟨A7, c7, rfl, hown7⟩, hB7⟩
    have hB17 := (below_drewN_of hB16 q6).trans (hB7.mono (by have := hB16.size; simpa using this))
    have hr47 := (hr46.drewN q6).below hB7
    have hr57 := (hr56.drewN q6).below hB7
    have hr7 := hown7.rd (by omega) (H0.out.2.2.2 _ (by have := HT.out.2.2; rw [HR.out.2.2] at this; exact this))
    have hc8 := ints_any A7 A5 n n c7 c5 R R w7 hr7 hr57
    have HC8 := Lib.hid hc8
    clear hc8 hB16 hB7 HC7 hown7 hr36 hr46 hr56 hr7
    go_wp2_with fail
    with_reducible refine HC8.out.mono ?_
    rintro e w7' ⟨rfl, q7, rfl⟩
    have hc9 := rising_any A4 n c4 (sweepL a up xs) (w7.drewN q7) (hr47.drewN _) hn20 HT.out.2.1
    rw [HR.out.2.1] at hc9
    have HC9 := Lib.hid hc9
    clear hc9 HC8
    rw [hRR]
    go_wp2_with fail
    with_reducible refine HC9.out.mono ?_
    rintro e w8 ⟨⟨A8, c8, rfl, hown8⟩, hB8⟩
    have hB18 := (below_drewN_of hB17 q7).trans (hB8.mono (by have := hB17.size; simpa using this))
    have hr58 := (hr57.drewN q7).below hB8
    have hr8 := hown8.rd (by omega) (H0.out.2.2.2 _ (by have := HT.out.2.2; rw [HR.out.2.2] at this; exact this))
    have hc10 := ints_any A8 A5 n n c8 c5 R R w8 hr8 hr58
    have HC10 := Lib.hid hc10
    clear hc10 hB17 hB8 HC9 hown8 hr47 hr57 hr8
    go_wp2_with fail
    with_reducible refine HC10.out.mono ?_
    rintro e w8' ⟨rfl, q8, rfl⟩
    rw [hRR]
    go_wp2
    go_ret
    exact ⟨rfl, below_drewN_of hB18 _⟩
  · have hs1 := fun wx (h : Rd wx A n xs) => first_bad A n c xs a wx h hE
    have hs2 := fun wx (h : Rd wx A n xs) => near_bad A n c xs a wx h hE
    have hs3 := fun wx (h : Rd wx A n xs) => sweep_bad A n c xs a up wx h hE
    obtain ⟨E, hEE⟩ : ∃ E, headE a xs = E := ⟨_, rfl⟩
    rw [hEE] at hs1 hs2 hs3
    have HS := Lib.hid (And.intro hs1 (And.intro hs2 hs3))
    clear hs1 hs2 hs3 hEE hE
    go_enter Try.func10, Try.ntmps10
    go_wp2_with fail
    with_reducible refine (headFact_any _).mono ?_
    rintro e w1 ⟨rfl, hB1⟩
    have hA1 := hA.below hB1
    have H2 := Lib.hid (And.intro (HS.out.1 w1 hA1) (And.intro (HS.out.2.1 w1 hA1) (HS.out.2.2 w1 hA1)))
    clear HS
    go_wp2_with fail
    with_reducible refine H2.out.1.mono ?_
    rintro e w2 ⟨rfl, rfl⟩
    go_wp2_with fail
    with_reducible refine H2.out.2.1.mono ?_
    rintro e w2 ⟨rfl, rfl⟩
    go_wp2_with fail
    with_reducible refine H2.out.2.2.mono ?_
    rintro e w2 ⟨rfl, rfl⟩
    go_wp2
    go_ret
    exact ⟨rfl, hB1⟩

set_option maxRecDepth 100000 in
theorem lifted (os : Os) (started : os.Started) (H : Type) (enc : TypeId × Value → H) :
    ReturnsInHanded {} Try.checked os 10 .any (Rows.headOnceSpec.pre6 enc Try.prog Try.f10 Rows.headOnceRow.domain false) (Rows.headOnceSpec.post enc Try.prog Try.f10 false true false false) := by
  refine returnsInHanded_of_change (C := Try.checked) own started (by kernel_rfl) Try.func10
    (ChangeSpec.witness6 (enc := enc) (C := Try.checked) false ⟨#[], #[.int .i64 0, .bool false, .slice none 0 0], []⟩ 8 (by kernel_rfl) (by kernel_rfl) (by kernel_rfl) (by kernel_rfl)) ?_
  intro W base args ds gs before hval0 hW hcnd _
  have hval : ∀ (j : Nat) t v, Try.f10.params[j]? = some t → args[j]? = some v → Value.okWide Try.prog W .any base t v := hval0
  have hW' := hW
  obtain ⟨p, q, hA0, hV, rfl, hfz, hnd⟩ := hW
  have hA : DataW.TrodAll enc Try.prog W 0 (fun _ => true) true Try.f10.params.toList args.toList ds p := hA0
  rw [Try.params10] at hA hval
  obtain ⟨v0, vs0, d0, ds0, p0, q0, hargs, rfl, rfl, h0, r0⟩ := trodAll_cons hA
  obtain ⟨v1, vs1, d1, ds1, p1, q1, rfl, rfl, rfl, h1, r1⟩ := trodAll_cons r0
  obtain ⟨v2, vs2, d2, ds2, p2, q2, rfl, rfl, rfl, h2, r2⟩ := trodAll_cons r1
  obtain ⟨rfl, rfl, rfl⟩ := trodAll_nil r2
  obtain rfl : args = #[v0, v1, v2] := by cases args; simp_all
  obtain ⟨rfl, rfl⟩ := trodVars_none hV
  have k0 := h0
  have lt0 : ∀ x ∈ p0, x.block < W.heap.size := by obtain ⟨m, hm⟩ := k0; exact DataW.trod_lt m _ _ _ hm
  obtain ⟨a0, rfl, rfl, rfl, w0⟩ := open_int Try.underlying3 (hval 0 3 v0 rfl rfl) h0
  have k1 := h1
  have lt1 : ∀ x ∈ p1, x.block < W.heap.size := by obtain ⟨m, hm⟩ := k1; exact DataW.trod_lt m _ _ _ hm
  obtain ⟨a1, rfl, rfl, rfl⟩ := open_bool Try.underlying4 (hval 1 4 v1 rfl rfl) h1
  have k2 := h2
  have lt2 : ∀ x ∈ p2, x.block < W.heap.size := by obtain ⟨m, hm⟩ := k2; exact DataW.trod_lt m _ _ _ hm
  obtain ⟨A2, n2, c2, rfl⟩ := okWide_slice Try.underlying22 (hval 2 22 v2 rfl rfl)
  obtain ⟨xs2, w2⟩ : ∃ xs, Sl W A2 n2 c2 xs := by
    obtain ⟨fuel, hf⟩ := h2
    rcases open_ints Try.underlying22 Try.underlying3 (by kernel_rfl) hf with ⟨hcs, _⟩ | ⟨x, l, c, zs, hcs, _, hl, hm, hz, _, hcell, hwz⟩
    · simp [Value.cells] at hcs
      obtain ⟨rfl, rfl, rfl⟩ := hcs
      exact ⟨[], Rd.nil _ _, Nat.le_refl _, fun _ => rfl⟩
    · simp [Value.cells] at hcs
      obtain ⟨rfl, rfl, rfl⟩ := hcs
      exact ⟨_, rd_of_cells (by simp at hz; omega) hl hm hcell hwz, hl, fun h => by cases h⟩
  clear hA0 hval0
  refine (walk W a0 (wf_range w0) a1 A2 n2 c2 xs2 w2).mono fun e W' ⟨he, bel⟩ => ?_
  subst he
  exact ⟨_, rfl, _, _, _, [], _, [], hW', trodAll_mk1 (shut_bool Try.underlying4 _), (trodAll_cons_mk (Below.trod laidOut (by kernel_rfl) (of_decide_eq_true (by kernel_rfl)) k0 bel lt0) (trodAll_cons_mk (Below.trod laidOut (by kernel_rfl) (of_decide_eq_true (by kernel_rfl)) k1 bel lt1) (trodAll_cons_mk (Below.trod laidOut (by kernel_rfl) (of_decide_eq_true (by kernel_rfl)) k2 bel lt2) trodAll_mk0))), rfl, bel.frame _, fun h => by cases h⟩

theorem over : Rows.headOnceRow.holds Try.pinned (OpenSpec.ofChange Rows.headOnceSpec) :=
  OpenClaim.holds_of_wide 10 Try.f10 rfl rfl rfl rfl rfl rfl rfl ⟨rfl, rfl, rfl, rfl, rfl⟩ rfl rfl rfl rfl rfl (by kernel_rfl) Try.func10 (by kernel_rfl)
    (of_decide_eq_true (by kernel_rfl)) (by unfold Func.isWrapper; first | (rw [if_pos (by decide +kernel)]; kernel_rfl) | (rw [if_neg (by decide +kernel)]; exact ⟨rfl, rfl⟩))
    (fun os started H enc _ => lifted os started H enc)

theorem proved : Rows.HeadOnceSaid := over
#print axioms proved
end Go.Proofs.Ytpleidblnjphmaa.headOnce
