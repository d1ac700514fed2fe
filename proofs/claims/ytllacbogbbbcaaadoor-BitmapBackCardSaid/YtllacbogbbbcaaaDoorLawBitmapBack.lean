/- Freeing what was allocated restores the map: BitmapBack answers true at every slice of slices of ints and every int; errors.errorType is tied to the program's text. Conditions: none beside the card's own. -/
import Derived.Test.YtllacbogbbbcaaaDoorBitS
import Derived.Test.YtllacbogbbbcaaaDoorOpenD
namespace Go.Proofs.YtllacbogbbbcaaaDoor.bitmapBack
open Go Go.ChangeShapes Go.WideShapes Go.ChangeAt Go.RowKit
set_option linter.unusedVariables false
set_option maxRecDepth 20000

set_option maxHeartbeats 8000000 in
theorem walk (w : World) (A : Option Addr) (m c : Nat) (rs : List RV) (hA : RRows w A m rs) (hmc : m ≤ c) (v : Int) (hv : -9223372036854775808 ≤ v ∧ v ≤ 9223372036854775807) (hE : ErrT w) :
    Calls Tryd.prog 6 #[.slice A m c, .int .i64 v] w fun e w' => e = .returned (.bool true) ∧ Below w.heap.size w w' := by
  have HET := Lib.hid hE
  have HA := Lib.hid hA
  clear hE hA
  go_enter Tryd.func6, Tryd.ntmps6
  go_wp2_with fail
  with_reducible refine (bitmapFact_any _).mono ?_
  rintro e w1 ⟨rfl, hB⟩
  go_wp2_with fail
  have hA1 := HA.out.below hB
  with_reducible refine (taken_any A m c rs _ hA1).mono ?_
  rintro e w2 ⟨rfl, ⟨t, hM⟩, k2⟩
  have hB2 := hB.trans (k2.mono hB.size)
  have hbg := hB.size
  obtain ⟨b, hb⟩ : ∃ b, w1.heap.size = b := ⟨_, rfl⟩
  rw [hb] at hM hbg ⊢
  have HM := Lib.hid hM
  clear hb hM k2 hA1
  go_wp2_with fail
  with_reducible refine (free_any b t _ HM.out).mono ?_
  rintro e w' ⟨rfl, q, rfl⟩
  have hM3 : MapAt (w2.drewN q) b t := HM.out
  have hB3 := below_drewN_of hB2 q
  obtain ⟨W3, hW3⟩ : ∃ W, W = w2.drewN q := ⟨_, rfl⟩
  rw [← hW3] at hM3 hB3 ⊢
  have HM3 := Lib.hid hM3
  clear hW3 hM3 hB2 HM
  by_cases hin : 1 ≤ v ∧ v ≤ 32
  · obtain ⟨n, rfl⟩ := Int.eq_ofNat_of_zero_le (show 0 ≤ v by omega)
    have n1 : 1 ≤ n := by omega
    have n32 : n ≤ 32 := by omega
    clear hin hv
    go_wp2_with fail
    with_reducible refine (take_any b t n _ HM3.out n1 n32).mono ?_
    rintro e w4 h
    rcases h with ⟨a, h1, h2, h3⟩ | ⟨_, h2, h3⟩
    · obtain ⟨hfree, ha, _⟩ := first_is h1
      have ht := HM3.out.2
      have hal := all_run hfree 32 (by omega)
      have hcl := clr_or ht (show a + n ≤ 32 by omega) hfree
      have hfu := full_or t a n
      have hnf := full_not n1 hfree
      have hul : t ||| runN a n < 4294967296 := or_lt ht (run_lt (by omega))
      obtain ⟨u, hu⟩ : ∃ u, t ||| runN a n = u := ⟨_, rfl⟩
      rw [hu] at h3 hal hcl hfu hul
      obtain ⟨q4, rfl⟩ := h3
      subst h2
      have hM4 := MapAt.set (w := W3.drewN q4) HM3.out hul
      have hB4 := (below_drewN_of hB3 q4).setCell (p := ⟨b, 0, none⟩) hbg (.int .u32 (u : Int))
      obtain ⟨W4, hW4⟩ : ∃ W, W = (W3.drewN q4).setCell ⟨b, 0, none⟩ (.int .u32 (u : Int)) := ⟨_, rfl⟩
      rw [← hW4] at hM4 hB4 ⊢
      have HM4 := Lib.hid hM4
      have han : a + n ≤ 32 := by omega
      have hF1 := all_le t 32
      have hfr4 := fun wx h => free_any b u wx h
      have hfr6 := fun wx h => free_any b t wx h
      obtain ⟨F1, hF1e⟩ : ∃ F, allF t 32 = F := ⟨_, rfl⟩
      obtain ⟨F2, hF2e⟩ : ∃ F, allF u 32 = F := ⟨_, rfl⟩
      obtain ⟨M1, hM1e⟩ : ∃ F, mostF t 32 = F := ⟨_, rfl⟩
      rw [hF2e, hF1e] at hal
      rw [hF1e] at hF1
      rw [hF2e] at hfr4
      rw [hF1e, hM1e] at hfr6
      rw [hF1e, hM1e]
      have hne : ((F2 : Int) != (F1 : Int) - (n : Int)) = false := by simp; omega
      have hs1 : ((F1 : Int) == (F1 : Int)) = true := by simp
      have hs2 : ((M1 : Int) == (M1 : Int)) = true := by simp
      have HFR4 := Lib.hid hfr4
      have HFR6 := Lib.hid hfr6
      have HC := Lib.hid (And.intro hcl (And.intro hfu hnf))
      clear hW4 hM4 h1 hfree hal hcl hfu hnf hul hu hF1e hF2e hM1e hfr4 hfr6 ht hB3
      go_wp2_with fail
      with_reducible refine (HFR4.out _ HM4.out).mono ?_
      rintro e w' ⟨rfl, q5, rfl⟩
      have hM5 : MapAt (W4.drewN q5) b u := HM4.out
      have hB5 := below_drewN_of hB4 q5
      obtain ⟨W5, hW5⟩ : ∃ W, W = W4.drewN q5 := ⟨_, rfl⟩
      rw [← hW5] at hM5 hB5 ⊢
      have HM5 := Lib.hid hM5
      clear hW5 hM5 hB4 HM4
      go_wp2_with fail
      with_reducible refine (back_any b u a n _ HM5.out n1 han).mono ?_
      rintro e w6 h
      rcases h with ⟨_, h2, h3⟩ | ⟨h1, _⟩
      · rw [HC.out.1] at h3
        obtain ⟨q6, rfl⟩ := h3
        subst h2
        have hM6 := MapAt.set (w := W5.drewN q6) HM5.out HM3.out.2
        have hB6 := (below_drewN_of hB5 q6).setCell (p := ⟨b, 0, none⟩) hbg (.int .u32 (t : Int))
        obtain ⟨W6, hW6⟩ : ∃ W, W = (W5.drewN q6).setCell ⟨b, 0, none⟩ (.int .u32 (t : Int)) := ⟨_, rfl⟩
        rw [← hW6] at hM6 hB6 ⊢
        have HM6 := Lib.hid hM6
        clear hW6 hM6 hB5
        go_wp2_with fail
        with_reducible refine (HFR6.out _ HM6.out).mono ?_
        rintro e w' ⟨rfl, q7, rfl⟩
        have hM7 : MapAt (W6.drewN q7) b t := HM6.out
        have hB7 := below_drewN_of hB6 q7
        obtain ⟨W7, hW7⟩ : ∃ W, W = W6.drewN q7 := ⟨_, rfl⟩
        rw [← hW7] at hM7 hB7 ⊢
        have HM7 := Lib.hid hM7
        clear hW7 hM7 hB6 HM6
        go_wp2_with fail
        with_reducible refine (back_any b t a n _ HM7.out n1 han).mono ?_
        rintro e w8 h
        rcases h with ⟨h1, _⟩ | ⟨_, h2, h3⟩
        · exact absurd h1 HC.out.2.2
        · obtain ⟨q8, rfl⟩ := h3
          subst h2
          have hB8 := below_drewN_of hB7 q8
          have hT := HET.out.below hB8
          go_wp2_with fail
          with_reducible refine (error_err 5 5 _ hT).mono ?_
          rintro e w9 ⟨rfl, k9⟩
          go_wp2
          go_ret
          exact ⟨rfl, hB8.trans (k9.mono hB8.size)⟩
      · exact absurd HC.out.2.1 h1
    · obtain ⟨q4, rfl⟩ := h3
      subst h2
      go_wp2
      go_ret
      exact ⟨rfl, below_drewN_of hB3 _⟩
  · have hno : v < 1 ∨ 32 < v := by omega
    go_wp2_with fail
    with_reducible refine (take_range b v _ hno).mono ?_
    rintro e w' ⟨rfl, rfl⟩
    go_wp2
    go_ret
    exact ⟨rfl, hB3⟩

set_option maxRecDepth 100000 in
theorem lifted (os : Os) (started : os.Started) (H : Type) (enc : TypeId × Value → H) :
    ReturnsInHanded {} Tryd.checked os 6 .any (fun w args => (Rows.bitmapBackSpec.pre enc Tryd.prog Tryd.f6 [] false w args ∧ laidMetH Tryd.prog Rows.bitmapBackRow.laid w) ∧ sizedMet enc Tryd.prog Tryd.f6 (OpenSpec.ofChange Rows.bitmapBackSpec) false w args)
      (Rows.bitmapBackSpec.post enc Tryd.prog Tryd.f6 false true false false) := by
  refine returnsInHanded_of_change_and (C := Tryd.checked) (X := fun w _ => laidMetH Tryd.prog Rows.bitmapBackRow.laid w) (fun _ _ _ hh h => h.of_heap hh) own started (by kernel_rfl) Tryd.func6
    (ChangeSpec.witness_at (enc := enc) (C := Tryd.checked) (os := os) (X := fun w _ => laidMetH Tryd.prog Rows.bitmapBackRow.laid w) false (laidWorld os) #[.slice none 0 0, .int .i64 0] 8 rfl (by kernel_rfl) (by kernel_rfl) (by kernel_rfl) (by kernel_rfl) (by kernel_rfl) (laidWorld_met os _)) ?_
  intro W base args ds gs before hval0 hW _ _ hL _
  have hval : ∀ (j : Nat) t v, Tryd.f6.params[j]? = some t → args[j]? = some v → Value.okWide Tryd.prog W .any base t v := hval0
  have hW' := hW
  obtain ⟨p, q, hA0, hV, rfl, hfz, hnd⟩ := hW
  have hA : DataW.TrodAll enc Tryd.prog W 0 (fun _ => true) true Tryd.f6.params.toList args.toList ds p := hA0
  rw [Tryd.params6] at hA hval
  obtain ⟨v0, vs0, d0, ds0, p0, q0, hargs, rfl, rfl, h0, r0⟩ := trodAll_cons hA
  obtain ⟨v1, vs1, d1, ds1, p1, q1, rfl, rfl, rfl, h1, r1⟩ := trodAll_cons r0
  obtain ⟨rfl, rfl, rfl⟩ := trodAll_nil r1
  obtain rfl : args = #[v0, v1] := by cases args; simp_all
  obtain ⟨rfl, rfl⟩ := trodVars_none hV
  have k0 := h0
  have lt0 : ∀ x ∈ p0, x.block < W.heap.size := by obtain ⟨m, hm⟩ := k0; exact DataW.trod_lt m _ _ _ hm
  obtain ⟨A0, n0, c0, rfl⟩ := okWide_slice Tryd.underlying23 (hval 0 23 v0 rfl rfl)
  obtain ⟨rs0, w0, hc0⟩ : ∃ rs, RRows W A0 n0 rs ∧ n0 ≤ c0 := by
    obtain ⟨fuel, hf⟩ := h0
    rcases Go.Deep.open_int_rows Tryd.underlying23 Tryd.underlying22 Tryd.underlying3 (by kernel_rfl) (by kernel_rfl) hf with ⟨hcs, _⟩ | ⟨x, l, c, AA, LL, CC, ZZ, hcs, _, hl, hm, _, hrow⟩
    · simp [Value.cells] at hcs
      obtain ⟨rfl, rfl, rfl⟩ := hcs
      exact ⟨[], rrows_nil _ _, Nat.le_refl _⟩
    · simp [Value.cells] at hcs
      obtain ⟨rfl, rfl, rfl⟩ := hcs
      exact ⟨_, rrows_of_cells hl hm hrow, hl⟩
  have k1 := h1
  have lt1 : ∀ x ∈ p1, x.block < W.heap.size := by obtain ⟨m, hm⟩ := k1; exact DataW.trod_lt m _ _ _ hm
  obtain ⟨a1, rfl, rfl, rfl, w1⟩ := open_int Tryd.underlying3 (hval 1 3 v1 rfl rfl) h1
  clear hA0 hval0
  refine (walk W A0 n0 c0 rs0 w0 hc0 a1 (wf_range w1) (handle_of_laid hL)).mono fun e W' ⟨he, bel⟩ => ?_
  subst he
  exact ⟨_, rfl, _, _, _, [], _, [], hW', trodAll_mk1 (shut_bool Tryd.underlying4 _), (trodAll_cons_mk (Below.trod laidOut (by kernel_rfl) (of_decide_eq_true (by kernel_rfl)) k0 bel lt0) (trodAll_cons_mk (Below.trod laidOut (by kernel_rfl) (of_decide_eq_true (by kernel_rfl)) k1 bel lt1) trodAll_mk0)), rfl, bel.frame _, fun h => by cases h⟩

theorem over : Rows.bitmapBackRow.holds Tryd.pinned (OpenSpec.ofChange Rows.bitmapBackSpec) :=
  OpenClaim.holds_of_wide 6 Tryd.f6 rfl rfl rfl rfl rfl rfl rfl ⟨rfl, rfl, rfl, rfl, rfl⟩ rfl rfl rfl rfl rfl (by kernel_rfl) Tryd.func6 (by kernel_rfl)
    (of_decide_eq_true (by kernel_rfl)) (by unfold Func.isWrapper; first | (rw [if_pos (by decide +kernel)]; kernel_rfl) | (rw [if_neg (by decide +kernel)]; exact ⟨rfl, rfl⟩))
    (fun os started H enc _ => lifted os started H enc)

theorem card_holds : Rows.BitmapBackCardSaid :=
  Claim7.holds_tied_plain_at .later [] [.handle] true Rows.bitmapBackCard.stood.harness Rows.bitmapBackCard.stood.looks
    over (fun _ h => by cases h) (by kernel_rfl) (fun _ h => by cases h) bitmapBack_row_tie rfl ⟨rfl, rfl⟩ (by kernel_rfl) rfl
    (fun f fn hf hfn => by
      obtain rfl : f = 6 := Option.some.inj ((show Tryd.prog.funcNamed "platterhold/platterholdlaw1.BitmapBack" = some 6 by kernel_rfl).symm.trans hf) |>.symm
      obtain rfl : fn = Tryd.f6 := (Option.some.inj (Tryd.func6.symm.trans hfn)).symm
      exact ⟨by kernel_rfl, fun j t ht => by
        rw [Tryd.params6] at ht
        have hm : t ∈ [23, 3] := by simpa using Array.mem_of_getElem? ht
        have hall : ([23, 3].all fun u => !Tryd.prog.wantsStandIn u) = true := by kernel_rfl
        exact (show Tryd.prog.wantsStandIn t = false by simpa using List.all_eq_true.1 hall t hm)⟩)
    (by kernel_rfl)
theorem proved : Rows.BitmapBackCardSaid := card_holds
#print axioms proved
end Go.Proofs.YtllacbogbbbcaaaDoor.bitmapBack
