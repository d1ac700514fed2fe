/- Inclusion proofs of a split list pass through the other half's root: TopSums answers true at every slice of ints, int. Conditions: none beside the row's own. -/
import Derived.Test.YtpleidblnjphmaaMer4
import Derived.Test.YtpleidblnjphmaaTIn
namespace Go.Proofs.Ytpleidblnjphmaa.topSums
open Go Go.ChangeShapes Go.WideShapes Go.ChangeAt Go.RowKit
set_option linter.unusedVariables false

theorem rhalf_any (n : Nat) (w : World) (h16 : n ≤ 16) : Calls Try.prog 20 #[.int .i64 n] w fun e w' => e = .returned (.int .i64 (halfN n : Nat)) ∧ w = w' := by
  go_enter Try.func20, Try.ntmps20
  go_wp2
  go_loop [3] (fun i => ∃ k : Nat, i = .int .i64 k ∧ (k = 1 ∨ k = 2 ∨ k = 4 ∨ k = 8) ∧ (k = 1 ∨ k < n)) (fun i => n - (intOf i).toNat)
  case atStart => exact ⟨1, rfl, .inl rfl, .inl rfl⟩
  case round =>
    obtain ⟨k, rfl, hk, hk1⟩ := hrel
    have HK := Lib.hid (And.intro hk hk1)
    have hk8 : k ≤ 8 := by omega
    have hk0 : 1 ≤ k := by omega
    clear hk hk1
    by_cases hlt : 2 * k < n
    · have hI : (2 : Int) * (k : Int) < (n : Int) := by omega
      go_wp2
      go_round
      case rel => exact ⟨k * 2, by go_num, by have := HK.out; omega, .inr (by omega)⟩
      case measure => simp [intOf]; omega
    · have hI : ¬ (2 : Int) * (k : Int) < (n : Int) := by omega
      have HE := Lib.hid (half_end h16 HK.out.1 HK.out.2 hlt)
      go_wp2
      go_ret
      exact ⟨by rw [← HE.out]; rfl, rfl⟩
theorem zero_rd (w : World) : Rd (w.alloc (.cells #[.int .i64 0] 3)) (some ⟨w.heap.size, 0, none⟩) 1 [0] :=
  Rd.new rfl (by decide) (by simp) (by simp) (fun k hk => by
    obtain rfl : k = 0 := by omega
    simp)

set_option maxHeartbeats 4000000 in
theorem walk_ok (w : World) (A : Option Addr) (n c : Nat) (xs : List Int) (hA : Rd w A n xs) (hc : n ≤ c) (i : Nat) (hi : i < n) (h2 : 2 ≤ n) (h16 : n ≤ 16) (h : allB xs 0 1000 = true) :
    Calls Try.prog 6 #[.slice A n c, .int .i64 i] w fun e w' => e = .returned (.bool true) ∧ Below w.heap.size w w' := by
  have hl := hA.len
  have hx := allB_mem.1 h
  have pp := halfN_pos n
  have qq := halfN_lt h2
  have hh := fun w => rhalf_any n w h16
  have hwe := wayF_succ 15 xs i
  rw [hl, if_neg (by omega)] at hwe
  obtain ⟨k, hk⟩ : ∃ k, halfN n = k := ⟨_, rfl⟩
  rw [hk] at pp qq hwe
  have hh' : ∀ w, Calls Try.prog 20 #[.int .i64 n] w fun e w' => e = .returned (.int .i64 (k : Nat)) ∧ w = w' := by rw [← hk]; exact hh
  have hT := hA.take (k := k) (by omega)
  have hD := hA.cutA hc (show k ≤ n by omega)
  have hcut : ∀ W, _ := run_cut (P := Try.prog) Try.underlying22 (fun _ => by kernel_rfl) A n c k (by omega)
  obtain ⟨D, hDe⟩ : ∃ D, cutA A c k = D := ⟨_, rfl⟩
  rw [hDe] at hD hcut
  have hkc : (k : Int) ≤ (c : Int) := by omega
  have hkn : (k : Int) ≤ (n : Int) := by omega
  have f1 := root_fuel 15 16 (xs.take k) (by rw [List.length_take]; omega) (by rw [List.length_take]; omega) (by rw [List.length_take]; omega)
  have f2 := root_fuel 15 16 (xs.drop k) (by rw [List.length_drop]; omega) (by rw [List.length_drop]; omega) (by rw [List.length_drop]; omega)
  rw [f1, f2] at hwe
  obtain ⟨R1, hR1⟩ : ∃ R, rootF 16 (xs.take k) = R := ⟨_, rfl⟩
  obtain ⟨R2, hR2⟩ : ∃ R, rootF 16 (xs.drop k) = R := ⟨_, rfl⟩
  rw [hR1, hR2] at hwe
  have ht : allB (xs.take k) 0 1000 = true := allB_mem.2 (fun x hx' => hx x (List.mem_of_mem_take hx'))
  have hd : allB (xs.drop k) 0 1000 = true := allB_mem.2 (fun x hx' => hx x (List.mem_of_mem_drop hx'))
  obtain ⟨bb, R, W, hW, hcase⟩ : ∃ (bb : Bool) (R : Int) (W : List (Bool × Int)), wayF 16 xs i = W ++ [(bb, R)] ∧ ((bb = false ∧ R = R2 ∧ i < k) ∨ (bb = true ∧ R = R1 ∧ k ≤ i)) := by
    by_cases hik : i < k
    · rw [if_pos hik] at hwe
      exact ⟨_, _, _, hwe, .inl ⟨rfl, rfl, hik⟩⟩
    · rw [if_neg hik] at hwe
      exact ⟨_, _, _, hwe, .inr ⟨rfl, rfl, by omega⟩⟩
  have i0 : (0 : Int) ≤ (i : Int) := by omega
  have i1 : (i : Int) ≤ (n : Int) - 1 := by omega
  have n2 : ¬ (n : Int) < 2 := by omega
  have HH := Lib.hid (And.intro h (And.intro ht hd))
  have HR := Lib.hid (And.intro hR1 hR2)
  have HW := Lib.hid hW
  have HF := Lib.hid hh'
  have hz : rootF 16 [0] = 3 := by decide
  have HZ := Lib.hid hz
  have HT := Lib.hid hT
  have HD := Lib.hid hD
  have hzr := Lib.hid (zero_rd w)
  have hB := (Below.refl w.heap.size w).alloc (Nat.le_refl _) (.cells #[.int .i64 0] 3)
  clear h hx hwe hk hh hh' hT hD hDe f1 f2 hR1 hR2 ht hd hW hz
  go_enter Try.func6, Try.ntmps6
  go_wp2_with fail
  with_reducible refine (mroot_ok _ 1 1 [0] _ hzr.out (Nat.le_refl _) (by decide) (by decide) (by decide)).mono ?_
  rintro e w1 ⟨rfl, k1⟩
  rw [HZ.out]
  have hB := hB.trans (k1.mono hB.size)
  have hA1 := hA.below hB
  go_wp2_with fail
  with_reducible refine (mcheck_ok _ _ _ xs _ hA1 (by omega) h16 HH.out.1).mono ?_
  rintro e w' ⟨rfl, rfl⟩
  go_wp2_with fail
  with_reducible refine (tin_yes _ _ _ _ i0 i1).mono ?_
  rintro e w' ⟨rfl, rfl⟩
  go_wp2_with fail
  refine (HF.out _).mono ?_
  rintro e w' ⟨rfl, rfl⟩
  clear HF
  go_wp2_with fail
  with_reducible refine (mway_ok _ _ _ xs i _ hA1 hc (by omega) h16 HH.out.1 hi).mono ?_
  rintro e w2 ⟨⟨C, m, c', rfl, hm, hown⟩, k2⟩
  have hB := hB.trans (k2.mono hB.size)
  rw [HW.out] at hown
  have hml := hown.len
  have hP := hown.rd (by omega)
  have hT2 := HT.out.below hB
  clear hown hA1
  go_wp2_with fail
  with_reducible refine (mroot_ok _ k c (xs.take k) _ hT2 (by omega) pp (by omega) HH.out.2.1).mono ?_
  rintro e w3 ⟨rfl, k3⟩
  rw [HR.out.1]
  have hB := hB.trans (k3.mono hB.size)
  have hP := hP.below k3
  have hD3 := HD.out.below hB
  clear hT2
  go_wp2_with fail
  with_reducible refine (mroot_ok _ (n - k) (c - k) (xs.drop k) _ hD3 (by omega) (by omega) (by omega) HH.out.2.2).mono ?_
  rintro e w4 ⟨rfl, k4⟩
  rw [HR.out.2]
  have hB := hB.trans (k4.mono hB.size)
  have hP := hP.below k4
  have hB4 := hB.alloc hB.size (.cells #[.bool bb, .int .i64 R] 39)
  clear hD3 HT HD HH HR
  have hWl : W.length + 1 = m := by simpa using hml
  obtain ⟨j, hj⟩ : ∃ j, W.length = j := ⟨_, rfl⟩
  have hmj : (m : Int) - 1 = (j : Int) := by omega
  have hjm : (j : Int) < (m : Int) := by omega
  have hm0 : ((m : Int) == 0) = false := by simp; omega
  obtain ⟨b, off, rfl, hbl, hcc⟩ := hP.at_ (by omega)
  have hcj := hcc j (by omega)
  have hgj : ((W ++ [(bb, R)]).map sv)[j]?.getD noVV = (.bool bb, .int .i64 R) := by
    rw [List.map_append, List.getElem?_append_right (by simp; omega)]
    simp [hj, sv]
  rw [hgj] at hcj
  obtain ⟨d1, d2⟩ := hcj
  have HHH := Lib.hid (And.intro hml (And.intro hWl hj))
  clear hcc hgj hml hWl hj hP HW
  rcases hcase with ⟨rfl, rfl, hik⟩ | ⟨rfl, rfl, hik⟩
  · have hikI : (i : Int) < (k : Int) := by omega
    have hRR : (R == R) = true := by simp
    go_wp2
    go_ret
    exact ⟨rfl, hB4⟩
  · have hikI : ¬ (i : Int) < (k : Int) := by omega
    have hRR : (R == R) = true := by simp
    go_wp2
    go_ret
    exact ⟨rfl, hB4⟩

set_option maxHeartbeats 1000000 in
theorem walk (w : World) (A : Option Addr) (n c : Nat) (xs : List Int) (hA : Rd w A n xs) (hc : n ≤ c) (i : Int) (hi : -9223372036854775808 ≤ i ∧ i ≤ 9223372036854775807) :
    Calls Try.prog 6 #[.slice A n c, .int .i64 i] w fun e w' => e = .returned (.bool true) ∧ Below w.heap.size w w' := by
  have hz : rootF 16 [0] = 3 := by decide
  have HZ := Lib.hid hz
  have hzr := Lib.hid (zero_rd w)
  have hB := (Below.refl w.heap.size w).alloc (Nat.le_refl _) (.cells #[.int .i64 0] 3)
  clear hz
  by_cases hv : valE xs = 0
  · obtain ⟨h1, h2, h3⟩ := valE_zero.1 hv
    rw [hA.len] at h1 h2
    have H3 := Lib.hid h3
    by_cases hn2 : n < 2
    · have n2 : (n : Int) < 2 := by omega
      clear hv h3
      go_enter Try.func6, Try.ntmps6
      go_wp2_with fail
      with_reducible refine (mroot_ok _ 1 1 [0] _ hzr.out (Nat.le_refl _) (by decide) (by decide) (by decide)).mono ?_
      rintro e w1 ⟨rfl, k1⟩
      rw [HZ.out]
      have hB := hB.trans (k1.mono hB.size)
      have hA1 := hA.below hB
      go_wp2_with fail
      with_reducible refine (mcheck_ok _ _ _ xs _ hA1 h1 h2 H3.out).mono ?_
      rintro e w' ⟨rfl, rfl⟩
      go_wp2
      go_ret
      exact ⟨rfl, hB⟩
    · have n2 : ¬ (n : Int) < 2 := by omega
      by_cases hin : i < 0 ∨ (n : Int) - 1 < i
      · clear hv h3
        go_enter Try.func6, Try.ntmps6
        go_wp2_with fail
        with_reducible refine (mroot_ok _ 1 1 [0] _ hzr.out (Nat.le_refl _) (by decide) (by decide) (by decide)).mono ?_
        rintro e w1 ⟨rfl, k1⟩
        rw [HZ.out]
        have hB := hB.trans (k1.mono hB.size)
        have hA1 := hA.below hB
        go_wp2_with fail
        with_reducible refine (mcheck_ok _ _ _ xs _ hA1 h1 h2 H3.out).mono ?_
        rintro e w' ⟨rfl, rfl⟩
        go_wp2_with fail
        with_reducible refine (tin_no _ _ _ _ hin).mono ?_
        rintro e w' ⟨rfl, rfl⟩
        go_wp2
        go_ret
        exact ⟨rfl, hB⟩
      · obtain ⟨k, rfl⟩ : ∃ k : Nat, i = k := ⟨i.toNat, by omega⟩
        exact walk_ok w A n c xs hA hc k (by omega) (by omega) h2 h3
  · have HV := Lib.hid hv
    clear hv
    go_enter Try.func6, Try.ntmps6
    go_wp2_with fail
    with_reducible refine (mroot_ok _ 1 1 [0] _ hzr.out (Nat.le_refl _) (by decide) (by decide) (by decide)).mono ?_
    rintro e w1 ⟨rfl, k1⟩
    rw [HZ.out]
    have hB := hB.trans (k1.mono hB.size)
    have hA1 := hA.below hB
    go_wp2_with fail
    with_reducible refine (mcheck_bad _ _ _ xs _ hA1 HV.out).mono ?_
    rintro e w' ⟨rfl, rfl⟩
    go_wp2
    go_ret
    exact ⟨rfl, hB⟩

set_option maxRecDepth 100000 in
theorem lifted (os : Os) (started : os.Started) (H : Type) (enc : TypeId × Value → H) :
    ReturnsInHanded {} Try.checked os 6 .any (Rows.topSumsSpec.pre6 enc Try.prog Try.f6 Rows.topSumsRow.domain false) (Rows.topSumsSpec.post enc Try.prog Try.f6 false true false false) := by
  refine returnsInHanded_of_change (C := Try.checked) own started (by kernel_rfl) Try.func6
    (ChangeSpec.witness6 (enc := enc) (C := Try.checked) false ⟨#[], #[.slice none 0 0, .int .i64 0], []⟩ 8 (by kernel_rfl) (by kernel_rfl) (by kernel_rfl) (by kernel_rfl)) ?_
  intro W base args ds gs before hval0 hW hcnd _
  have hval : ∀ (j : Nat) t v, Try.f6.params[j]? = some t → args[j]? = some v → Value.okWide Try.prog W .any base t v := hval0
  have hW' := hW
  obtain ⟨p, q, hA0, hV, rfl, hfz, hnd⟩ := hW
  have hA : DataW.TrodAll enc Try.prog W 0 (fun _ => true) true Try.f6.params.toList args.toList ds p := hA0
  rw [Try.params6] at hA hval
  obtain ⟨v0, vs0, d0, ds0, p0, q0, hargs, rfl, rfl, h0, r0⟩ := trodAll_cons hA
  obtain ⟨v1, vs1, d1, ds1, p1, q1, rfl, rfl, rfl, h1, r1⟩ := trodAll_cons r0
  obtain ⟨rfl, rfl, rfl⟩ := trodAll_nil r1
  obtain rfl : args = #[v0, v1] := by cases args; simp_all
  obtain ⟨rfl, rfl⟩ := trodVars_none hV
  have k0 := h0
  have lt0 : ∀ x ∈ p0, x.block < W.heap.size := by obtain ⟨m, hm⟩ := k0; exact DataW.trod_lt m _ _ _ hm
  obtain ⟨A0, n0, c0, rfl⟩ := okWide_slice Try.underlying22 (hval 0 22 v0 rfl rfl)
  obtain ⟨xs0, w0, hc0⟩ : ∃ xs, Rd W A0 n0 xs ∧ n0 ≤ c0 := by
    obtain ⟨fuel, hf⟩ := h0
    rcases open_ints Try.underlying22 Try.underlying3 (by kernel_rfl) hf with ⟨hcs, _⟩ | ⟨x, l, c, zs, hcs, _, hl, hm, hz, _, hcell, hwz⟩
    · simp [Value.cells] at hcs
      obtain ⟨rfl, rfl, rfl⟩ := hcs
      exact ⟨[], Rd.nil _ _, Nat.le_refl _⟩
    · simp [Value.cells] at hcs
      obtain ⟨rfl, rfl, rfl⟩ := hcs
      exact ⟨_, rd_of_cells (by simp at hz; omega) hl hm hcell hwz, hl⟩
  have k1 := h1
  have lt1 : ∀ x ∈ p1, x.block < W.heap.size := by obtain ⟨m, hm⟩ := k1; exact DataW.trod_lt m _ _ _ hm
  obtain ⟨a1, rfl, rfl, rfl, w1⟩ := open_int Try.underlying3 (hval 1 3 v1 rfl rfl) h1
  clear hA0 hval0
  refine (walk W A0 n0 c0 xs0 w0 hc0 a1 (wf_range w1)).mono fun e W' ⟨he, bel⟩ => ?_
  subst he
  exact ⟨_, rfl, _, _, _, [], _, [], hW', trodAll_mk1 (shut_bool Try.underlying4 _), (trodAll_cons_mk (Below.trod laidOut (by kernel_rfl) (of_decide_eq_true (by kernel_rfl)) k0 bel lt0) (trodAll_cons_mk (Below.trod laidOut (by kernel_rfl) (of_decide_eq_true (by kernel_rfl)) k1 bel lt1) trodAll_mk0)), rfl, bel.frame _, fun h => by cases h⟩

theorem over : Rows.topSumsRow.holds Try.pinned (OpenSpec.ofChange Rows.topSumsSpec) :=
  OpenClaim.holds_of_wide 6 Try.f6 rfl rfl rfl rfl rfl rfl rfl ⟨rfl, rfl, rfl, rfl, rfl⟩ rfl rfl rfl rfl rfl (by kernel_rfl) Try.func6 (by kernel_rfl)
    (of_decide_eq_true (by kernel_rfl)) (by unfold Func.isWrapper; first | (rw [if_pos (by decide +kernel)]; kernel_rfl) | (rw [if_neg (by decide +kernel)]; exact ⟨rfl, rfl⟩))
    (fun os started H enc _ => lifted os started H enc)

theorem proved : Rows.TopSumsSaid := over
#print axioms proved
end Go.Proofs.Ytpleidblnjphmaa.topSums
