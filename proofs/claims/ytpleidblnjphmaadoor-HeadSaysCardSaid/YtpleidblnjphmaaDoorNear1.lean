/- cmp.Compare, cmp.Or, and the closure of head.Near. -/
import Derived.Test.YtpleidblnjphmaaDoorNearP
import Derived.Test.YtpleidblnjphmaaDoorHead1
import Derived.StillTailTactics
import Derived.Deep.QuietTactic
import Derived.BigQuiet
namespace Go.Proofs.YtpleidblnjphmaaDoor
open Go Go.RowKit
set_option maxRecDepth 20000
set_option linter.unusedVariables false

theorem takeSn {xs : List Int} {k : Nat} (h : k < xs.length) : xs.take k ++ [xs[k]?.getD 0] = xs.take (k + 1) := by
  rw [List.take_add_one, List.getElem?_eq_getElem h]; rfl
theorem isnan_any (x : Int) (w : World) : Calls Tryd.prog 53 #[.int .i64 x] w fun e w' => e = .returned (.bool false) ∧ w = w' := by
  have h : (x != x) = false := by simp
  go_enter Tryd.func53, Tryd.ntmps53
  go_wp2
  go_ret
  exact ⟨rfl, rfl⟩
theorem compare_any (x y : Int) (w : World) : Calls Tryd.prog 45 #[.int .i64 x, .int .i64 y] w fun e w' => e = .returned (.int .i64 (cmpI x y)) ∧ w = w' := by
  rcases Int.lt_trichotomy x y with h | h | h
  · have e : cmpI x y = -1 := by unfold cmpI; rw [if_pos h]
    rw [e]
    go_enter Tryd.func45, Tryd.ntmps45
    go_wp2_with fail
    with_reducible refine (isnan_any _ _).mono ?_
    rintro e w1 ⟨rfl, rfl⟩
    go_wp2_with fail
    with_reducible refine (isnan_any _ _).mono ?_
    rintro e w1 ⟨rfl, rfl⟩
    go_wp2
    go_ret
    exact ⟨rfl, rfl⟩
  · subst h
    have e : cmpI x x = 0 := by unfold cmpI; simp
    have h1 : ¬ x < x := by omega
    rw [e]
    go_enter Tryd.func45, Tryd.ntmps45
    go_wp2_with fail
    with_reducible refine (isnan_any _ _).mono ?_
    rintro e w1 ⟨rfl, rfl⟩
    go_wp2_with fail
    with_reducible refine (isnan_any _ _).mono ?_
    rintro e w1 ⟨rfl, rfl⟩
    go_wp2
    go_ret
    exact ⟨rfl, rfl⟩
  · have e : cmpI x y = 1 := by unfold cmpI; rw [if_neg (by omega), if_pos h]
    have h1 : ¬ x < y := by omega
    have h2 : x > y := h
    rw [e]
    go_enter Tryd.func45, Tryd.ntmps45
    go_wp2_with fail
    with_reducible refine (isnan_any _ _).mono ?_
    rintro e w1 ⟨rfl, rfl⟩
    go_wp2_with fail
    with_reducible refine (isnan_any _ _).mono ?_
    rintro e w1 ⟨rfl, rfl⟩
    go_wp2
    go_ret
    exact ⟨rfl, rfl⟩
theorem or_two (A : Option Addr) (c : Nat) (x y : Int) (w : World) (hA : Rd w A 2 [x, y]) :
    Calls Tryd.prog 44 #[.slice A 2 c] w fun e w' => e = .returned (.int .i64 (if x = 0 then y else x)) ∧ w = w' := by
  obtain ⟨b, off, rfl, hbl, hcc⟩ := hA.at_ (by omega)
  have g0 : w.cell? ⟨b, off, none⟩ = some (.int .i64 x) := hcc 0 (by omega)
  have g1 : w.cell? ⟨b, off + 1, none⟩ = some (.int .i64 y) := hcc 1 (by omega)
  obtain ⟨r, hr⟩ : ∃ r, (if x = 0 then y else x) = r := ⟨_, rfl⟩
  rw [hr]
  have HR := Lib.hid hr
  clear hcc hA hr
  go_enter Tryd.func44, Tryd.ntmps44
  go_wp2
  go_loopw [8] (fun i wr => wr = w ∧ (i = .int .i64 0 ∨ (i = .int .i64 1 ∧ x = 0) ∨ (i = .int .i64 2 ∧ x = 0 ∧ y = 0))) (fun i _ => 2 - (intOf i).toNat)
  case atStart => exact ⟨rfl, Or.inl rfl⟩
  case round =>
    obtain ⟨rfl, rfl | ⟨rfl, hx⟩ | ⟨rfl, hx, hy⟩⟩ := hrel
    · by_cases hx : x = 0
      · have h1 : (x != 0) = false := by simp; omega
        go_wp2
        go_roundw
        case rel => exact ⟨trivial, Or.inr (Or.inl ⟨rfl, hx⟩)⟩
        case measure => simp [intOf]
      · have h1 : (x != 0) = true := by simp; omega
        go_wp2
        go_ret
        exact ⟨ret_int (by rw [← HR.out, if_neg hx]), rfl⟩
    · by_cases hy : y = 0
      · have h1 : (y != 0) = false := by simp; omega
        go_wp2
        go_roundw
        case rel => exact ⟨trivial, Or.inr (Or.inr ⟨rfl, hx, hy⟩)⟩
        case measure => simp [intOf]
      · have h1 : (y != 0) = true := by simp; omega
        go_wp2
        go_ret
        exact ⟨ret_int (by rw [← HR.out, if_pos hx]), rfl⟩
    · go_wp2
      go_ret
      exact ⟨ret_int (by rw [← HR.out, if_pos hx, hy]), rfl⟩
theorem rdTwo (w : World) (x y : Int) (hx : -9223372036854775808 ≤ x ∧ x ≤ 9223372036854775807) (hy : -9223372036854775808 ≤ y ∧ y ≤ 9223372036854775807) : Rd (w.alloc (.cells #[.int .i64 x, .int .i64 y] 3)) (some ⟨w.heap.size, 0, none⟩) 2 [x, y] :=
  Rd.new (n := 2) rfl (by decide) (by simp) (by intro z hz; simp at hz; rcases hz with rfl | rfl <;> assumption) (fun k hk => by
    rcases (by omega : k = 0 ∨ k = 1) with rfl | rfl <;> simp)
set_option maxHeartbeats 1000000 in
set_option maxHeartbeats 2000000 in
theorem near1_any (B : Nat) (now x y : Int) (w : World) (hc : w.cell? ⟨B, 0, none⟩ = some (.int .i64 now)) (hn : Trk now) (hx : Trk x) (hy : Trk y) :
    Calls Tryd.prog 43 #[.int .i64 x, .int .i64 y, .pointer (some ⟨B, 0, none⟩)] w fun e w' => e = .returned (.int .i64 (cfI now x y)) ∧ Below w.heap.size w w' := by
  have h1 := fun wx => apart_any x now wx hx hn
  have h2 := fun wx => apart_any y now wx hy hn
  have hr : cfI now x y = if cmpI (absI x now) (absI y now) = 0 then cmpI x y else cmpI (absI x now) (absI y now) := rfl
  have hb1 := absI_range hx hn
  have hb2 := absI_range hy hn
  obtain ⟨D, hD⟩ : ∃ D, absI x now = D := ⟨_, rfl⟩
  obtain ⟨E, hE⟩ : ∃ E, absI y now = E := ⟨_, rfl⟩
  rw [hD] at h1 hr hb1
  rw [hE] at h2 hr hb2
  have h3 := fun wx => compare_any D E wx
  have h4 := fun wx => compare_any x y wx
  have hb3 : -1 ≤ cmpI D E ∧ cmpI D E ≤ 1 := by unfold cmpI; split <;> (try split) <;> omega
  have hb4 : -1 ≤ cmpI x y ∧ cmpI x y ≤ 1 := by unfold cmpI; split <;> (try split) <;> omega
  obtain ⟨U, hU⟩ : ∃ U, cmpI D E = U := ⟨_, rfl⟩
  obtain ⟨V, hV⟩ : ∃ V, cmpI x y = V := ⟨_, rfl⟩
  rw [hU] at h3 hr hb3
  rw [hV] at h4 hr hb4
  have HH := Lib.hid (And.intro h1 (And.intro h2 (And.intro h3 h4)))
  have HR := Lib.hid hr
  have HV := Lib.hid (And.intro hb3 hb4)
  clear h1 h2 h3 h4 hr hb1 hb2 hb3 hb4 hD hE hU hV hn hx hy
  go_enter Tryd.func43, Tryd.ntmps43
  go_wp2
  refine wp_region_still_tail 10 (by kernel_rfl) (by kernel_rfl) ?_
  simp only [List.take_succ_cons, List.take_zero, List.drop_succ_cons, List.drop_zero]
  still_step
  still_step
  still_call ((HH.out.1 _).mono fun _ _ h => ⟨h.1, h.2.symm⟩)
  still_step
  still_step
  still_call ((HH.out.2.1 _).mono fun _ _ h => ⟨h.1, h.2.symm⟩)
  still_call ((HH.out.2.2.1 _).mono fun _ _ h => ⟨h.1, h.2.symm⟩)
  still_step
  still_step
  still_call ((HH.out.2.2.2 _).mono fun _ _ h => ⟨h.1, h.2.symm⟩)
  refine wpStill_nil ?_
  change wpList _ _ _ _ _ w.drew
  obtain ⟨W, hW⟩ : ∃ W, W = w.drew := ⟨_, rfl⟩
  have hBW : Below w.heap.size w W := by rw [hW]; exact (Below.refl _ _).drew
  rw [← hW]
  clear hW
  go_wp2_with fail
  with_reducible refine (or_two _ _ U V _ (rdTwo W U V (by have := HV.out; omega) (by have := HV.out; omega))).mono ?_
  rintro e w' ⟨rfl, rfl⟩
  rw [← HR.out]
  go_wp2
  go_ret
  exact ⟨rfl, hBW.alloc hBW.size _⟩

set_option maxHeartbeats 2000000 in
theorem minfunc_any (A : Option Addr) (n c B : Nat) (now : Int) (xs : List Int) (w : World) (hA : Rd w A n xs) (h0 : 0 < n) (hn : n ≤ 20) (hc : w.cell? ⟨B, 0, none⟩ = some (.int .i64 now)) (hB : B < w.heap.size) (ha : Trk now) (hx : ∀ x ∈ xs, Trk x) :
    Calls Tryd.prog 42 #[.slice A n c, .func (.func 43) #[] #[.pointer (some ⟨B, 0, none⟩)]] w fun e w' => e = .returned (.int .i64 (bestI now xs)) ∧ Below w.heap.size w w' := by
  have hl := hA.len
  have HX := Lib.hid (And.intro hl (And.intro ha hx))
  clear hl ha hx
  obtain ⟨b, off, rfl, hbl, hcc⟩ := hA.at_ (by omega)
  have HCC := Lib.hid hcc
  have g0 : w.cell? ⟨b, off, none⟩ = some (.int .i64 (xs[0]?.getD 0)) := hcc 0 h0
  have h1 : ¬ (n : Int) < 1 := by omega
  have h0I : (0 : Int) < (n : Int) := by omega
  clear hcc
  go_enter Tryd.func42, Tryd.ntmps42
  go_wp2
  go_loopw [5, 6] (fun m i wr => ∃ k : Nat, 1 ≤ k ∧ k ≤ n ∧ i = .int .i64 k ∧ m = .int .i64 (bestF now (xs[0]?.getD 0) (xs.take k)) ∧ Below w.heap.size w wr) (fun _ i _ => n - (intOf i).toNat)
  case atStart => exact ⟨1, Nat.le_refl _, by omega, rfl, by rw [bestI_take1], Below.refl _ _⟩
  case round =>
    obtain ⟨k, hk1, hk, rfl, rfl, hBr⟩ := hrel
    clear g0
    by_cases hlt : k < n
    · have hkI : (k : Int) < (n : Int) := by omega
      have g1 := (hBr.cell (p := ⟨b, off + k, none⟩) hbl).trans (HCC.out k hlt)
      have hcr := (hBr.cell (p := ⟨B, 0, none⟩) hB).trans hc
      have hsn := takeSn (xs := xs) (k := k) (by rw [HX.out.1]; exact hlt)
      have ht := trk_get HX.out.2.2 k
      have hb := bestF_snoc now (xs[0]?.getD 0) (xs[k]?.getD 0) (xs.take k)
      rw [hsn] at hb
      have hm : Trk (bestF now (xs[0]?.getD 0) (xs.take k)) := by
        rcases bestF_mem now (xs.take k) (xs[0]?.getD 0) with e | e
        · rw [e]; exact trk_get HX.out.2.2 0
        · exact HX.out.2.2 _ (List.mem_of_mem_take e)
      obtain ⟨t, hte⟩ : ∃ t, xs[k]?.getD 0 = t := ⟨_, rfl⟩
      obtain ⟨m, hme⟩ : ∃ m, bestF now (xs[0]?.getD 0) (xs.take k) = m := ⟨_, rfl⟩
      rw [hte] at g1 hb ht
      rw [hme] at hb hm
      rw [hme]
      have hcl := fun wx (h : wx.cell? ⟨B, 0, none⟩ = some (.int .i64 now)) => near1_any B now t m wx h HX.out.2.1 ht hm
      have hlt0 := cfI_lt now t m
      obtain ⟨C, hC⟩ : ∃ C, cfI now t m = C := ⟨_, rfl⟩
      rw [hC] at hcl hlt0
      have HCL := Lib.hid hcl
      have HB := Lib.hid hb
      clear hcl hb hte hme hsn hC
      by_cases hn1 : nearer now t m
      · have hC0 : C < 0 := hlt0.2 hn1
        clear hlt0
        go_wp2_with (go_at_call 43; refine (HCL.out _ (by exact hcr)).mono ?_; rintro e w3 ⟨rfl, hB3⟩; have g3 := (hB3.cell (p := ⟨b, off + k, none⟩) (Nat.lt_of_lt_of_le hbl hBr.size)).trans g1)
        go_roundw
        case rel => exact ⟨k + 1, by omega, by omega, by go_num, by rw [HB.out, if_pos hn1], hBr.trans (hB3.mono hBr.size)⟩
        case measure => simp [intOf]; omega
      · have hC0 : ¬ C < 0 := fun h => hn1 (hlt0.1 h)
        clear hlt0
        go_wp2_with (go_at_call 43; refine (HCL.out _ (by exact hcr)).mono ?_; rintro e w3 ⟨rfl, hB3⟩; have g3 := (hB3.cell (p := ⟨b, off + k, none⟩) (Nat.lt_of_lt_of_le hbl hBr.size)).trans g1)
        go_roundw
        case rel => exact ⟨k + 1, by omega, by omega, by go_num, by rw [HB.out, if_neg hn1], hBr.trans (hB3.mono hBr.size)⟩
        case measure => simp [intOf]; omega
    · obtain rfl : k = n := by omega
      have hkI : ¬ (k : Int) < (k : Int) := by omega
      rw [List.take_of_length_le (by rw [HX.out.1]; exact Nat.le_refl _)]
      rw [show bestF now (xs[0]?.getD 0) xs = bestI now xs from rfl]
      go_wp2
      go_ret
      exact ⟨rfl, hBr⟩
end Go.Proofs.YtpleidblnjphmaaDoor
