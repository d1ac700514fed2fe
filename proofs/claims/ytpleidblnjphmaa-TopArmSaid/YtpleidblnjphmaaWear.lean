/- wear.Check, least, After (five unused things), Gap, and same.Sum. -/
import Derived.Test.YtpleidblnjphmaaWearP
import Derived.Test.YtpleidblnjphmaaCloneH
import Derived.Test.YtpleidblnjphmaaSweep
namespace Go.Proofs.Ytpleidblnjphmaa
open Go Go.RowKit
set_option maxRecDepth 20000
set_option linter.unusedVariables false

theorem wcheck_ok (A : Option Addr) (n c : Nat) (xs : List Int) (w : World) (hA : Rd w A n xs) (h0 : 0 < n) (hn : n ≤ 16) (hx : ∀ x ∈ xs, 0 ≤ x ∧ x ≤ 1000) :
    Calls Try.prog 53 #[.slice A n c] w fun e w' => e = .returned .nilIface ∧ w = w' := by
  have hall : allB xs 0 1000 = true := allB_mem.2 hx
  have hc := all_any A n c 0 1000 xs w hA
  rw [hall] at hc
  have HC := Lib.hid hc
  have h0I : ((n : Int) == 0) = false := by simp; omega
  have hnI : ¬ (n : Int) > 16 := by omega
  clear hall hc
  go_enter Try.func53, Try.ntmps53
  go_wp2_with fail
  with_reducible refine HC.out.mono ?_
  rintro e w' ⟨rfl, rfl⟩
  go_wp2
  go_ret
  exact ⟨rfl, rfl⟩
theorem sum_any (A : Option Addr) (n c : Nat) (xs : List Int) (w : World) (hA : Rd w A n xs) (hn : n ≤ 16) (hx : ∀ x ∈ xs, 0 ≤ x ∧ x ≤ 1000) :
    Calls Try.prog 30 #[.slice A n c] w fun e w' => e = .returned (.int .i64 (sumS xs n)) ∧ w = w' := by
  have HX := Lib.hid (And.intro hA.len hx)
  clear hx
  go_enter Try.func30, Try.ntmps30
  go_wp2
  go_loop [3, 4] (fun s i => ∃ k : Nat, k ≤ n ∧ i = .int .i64 k ∧ s = .int .i64 (sumS xs k)) (fun _ i => n - (intOf i).toNat)
  case atStart => exact ⟨0, Nat.zero_le _, rfl, rfl⟩
  case round =>
    obtain ⟨k, hk, rfl, rfl⟩ := hrel
    by_cases hlt : k < n
    · have hkI : (k : Int) < (n : Int) := by omega
      obtain ⟨b, off, rfl, hbl, hcc⟩ := hA.at_ (by omega)
      have g1 := hcc k hlt
      have hs : sumS xs (k + 1) = sumS xs k + xs[k]?.getD 0 := rfl
      have hr := sumS_range HX.out.2 k
      have hr1 := sumS_range HX.out.2 (k + 1)
      obtain ⟨t, hte⟩ : ∃ t, xs[k]?.getD 0 = t := ⟨_, rfl⟩
      obtain ⟨S, hS⟩ : ∃ S, sumS xs k = S := ⟨_, rfl⟩
      rw [hte] at g1 hs
      rw [hS] at hs hr ⊢
      rw [hs] at hr1
      have HS := Lib.hid hs
      obtain ⟨r0, r1⟩ := hr
      obtain ⟨r2, r3⟩ := hr1
      clear hcc hs hte hS
      go_wp2
      go_round
      case rel => exact ⟨k + 1, by omega, by go_num, by rw [HS.out]⟩
      case measure => simp [intOf]; omega
    · obtain rfl : k = n := by omega
      have hkI : ¬ (k : Int) < (k : Int) := by omega
      go_wp2
      go_ret
      exact ⟨rfl, rfl⟩
theorem least_any (g c k : Nat) (w : World) (hk : k ≤ 1000) (hA : Rd w (some ⟨g, 0, none⟩) 5 (wearI k)) :
    Calls Try.prog 54 #[.slice (some ⟨g, 0, none⟩) 5 c] w fun e w' => e = .returned (.int .i64 ((k % 5 : Nat) : Int)) ∧ w = w' := by
  have hcell : ∀ j, j < (wearI k).length → w.cell? ⟨g, 0 + j, none⟩ = some (.int .i64 ((wearI k).getD j 0)) := fun j hj => by
    obtain ⟨b, off, e, _, hc⟩ := hA.at_ (by omega)
    injection e with e
    injection e with e1 e2
    subst e1; subst e2
    simpa using hc j hj
  have h1 := Try.slices_Min_int g 0 5 c (wearI k) w (by omega) (Nat.le_refl _) (by omega) hcell
  rw [show (wearI k).take 5 = wearI k from rfl, wear_min] at h1
  have h2 := Try.slices_Index_int g 0 5 c (wearI k) ((k : Int) / 5) w (Nat.le_refl _) (by omega) hcell
  rw [show (wearI k).take 5 = wearI k from rfl, wear_idx] at h2
  obtain ⟨D, hD⟩ : ∃ D, (k : Int) / 5 = D := ⟨_, rfl⟩
  obtain ⟨M, hM⟩ : ∃ M, k % 5 = M := ⟨_, rfl⟩
  rw [hD] at h1 h2
  rw [hM] at h2 ⊢
  have HH := Lib.hid (And.intro h1 h2)
  clear h1 h2 hcell hD hM
  go_enter Try.func54, Try.ntmps54
  go_wp2_with fail
  with_reducible refine HH.out.1.mono ?_
  rintro e w' ⟨rfl, rfl⟩
  go_wp2_with fail
  with_reducible refine HH.out.2.mono ?_
  rintro e w' ⟨rfl, rfl⟩
  go_wp2
  go_ret
  exact ⟨rfl, rfl⟩
theorem gap_any (g c k : Nat) (w : World) (hk : k ≤ 1000) (hA : Rd w (some ⟨g, 0, none⟩) 5 (wearI k)) :
    Calls Try.prog 29 #[.slice (some ⟨g, 0, none⟩) 5 c] w fun e w' => e = .returned (.tuple #[.int .i64 (((k : Int) + 4) / 5 - (k : Int) / 5), .nilIface]) ∧ w = w' := by
  have hcell : ∀ j, j < (wearI k).length → w.cell? ⟨g, 0 + j, none⟩ = some (.int .i64 ((wearI k).getD j 0)) := fun j hj => by
    obtain ⟨b, off, e, _, hc⟩ := hA.at_ (by omega)
    injection e with e
    injection e with e1 e2
    subst e1; subst e2
    simpa using hc j hj
  have h1 := Try.slices_Min_int g 0 5 c (wearI k) w (by omega) (Nat.le_refl _) (by omega) hcell
  rw [show (wearI k).take 5 = wearI k from rfl, wear_min] at h1
  have h2 := Try.slices_Max_int g 0 5 c (wearI k) w (by omega) (Nat.le_refl _) (by omega) hcell
  rw [show (wearI k).take 5 = wearI k from rfl, wear_max] at h2
  have h3 := wcheck_ok (some ⟨g, 0, none⟩) 5 c (wearI k) w hA (by omega) (by omega) (wear_mem hk)
  have hb : 0 ≤ (k : Int) / 5 ∧ (k : Int) / 5 ≤ 1000 ∧ 0 ≤ ((k : Int) + 4) / 5 ∧ ((k : Int) + 4) / 5 ≤ 1000 := by omega
  obtain ⟨D, hD⟩ : ∃ D, (k : Int) / 5 = D := ⟨_, rfl⟩
  obtain ⟨E, hE⟩ : ∃ E, ((k : Int) + 4) / 5 = E := ⟨_, rfl⟩
  rw [hD] at h1 hb ⊢
  rw [hE] at h2 hb ⊢
  obtain ⟨b0, b1, b2, b3⟩ := hb
  have HH := Lib.hid (And.intro h1 (And.intro h2 h3))
  clear h1 h2 h3 hcell hD hE
  go_enter Try.func29, Try.ntmps29
  go_wp2_with fail
  with_reducible refine HH.out.2.2.mono ?_
  rintro e w' ⟨rfl, rfl⟩
  go_wp2_with fail
  with_reducible refine HH.out.2.1.mono ?_
  rintro e w' ⟨rfl, rfl⟩
  go_wp2_with fail
  with_reducible refine HH.out.1.mono ?_
  rintro e w' ⟨rfl, rfl⟩
  go_wp2
  go_ret2
  exact ⟨rfl, rfl⟩

theorem wear_zero : wearI 0 = [0, 0, 0, 0, 0] := by decide
set_option maxHeartbeats 1000000 in
theorem after_ok (A : Option Addr) (c k : Nat) (w : World) (hA : Sl w A 5 c [0, 0, 0, 0, 0]) (hk : k ≤ 1000) :
    Calls Try.prog 28 #[.slice A 5 c, .int .i64 k] w fun e w' =>
      ∃ g c', e = .returned (.tuple #[.slice (some ⟨g, 0, none⟩) 5 c', .nilIface]) ∧ Own w' w.heap.size (.slice (some ⟨g, 0, none⟩) 5 c') 5 (wearI k) ∧ Below w.heap.size w w' := by
  have hR : Rd w A 5 [0, 0, 0, 0, 0] := hA.1
  have hch := wcheck_ok A 5 c [0, 0, 0, 0, 0] w hR (by omega) (by omega) (by intro x hx; simp at hx; omega)
  have hwi := fun wx => within_yes (k : Int) 0 1000 wx (by omega) (by omega)
  have hcl := clone_any A 5 c [0, 0, 0, 0, 0] w hA (by omega)
  rw [← wear_zero] at hcl
  have HH := Lib.hid (And.intro hch (And.intro hwi hcl))
  clear hch hwi hcl
  go_enter Try.func28, Try.ntmps28
  go_wp2_with fail
  with_reducible refine HH.out.1.mono ?_
  rintro e w' ⟨rfl, rfl⟩
  go_wp2_with fail
  with_reducible refine (HH.out.2.1 _).mono ?_
  rintro e w' ⟨rfl, rfl⟩
  go_wp2_with fail
  with_reducible refine HH.out.2.2.mono ?_
  rintro e w1 ⟨⟨C, c1, rfl, hown1⟩, hB1⟩
  obtain ⟨g, rfl, hg1, -, -, -⟩ := hown1.at_ (by omega)
  have H1 := Lib.hid (And.intro hown1 hB1)
  clear hown1 hB1 HH
  go_wp2
  go_loopw [20] (fun i wr => ∃ j : Nat, j ≤ k ∧ i = .int .i64 j ∧ Own wr w.heap.size (.slice (some ⟨g, 0, none⟩) 5 c1) 5 (wearI j) ∧ Below w.heap.size w wr) (fun i _ => k - (intOf i).toNat)
  case atStart => exact ⟨0, Nat.zero_le _, rfl, H1.out.1, H1.out.2⟩
  case round =>
    obtain ⟨j, hj, rfl, ho, hB⟩ := hrel
    clear H1
    by_cases hlt : j < k
    · have hjI : (j : Int) < (k : Int) := by omega
      have hle := least_any g c1 j wr (by omega) (ho.rd (by omega) (fun x hx => by have := wear_mem (k := j) (by omega) x hx; omega))
      obtain ⟨g', e, -, -, hcc, hff⟩ := ho.at_ (by omega)
      injection e with e
      injection e with e
      subst e
      have g1 := hcc (j % 5) (by omega)
      have f1 := hff (j % 5)
      rw [wear_get] at g1
      have hst := wear_set j
      have ho2 := ho.set (j % 5) ((j : Int) / 5 + 1)
      rw [hst] at ho2
      have hB2 := hB.setCell (p := ⟨g, j % 5, none⟩) hg1 (.int .i64 ((j : Int) / 5 + 1))
      have hD0 : 0 ≤ (j : Int) / 5 ∧ (j : Int) / 5 ≤ 1000 := by omega
      have hM0 : j % 5 < 5 := by omega
      obtain ⟨M, hM⟩ : ∃ M, j % 5 = M := ⟨_, rfl⟩
      obtain ⟨D, hD⟩ : ∃ D, (j : Int) / 5 = D := ⟨_, rfl⟩
      rw [hM] at hle g1 f1 ho2 hB2 hM0
      rw [hD] at g1 ho2 hB2 hD0
      have hMI : (M : Int) < 5 := by omega
      obtain ⟨d0, d1⟩ := hD0
      have HL := Lib.hid (And.intro hle (And.intro ho2 hB2))
      clear hle ho2 hB2 hst hcc hff hM hD ho hB hM0
      go_wp2_with fail
      with_reducible refine HL.out.1.mono ?_
      rintro e w' ⟨rfl, rfl⟩
      go_wp2
      go_roundw
      case rel => exact ⟨j + 1, by omega, by go_num, HL.out.2.1, HL.out.2.2⟩
      case measure => simp [intOf]; omega
    · obtain rfl : j = k := by omega
      have hjI : ¬ (j : Int) < (j : Int) := by omega
      go_wp2
      go_ret2
      exact ⟨g, c1, rfl, ho, hB⟩
theorem after_bad (A : Option Addr) (c : Nat) (k : Int) (w : World) (hA : Rd w A 5 [0, 0, 0, 0, 0]) (hk : k < 0 ∨ 1000 < k) :
    Calls Try.prog 28 #[.slice A 5 c, .int .i64 k] w fun e w' => e = .returned (.tuple #[.slice none 0 0, .iface 53 (.int .i64 1)]) ∧ w = w' := by
  have hch := wcheck_ok A 5 c [0, 0, 0, 0, 0] w hA (by omega) (by omega) (by intro x hx; simp at hx; omega)
  have hwi := fun wx => within_no k 0 1000 wx hk
  have HH := Lib.hid (And.intro hch hwi)
  clear hch hwi hk
  go_enter Try.func28, Try.ntmps28
  go_wp2_with fail
  with_reducible refine HH.out.1.mono ?_
  rintro e w' ⟨rfl, rfl⟩
  go_wp2_with fail
  with_reducible refine (HH.out.2 _).mono ?_
  rintro e w' ⟨rfl, rfl⟩
  go_wp2
  go_ret2
  exact ⟨rfl, rfl⟩
end Go.Proofs.Ytpleidblnjphmaa
