/- head.Check, apart and told by their contracts. -/
import Derived.Test.YtpleidblnjphmaaDoorHeadP
import Derived.Test.YtpleidblnjphmaaDoorCloneH
import Derived.WalkLawsBesides
namespace Go.Proofs.YtpleidblnjphmaaDoor
open Go Go.RowKit
set_option maxRecDepth 20000
set_option linter.unusedVariables false

theorem hcheck_ok (A : Option Addr) (n c : Nat) (xs : List Int) (a : Int) (w : World) (hA : Rd w A n xs) (hE : headE a xs = 0) :
    Calls Tryd.prog 19 #[.int .i64 a, .slice A n c] w fun e w' => e = .returned .nilIface ∧ w = w' := by
  have hl := hA.len
  obtain ⟨h20, ⟨a0, a1⟩, hall⟩ := headE_zero hE
  have hnI : ¬ (20 : Int) < (n : Int) := by omega
  have HALL := Lib.hid hall
  clear hl h20 hall hE
  go_enter Tryd.func19, Tryd.ntmps19
  go_wp2_with fail
  with_reducible refine (within_yes _ _ _ _ a0 a1).mono ?_
  rintro e w' ⟨rfl, rfl⟩
  go_wp2_with fail
  with_reducible refine (all_any A n c 0 99 xs _ hA).mono ?_
  rintro e w' ⟨rfl, rfl⟩
  rw [HALL.out]
  go_wp2
  go_ret
  exact ⟨rfl, rfl⟩
theorem hcheck_full (A : Option Addr) (n c : Nat) (a : Int) (w : World) (hn : 20 < n) :
    Calls Tryd.prog 19 #[.int .i64 a, .slice A n c] w fun e w' => e = .returned (.iface 53 (.int .i64 4)) ∧ w = w' := by
  have hnI : (20 : Int) < (n : Int) := by omega
  go_enter Tryd.func19, Tryd.ntmps19
  go_wp2
  go_ret
  exact ⟨rfl, rfl⟩
theorem hcheck_range (A : Option Addr) (n c : Nat) (xs : List Int) (a : Int) (w : World) (hA : Rd w A n xs) (hn : n ≤ 20) (h : ¬ ((0 ≤ a ∧ a ≤ 99) ∧ allB xs 0 99 = true)) :
    Calls Tryd.prog 19 #[.int .i64 a, .slice A n c] w fun e w' => e = .returned (.iface 53 (.int .i64 1)) ∧ w = w' := by
  have hnI : ¬ (20 : Int) < (n : Int) := by omega
  by_cases ha : 0 ≤ a ∧ a ≤ 99
  · obtain ⟨a0, a1⟩ := ha
    have hall : allB xs 0 99 = false := by rw [Bool.eq_false_iff]; intro e; exact h ⟨⟨a0, a1⟩, e⟩
    have HALL := Lib.hid hall
    clear hall h
    go_enter Tryd.func19, Tryd.ntmps19
    go_wp2_with fail
    with_reducible refine (within_yes _ _ _ _ a0 a1).mono ?_
    rintro e w' ⟨rfl, rfl⟩
    go_wp2_with fail
    with_reducible refine (all_any A n c 0 99 xs _ hA).mono ?_
    rintro e w' ⟨rfl, rfl⟩
    rw [HALL.out]
    go_wp2
    go_ret
    exact ⟨rfl, rfl⟩
  · have hno : a < 0 ∨ 99 < a := by omega
    clear h ha
    go_enter Tryd.func19, Tryd.ntmps19
    go_wp2_with fail
    with_reducible refine (within_no _ _ _ _ hno).mono ?_
    rintro e w' ⟨rfl, rfl⟩
    go_wp2
    go_ret
    exact ⟨rfl, rfl⟩
theorem hcheck_bad (A : Option Addr) (n c : Nat) (xs : List Int) (a : Int) (w : World) (hA : Rd w A n xs) (hE : headE a xs ≠ 0) :
    Calls Tryd.prog 19 #[.int .i64 a, .slice A n c] w fun e w' => e = .returned (.iface 53 (.int .i64 (headE a xs))) ∧ w = w' := by
  have hl := hA.len
  by_cases hn : 20 < n
  · have e : headE a xs = 4 := by unfold headE; rw [if_pos (by omega)]
    rw [e]
    exact hcheck_full A n c a w hn
  · by_cases h : (0 ≤ a ∧ a ≤ 99) ∧ allB xs 0 99 = true
    · exact absurd (by unfold headE; rw [if_neg (by omega), if_pos h]) hE
    · have e : headE a xs = 1 := by unfold headE; rw [if_neg (by omega), if_neg h]
      rw [e]
      exact hcheck_range A n c xs a w hA (by omega) h

theorem apart_any (x y : Int) (w : World) (hx : 0 ≤ x ∧ x ≤ 99) (hy : 0 ≤ y ∧ y ≤ 99) :
    Calls Tryd.prog 46 #[.int .i64 x, .int .i64 y] w fun e w' => e = .returned (.int .i64 (absI x y)) ∧ w = w' := by
  obtain ⟨x0, x1⟩ := hx
  obtain ⟨y0, y1⟩ := hy
  by_cases h : x - y < y - x
  · have ha : absI x y = y - x := by unfold absI; rw [if_pos (by omega)]
    have HA := Lib.hid ha
    clear ha
    go_enter Tryd.func46, Tryd.ntmps46
    go_wp2
    go_ret
    exact ⟨ret_int HA.out.symm, rfl⟩
  · have ha : absI x y = x - y := by unfold absI; split <;> omega
    have HA := Lib.hid ha
    clear ha
    go_enter Tryd.func46, Tryd.ntmps46
    go_wp2
    go_ret
    exact ⟨ret_int HA.out.symm, rfl⟩

set_option maxHeartbeats 2000000 in
theorem told_any (A : Option Addr) (n c : Nat) (xs : List Int) (a : Int) (w : World) (hA : Rd w A n xs) (hn : n ≤ 20) (ha : Trk a) (hx : ∀ x ∈ xs, Trk x) :
    Calls Tryd.prog 40 #[.int .i64 a, .slice A n c] w fun e w' => e = .returned (.tuple #[.int .i64 (farI a xs), .slice A n c, .nilIface]) ∧ w = w' := by
  have hl := hA.len
  have HX := Lib.hid (And.intro hl (And.intro ha hx))
  clear hl ha hx
  go_enter Tryd.func40, Tryd.ntmps40
  go_wp2
  go_loop [0, 7, 12] (fun p s i => ∃ k : Nat, k ≤ n ∧ i = .int .i64 k ∧ s = .int .i64 (farS a xs k).1 ∧ p = .int .i64 (farS a xs k).2) (fun _ _ i => n - (intOf i).toNat)
  case atStart => exact ⟨0, Nat.zero_le _, rfl, rfl, rfl⟩
  case round =>
    obtain ⟨k, hk, rfl, rfl, rfl⟩ := hrel
    by_cases hlt : k < n
    · have hkI : (k : Int) < (n : Int) := by omega
      obtain ⟨b, off, rfl, hbl, hcc⟩ := hA.at_ (by omega)
      have g1 := hcc k hlt
      have hb := farS_range HX.out.2.1 HX.out.2.2 k
      have hp := farS_at HX.out.2.1 HX.out.2.2 k
      have ht := trk_get HX.out.2.2 k
      have hs : farS a xs (k + 1) = ((farS a xs k).1 + absI (farS a xs k).2 (xs[k]?.getD 0), xs[k]?.getD 0) := rfl
      obtain ⟨S, hS⟩ : ∃ S, (farS a xs k).1 = S := ⟨_, rfl⟩
      obtain ⟨P, hP⟩ : ∃ P, (farS a xs k).2 = P := ⟨_, rfl⟩
      obtain ⟨x, hxe⟩ : ∃ x, xs[k]?.getD 0 = x := ⟨_, rfl⟩
      rw [hS, hP, hxe] at hs
      rw [hS] at hb ⊢
      rw [hP] at hp ⊢
      rw [hxe] at g1 ht
      have hab := absI_range hp ht
      have hap := fun wx => apart_any P x wx hp ht
      obtain ⟨D, hD⟩ : ∃ D, absI P x = D := ⟨_, rfl⟩
      rw [hD] at hs hab hap
      obtain ⟨b0, b1⟩ := hb
      obtain ⟨d0, d1⟩ := hab
      have HS := Lib.hid hs
      have HAP := Lib.hid hap
      have hS2 : S ≤ 2000 := by omega
      clear hcc hs hS hP hxe hD hap hp ht b1
      go_wp2_with fail
      with_reducible refine (HAP.out _).mono ?_
      rintro e w' ⟨rfl, rfl⟩
      go_wp2
      go_round
      case rel => exact ⟨k + 1, by omega, by go_num, by rw [HS.out], by rw [HS.out]⟩
      case measure => simp [intOf]; omega
    · obtain rfl : k = n := by omega
      have hkI : ¬ (k : Int) < (k : Int) := by omega
      have hf : farI a xs = (farS a xs k).1 := by unfold farI; rw [HX.out.1]
      obtain ⟨S, hS⟩ : ∃ S, (farS a xs k).1 = S := ⟨_, rfl⟩
      rw [hS] at hf ⊢
      have HF := Lib.hid hf
      clear hf hS
      go_wp2
      go_ret3
      exact ⟨congrArg (fun s => Ending.returned (.tuple #[.int .i64 s, .slice A k c, .nilIface])) HF.out.symm, rfl⟩
end Go.Proofs.YtpleidblnjphmaaDoor
