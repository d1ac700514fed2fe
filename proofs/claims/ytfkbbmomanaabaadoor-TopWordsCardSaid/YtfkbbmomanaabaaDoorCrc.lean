/- Package crc by its contracts: after, Sum, Good. -/
import Derived.Test.YtfkbbmomanaabaaDoorBytes
import Derived.Test.YtfkbbmomanaabaaDoorCrcP
namespace Go.Proofs.YtfkbbmomanaabaaDoor
open Go Go.RowKit

set_option maxHeartbeats 1000000 in
theorem after_nat (x : Nat) (w : World) (hx : x < 256) :
    Calls Tryd.prog 35 #[.int .i64 x] w fun e w' => e = .returned (.int .i64 ((afterN x : Nat) : Int)) ∧ w = w' := by
  go_enter Tryd.func35, Tryd.ntmps35
  go_wp2
  go_loop [0, 3] (fun b i => ∃ k y : Nat, k ≤ 8 ∧ i = .int .i64 k ∧ b = .int .i64 y ∧ y < 256 ∧ y = iterN k x) (fun _ i => 8 - (intOf i).toNat)
  case atStart => exact ⟨0, x, by omega, rfl, rfl, hx, rfl⟩
  case round =>
    obtain ⟨k, y, hk, rfl, rfl, hy, hyk⟩ := hrel
    have HY := Lib.hid hyk
    clear hyk
    have hx2 := i64_xor_nat (2 * y) 263 (by omega) (by omega)
    have hx3 : bits .xor .i64 ((y : Int) * 2) 263 = ((2 * y ^^^ 263 : Nat) : Int) := by rw [← hx2, Int.mul_comm]; rfl
    clear hx2
    have hlt := stepN_lt hy
    by_cases hk8 : k < 8
    · by_cases hbig : 255 < 2 * y
      · have hs : stepN y = 2 * y ^^^ 263 := by rw [stepN, if_pos hbig]
        go_wp2
        go_round
        case rel => exact ⟨k + 1, stepN y, by omega, by go_num, by rw [hs], hlt, by rw [HY.out]; rfl⟩
        case measure => simp [intOf]; omega
      · have hs : stepN y = 2 * y := by rw [stepN, if_neg hbig]
        go_wp2
        go_round
        case rel => exact ⟨k + 1, stepN y, by omega, by go_num, by rw [hs]; go_num, hlt, by rw [HY.out]; rfl⟩
        case measure => simp [intOf]; omega
    · go_wp2
      go_ret
      have : k = 8 := by omega
      subst this
      exact ⟨ret_int (by rw [HY.out]; rfl), rfl⟩
theorem after_any (x : Int) (w : World) (h0 : 0 ≤ x) (hx : x ≤ 255) :
    Calls Tryd.prog 35 #[.int .i64 x] w fun e w' => e = .returned (.int .i64 (afterI x)) ∧ w = w' := by
  obtain ⟨a, rfl⟩ := Int.eq_ofNat_of_zero_le h0
  exact after_nat a w (by omega)

theorem sum_bad (A : Option Addr) (n ca : Nat) (xs : List Int) (w : World) (hA : Rd w A n xs) (h : bytesE xs 64 ≠ 0) :
    Calls Tryd.prog 21 #[.slice A n ca] w fun e w' => e = .returned (.tuple #[.int .i64 0, .iface 48 (.int .i64 (bytesE xs 64))]) ∧ w = w' := by
  go_enter Tryd.func21, Tryd.ntmps21
  go_wp2_with fail
  refine (bytes_bad _ _ _ _ _ _ hA h).mono ?_
  rintro e w' ⟨rfl, rfl⟩
  go_wp2
  go_ret2
  exact ⟨rfl, rfl⟩

theorem take_snoc {xs : List Int} {k : Nat} (h : k < xs.length) : xs.take (k + 1) = xs.take k ++ [xs[k]?.getD 0] := by
  rw [List.take_succ_eq_append_getElem h, List.getElem?_eq_getElem h]; rfl

set_option maxHeartbeats 1000000 in
theorem sum_ok (A : Option Addr) (n ca : Nat) (xs : List Int) (w : World) (hA : Rd w A n xs) (hn : n ≤ 64) (hall : allB xs 0 255 = true) :
    Calls Tryd.prog 21 #[.slice A n ca] w fun e w' => e = .returned (.tuple #[.int .i64 (crcI xs), .nilIface]) ∧ w = w' := by
  have hx := hA.len
  have hm := allB_mem.1 hall
  have HX := Lib.hid hx
  have HM := Lib.hid hm
  clear hx hm
  go_enter Tryd.func21, Tryd.ntmps21
  go_wp2_with fail
  refine (bytes_ok _ _ _ _ _ _ hA (by omega) hall).mono ?_
  rintro e w' ⟨rfl, rfl⟩
  clear hall
  go_wp2
  go_loop [5, 15] (fun s i => ∃ k : Nat, k ≤ n ∧ i = .int .i64 k ∧ s = .int .i64 (crcI (xs.take k))) (fun _ i => n - (intOf i).toNat)
  case atStart => exact ⟨0, Nat.zero_le _, rfl, rfl⟩
  case round =>
    obtain ⟨k, hk, rfl, rfl⟩ := hrel
    by_cases hlt : k < n
    · obtain ⟨b, off, rfl, _, hc⟩ := hA.at_ (by omega)
      have h1 := hc k hlt
      have hr := crcI_range (xs := xs.take k) (fun x hx => HM.out x (List.mem_of_mem_take hx))
      have hv := allB_iff.1 (allB_mem.2 HM.out) k (by rw [HX.out]; exact hlt)
      have hs := crcI_snoc (xs.take k) (xs[k]?.getD 0)
      rw [← take_snoc (by rw [HX.out]; exact hlt)] at hs
      obtain ⟨s, hse⟩ : ∃ s, crcI (xs.take k) = s := ⟨_, rfl⟩
      obtain ⟨x, hxe⟩ : ∃ x, xs[k]?.getD 0 = x := ⟨_, rfl⟩
      rw [hse, hxe] at hs
      rw [hse] at hr ⊢
      rw [hxe] at hv h1
      obtain ⟨hr0, hr1⟩ := hr
      obtain ⟨hv0, hv1⟩ := hv
      have hb := bits_xorI (x := s) (y := x) hr0 (by omega) hv0 (by omega)
      have HS := Lib.hid hs
      clear hs hse hxe hc
      go_wp2_with (go_at_call 35; refine (after_any _ _ (xorI_nonneg _ _) (xorI_255 hr1 hv1)).mono ?_; rintro e w' ⟨rfl, rfl⟩)
      go_round
      case rel => exact ⟨k + 1, by omega, by go_num, by rw [HS.out]⟩
      case measure => simp [intOf]; omega
    · have : k = n := by omega
      subst this
      go_wp2
      go_ret2
      exact ⟨ret2_int (by rw [List.take_of_length_le (by rw [HX.out]; omega)]), rfl⟩

/-! ### Good -/
theorem good_nil (A : Option Addr) (ca : Nat) (w : World) :
    Calls Tryd.prog 22 #[.slice A 0 ca] w fun e w' => e = .returned (.tuple #[.bool false, .iface 48 (.int .i64 5)]) ∧ w = w' := by
  go_enter Tryd.func22, Tryd.ntmps22
  go_wp2
  go_ret2
  exact ⟨rfl, rfl⟩
theorem good_bad (A : Option Addr) (n ca : Nat) (xs : List Int) (w : World) (hA : Rd w A n xs) (hn : 0 < n) (h : bytesE xs 64 ≠ 0) :
    Calls Tryd.prog 22 #[.slice A n ca] w fun e w' => e = .returned (.tuple #[.bool false, .iface 48 (.int .i64 (bytesE xs 64))]) ∧ w = w' := by
  have hne : ((n : Int) == 0) = false := by simp; omega
  go_enter Tryd.func22, Tryd.ntmps22
  go_wp2_with fail
  refine (sum_bad _ _ _ _ _ hA h).mono ?_
  rintro e w' ⟨rfl, rfl⟩
  go_wp2
  go_ret2
  exact ⟨rfl, rfl⟩
theorem good_ok (A : Option Addr) (n ca : Nat) (xs : List Int) (w : World) (hA : Rd w A n xs) (hn : 0 < n) (h64 : n ≤ 64) (hall : allB xs 0 255 = true) :
    Calls Tryd.prog 22 #[.slice A n ca] w fun e w' => e = .returned (.tuple #[.bool (crcI xs == 0), .nilIface]) ∧ w = w' := by
  have hne : ((n : Int) == 0) = false := by simp; omega
  go_enter Tryd.func22, Tryd.ntmps22
  go_wp2_with fail
  refine (sum_ok _ _ _ _ _ hA h64 hall).mono ?_
  rintro e w' ⟨rfl, rfl⟩
  go_wp2
  go_ret2
  exact ⟨rfl, rfl⟩

theorem crcFact_any (w : World) : Calls Tryd.prog 23 #[] w fun e w' => e = .returned (.bool true) ∧ Below w.heap.size w w' := by
  go_enter Tryd.func23, Tryd.ntmps23
  go_wp2_with fail
  refine (sum_ok _ _ _ [1] _ (Rd.new (n := 1) rfl (by decide) (by simp) (by simp) (fun k hk => ?_)) (by decide) (by decide)).mono ?_
  · obtain rfl : k = 0 := by omega
    simp
  rintro e w' ⟨rfl, rfl⟩
  rw [show crcI [1] = 7 from by decide]
  go_wp2_with fail
  refine (good_ok _ _ _ [1, 7] _ (Rd.new (n := 2) rfl (by decide) (by simp) (by simp) (fun k hk => ?_)) (by decide) (by decide) (by decide)).mono ?_
  · rcases (by omega : k = 0 ∨ k = 1) with rfl | rfl <;> simp
  rintro e w' ⟨rfl, rfl⟩
  rw [show (crcI [1, 7] == 0) = true from by decide]
  go_wp2
  go_ret
  exact ⟨rfl, ((Below.refl _ _).alloc (Nat.le_refl _) _).alloc (by simp) _⟩
end Go.Proofs.YtfkbbmomanaabaaDoor
