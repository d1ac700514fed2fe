/- galois.Pow by its contracts. -/
import Derived.Test.YtdhfckdnfppieaaDoorGalois2
namespace Go.Proofs.YtdhfckdnfppieaaDoor
open Go Go.RowKit

def powI (x : Int) (n : Nat) : Int := ((powN x.toNat n : Nat) : Int)
theorem powI_zero (x : Int) : powI x 0 = 1 := rfl
theorem powI_succ (x : Int) (n : Nat) : powI x (n + 1) = mulI (powI x n) x := by
  show ((mulN (powN x.toNat n) x.toNat : Nat) : Int) = ((mulN (powI x n).toNat x.toNat : Nat) : Int)
  rw [show (powI x n).toNat = powN x.toNat n from by unfold powI; omega]
theorem powI_byte {x : Int} (hx : Byte x) (n : Nat) : Byte (powI x n) := by
  have h := powN_lt (a := x.toNat) (by have := hx.2; omega) n
  exact ⟨by unfold powI; omega, by unfold powI; omega⟩

set_option maxHeartbeats 1000000 in
theorem Pow_ok (x : Int) (n : Nat) (w : World) (hx : Byte x) (hn : n ≤ 1000) :
    Calls Tryd.prog 18 #[.int .i64 x, .int .i64 n] w fun e w' => e = .returned (.tuple #[.int .i64 (powI x n), .nilIface]) ∧ Below w.heap.size w w' := by
  have hall : allB [x] 0 255 = true := all_one.2 hx
  have hR := rd_one w x hx.wide
  have x0 : 0 ≤ x := hx.1
  have x1 : x ≤ 255 := hx.2
  have hn0 : (0 : Int) ≤ (n : Int) := by omega
  have hn1 : (n : Int) ≤ 1000 := by omega
  go_enter Tryd.func18, Tryd.ntmps18
  go_wp2_with fail
  with_reducible refine (check_ok _ _ _ _ _ hR hall).mono ?_
  rintro e w' ⟨rfl, rfl⟩
  clear hall
  go_wp2_with fail
  with_reducible refine (within_yes _ _ _ _ hn0 hn1).mono ?_
  rintro e w' ⟨rfl, rfl⟩
  go_wp2
  go_loop [7, 19] (fun so si => ∃ k : Nat, k ≤ n ∧ si = .int .i64 k ∧ so = .int .i64 (powI x k)) (fun _ si => n - (intOf si).toNat)
  case atStart => exact ⟨0, Nat.zero_le _, rfl, rfl⟩
  case round =>
    obtain ⟨k, hk, rfl, rfl⟩ := hrel
    by_cases hlt : k < n
    · have hp := powI_byte hx k
      have p0 : 0 ≤ powI x k := hp.1
      have p1 : powI x k ≤ 255 := hp.2
      have HS := Lib.hid (powI_succ x k)
      go_wp2_with fail
      with_reducible refine (gmul_any (powI x k) x _ p0 p1 x0 x1).mono ?_
      rintro e w' ⟨rfl, rfl⟩
      rw [← HS.out]
      go_wp2
      go_round
      case rel => exact ⟨k + 1, by omega, by go_num, rfl⟩
      case measure => simp [intOf]; omega
    · have : k = n := by omega
      subst this
      go_wp2
      go_ret2
      exact ⟨rfl, (Below.refl _ _).alloc (Nat.le_refl _) _⟩
theorem Pow_int (x n : Int) (w : World) (hx : Byte x) (h0 : 0 ≤ n) (hn : n ≤ 1000) :
    Calls Tryd.prog 18 #[.int .i64 x, .int .i64 n] w fun e w' => e = .returned (.tuple #[.int .i64 (powI x n.toNat), .nilIface]) ∧ Below w.heap.size w w' := by
  obtain ⟨k, rfl⟩ := Int.eq_ofNat_of_zero_le h0
  exact Pow_ok x k w hx (by omega)
theorem Pow_byte (x n : Int) (w : World) (hx : Wide x) (h : ¬ Byte x) :
    Calls Tryd.prog 18 #[.int .i64 x, .int .i64 n] w fun e w' => e = .returned (.tuple #[.int .i64 0, .iface 53 (.int .i64 1)]) ∧ Below w.heap.size w w' := by
  have hall : allB [x] 0 255 = false := by
    rw [Bool.eq_false_iff]; intro e; exact h (all_one.1 e)
  have hR := rd_one w x hx
  clear h
  go_enter Tryd.func18, Tryd.ntmps18
  go_wp2_with fail
  with_reducible refine (check_bad _ _ _ _ _ hR hall).mono ?_
  rintro e w' ⟨rfl, rfl⟩
  clear hall
  go_wp2
  go_ret2
  exact ⟨rfl, (Below.refl _ _).alloc (Nat.le_refl _) _⟩
theorem Pow_range (x n : Int) (w : World) (hx : Byte x) (h : n < 0 ∨ 1000 < n) :
    Calls Tryd.prog 18 #[.int .i64 x, .int .i64 n] w fun e w' => e = .returned (.tuple #[.int .i64 0, .iface 53 (.int .i64 1)]) ∧ Below w.heap.size w w' := by
  have hall : allB [x] 0 255 = true := all_one.2 hx
  have hR := rd_one w x hx.wide
  go_enter Tryd.func18, Tryd.ntmps18
  go_wp2_with fail
  with_reducible refine (check_ok _ _ _ _ _ hR hall).mono ?_
  rintro e w' ⟨rfl, rfl⟩
  clear hall
  go_wp2_with fail
  with_reducible refine (within_no _ _ _ _ h).mono ?_
  rintro e w' ⟨rfl, rfl⟩
  go_wp2
  go_ret2
  exact ⟨rfl, (Below.refl _ _).alloc (Nat.le_refl _) _⟩
end Go.Proofs.YtdhfckdnfppieaaDoor
