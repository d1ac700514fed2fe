/- The law's own power of two by its contract. -/
import Derived.Test.YtfkbbmomanaabaaDoorProg
import Derived.Test.YtfkbbmomanaabaaDoorSl
import Derived.Lib.Hide
namespace Go.Proofs.YtfkbbmomanaabaaDoor
open Go Go.RowKit

set_option maxHeartbeats 1000000 in
theorem power_nat (n : Nat) (w : World) (hn : n ≤ 30) :
    Calls Tryd.prog 14 #[.int .i64 n] w fun e w' => e = .returned (.int .i64 ((2 ^ n : Nat) : Int)) ∧ w = w' := by
  go_enter Tryd.func14, Tryd.ntmps14
  go_wp2
  go_loop [3, 4] (fun sp si => ∃ k p : Nat, k ≤ n ∧ si = .int .i64 k ∧ sp = .int .i64 p ∧ p = 2 ^ k ∧ p ≤ 2147483648) (fun _ si => n - (intOf si).toNat)
  case atStart => exact ⟨0, 1, by omega, rfl, rfl, rfl, by omega⟩
  case round =>
    obtain ⟨k, p, hk, rfl, rfl, hp, hpb⟩ := hrel
    have HP := Lib.hid hp
    clear hp
    by_cases hlt : k < n
    · have hb : p * 2 ≤ 2147483648 := by
        have e : p * 2 = 2 ^ (k + 1) := by rw [HP.out, Nat.pow_succ]
        have h2 : (2 : Nat) ^ (k + 1) ≤ 2 ^ 31 := Nat.pow_le_pow_right (by decide) (by omega)
        omega
      go_wp2
      go_round
      case rel => exact ⟨k + 1, p * 2, by omega, by go_num, by go_num, by rw [HP.out, Nat.pow_succ], hb⟩
      case measure => simp [intOf]; omega
    · have : k = n := by omega
      subst this
      go_wp2
      go_ret
      exact ⟨ret_int (congrArg (fun q : Nat => (q : Int)) HP.out), rfl⟩
theorem power_any (s : Int) (w : World) (h0 : 0 ≤ s) (h : s ≤ 30) :
    Calls Tryd.prog 14 #[.int .i64 s] w fun e w' => e = .returned (.int .i64 ((2 ^ s.toNat : Nat) : Int)) ∧ w = w' := by
  obtain ⟨n, rfl⟩ := Int.eq_ofNat_of_zero_le h0
  exact power_nat n w (by omega)
end Go.Proofs.YtfkbbmomanaabaaDoor
