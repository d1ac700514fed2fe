/- E.Ints by its contract: two slices of ints are compared. -/
import Derived.Test.YtpleidblnjphmaaDoorProg
import Derived.Test.YtpleidblnjphmaaDoorSl
import Derived.Deep.QuietTactic
import Derived.BigQuiet
import Derived.Lib.Hide
namespace Go.Proofs.YtpleidblnjphmaaDoor
open Go Go.RowKit

set_option maxHeartbeats 1000000 in
theorem ints_any (A B : Option Addr) (n m ca cb : Nat) (xs ys : List Int) (w : World) (hA : Rd w A n xs) (hB : Rd w B m ys) :
    Calls Tryd.prog 23 #[.slice A n ca, .slice B m cb] w fun e w' => e = .returned (.bool (decide (xs = ys))) ∧ ∃ q, w' = w.drewN q := by
  by_cases hnm : n = m
  · subst hnm
    have hx := hA.len
    have hy := hB.len
    have hm := hA.max
    have HX := Lib.hid hx
    have HY := Lib.hid hy
    clear hx hy
    have hne : ((n : Int) != (n : Int)) = false := by simp
    go_enter Tryd.func23, Tryd.ntmps23
    go_wp2
    go_loopw [5] (fun i wr => ∃ k : Nat, k ≤ n ∧ i = .int .i64 k ∧ (∀ j, j < k → xs[j]?.getD 0 = ys[j]?.getD 0) ∧ ∃ q, wr = w.drewN q) (fun i _ => n - (intOf i).toNat)
    case atStart => exact ⟨0, Nat.zero_le _, rfl, fun j hj => absurd hj (by omega), 0, rfl⟩
    case round =>
      obtain ⟨k, hk, rfl, hall, q, rfl⟩ := hrel
      have HALL := Lib.hid hall
      clear hall
      by_cases hlt : k < n
      · obtain ⟨b, off, rfl, _, hc⟩ := hA.at_ (by omega)
        obtain ⟨b', off', rfl, _, hc'⟩ := hB.at_ (by omega)
        have h1 := hc k hlt
        have h2 := hc' k hlt
        clear hc hc'
        have hlt' : (k : Int) < (n : Int) := by omega
        by_cases heq : xs[k]?.getD 0 = ys[k]?.getD 0
        · have hb : (xs[k]?.getD 0 != ys[k]?.getD 0) = false := by simp [heq]
          have HEQ := Lib.hid heq
          clear heq
          go_wp2
          go_quiet (fail)
          go_wp2
          go_roundw
          case rel =>
            refine ⟨k + 1, by omega, by go_num, fun j hj => ?_, _, rfl⟩
            rcases Nat.lt_succ_iff_lt_or_eq.1 hj with h | h
            · exact HALL.out j h
            · subst h; exact HEQ.out
          case measure => simp [intOf]; omega
        · have hb : (xs[k]?.getD 0 != ys[k]?.getD 0) = true := by simp [heq]
          have hdec : decide (xs = ys) = false := by
            rw [decide_eq_false_iff_not]
            intro e; exact heq (by rw [e])
          have HD := Lib.hid hdec
          clear hdec
          go_wp2
          go_quiet (fail)
          go_wp2
          go_ret
          exact ⟨ret_bool HD.out.symm, _, World.drewN_drewN _ _ _⟩
      · go_wp2
        go_ret
        have : k = n := by omega
        subst this
        exact ⟨ret_bool (by rw [eq_comm, decide_eq_true_iff]; exact getD_ext (by rw [HX.out, HY.out]) (fun j hj => HALL.out j (by rw [HX.out] at hj; exact hj))), _, rfl⟩
  · have hne : ((n : Int) != (m : Int)) = true := by simp; omega
    have hdec : decide (xs = ys) = false := by
      rw [decide_eq_false_iff_not]
      intro e
      exact hnm (by rw [← hA.len, ← hB.len, e])
    have HD := Lib.hid hdec
    clear hdec
    go_enter Tryd.func23, Tryd.ntmps23
    go_wp2
    go_ret
    exact ⟨ret_bool HD.out.symm, 0, rfl⟩
end Go.Proofs.YtpleidblnjphmaaDoor
