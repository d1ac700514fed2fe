/- Package galois by its contracts, further: inverse, check, Mul, Div; the law's own mul and its closed fact. -/
import Derived.Test.YtdhfckdnfppieaaGalois
namespace Go.Proofs.Ytdhfckdnfppieaa
open Go Go.RowKit

theorem invF_zero (k : Nat) (o a : Nat) : invF k o a 0 = o := by
  induction k generalizing o a with
  | zero => rfl
  | succ k ih => simp [invF, ih]

set_option maxHeartbeats 1000000 in
theorem inverse_nat (a : Nat) (w : World) (ha : a < 256) :
    Calls Try.prog 42 #[.int .i64 a] w fun e w' => e = .returned (.int .i64 ((invN a : Nat) : Int)) ∧ w = w' := by
  obtain ⟨T, hT⟩ : ∃ T, invN a = T := ⟨_, rfl⟩
  rw [hT]
  have HT := Lib.hid hT
  clear hT
  go_enter Try.func42, Try.ntmps42
  go_wp2
  go_loop [0, 3, 4] (fun sa so sn => ∃ x o n k : Nat, sa = .int .i64 x ∧ so = .int .i64 o ∧ sn = .int .i64 n ∧ x < 256 ∧ o < 256 ∧ n < 2 ^ k ∧ k ≤ 8 ∧ invF k o x n = T) (fun _ _ sn => (intOf sn).toNat)
  case atStart => exact ⟨a, 1, 254, 8, rfl, rfl, rfl, ha, by omega, by omega, by omega, HT.out⟩
  case round =>
    obtain ⟨x, o, n, k, rfl, rfl, rfl, hx, ho, hn, hk, heq⟩ := hrel
    have HE := Lib.hid heq
    have HN := Lib.hid hn
    clear heq hn
    have hn256 : n < 256 := by
      have h8 : (2 : Nat) ^ k ≤ 2 ^ 8 := Nat.pow_le_pow_right (by decide) hk
      have := HN.out; omega
    by_cases hpos : 0 < n
    · have hk1 : ∃ j, k = j + 1 := by
        rcases k with _ | j
        · have := HN.out; simp at this; omega
        · exact ⟨j, rfl⟩
      obtain ⟨j, rfl⟩ := hk1
      have hn2 : n / 2 < 2 ^ j := by have := HN.out; rw [Nat.pow_succ] at this; omega
      have HN2 := Lib.hid hn2
      clear hn2
      have he2 : invF j (if n % 2 = 1 then mulN o x else o) (mulN x x) (n / 2) = T := HE.out
      have HE2 := Lib.hid he2
      clear he2
      have hand := and_one (b := n) (by omega)
      have hm1 := mul_lt (b := x) hx
      have hm2 := mul_lt (b := x) ho
      by_cases hodd : n % 2 = 1
      · have hb1 : (((n % 2 : Nat) : Int) == 1) = true := by simp; omega
        rw [if_pos hodd] at HE2
        go_wp2_with fail
        with_reducible refine (gmul_nat o x _ ho hx).mono ?_
        rintro e w' ⟨rfl, rfl⟩
        go_wp2_with fail
        with_reducible refine (gmul_nat x x _ hx hx).mono ?_
        rintro e w' ⟨rfl, rfl⟩
        go_wp2
        go_round
        case rel => exact ⟨mulN x x, mulN o x, n / 2, j, rfl, rfl, by go_num, hm1, hm2, HN2.out, by omega, HE2.out⟩
        case measure => simp [intOf]; omega
      · have hb1 : (((n % 2 : Nat) : Int) == 1) = false := by simp; omega
        rw [if_neg hodd] at HE2
        go_wp2_with fail
        with_reducible refine (gmul_nat x x _ hx hx).mono ?_
        rintro e w' ⟨rfl, rfl⟩
        go_wp2
        go_round
        case rel => exact ⟨mulN x x, o, n / 2, j, rfl, rfl, by go_num, hm1, ho, HN2.out, by omega, HE2.out⟩
        case measure => simp [intOf]; omega
    · obtain rfl : n = 0 := by omega
      go_wp2
      go_ret
      exact ⟨ret_int (by have := HE.out; rw [invF_zero] at this; exact congrArg (fun q : Nat => (q : Int)) this), rfl⟩
theorem inverse_any (x : Int) (w : World) (hx0 : 0 ≤ x) (hx : x ≤ 255) :
    Calls Try.prog 42 #[.int .i64 x] w fun e w' => e = .returned (.int .i64 (invI x)) ∧ w = w' := by
  obtain ⟨a, rfl⟩ := Int.eq_ofNat_of_zero_le hx0
  have e : invI (a : Int) = ((invN a : Nat) : Int) := by simp [invI]
  rw [e]
  exact inverse_nat a w (by omega)

theorem check_ok (A : Option Addr) (n ca : Nat) (xs : List Int) (w : World) (hA : Rd w A n xs) (hall : allB xs 0 255 = true) :
    Calls Try.prog 31 #[.slice A n ca] w fun e w' => e = .returned .nilIface ∧ w = w' := by
  go_enter Try.func31, Try.ntmps31
  go_wp2_with (go_at_call 39; refine (all_any _ _ _ _ _ _ _ hA).mono ?_; rintro e w' ⟨rfl, rfl⟩)
  go_ret
  exact ⟨rfl, rfl⟩
theorem check_bad (A : Option Addr) (n ca : Nat) (xs : List Int) (w : World) (hA : Rd w A n xs) (hall : allB xs 0 255 = false) :
    Calls Try.prog 31 #[.slice A n ca] w fun e w' => e = .returned (.iface 47 (.int .i64 1)) ∧ w = w' := by
  go_enter Try.func31, Try.ntmps31
  go_wp2_with (go_at_call 39; refine (all_any _ _ _ _ _ _ _ hA).mono ?_; rintro e w' ⟨rfl, rfl⟩)
  go_ret
  exact ⟨rfl, rfl⟩

theorem rd_one (w : World) (x : Int) (hx : -9223372036854775808 ≤ x ∧ x ≤ 9223372036854775807) : Rd (w.alloc (.cells #[.int .i64 x] 3)) (some ⟨w.heap.size, 0, none⟩) 1 [x] :=
  Rd.new (n := 1) rfl (by decide) (by simp) (by simpa using hx) (fun k hk => by
    obtain rfl : k = 0 := by omega
    simp)
theorem rd_two (w : World) (x y : Int) (hx : -9223372036854775808 ≤ x ∧ x ≤ 9223372036854775807) (hy : -9223372036854775808 ≤ y ∧ y ≤ 9223372036854775807) :
    Rd (w.alloc (.cells #[.int .i64 x, .int .i64 y] 3)) (some ⟨w.heap.size, 0, none⟩) 2 [x, y] :=
  Rd.new (n := 2) rfl (by decide) (by simp) (by simp; exact ⟨hx, hy⟩) (fun k hk => by
    rcases (by omega : k = 0 ∨ k = 1) with rfl | rfl <;> simp)
theorem all_two {x y : Int} : allB [x, y] 0 255 = true ↔ (0 ≤ x ∧ x ≤ 255) ∧ 0 ≤ y ∧ y ≤ 255 := by
  rw [allB_mem]; simp
theorem all_one {x : Int} : allB [x] 0 255 = true ↔ 0 ≤ x ∧ x ≤ 255 := by
  rw [allB_mem]; simp

/-- Within a byte. -/
def Byte (x : Int) : Prop := 0 ≤ x ∧ x ≤ 255
def Wide (x : Int) : Prop := -9223372036854775808 ≤ x ∧ x ≤ 9223372036854775807
theorem Byte.wide {x : Int} (h : Byte x) : Wide x := ⟨by have := h.1; omega, by have := h.2; omega⟩

theorem Mul_ok (x y : Int) (w : World) (hx : Byte x) (hy : Byte y) :
    Calls Try.prog 29 #[.int .i64 x, .int .i64 y] w fun e w' => e = .returned (.tuple #[.int .i64 (mulI x y), .nilIface]) ∧ Below w.heap.size w w' := by
  have hall : allB [x, y] 0 255 = true := all_two.2 ⟨hx, hy⟩
  have hR := rd_two w x y hx.wide hy.wide
  obtain ⟨hx0, hx1⟩ := hx
  obtain ⟨hy0, hy1⟩ := hy
  go_enter Try.func29, Try.ntmps29
  go_wp2_with fail
  with_reducible refine (check_ok _ _ _ _ _ hR hall).mono ?_
  rintro e w' ⟨rfl, rfl⟩
  clear hall
  go_wp2_with fail
  with_reducible refine (gmul_any x y _ hx0 hx1 hy0 hy1).mono ?_
  rintro e w' ⟨rfl, rfl⟩
  go_wp2
  go_ret2
  exact ⟨rfl, (Below.refl _ _).alloc (Nat.le_refl _) _⟩
theorem Mul_bad (x y : Int) (w : World) (hwx : Wide x) (hwy : Wide y) (h : ¬ (Byte x ∧ Byte y)) :
    Calls Try.prog 29 #[.int .i64 x, .int .i64 y] w fun e w' => e = .returned (.tuple #[.int .i64 0, .iface 47 (.int .i64 1)]) ∧ Below w.heap.size w w' := by
  have hall : allB [x, y] 0 255 = false := by
    rw [Bool.eq_false_iff]; intro e; exact h (all_two.1 e)
  have hR := rd_two w x y hwx hwy
  clear h
  go_enter Try.func29, Try.ntmps29
  go_wp2_with fail
  with_reducible refine (check_bad _ _ _ _ _ hR hall).mono ?_
  rintro e w' ⟨rfl, rfl⟩
  clear hall
  go_wp2
  go_ret2
  exact ⟨rfl, (Below.refl _ _).alloc (Nat.le_refl _) _⟩
theorem Div_ok (x y : Int) (w : World) (hx : Byte x) (hy : Byte y) (h0 : y ≠ 0) :
    Calls Try.prog 30 #[.int .i64 x, .int .i64 y] w fun e w' => e = .returned (.tuple #[.int .i64 (mulI x (invI y)), .nilIface]) ∧ Below w.heap.size w w' := by
  have hall : allB [x, y] 0 255 = true := all_two.2 ⟨hx, hy⟩
  have hR := rd_two w x y hx.wide hy.wide
  obtain ⟨hx0, hx1⟩ := hx
  obtain ⟨hy0, hy1⟩ := hy
  have hb : (y == 0) = false := by simpa using h0
  clear h0
  go_enter Try.func30, Try.ntmps30
  go_wp2_with fail
  with_reducible refine (check_ok _ _ _ _ _ hR hall).mono ?_
  rintro e w' ⟨rfl, rfl⟩
  clear hall
  go_wp2_with fail
  with_reducible refine (inverse_any y _ hy0 hy1).mono ?_
  rintro e w' ⟨rfl, rfl⟩
  go_wp2_with fail
  with_reducible refine (gmul_any x (invI y) _ hx0 hx1 (invI_nonneg _) (invI_le hy1)).mono ?_
  rintro e w' ⟨rfl, rfl⟩
  go_wp2
  go_ret2
  exact ⟨rfl, (Below.refl _ _).alloc (Nat.le_refl _) _⟩
theorem Div_zero (x : Int) (w : World) (hx : Byte x) :
    Calls Try.prog 30 #[.int .i64 x, .int .i64 0] w fun e w' => e = .returned (.tuple #[.int .i64 0, .iface 47 (.int .i64 5)]) ∧ Below w.heap.size w w' := by
  have hall : allB [x, 0] 0 255 = true := all_two.2 ⟨hx, by decide⟩
  have hR := rd_two w x 0 hx.wide (by decide)
  go_enter Try.func30, Try.ntmps30
  go_wp2_with fail
  with_reducible refine (check_ok _ _ _ _ _ hR hall).mono ?_
  rintro e w' ⟨rfl, rfl⟩
  clear hall
  go_wp2
  go_ret2
  exact ⟨rfl, (Below.refl _ _).alloc (Nat.le_refl _) _⟩
theorem Div_bad (x y : Int) (w : World) (hwx : Wide x) (hwy : Wide y) (h : ¬ (Byte x ∧ Byte y)) :
    Calls Try.prog 30 #[.int .i64 x, .int .i64 y] w fun e w' => e = .returned (.tuple #[.int .i64 0, .iface 47 (.int .i64 1)]) ∧ Below w.heap.size w w' := by
  have hall : allB [x, y] 0 255 = false := by
    rw [Bool.eq_false_iff]; intro e; exact h (all_two.1 e)
  have hR := rd_two w x y hwx hwy
  clear h
  go_enter Try.func30, Try.ntmps30
  go_wp2_with fail
  with_reducible refine (check_bad _ _ _ _ _ hR hall).mono ?_
  rintro e w' ⟨rfl, rfl⟩
  clear hall
  go_wp2
  go_ret2
  exact ⟨rfl, (Below.refl _ _).alloc (Nat.le_refl _) _⟩
end Go.Proofs.Ytdhfckdnfppieaa
