/- Package bitmap by its contracts. -/
import Derived.Test.YtllacbogbbbcaaaBitP
import Derived.Test.YtllacbogbbbcaaaCore
import Derived.Test.YtllacbogbbbcaaaOwn
import Derived.Deep.QuietTactic
import Derived.BigQuiet
import Derived.Deep.RegionHeld3
import Derived.Deep.RegionLaw
import Derived.Laws.Shifts
import Derived.Lib.Hide
namespace Go.Proofs.Ytllacbogbbbcaaa
open Go Go.RowKit
set_option maxRecDepth 20000
set_option linter.unusedVariables false

theorem new_any (w : World) : Calls Try.prog 25 #[] w fun e w' => e = .returned (.pointer (some ⟨w.heap.size, 0, none⟩)) ∧ w' = w.alloc (.cells #[.int .u32 0] 65) := by
  go_enter Try.func25, Try.ntmps25
  go_wp2
  go_ret
  exact ⟨rfl, rfl⟩
theorem run_int {a n : Nat} (h : a + n ≤ 32) : ((2 : Int) ^ n - 1) % 4294967296 * 2 ^ a % 4294967296 = ((runN a n : Nat) : Int) := by
  have h1 := run_lt h
  have h2 : 2 ^ n ≤ 2 ^ 32 := Nat.pow_le_pow_right (by decide) (by omega)
  have h3 := Nat.two_pow_pos n
  have e1 : ((2 : Int) ^ n - 1) = ((2 ^ n - 1 : Nat) : Int) := by
    rw [Int.natCast_sub h3]; simp
  have e2 : ((2 ^ n - 1 : Nat) : Int) % 4294967296 = ((2 ^ n - 1 : Nat) : Int) := by
    have h4 : 2 ^ n - 1 < 4294967296 := by omega
    generalize 2 ^ n - 1 = q at h4 ⊢
    omega
  have e3 : ((2 : Int) ^ a) = ((2 ^ a : Nat) : Int) := by simp
  rw [e1, e2, e3, ← Int.natCast_mul]
  show ((runN a n : Nat) : Int) % 4294967296 = _
  omega
theorem run_any (a n : Nat) (w : World) (h : a + n ≤ 32) : Calls Try.prog 37 #[.int .i64 a, .int .i64 n] w fun e w' => e = .returned (.int .u32 ((runN a n : Nat) : Int)) ∧ w = w' := by
  have HR := Lib.hid (run_int h)
  go_enter Try.func37, Try.ntmps37
  go_wp2
  go_ret
  exact ⟨ret_int HR.out, rfl⟩

/-- The map at block b holds t. -/
def MapAt (w : World) (b t : Nat) : Prop := (w.cell? ⟨b, 0, none⟩ = some (.int .u32 (t : Int)) ∧ w.frozen? ⟨b, 0, none⟩ = false ∧ b < w.heap.size) ∧ t < 4294967296
theorem MapAt.below {w w' : World} {b t : Nat} (h : MapAt w b t) (hb : Below w.heap.size w w') : MapAt w' b t :=
  ⟨⟨(hb.cell (p := ⟨b, 0, none⟩) h.1.2.2).trans h.1.1, (hb.frozen (p := ⟨b, 0, none⟩) h.1.2.2).trans h.1.2.1, Nat.lt_of_lt_of_le h.1.2.2 hb.size⟩, h.2⟩
theorem MapAt.new (w : World) : MapAt (w.alloc (.cells #[.int .u32 0] 65)) w.heap.size 0 := ⟨⟨by simp, by simp, by simp⟩, by decide⟩
theorem MapAt.set {w : World} {b t : Nat} (h : MapAt w b t) {u : Nat} (hu : u < 4294967296) : MapAt (w.setCell ⟨b, 0, none⟩ (.int .u32 (u : Int))) b u :=
  ⟨⟨World.cell?_setCell_same' _ _ _ (by rw [h.1.1]; rfl), by rw [World.frozen?_setCell]; exact h.1.2.1, by simpa using h.1.2.2⟩, hu⟩

theorem bit_and {t : Nat} (ht : t < 4294967296) (i : Nat) : bits .and .u32 ((t : Int) / 2 ^ i) 1 = (((t.testBit i).toNat : Nat) : Int) := by
  have e : (t : Int) / 2 ^ i = ((t / 2 ^ i : Nat) : Int) := by simp
  have h1 := u32_and_nat (t / 2 ^ i) 1 (Nat.lt_of_le_of_lt (Nat.div_le_self _ _) ht) (by decide)
  rw [e]
  rw [show ((1 : Nat) : Int) = 1 from rfl] at h1
  rw [h1, Nat.and_one_is_mod, Nat.toNat_testBit]
set_option maxHeartbeats 1000000 in
theorem has_in (b t i : Nat) (w : World) (hM : MapAt w b t) (hi : i < 32) : Calls Try.prog 27 #[.pointer (some ⟨b, 0, none⟩), .int .i64 i] w fun e w' => e = .returned (.bool (t.testBit i)) ∧ w = w' := by
  obtain ⟨⟨hc, hf, hl⟩, ht⟩ := hM
  have i0 : (0 : Int) ≤ (i : Int) := by omega
  have i1 : (i : Int) ≤ 31 := by omega
  have hb := bit_and ht i
  have hq : ((((t.testBit i).toNat : Nat) : Int) == 1) = t.testBit i := by cases t.testBit i <;> rfl
  have HQ := Lib.hid hq
  clear hq
  go_enter Try.func27, Try.ntmps27
  go_wp2_with fail
  with_reducible refine (within_yes _ _ _ _ i0 i1).mono ?_
  rintro e w' ⟨rfl, rfl⟩
  go_wp2
  go_ret
  exact ⟨ret_bool HQ.out, rfl⟩
theorem has_out (b : Nat) (i : Int) (w : World) (hi : i < 0 ∨ 31 < i) : Calls Try.prog 27 #[.pointer (some ⟨b, 0, none⟩), .int .i64 i] w fun e w' => e = .returned (.bool false) ∧ w = w' := by
  go_enter Try.func27, Try.ntmps27
  go_wp2_with fail
  with_reducible refine (within_no _ _ _ _ hi).mono ?_
  rintro e w' ⟨rfl, rfl⟩
  go_wp2
  go_ret
  exact ⟨rfl, rfl⟩

/-- What Take and Back do to the world: draws, and a store. -/
def TakeHit (w : World) (b u : Nat) (a : Nat) (e : Ending) (w' : World) : Prop := e = .returned (.tuple #[.int .i64 (a : Int), .nilIface]) ∧ ∃ q, w' = (w.drewN q).setCell ⟨b, 0, none⟩ (.int .u32 (u : Int))
def TakeMiss (w : World) (e : Ending) (w' : World) : Prop := e = .returned (.tuple #[.int .i64 0, .iface 23 (.int .i64 4)]) ∧ ∃ q, w' = w.drewN q
theorem take_range (b : Nat) (n : Int) (w : World) (h : n < 1 ∨ 32 < n) : Calls Try.prog 26 #[.pointer (some ⟨b, 0, none⟩), .int .i64 n] w fun e w' => e = .returned (.tuple #[.int .i64 0, .iface 23 (.int .i64 1)]) ∧ w = w' := by
  go_enter Try.func26, Try.ntmps26
  go_wp2_with fail
  with_reducible refine (within_no _ _ _ _ h).mono ?_
  rintro e w' ⟨rfl, rfl⟩
  go_wp2
  go_ret2
  exact ⟨rfl, rfl⟩
set_option maxHeartbeats 2000000 in
theorem take_any (b t n : Nat) (w : World) (hM : MapAt w b t) (h1 : 1 ≤ n) (h32 : n ≤ 32) : Calls Try.prog 26 #[.pointer (some ⟨b, 0, none⟩), .int .i64 n] w fun e w' =>
    (∃ a, firstN t n = some a ∧ TakeHit w b (t ||| runN a n) a e w') ∨ (firstN t n = none ∧ TakeMiss w e w') := by
  obtain ⟨⟨hc, hf, hl⟩, ht⟩ := hM
  have n0 : (1 : Int) ≤ (n : Int) := by omega
  have n1 : (n : Int) ≤ 32 := by omega
  have hT := Lib.hid ht
  go_enter Try.func26, Try.ntmps26
  go_wp2_with fail
  with_reducible refine (within_yes _ _ _ _ n0 n1).mono ?_
  rintro e w' ⟨rfl, rfl⟩
  go_wp2
  go_loopw [14] (fun i wr => ∃ k : Nat, k ≤ 33 - n ∧ i = .int .i64 k ∧ (∀ a, a < k → hitB t n a = false) ∧ ∃ q, wr = w.drewN q) (fun i _ => 33 - (intOf i).toNat)
  case atStart => exact ⟨0, Nat.zero_le _, rfl, fun a h => absurd h (Nat.not_lt_zero _), 0, rfl⟩
  case round =>
    obtain ⟨k, hk, rfl, hno, hw⟩ := hrel
    have hc2 : wr.cell? ⟨b, 0, none⟩ = some (.int .u32 (t : Int)) := by obtain ⟨q, rfl⟩ := hw; exact hc
    have hf2 : wr.frozen? ⟨b, 0, none⟩ = false := by obtain ⟨q, rfl⟩ := hw; exact hf
    have HNO := Lib.hid hno
    have HW := Lib.hid hw
    clear hno hw
    by_cases hlt : k < 33 - n
    · have hkI : (k : Int) < 32 - (n : Int) + 1 := by omega
      have hru := fun w => run_any k n w (by omega)
      have hrl := run_lt (a := k) (n := n) (by omega)
      have hba := u32_and_nat t (runN k n) hT.out hrl
      have hbo := u32_or_nat t (runN k n) hT.out hrl
      have hhit : hitB t n k = decide (t &&& runN k n = 0) := rfl
      obtain ⟨R, hR⟩ : ∃ R, runN k n = R := ⟨_, rfl⟩
      rw [hR] at hru hrl hba hbo hhit
      obtain ⟨V, hV⟩ : ∃ V, t &&& R = V := ⟨_, rfl⟩
      rw [hV] at hba hhit
      have HRU := Lib.hid hru
      have HR := Lib.hid hR
      have HH := Lib.hid hhit
      clear hru hR hV hhit
      by_cases hV0 : V = 0
      · subst hV0
        have hfs := first_some (t := t) (n := n) (a := k) HH.out hlt HNO.out
        have HF := Lib.hid hfs
        clear hfs
        go_wp2
        go_quiet ((go_at_call 37; exact Calls.quiet_of_same ((HRU.out _).mono fun _ _ h => ⟨h.1, h.2.symm⟩)))
        go_wp2
        go_region_law (first | (go_simp; go_at_call 37; refine (HRU.out _).mono ?_; rintro e w' ⟨rfl, rfl⟩))
        all_goals
          go_wp2
          go_ret2
          exact .inl ⟨k, HF.out, rfl, by obtain ⟨q, rfl⟩ := HW.out; exact ⟨_, by rw [HR.out, World.drewN_drewN]⟩⟩
      · have hVb : (((V : Nat) : Int) == 0) = false := by simp; omega
        go_wp2
        go_quiet ((go_at_call 37; exact Calls.quiet_of_same ((HRU.out _).mono fun _ _ h => ⟨h.1, h.2.symm⟩)))
        go_wp2
        go_roundw
        case rel => exact ⟨k + 1, by omega, by go_num, fun a ha => by
          by_cases e : a = k
          · subst e; rw [HH.out]; exact decide_eq_false hV0
          · exact HNO.out a (by omega), by obtain ⟨q, rfl⟩ := HW.out; exact ⟨_, World.drewN_drewN _ _ _⟩⟩
        case measure => simp [intOf]; omega
    · obtain rfl : k = 33 - n := by omega
      have hkI : ¬ ((33 - n : Nat) : Int) < 32 - (n : Int) + 1 := by omega
      have hnone := first_none (t := t) (n := n) HNO.out
      have HN := Lib.hid hnone
      clear hnone
      go_wp2
      go_ret2
      exact .inr ⟨HN.out, rfl, HW.out⟩

theorem back_range (b : Nat) (a n : Int) (w : World) (ha : -9223372036854775808 ≤ a ∧ a ≤ 9223372036854775807) (h : ¬ (1 ≤ n ∧ n ≤ 32 ∧ 0 ≤ a ∧ a ≤ 32 - n)) :
    Calls Try.prog 28 #[.pointer (some ⟨b, 0, none⟩), .int .i64 a, .int .i64 n] w fun e w' => e = .returned (.iface 23 (.int .i64 1)) ∧ w = w' := by
  by_cases hn : 1 ≤ n ∧ n ≤ 32
  · obtain ⟨n0, n1⟩ := hn
    have hno : a < 0 ∨ 32 - n < a := by omega
    clear h
    go_enter Try.func28, Try.ntmps28
    go_wp2_with fail
    with_reducible refine (within_yes _ _ _ _ n0 n1).mono ?_
    rintro e w' ⟨rfl, rfl⟩
    go_wp2_with fail
    with_reducible refine (within_no _ _ _ _ hno).mono ?_
    rintro e w' ⟨rfl, rfl⟩
    go_wp2
    go_ret
    exact ⟨rfl, rfl⟩
  · have hno : n < 1 ∨ 32 < n := by omega
    clear h hn
    go_enter Try.func28, Try.ntmps28
    go_wp2_with fail
    with_reducible refine (within_no _ _ _ _ hno).mono ?_
    rintro e w' ⟨rfl, rfl⟩
    go_wp2
    go_ret
    exact ⟨rfl, rfl⟩
def BackHit (w : World) (b u : Nat) (e : Ending) (w' : World) : Prop := e = .returned .nilIface ∧ ∃ q, w' = (w.drewN q).setCell ⟨b, 0, none⟩ (.int .u32 (u : Int))
def BackMiss (w : World) (e : Ending) (w' : World) : Prop := e = .returned (.iface 23 (.int .i64 5)) ∧ ∃ q, w' = w.drewN q
set_option maxHeartbeats 2000000 in
theorem back_any (b t a n : Nat) (w : World) (hM : MapAt w b t) (h1 : 1 ≤ n) (h32 : a + n ≤ 32) : Calls Try.prog 28 #[.pointer (some ⟨b, 0, none⟩), .int .i64 a, .int .i64 n] w fun e w' =>
    (FullAt t a n ∧ BackHit w b (clearN t (runN a n)) e w') ∨ (¬ FullAt t a n ∧ BackMiss w e w') := by
  obtain ⟨⟨hc, hf, hl⟩, ht⟩ := hM
  have n0 : (1 : Int) ≤ (n : Int) := by omega
  have n1 : (n : Int) ≤ 32 := by omega
  have a0 : (0 : Int) ≤ (a : Int) := by omega
  have a1 : (a : Int) ≤ 32 - (n : Int) := by omega
  have hru := fun w => run_any a n w h32
  have hrl := run_lt h32
  have hba := u32_and_nat t (runN a n) ht hrl
  have hbn : bits .andNot .u32 (t : Int) ((runN a n : Nat) : Int) = ((clearN t (runN a n) : Nat) : Int) := u32_andNot_nat t (runN a n) ht hrl
  have hfull := full_iff (t := t) (a := a) (n := n)
  obtain ⟨R, hR⟩ : ∃ R, runN a n = R := ⟨_, rfl⟩
  obtain ⟨U, hU⟩ : ∃ U, clearN t (runN a n) = U := ⟨_, rfl⟩
  rw [hU, hR] at hbn
  rw [hU]
  rw [hR] at hru hrl hba hfull
  obtain ⟨V, hV⟩ : ∃ V, t &&& R = V := ⟨_, rfl⟩
  rw [hV] at hba hfull
  have HRU := Lib.hid hru
  have HF := Lib.hid hfull
  clear hru hR hU hV hfull
  by_cases hVR : V = R
  · have hfu := HF.out.1 hVR
    have HFU := Lib.hid hfu
    subst hVR
    have hself : (((V : Nat) : Int) != ((V : Nat) : Int)) = false := by simp
    clear hfu
    go_enter Try.func28, Try.ntmps28
    go_wp2_with fail
    with_reducible refine (within_yes _ _ _ _ n0 n1).mono ?_
    rintro e w' ⟨rfl, rfl⟩
    go_wp2_with fail
    with_reducible refine (within_yes _ _ _ _ a0 a1).mono ?_
    rintro e w' ⟨rfl, rfl⟩
    go_wp2
    go_quiet ((go_at_call 37; exact Calls.quiet_of_same ((HRU.out _).mono fun _ _ h => ⟨h.1, h.2.symm⟩)))
    go_wp2
    go_region_law (first | (go_simp; go_at_call 37; refine (HRU.out _).mono ?_; rintro e w' ⟨rfl, rfl⟩))
    all_goals
      go_wp2
      go_ret
      exact .inl ⟨HFU.out, rfl, _, rfl⟩
  · have hfu : ¬ FullAt t a n := fun h => hVR (HF.out.2 h)
    have HFU := Lib.hid hfu
    have hne : (((V : Nat) : Int) != ((R : Nat) : Int)) = true := by simp; omega
    clear hfu hVR
    go_enter Try.func28, Try.ntmps28
    go_wp2_with fail
    with_reducible refine (within_yes _ _ _ _ n0 n1).mono ?_
    rintro e w' ⟨rfl, rfl⟩
    go_wp2_with fail
    with_reducible refine (within_yes _ _ _ _ a0 a1).mono ?_
    rintro e w' ⟨rfl, rfl⟩
    go_wp2
    go_quiet ((go_at_call 37; exact Calls.quiet_of_same ((HRU.out _).mono fun _ _ h => ⟨h.1, h.2.symm⟩)))
    go_wp2
    go_ret
    exact .inr ⟨HFU.out, rfl, _, rfl⟩

theorem byte_and (x : Nat) (hx : x < 4294967296) : bits .and .u32 (x : Int) 255 = ((x % 256 : Nat) : Int) := by
  have h := u32_and_nat x 255 hx (by decide)
  rw [show ((255 : Nat) : Int) = 255 from rfl] at h
  rw [h]
  have := Nat.and_two_pow_sub_one_eq_mod x 8
  rw [show 2 ^ 8 - 1 = 255 from rfl] at this
  rw [this]
set_option maxHeartbeats 2000000 in
theorem ones_any (t : Nat) (w : World) (ht : t < 4294967296) : Calls Try.prog 38 #[.int .u32 t] w fun e w' => e = .returned (.int .i64 ((popN t : Nat) : Int)) ∧ ∃ q, w' = w.drewN q := by
  have e3 : (t : Int) / 16777216 = ((t / 2 ^ 24 % 256 : Nat) : Int) := by
    have : t / 2 ^ 24 < 256 := by rw [Nat.div_lt_iff_lt_mul (by decide)]; omega
    rw [Nat.mod_eq_of_lt this]; simp
  have e2 : bits .and .u32 ((t : Int) / 65536) 255 = ((t / 2 ^ 16 % 256 : Nat) : Int) := by
    have := byte_and (t / 2 ^ 16) (Nat.lt_of_le_of_lt (Nat.div_le_self _ _) ht)
    rw [← this]; simp
  have e1 : bits .and .u32 ((t : Int) / 256) 255 = ((t / 2 ^ 8 % 256 : Nat) : Int) := by
    have := byte_and (t / 2 ^ 8) (Nat.lt_of_le_of_lt (Nat.div_le_self _ _) ht)
    rw [← this]; simp
  have e0 := byte_and t ht
  have hp : popN t = Lib.onesCount (t / 2 ^ 24 % 256) + Lib.onesCount (t / 2 ^ 16 % 256) + Lib.onesCount (t / 2 ^ 8 % 256) + Lib.onesCount (t % 256) := rfl
  have hb : ∀ x : Nat, Lib.pop8 ((x % 256 : Nat) : Int) = (Lib.onesCount (x % 256) : Int) ∧ Lib.onesCount (x % 256) ≤ 8 := fun x => ⟨Lib.pop8_eq ⟨x % 256, Nat.mod_lt _ (by decide)⟩, Lib.onesCount_le8 ⟨x % 256, Nat.mod_lt _ (by decide)⟩⟩
  have b3 := hb (t / 2 ^ 24)
  have b2 := hb (t / 2 ^ 16)
  have b1 := hb (t / 2 ^ 8)
  have b0 := hb t
  have l3 : t / 2 ^ 24 % 256 < 256 := Nat.mod_lt _ (by decide)
  have l2 : t / 2 ^ 16 % 256 < 256 := Nat.mod_lt _ (by decide)
  have l1 : t / 2 ^ 8 % 256 < 256 := Nat.mod_lt _ (by decide)
  have l0 : t % 256 < 256 := Nat.mod_lt _ (by decide)
  obtain ⟨x3, h3⟩ : ∃ x, t / 2 ^ 24 % 256 = x := ⟨_, rfl⟩
  obtain ⟨x2, h2⟩ : ∃ x, t / 2 ^ 16 % 256 = x := ⟨_, rfl⟩
  obtain ⟨x1, h1⟩ : ∃ x, t / 2 ^ 8 % 256 = x := ⟨_, rfl⟩
  obtain ⟨x0, h0⟩ : ∃ x, t % 256 = x := ⟨_, rfl⟩
  rw [h3] at e3 hp b3 l3
  rw [h2] at e2 hp b2 l2
  rw [h1] at e1 hp b1 l1
  rw [h0] at e0 hp b0 l0
  have i3 : (x3 : Int) ≤ 255 := by omega
  have i2 : (x2 : Int) ≤ 255 := by omega
  have i1 : (x1 : Int) ≤ 255 := by omega
  have i0 : (x0 : Int) ≤ 255 := by omega
  obtain ⟨c3, d3⟩ := b3
  obtain ⟨c2, d2⟩ := b2
  obtain ⟨c1, d1⟩ := b1
  obtain ⟨c0, d0⟩ := b0
  have HP := Lib.hid (And.intro hp (And.intro d3 (And.intro d2 (And.intro d1 d0))))
  clear hb h3 h2 h1 h0 hp l3 l2 l1 l0
  go_enter Try.func38, Try.ntmps38
  go_wp2
  go_quiet (fail)
  go_wp2
  go_ret
  exact ⟨ret_int (by rw [HP.out.1]; simp), _, rfl⟩

set_option maxHeartbeats 2000000 in
theorem free_any (b t : Nat) (w : World) (hM : MapAt w b t) : Calls Try.prog 29 #[.pointer (some ⟨b, 0, none⟩)] w fun e w' => e = .returned (.tuple #[.int .i64 ((allF t 32 : Nat) : Int), .int .i64 ((mostF t 32 : Nat) : Int)]) ∧ ∃ q, w' = w.drewN q := by
  obtain ⟨⟨hc, hf, hl⟩, ht⟩ := hM
  have hT := Lib.hid ht
  have hpf := pop_free t
  have hal := all_le t 32
  go_enter Try.func29, Try.ntmps29
  go_wp2
  go_loop [3, 4, 6] (fun m h i => ∃ k : Nat, k ≤ 32 ∧ i = .int .i64 k ∧ h = .int .i64 ((hereF t k : Nat) : Int) ∧ m = .int .i64 ((mostF t k : Nat) : Int)) (fun _ _ i => 32 - (intOf i).toNat)
  case atStart => exact ⟨0, Nat.zero_le _, rfl, rfl, rfl⟩
  case round =>
    obtain ⟨k, hk, rfl, rfl, rfl⟩ := hrel
    have h1 := here_le t k
    have h2 := most_le t k
    by_cases hlt : k < 32
    · have hkI : (k : Int) < 32 := by omega
      have hb := bit_and hT.out k
      have e1 : hereF t (k + 1) = if t.testBit k then 0 else hereF t k + 1 := rfl
      have e2 : mostF t (k + 1) = if t.testBit k then mostF t k else max (mostF t k) (hereF t k + 1) := rfl
      obtain ⟨H, hH⟩ : ∃ H, hereF t k = H := ⟨_, rfl⟩
      obtain ⟨M, hMm⟩ : ∃ M, mostF t k = M := ⟨_, rfl⟩
      rw [hH] at h1 e1 e2 ⊢
      rw [hMm] at h2 e2 ⊢
      cases hbit : t.testBit k
      · rw [hbit] at hb e1 e2
        rw [if_neg (by decide)] at e1 e2
        have HE := Lib.hid (And.intro e1 e2)
        rw [show ((Bool.toNat false : Nat) : Int) = 0 from rfl] at hb
        clear e1 e2 hH hMm hbit hpf hal
        rcases Nat.lt_or_ge M (H + 1) with hmx | hmx
        · have hm1 : (M : Int) < (H : Int) + 1 := by omega
          go_wp2
          go_round
          case rel => exact ⟨k + 1, by omega, by go_num, by rw [HE.out.1]; go_num, by rw [HE.out.2, show max M (H + 1) = H + 1 by omega]; first | go_num | (congr 1; omega)⟩
          case measure => simp [intOf]; omega
        · have hm1 : ¬ (M : Int) < (H : Int) + 1 := by omega
          go_wp2
          go_round
          case rel => exact ⟨k + 1, by omega, by go_num, by rw [HE.out.1]; go_num, by rw [HE.out.2, show max M (H + 1) = M by omega]⟩
          case measure => simp [intOf]; omega
      · rw [hbit] at hb e1 e2
        rw [if_pos rfl] at e1 e2
        have HE := Lib.hid (And.intro e1 e2)
        rw [show ((Bool.toNat true : Nat) : Int) = 1 from rfl] at hb
        clear e1 e2 hH hMm hbit hpf hal
        go_wp2
        go_round
        case rel => exact ⟨k + 1, by omega, by go_num, by rw [HE.out.1]; rfl, by rw [HE.out.2]⟩
        case measure => simp [intOf]; omega
    · obtain rfl : k = 32 := by omega
      obtain ⟨M, hMm⟩ : ∃ M, mostF t 32 = M := ⟨_, rfl⟩
      obtain ⟨F, hF⟩ : ∃ F, allF t 32 = F := ⟨_, rfl⟩
      obtain ⟨P, hP⟩ : ∃ P, popN t = P := ⟨_, rfl⟩
      have hon := fun wx => ones_any t wx hT.out
      rw [hMm] at h2 ⊢
      rw [hF, hP] at hpf
      rw [hP] at hon
      have HO := Lib.hid hon
      have HPF := Lib.hid (And.intro hpf (And.intro hF hMm))
      have hP32 : (P : Int) ≤ 32 := by omega
      rw [show ((32 : Nat) : Int) = 32 from rfl]
      clear hMm hF hP hon hpf h1 hal
      go_wp2_with fail
      with_reducible refine (HO.out _).mono ?_
      rintro e w' ⟨rfl, q, rfl⟩
      go_wp2
      go_ret2
      exact ⟨by rw [HPF.out.2.1, HPF.out.2.2]; exact ret2_int (by have := HPF.out.1; omega), _, rfl⟩
end Go.Proofs.Ytllacbogbbbcaaa
