/- The reference's Beside and Fill by their contracts, on a map as a list of numbers 0 or 1. -/
import Derived.Test.YtllacbogbbbcaaaDoorBit
import Derived.Test.YtllacbogbbbcaaaDoorRSet
namespace Go.Proofs.YtllacbogbbbcaaaDoor
open Go Go.RowKit
set_option maxRecDepth 20000
set_option linter.unusedVariables false

theorem Own.monoX {w : World} {B B' : Nat} {v : Value} {n : Nat} {xs : List Int} (h : Own w B v n xs) (hb : B' ≤ B) : Own w B' v n xs := by
  refine ⟨h.1, ?_⟩
  rcases h.2 with h | ⟨g, cap, cur, h1, h2, h3⟩
  · exact .inl h
  · exact .inr ⟨g, cap, cur, h1, Nat.le_trans hb h2, h3⟩
def fullB (t a n : Nat) : Bool := decide (t &&& runN a n = runN a n)
theorem full_true {t a n : Nat} (h : ∀ j, j < n → t.testBit (a + j) = true) : fullB t a n = true := decide_eq_true (full_iff.2 fun i h1 h2 => by
  have := h (i - a) (by omega)
  rwa [show a + (i - a) = i by omega] at this)
theorem full_false {t a n k : Nat} (hk : k < n) (h : t.testBit (a + k) = false) : fullB t a n = false := decide_eq_false fun hh => by
  have := full_iff.1 hh (a + k) (by omega) (by omega)
  rw [h] at this; cases this
theorem hit_true {t a n : Nat} (h : ∀ j, j < n → t.testBit (a + j) = false) : hitB t n a = true := decide_eq_true (free_iff.2 fun i h1 h2 => by
  have := h (i - a) (by omega)
  rwa [show a + (i - a) = i by omega] at this)
theorem hit_false {t a n k : Nat} (hk : k < n) (h : t.testBit (a + k) = true) : hitB t n a = false := decide_eq_false fun hh => by
  have := free_iff.1 hh (a + k) (by omega) (by omega)
  rw [h] at this; cases this
def isB (t a n : Nat) (q : Bool) : Bool := if q then fullB t a n else hitB t n a
theorem is_true {t a n : Nat} {q : Bool} (h : ∀ j, j < n → t.testBit (a + j) = q) : isB t a n q = true := by
  unfold isB
  cases q
  · exact hit_true h
  · exact full_true h
theorem is_false {t a n k : Nat} {q : Bool} (hk : k < n) (h : t.testBit (a + k) ≠ q) : isB t a n q = false := by
  unfold isB
  cases q
  · exact hit_false hk (by simpa using h)
  · exact full_false hk (by simpa using h)
def bI (q : Bool) : Int := if q then 1 else 0

set_option maxHeartbeats 2000000 in
theorem beside_any (A : Option Addr) (c t a n : Nat) (q : Bool) (w : World) (hA : Rd w A 32 (blN t)) (h : a + n ≤ 32) :
    Calls Tryd.prog 32 #[.slice A 32 c, .int .i64 a, .int .i64 n, .int .i64 (bI q)] w fun e w' => e = .returned (.bool (isB t a n q)) ∧ w = w' := by
  obtain ⟨b, off, rfl, hbl, hcc⟩ := hA.at_ (by omega)
  have HCC := Lib.hid hcc
  clear hcc
  go_enter Tryd.func32, Tryd.ntmps32
  go_wp2
  go_loop [9] (fun i => ∃ k : Nat, k ≤ n ∧ i = .int .i64 ((a + k : Nat) : Int) ∧ ∀ j, j < k → t.testBit (a + j) = q) (fun i => a + n - (intOf i).toNat)
  case atStart => exact ⟨0, Nat.zero_le _, rfl, fun j h => absurd h (Nat.not_lt_zero _)⟩
  case round =>
    obtain ⟨k, hk, rfl, hall⟩ := hrel
    have HALL := Lib.hid hall
    clear hall
    by_cases hlt : k < n
    · have hkI : (a : Int) + (k : Int) < (a : Int) + (n : Int) := by omega
      have hk0 : (0 : Int) ≤ (a : Int) + (k : Int) := by omega
      have hk32 : (a : Int) + (k : Int) < 32 := by omega
      have g1 := HCC.out (a + k) (by omega)
      rw [bl_get t (show a + k < 32 by omega)] at g1
      by_cases hq : t.testBit (a + k) = q
      · have hx : (if t.testBit (a + k) then (1 : Int) else 0) = bI q := by rw [hq]; rfl
        rw [hx] at g1
        have hne : (bI q != bI q) = false := by simp
        have HQ := Lib.hid hq
        clear hq hx
        go_wp2
        go_round
        case rel => exact ⟨k + 1, by omega, by go_num, fun j hj => by
          by_cases e : j = k
          · subst e; exact HQ.out
          · exact HALL.out j (by omega)⟩
        case measure => simp [intOf]; omega
      · have hf := is_false hlt hq
        have hx : ((if t.testBit (a + k) then (1 : Int) else 0) != bI q) = true := by
          unfold bI
          revert hq
          cases t.testBit (a + k) <;> cases q <;> simp
        obtain ⟨x, hxe⟩ : ∃ x : Int, (if t.testBit (a + k) then (1 : Int) else 0) = x := ⟨_, rfl⟩
        rw [hxe] at g1 hx
        have HF := Lib.hid hf
        clear hq hxe hf
        go_wp2
        go_ret
        exact ⟨ret_bool HF.out.symm, rfl⟩
    · obtain rfl : k = n := by omega
      have hkI : ¬ ((a + k : Nat) : Int) < (a : Int) + (k : Int) := by omega
      have hkI2 : ¬ (a : Int) + (k : Int) < (a : Int) + (k : Int) := by omega
      have HF := Lib.hid (is_true HALL.out)
      go_wp2
      go_ret
      exact ⟨ret_bool HF.out.symm, rfl⟩

/-- The map with n blocks from a on made q. -/
def fillN (t a n : Nat) (q : Bool) : Nat := if q then t ||| runN a n else clearN t (runN a n)
theorem fill_zero {t : Nat} (ht : t < 4294967296) (a : Nat) (q : Bool) : fillN t a 0 q = t := by
  unfold fillN
  rw [run_zero]
  cases q
  · exact clear_zero ht
  · exact Nat.or_zero t
theorem fill_step {t a k : Nat} {q : Bool} (h : a + k < 32) : (blN (fillN t a k q)).set (a + k) (bI q) = blN (fillN t a (k + 1) q) := by
  unfold fillN bI
  cases q
  · exact bl_back h
  · exact bl_take h

set_option maxHeartbeats 2000000 in
theorem fill_any (A : Option Addr) (c t a n : Nat) (q : Bool) (w : World) (hA : Rd w A 32 (blN t)) (ht : t < 4294967296) (hn : 1 ≤ n) (h : a + n ≤ 32) :
    Calls Tryd.prog 33 #[.slice A 32 c, .int .i64 a, .int .i64 n, .int .i64 (bI q)] w fun e w' => (∃ C c', e = .returned (.slice C 32 c') ∧ Own w' w.heap.size (.slice C 32 c') 32 (blN (fillN t a n q))) ∧ Below w.heap.size w w' := by
  have HT := Lib.hid ht
  clear ht
  go_enter Tryd.func33, Tryd.ntmps33
  go_wp2
  go_loopw [0, 9] (fun x i wr => ∃ (k : Nat) (C : Option Addr) (c' : Nat), k ≤ n ∧ i = .int .i64 ((a + k : Nat) : Int) ∧ x = .slice C 32 c' ∧ Rd wr C 32 (blN (fillN t a k q)) ∧ (k = 0 ∨ Own wr w.heap.size (.slice C 32 c') 32 (blN (fillN t a k q))) ∧ Below w.heap.size w wr) (fun _ i _ => a + n - (intOf i).toNat)
  case atStart => exact ⟨0, A, c, Nat.zero_le _, rfl, rfl, by rw [fill_zero HT.out]; exact hA, .inl rfl, Below.refl _ _⟩
  case round =>
    obtain ⟨k, C, c', hk, rfl, rfl, hR, hown, hbel⟩ := hrel
    have HO := Lib.hid hown
    clear hown
    by_cases hlt : k < n
    · have hkI : (a : Int) + (k : Int) < (a : Int) + (n : Int) := by omega
      have hst := fill_step (t := t) (a := a) (k := k) (q := q) (by omega)
      have hrs := rset_any C 32 c' (blN (fillN t a k q)) wr hR (a + k) (by omega) (by omega) (bI q)
      rw [hst] at hrs
      have hcast : ((a + k : Nat) : Int) = (a : Int) + (k : Int) := by simp
      rw [hcast] at hrs
      have HRS := Lib.hid hrs
      clear hst hrs hcast
      go_wp2_with fail
      with_reducible refine HRS.out.mono ?_
      rintro e w3 ⟨⟨C3, c3, rfl, hown3⟩, k3⟩
      have hby := bl_bytes (fillN t a (k + 1) q)
      have hR3 : Rd w3 C3 32 (blN (fillN t a (k + 1) q)) := hown3.rd (by omega) (fun x hx => by have := hby x hx; omega)
      have hB3 := hbel.trans (k3.mono hbel.size)
      have hown4 := hown3.monoX hbel.size
      clear hby hown3 k3
      go_wp2
      go_roundw
      case rel => exact ⟨k + 1, C3, c3, by omega, by go_num, rfl, hR3, .inr hown4, hB3⟩
      case measure => simp [intOf]; omega
    · obtain rfl : k = n := by omega
      have hkI : ¬ ((a + k : Nat) : Int) < (a : Int) + (k : Int) := by omega
      have hkI2 : ¬ (a : Int) + (k : Int) < (a : Int) + (k : Int) := by omega
      have ho := HO.out.resolve_left (by omega)
      have HO2 := Lib.hid ho
      clear ho
      go_wp2
      go_ret
      exact ⟨⟨_, _, rfl, HO2.out⟩, hbel⟩
end Go.Proofs.YtllacbogbbbcaaaDoor
