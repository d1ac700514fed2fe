/- Maps of 32 blocks as numbers, bit by bit, plainly. No program in sight. -/
import Derived.Test.YtllacbogbbbcaaaSl
import Derived.Laws.BitsAllLaws
import Derived.Lib.BitFns
namespace Go.Proofs.Ytllacbogbbbcaaa
open Go Go.RowKit
set_option linter.unusedVariables false

/-- n blocks from 'at' on. -/
def runN (a n : Nat) : Nat := (2 ^ n - 1) * 2 ^ a
theorem run_bit (a n i : Nat) : (runN a n).testBit i = (decide (a ≤ i) && decide (i < a + n)) := by
  unfold runN
  rw [← Nat.shiftLeft_eq, Nat.testBit_shiftLeft, Nat.testBit_two_pow_sub_one]
  by_cases h : a ≤ i
  · have e : decide (i - a < n) = decide (i < a + n) := by rw [decide_eq_decide]; omega
    rw [e]
  · simp [h]
theorem run_lt {a n : Nat} (h : a + n ≤ 32) : runN a n < 4294967296 := by
  unfold runN
  have h1 : (2 ^ n - 1) * 2 ^ a < 2 ^ n * 2 ^ a := Nat.mul_lt_mul_of_pos_right (by have := Nat.two_pow_pos n; omega) (Nat.two_pow_pos a)
  rw [← Nat.pow_add] at h1
  have h2 : 2 ^ (n + a) ≤ 2 ^ 32 := Nat.pow_le_pow_right (by decide) (by omega)
  omega
def clearN (t r : Nat) : Nat := t &&& (4294967295 - r)
theorem clear_bit {t r : Nat} (hr : r < 4294967296) (i : Nat) (hi : i < 32) : (clearN t r).testBit i = (t.testBit i && !r.testBit i) := by
  unfold clearN
  have := Nat.testBit_two_pow_sub_succ (x := r) (n := 32) (by omega) i
  rw [show 2 ^ 32 - (r + 1) = 4294967295 - r by omega] at this
  rw [Nat.testBit_and, this]
  simp [hi]
theorem clear_lt {t r : Nat} (ht : t < 4294967296) : clearN t r < 4294967296 := Nat.lt_of_le_of_lt Nat.and_le_left ht
theorem or_lt {t r : Nat} (ht : t < 4294967296) (hr : r < 4294967296) : t ||| r < 4294967296 := by
  have := Nat.or_lt_two_pow (n := 32) (x := t) (y := r) (by omega) (by omega); omega
theorem high_bit {t : Nat} (ht : t < 4294967296) {i : Nat} (hi : 32 ≤ i) : t.testBit i = false :=
  Nat.testBit_lt_two_pow (Nat.lt_of_lt_of_le ht (by have : 2 ^ 32 ≤ 2 ^ i := Nat.pow_le_pow_right (by decide) hi; omega))
theorem bit_ext {s t : Nat} (hs : s < 4294967296) (ht : t < 4294967296) (h : ∀ i, i < 32 → s.testBit i = t.testBit i) : s = t :=
  Nat.eq_of_testBit_eq fun i => by
    by_cases hi : i < 32
    · exact h i hi
    · rw [high_bit hs (by omega), high_bit ht (by omega)]

/-- All n blocks from 'a' on are free. -/
def FreeAt (t a n : Nat) : Prop := ∀ i, a ≤ i → i < a + n → t.testBit i = false
def FullAt (t a n : Nat) : Prop := ∀ i, a ≤ i → i < a + n → t.testBit i = true
theorem free_iff {t a n : Nat} : t &&& runN a n = 0 ↔ FreeAt t a n := by
  constructor
  · intro h i h1 h2
    have := congrArg (fun x => x.testBit i) h
    simp only [Nat.testBit_and, run_bit, Nat.zero_testBit] at this
    simpa [h1, h2] using this
  · intro h
    apply Nat.eq_of_testBit_eq
    intro i
    rw [Nat.testBit_and, run_bit, Nat.zero_testBit]
    by_cases h1 : a ≤ i ∧ i < a + n
    · rw [h i h1.1 h1.2]; rfl
    · have : (decide (a ≤ i) && decide (i < a + n)) = false := by simp; omega
      rw [this, Bool.and_false]
theorem full_iff {t a n : Nat} : t &&& runN a n = runN a n ↔ FullAt t a n := by
  constructor
  · intro h i h1 h2
    have := congrArg (fun x => x.testBit i) h
    simp only [Nat.testBit_and, run_bit] at this
    simpa [h1, h2] using this
  · intro h
    apply Nat.eq_of_testBit_eq
    intro i
    rw [Nat.testBit_and, run_bit]
    by_cases h1 : a ≤ i ∧ i < a + n
    · rw [h i h1.1 h1.2]; simp
    · have : (decide (a ≤ i) && decide (i < a + n)) = false := by simp; omega
      rw [this, Bool.and_false]
theorem or_bit {t a n i : Nat} : (t ||| runN a n).testBit i = (t.testBit i || (decide (a ≤ i) && decide (i < a + n))) := by rw [Nat.testBit_or, run_bit]
theorem clr_bit {t a n i : Nat} (h : a + n ≤ 32) (hi : i < 32) : (clearN t (runN a n)).testBit i = (t.testBit i && !(decide (a ≤ i) && decide (i < a + n))) := by rw [clear_bit (run_lt h) i hi, run_bit]
/-- What is taken where it was free, and given back, leaves all as it was. -/
theorem clr_or {t a n : Nat} (ht : t < 4294967296) (h : a + n ≤ 32) (hf : FreeAt t a n) : clearN (t ||| runN a n) (runN a n) = t := by
  refine bit_ext (clear_lt (or_lt ht (run_lt h))) ht fun i hi => ?_
  rw [clr_bit h hi, or_bit]
  by_cases h1 : a ≤ i ∧ i < a + n
  · rw [hf i h1.1 h1.2]; simp [h1.1, h1.2]
  · have : (decide (a ≤ i) && decide (i < a + n)) = false := by simp; omega
    rw [this]; simp
theorem full_or (t a n : Nat) : FullAt (t ||| runN a n) a n := fun i h1 h2 => by rw [or_bit]; simp [h1, h2]
theorem full_not {t a n : Nat} (hn : 1 ≤ n) (hf : FreeAt t a n) : ¬ FullAt t a n := fun h => by
  have h1 := h a (Nat.le_refl _) (by omega)
  rw [hf a (Nat.le_refl _) (by omega)] at h1
  cases h1

/-! ### How many are free -/
/-- Of the first k blocks: how many are free, how many beside each other up to k, and at most. -/
def allF (t : Nat) : Nat → Nat
  | 0 => 0
  | k + 1 => allF t k + if t.testBit k then 0 else 1
def hereF (t : Nat) : Nat → Nat
  | 0 => 0
  | k + 1 => if t.testBit k then 0 else hereF t k + 1
def mostF (t : Nat) : Nat → Nat
  | 0 => 0
  | k + 1 => if t.testBit k then mostF t k else max (mostF t k) (hereF t k + 1)
theorem here_le (t : Nat) : ∀ k, hereF t k ≤ k
  | 0 => Nat.le_refl _
  | k + 1 => by
    have := here_le t k
    unfold hereF; split <;> omega
theorem most_le (t : Nat) : ∀ k, mostF t k ≤ k
  | 0 => Nat.le_refl _
  | k + 1 => by
    have := most_le t k
    have := here_le t k
    unfold mostF; split <;> omega
theorem all_le (t : Nat) : ∀ k, allF t k ≤ k
  | 0 => Nat.le_refl _
  | k + 1 => by
    have := all_le t k
    unfold allF; split <;> omega
theorem here_most (t : Nat) : ∀ k, hereF t k ≤ mostF t k
  | 0 => Nat.le_refl _
  | k + 1 => by
    have := here_most t k
    unfold hereF mostF; split <;> omega
theorem here_free (t : Nat) : ∀ k, FreeAt t (k - hereF t k) (hereF t k)
  | 0 => fun i h1 h2 => by simp [hereF] at h2
  | k + 1 => fun i h1 h2 => by
    have hl := here_le t k
    by_cases hb : t.testBit k = true
    · have e : hereF t (k + 1) = 0 := by unfold hereF; rw [if_pos hb]
      rw [e] at h1 h2; omega
    · have e : hereF t (k + 1) = hereF t k + 1 := by rw [hereF, if_neg hb]
      rw [e] at h1 h2
      by_cases e : i = k
      · subst e; simpa using hb
      · exact here_free t k i (by omega) (by omega)
theorem here_max (t : Nat) : ∀ k m, m ≤ k → FreeAt t (k - m) m → m ≤ hereF t k
  | 0, m, h, _ => by omega
  | k + 1, m, h, hf => by
    rcases Nat.eq_zero_or_pos m with h0 | h0
    · omega
    · have hk := hf k (by omega) (by omega)
      unfold hereF
      rw [if_neg (by simp [hk])]
      have := here_max t k (m - 1) (by omega) (fun i h1 h2 => hf i (by omega) (by omega))
      omega
/-- So many beside each other are free somewhere among the first k just if they are not more than the most. -/
theorem most_iff (t n : Nat) : ∀ k, n ≤ mostF t k ↔ ∃ a, a + n ≤ k ∧ FreeAt t a n
  | 0 => by
    constructor
    · intro h
      have : n = 0 := by simpa [mostF] using h
      subst this
      exact ⟨0, by omega, fun i h1 h2 => by omega⟩
    · rintro ⟨a, h, _⟩; omega
  | k + 1 => by
    have ih := most_iff t n k
    constructor
    · intro h
      unfold mostF at h
      split at h
      · obtain ⟨a, h1, h2⟩ := ih.1 h
        exact ⟨a, by omega, h2⟩
      · next hb =>
        by_cases h1 : n ≤ mostF t k
        · obtain ⟨a, h1, h2⟩ := ih.1 h1
          exact ⟨a, by omega, h2⟩
        · have hn : n ≤ hereF t (k + 1) := by unfold hereF; rw [if_neg hb]; omega
          have hl := here_le t (k + 1)
          exact ⟨k + 1 - n, by omega, fun i h3 h4 => here_free t (k + 1) i (by omega) (by omega)⟩
    · rintro ⟨a, h1, h2⟩
      by_cases ha : a + n ≤ k
      · have := ih.2 ⟨a, ha, h2⟩
        unfold mostF
        split
        · exact this
        · omega
      · have he : a + n = k + 1 := by omega
        have := here_max t (k + 1) n (by omega) (by rw [show k + 1 - n = a by omega]; exact h2)
        have := here_most t (k + 1)
        omega
/-- How many are taken in all. -/
theorem all_run {t a n : Nat} (hf : FreeAt t a n) : ∀ k, a + n ≤ k → allF (t ||| runN a n) k + n = allF t k := by
  have below : ∀ k, k ≤ a → allF (t ||| runN a n) k = allF t k := fun k => by
    induction k with
    | zero => intro _; rfl
    | succ k ih =>
      intro h
      unfold allF
      rw [ih (by omega), or_bit]
      have : (decide (a ≤ k) && decide (k < a + n)) = false := by simp; omega
      rw [this, Bool.or_false]
  have mid : ∀ m, m ≤ n → allF (t ||| runN a n) (a + m) + m = allF t (a + m) := fun m => by
    induction m with
    | zero => intro _; exact below a (Nat.le_refl _)
    | succ m ih =>
      intro h
      have ih := ih (by omega)
      have e : ∀ u, allF u (a + (m + 1)) = allF u (a + m) + if u.testBit (a + m) then 0 else 1 := fun _ => rfl
      rw [e, e, or_bit, hf (a + m) (by omega) (by omega)]
      have : (decide (a ≤ a + m) && decide (a + m < a + n)) = true := by rw [Bool.and_eq_true]; exact ⟨decide_eq_true (by omega), decide_eq_true (by omega)⟩
      rw [this]; simp; omega
  intro k h
  obtain ⟨m, rfl⟩ : ∃ m, k = a + n + m := ⟨k - (a + n), by omega⟩
  clear h
  induction m with
  | zero => exact mid n (Nat.le_refl _)
  | succ m ih =>
    have e : ∀ u, allF u (a + n + (m + 1)) = allF u (a + n + m) + if u.testBit (a + n + m) then 0 else 1 := fun _ => rfl
    rw [e, e, or_bit]
    have : (decide (a ≤ a + n + m) && decide (a + n + m < a + n)) = false := by rw [Bool.and_eq_false_iff]; exact .inr (decide_eq_false (by omega))
    rw [this, Bool.or_false]; omega

/-! ### Where what is asked for fits first -/
def hitB (t n a : Nat) : Bool := decide (t &&& runN a n = 0)
def firstN (t n : Nat) : Option Nat := (List.range (33 - n)).find? (hitB t n)
theorem first_some {t n a : Nat} (h0 : hitB t n a = true) (ha : a < 33 - n) (hlt : ∀ b, b < a → hitB t n b = false) : firstN t n = some a := by
  unfold firstN
  rw [List.find?_range_eq_some]
  exact ⟨h0, List.mem_range.2 ha, fun b hb => by rw [hlt b hb]; rfl⟩
theorem first_none {t n : Nat} (h : ∀ b, b < 33 - n → hitB t n b = false) : firstN t n = none := by
  unfold firstN
  rw [List.find?_eq_none]
  intro b hb
  rw [h b (List.mem_range.1 hb)]; decide
theorem first_is {t n a : Nat} (h : firstN t n = some a) : FreeAt t a n ∧ a < 33 - n ∧ ∀ b, b < a → ¬ FreeAt t b n := by
  unfold firstN at h
  rw [List.find?_range_eq_some] at h
  obtain ⟨h1, h2, h3⟩ := h
  refine ⟨free_iff.1 (of_decide_eq_true h1), List.mem_range.1 h2, fun b hb hf => ?_⟩
  have := h3 b hb
  rw [show hitB t n b = true from decide_eq_true (free_iff.2 hf)] at this
  exact absurd this (by decide)
theorem first_not {t n : Nat} (h : firstN t n = none) : ∀ b, b < 33 - n → ¬ FreeAt t b n := fun b hb hf => by
  unfold firstN at h
  rw [List.find?_eq_none] at h
  have := h b (List.mem_range.2 hb)
  exact this (decide_eq_true (free_iff.2 hf))

/-- The blocks as numbers 0 or 1. -/
def blN (t : Nat) : List Int := (List.range 32).map fun i => if t.testBit i then 1 else 0
theorem bl_len (t : Nat) : (blN t).length = 32 := by simp [blN]
theorem bl_get (t : Nat) {i : Nat} (hi : i < 32) : (blN t)[i]?.getD 0 = if t.testBit i then 1 else 0 := by
  unfold blN
  rw [List.getElem?_map, List.getElem?_range hi]; rfl
theorem bl_zero : blN 0 = List.replicate 32 0 := by decide
theorem bl_take {t a k : Nat} (h : a + k < 32) : (blN (t ||| runN a k)).set (a + k) 1 = blN (t ||| runN a (k + 1)) := by
  refine getD_ext (by rw [List.length_set, bl_len, bl_len]) fun i hi => ?_
  rw [List.length_set, bl_len] at hi
  rw [bl_get _ hi]
  by_cases e : i = a + k
  · subst e
    rw [List.getElem?_set_self (by rw [bl_len]; exact h), or_bit]
    have : (decide (a ≤ a + k) && decide (a + k < a + (k + 1))) = true := by rw [Bool.and_eq_true]; exact ⟨decide_eq_true (by omega), decide_eq_true (by omega)⟩
    rw [this, Bool.or_true]; rfl
  · rw [List.getElem?_set_ne (fun h => e h.symm), bl_get _ hi, or_bit, or_bit]
    have : (decide (a ≤ i) && decide (i < a + k)) = (decide (a ≤ i) && decide (i < a + (k + 1))) := by
      rw [Bool.eq_iff_iff]; simp; omega
    rw [this]
theorem bl_back {t a k : Nat} (h : a + k < 32) : (blN (clearN t (runN a k))).set (a + k) 0 = blN (clearN t (runN a (k + 1))) := by
  refine getD_ext (by rw [List.length_set, bl_len, bl_len]) fun i hi => ?_
  rw [List.length_set, bl_len] at hi
  rw [bl_get _ hi]
  by_cases e : i = a + k
  · subst e
    rw [List.getElem?_set_self (by rw [bl_len]; exact h), clr_bit (by omega) hi]
    have : (decide (a ≤ a + k) && decide (a + k < a + (k + 1))) = true := by rw [Bool.and_eq_true]; exact ⟨decide_eq_true (by omega), decide_eq_true (by omega)⟩
    rw [this]; simp
  · rw [List.getElem?_set_ne (fun h => e h.symm), bl_get _ hi, clr_bit (by omega) hi, clr_bit (by omega) hi]
    have : (decide (a ≤ i) && decide (i < a + k)) = (decide (a ≤ i) && decide (i < a + (k + 1))) := by
      rw [Bool.eq_iff_iff]; simp; omega
    rw [this]
theorem run_zero (a : Nat) : runN a 0 = 0 := by simp [runN]
theorem clear_zero {t : Nat} (ht : t < 4294967296) : clearN t 0 = t := by
  refine bit_ext (clear_lt ht) ht fun i hi => ?_
  rw [clear_bit (by decide) i hi]; simp
theorem bl_eq0 (t : Nat) {i : Nat} (hi : i < 32) : (blN t)[i]?.getD 0 = 0 ↔ t.testBit i = false := by
  rw [bl_get t hi]; cases t.testBit i <;> simp
theorem bl_eq1 (t : Nat) {i : Nat} (hi : i < 32) : (blN t)[i]?.getD 0 = 1 ↔ t.testBit i = true := by
  rw [bl_get t hi]; cases t.testBit i <;> simp
theorem bl_bytes (t : Nat) : ∀ x ∈ blN t, 0 ≤ x ∧ x ≤ 1 := fun x hx => by
  obtain ⟨i, _, rfl⟩ := List.mem_map.1 hx
  split <;> omega

/-! ### How many bits are 1 -/
theorem ones_byte : ∀ b : Fin 256, Lib.onesCount b.val = b.val % 2 + b.val / 2 % 2 + b.val / 4 % 2 + b.val / 8 % 2 + b.val / 16 % 2 + b.val / 32 % 2 + b.val / 64 % 2 + b.val / 128 % 2 := by decide +kernel
def bitsum (t : Nat) : Nat → Nat
  | 0 => 0
  | k + 1 => bitsum t k + t / 2 ^ k % 2
theorem all_bits (t : Nat) : ∀ k, allF t k + bitsum t k = k
  | 0 => rfl
  | k + 1 => by
    have := all_bits t k
    have e := Nat.toNat_testBit t k
    unfold allF bitsum
    rw [← e]
    cases h : t.testBit k <;> simp <;> omega
theorem bitsum_add (t s : Nat) : ∀ k, bitsum t (s + k) = bitsum t s + bitsum (t / 2 ^ s) k
  | 0 => rfl
  | k + 1 => by
    have e : bitsum t (s + (k + 1)) = bitsum t (s + k) + t / 2 ^ (s + k) % 2 := rfl
    rw [e, bitsum_add t s k]
    show _ = bitsum t s + (bitsum (t / 2 ^ s) k + t / 2 ^ s / 2 ^ k % 2)
    rw [Nat.div_div_eq_div_mul, ← Nat.pow_add]; omega
theorem bitsum_8 (t : Nat) : bitsum t 8 = Lib.onesCount (t % 256) := by
  have h := ones_byte ⟨t % 256, Nat.mod_lt _ (by decide)⟩
  rw [show (⟨t % 256, Nat.mod_lt _ (by decide)⟩ : Fin 256).val = t % 256 from rfl] at h
  rw [h]
  have hj : ∀ j, j < 8 → t % 256 / 2 ^ j % 2 = t / 2 ^ j % 2 := fun j hj => by
    rw [← Nat.toNat_testBit, ← Nat.toNat_testBit, show (256 : Nat) = 2 ^ 8 from rfl, Nat.testBit_mod_two_pow]
    simp [hj]
  have h0 : t % 256 % 2 = t / 2 ^ 0 % 2 := by have := hj 0 (by decide); rwa [Nat.pow_zero, Nat.div_one] at this
  have h1 : t % 256 / 2 % 2 = t / 2 ^ 1 % 2 := hj 1 (by decide)
  have h2 : t % 256 / 4 % 2 = t / 2 ^ 2 % 2 := hj 2 (by decide)
  have h3 : t % 256 / 8 % 2 = t / 2 ^ 3 % 2 := hj 3 (by decide)
  have h4 : t % 256 / 16 % 2 = t / 2 ^ 4 % 2 := hj 4 (by decide)
  have h5 : t % 256 / 32 % 2 = t / 2 ^ 5 % 2 := hj 5 (by decide)
  have h6 : t % 256 / 64 % 2 = t / 2 ^ 6 % 2 := hj 6 (by decide)
  have h7 : t % 256 / 128 % 2 = t / 2 ^ 7 % 2 := hj 7 (by decide)
  rw [h0, h1, h2, h3, h4, h5, h6, h7, bitsum, bitsum, bitsum, bitsum, bitsum, bitsum, bitsum, bitsum, bitsum, Nat.zero_add]
/-- The number of bits that are 1, byte by byte. -/
def popN (t : Nat) : Nat := Lib.onesCount (t / 2 ^ 24 % 256) + Lib.onesCount (t / 2 ^ 16 % 256) + Lib.onesCount (t / 2 ^ 8 % 256) + Lib.onesCount (t % 256)
theorem pop_free (t : Nat) : allF t 32 + popN t = 32 := by
  have h := all_bits t 32
  have e : bitsum t 32 = popN t := by
    have e1 : bitsum t 32 = bitsum t 8 + (bitsum (t / 2 ^ 8) 8 + (bitsum (t / 2 ^ 16) 8 + bitsum (t / 2 ^ 24) 8)) := by
      rw [show (32 : Nat) = 24 + 8 from rfl, bitsum_add t 24 8, show (24 : Nat) = 16 + 8 from rfl, bitsum_add t 16 8, show (16 : Nat) = 8 + 8 from rfl, bitsum_add t 8 8]
      omega
    rw [e1, bitsum_8, bitsum_8, bitsum_8, bitsum_8]
    unfold popN
    generalize Lib.onesCount (t % 256) = x0
    generalize Lib.onesCount (t / 2 ^ 8 % 256) = x1
    generalize Lib.onesCount (t / 2 ^ 16 % 256) = x2
    generalize Lib.onesCount (t / 2 ^ 24 % 256) = x3
    omega
  omega
end Go.Proofs.Ytllacbogbbbcaaa
