/- The reference's Crc, bit by bit: plain laws. No program in sight. -/
import Derived.Test.YtfkbbmomanaabaaDoorCrcP
namespace Go.Proofs.YtfkbbmomanaabaaDoor

def bitsOf (x : Int) : List Int := (List.range 8).map fun t => x / ((128 / 2 ^ t : Nat) : Int) % 2
def bitsL (xs : List Int) : List Int := xs.flatMap bitsOf
theorem bitsOf_len (x : Int) : (bitsOf x).length = 8 := by simp [bitsOf]
theorem bitsL_snoc {xs : List Int} {k : Nat} (h : k < xs.length) : bitsL (xs.take (k + 1)) = bitsL (xs.take k) ++ bitsOf (xs[k]?.getD 0) := by
  unfold bitsL
  rw [List.take_succ_eq_append_getElem h, List.flatMap_append, List.getElem?_eq_getElem h]; simp
theorem bitsOf_snoc (x : Int) {t : Nat} (h : t < 8) : (bitsOf x).take (t + 1) = (bitsOf x).take t ++ [x / ((128 / 2 ^ t : Nat) : Int) % 2] := by
  rw [List.take_succ_eq_append_getElem (by rw [bitsOf_len]; exact h)]
  simp [bitsOf]
theorem bitsOf_range {x b : Int} (h : b ∈ bitsOf x) : 0 ≤ b ∧ b ≤ 1 := by
  unfold bitsOf at h
  obtain ⟨t, _, rfl⟩ := List.mem_map.1 h
  omega
theorem bitsL_range {xs : List Int} {b : Int} (h : b ∈ bitsL xs) : 0 ≤ b ∧ b ≤ 1 := by
  unfold bitsL at h
  obtain ⟨x, _, hb⟩ := List.mem_flatMap.1 h
  exact bitsOf_range hb
theorem bitsL_len (xs : List Int) : (bitsL xs).length = 8 * xs.length := by
  induction xs with
  | nil => rfl
  | cons x r ih =>
    have : bitsL (x :: r) = bitsOf x ++ bitsL r := by simp [bitsL]
    rw [this, List.length_append, ih, bitsOf_len, List.length_cons]; omega

/-- One bit more. -/
def pushN (l b : Nat) : Nat := if 255 < l * 2 + b then (l * 2 + b) ^^^ 263 else l * 2 + b
theorem push_eq {l b : Nat} (hb : b < 2) : pushN l b = stepN l ^^^ b := by
  have h2 : l * 2 + b = (2 * l) ^^^ b := by
    rcases (by omega : b = 0 ∨ b = 1) with rfl | rfl
    · simp; omega
    · rw [xor_step (2 * l) 1, show 2 * l / 2 = l from by omega, show 1 / 2 = 0 from rfl, Nat.xor_zero]; omega
  unfold pushN stepN
  by_cases h : 255 < 2 * l
  · rw [if_pos (by omega), if_pos h, h2, Nat.xor_assoc, Nat.xor_assoc, Nat.xor_comm b 263]
  · rw [if_neg (by omega), if_neg h, h2]
theorem iterN_succ' (k x : Nat) : iterN (k + 1) x = iterN k (stepN x) := by
  induction k with
  | zero => rfl
  | succ k ih => rw [iterN, ih]; rfl
theorem push_lt {l b : Nat} (hl : l < 256) (hb : b < 2) : pushN l b < 256 := by
  rw [push_eq hb]; exact xor_lt (stepN_lt hl) (by omega)
theorem fold_split : ∀ (bs : List Nat) {l m : Nat}, l < 256 → m < 256 → (∀ b ∈ bs, b < 2) → bs.foldl pushN (l ^^^ m) = iterN bs.length l ^^^ bs.foldl pushN m
  | [], l, m, _, _, _ => by simp only [List.foldl_nil, List.length_nil]; rfl
  | b :: bs, l, m, hl, hm, h => by
    have hb := h b (by simp)
    rw [List.foldl_cons, List.foldl_cons, List.length_cons, iterN_succ', push_eq hb, stepN_xor hl hm, Nat.xor_assoc, ← push_eq hb]
    exact fold_split bs (stepN_lt hl) (push_lt hm hb) (fun c hc => h c (by simp [hc]))

def bitsN (x : Nat) : List Nat := [x / 128 % 2, x / 64 % 2, x / 32 % 2, x / 16 % 2, x / 8 % 2, x / 4 % 2, x / 2 % 2, x / 1 % 2]
theorem bitsOf_nat (x : Nat) : (bitsOf (x : Int)).map Int.toNat = bitsN x := by
  have : List.range 8 = [0, 1, 2, 3, 4, 5, 6, 7] := by decide
  unfold bitsOf bitsN
  rw [this]
  simp only [List.map_cons, List.map_nil]
  simp only [List.cons.injEq, and_true]
  refine ⟨?_, ?_, ?_, ?_, ?_, ?_, ?_, ?_⟩ <;> simp only [Nat.reducePow, Nat.reduceDiv] <;> omega
theorem fold_byte {l x : Nat} (hl : l < 256) (hx : x < 256) : (bitsN x).foldl pushN l = afterN l ^^^ x := by
  have key : ∀ y : Fin 256, (bitsN y.val).foldl pushN 0 = y.val := by decide +kernel
  have h := fold_split (bitsN x) (l := l) (m := 0) hl (by omega) (by simp only [bitsN, List.mem_cons, List.not_mem_nil, or_false]; rintro b (rfl | rfl | rfl | rfl | rfl | rfl | rfl | rfl) <;> omega)
  rw [Nat.xor_zero] at h
  rw [h, key ⟨x, hx⟩]; rfl
theorem fold_bytes : ∀ (xs : List Nat) {l : Nat}, l < 256 → (∀ x ∈ xs, x < 256) → afterN ((xs.flatMap bitsN).foldl pushN l) = crcF (afterN l) xs
  | [], l, _, _ => by rw [crcF_nil]; rfl
  | x :: r, l, hl, h => by
    have hx := h x (by simp)
    rw [List.flatMap_cons, List.foldl_append, fold_byte hl hx, crcF_cons]
    exact fold_bytes r (xor_lt (afterN_lt hl) hx) (fun c hc => h c (by simp [hc]))

/-- What is left of a row of bits. -/
def leftI (bs : List Int) : Int := (((bs.map Int.toNat).foldl pushN 0 : Nat) : Int)
theorem leftI_snoc (bs : List Int) (b : Int) : leftI (bs ++ [b]) = ((pushN (leftI bs).toNat b.toNat : Nat) : Int) := by
  unfold leftI
  rw [List.map_append, List.foldl_append, Int.toNat_natCast]; rfl
theorem leftI_range {bs : List Int} (h : ∀ b ∈ bs, 0 ≤ b ∧ b ≤ 1) : 0 ≤ leftI bs ∧ leftI bs ≤ 255 := by
  have : ∀ (cs : List Nat) (l : Nat), l < 256 → (∀ b ∈ cs, b < 2) → cs.foldl pushN l < 256 := by
    intro cs
    induction cs with
    | nil => intro l hl _; exact hl
    | cons b r ih => intro l hl hc; rw [List.foldl_cons]; exact ih _ (push_lt hl (hc b (by simp))) (fun c hc' => hc c (by simp [hc']))
  have := this (bs.map Int.toNat) 0 (by omega) (fun b hb => by
    obtain ⟨x, hx, rfl⟩ := List.mem_map.1 hb
    have := h x hx; omega)
  unfold leftI; omega
theorem left_crc {xs : List Int} (h : ∀ x ∈ xs, 0 ≤ x ∧ x ≤ 255) : leftI (bitsL xs ++ List.replicate 8 0) = crcI xs := by
  have hm : ∀ ys : List Int, (∀ x ∈ ys, 0 ≤ x ∧ x ≤ 255) → (bitsL ys).map Int.toNat = (ys.map Int.toNat).flatMap bitsN := by
    intro ys
    induction ys with
    | nil => intro _; rfl
    | cons x r ih =>
      intro hy
      obtain ⟨k, rfl⟩ := Int.eq_ofNat_of_zero_le (hy x (by simp)).1
      rw [show bitsL ((k : Int) :: r) = bitsOf k ++ bitsL r from by simp [bitsL], List.map_append, bitsOf_nat, List.map_cons, List.flatMap_cons, Int.toNat_natCast, ih (fun c hc => hy c (by simp [hc]))]
  replace hm := hm xs h
  have hb : ∀ x ∈ xs.map Int.toNat, x < 256 := fun b hb => by
    obtain ⟨x, hx, rfl⟩ := List.mem_map.1 hb
    have := h x hx; omega
  have hz : (List.replicate 8 (0 : Int)).map Int.toNat = bitsN 0 := by decide
  unfold leftI crcI
  rw [List.map_append, List.foldl_append, hm, hz]
  have hl := leftI_range (bs := bitsL xs) (fun b hb => bitsL_range hb)
  unfold leftI at hl
  rw [hm] at hl
  rw [fold_byte (by omega) (by omega), Nat.xor_zero, fold_bytes _ (by omega) hb]
  rfl
end Go.Proofs.YtfkbbmomanaabaaDoor
