/- The plain law of the CRC: after, the sum as a fold, linear, and what it says of bytes that differ. No program in sight. -/
import Derived.Test.YtfkbbmomanaabaaDoorBits
namespace Go.Proofs.YtfkbbmomanaabaaDoor
open Go Go.RowKit

def stepN (x : Nat) : Nat := if 255 < 2 * x then (2 * x) ^^^ 263 else 2 * x
def iterN : Nat → Nat → Nat
  | 0, x => x
  | k + 1, x => stepN (iterN k x)
def afterN (x : Nat) : Nat := iterN 8 x
def afterI (x : Int) : Int := ((afterN x.toNat : Nat) : Int)

theorem stepN_lt {x : Nat} (h : x < 256) : stepN x < 256 := by
  have key : ∀ y : Fin 256, stepN y.val < 256 := by decide +kernel
  exact key ⟨x, h⟩
theorem iterN_lt (k : Nat) {x : Nat} (h : x < 256) : iterN k x < 256 := by
  induction k with
  | zero => exact h
  | succ k ih => exact stepN_lt ih
theorem afterN_lt {x : Nat} (h : x < 256) : afterN x < 256 := iterN_lt 8 h
/-- The step is a shift, and 263 taken where it is too high. -/
theorem stepN_eq {x : Nat} (h : x < 256) : stepN x = (2 * x) ^^^ (263 * (x / 128)) := by
  have key : ∀ y : Fin 256, stepN y.val = (2 * y.val) ^^^ (263 * (y.val / 128)) := by decide +kernel
  exact key ⟨x, h⟩
theorem two_xor (x y : Nat) : 2 * (x ^^^ y) = (2 * x) ^^^ (2 * y) := by
  have := Nat.shiftLeft_xor_distrib (a := x) (b := y) (i := 1)
  simp only [Nat.shiftLeft_eq, Nat.pow_one] at this
  rw [Nat.mul_comm 2, Nat.mul_comm 2 x, Nat.mul_comm 2 y]
  exact this
theorem div_xor (x y : Nat) : (x ^^^ y) / 128 = (x / 128) ^^^ (y / 128) := by
  have := Nat.shiftRight_xor_distrib (a := x) (b := y) (i := 7)
  simpa [Nat.shiftRight_eq_div_pow] using this
theorem mul_xor {u v : Nat} (hu : u < 2) (hv : v < 2) : 263 * (u ^^^ v) = (263 * u) ^^^ (263 * v) := by
  rcases (by omega : u = 0 ∨ u = 1) with rfl | rfl <;> rcases (by omega : v = 0 ∨ v = 1) with rfl | rfl <;> rfl
theorem xor_swap (a b c d : Nat) : (a ^^^ b) ^^^ (c ^^^ d) = (a ^^^ c) ^^^ (b ^^^ d) := by
  rw [Nat.xor_assoc, Nat.xor_assoc, ← Nat.xor_assoc b c d, Nat.xor_comm b c, Nat.xor_assoc c b d]
theorem xor_lt {x y : Nat} (hx : x < 256) (hy : y < 256) : x ^^^ y < 256 := Nat.xor_lt_two_pow (n := 8) hx hy
theorem stepN_xor {x y : Nat} (hx : x < 256) (hy : y < 256) : stepN (x ^^^ y) = stepN x ^^^ stepN y := by
  rw [stepN_eq (xor_lt hx hy), stepN_eq hx, stepN_eq hy, two_xor, div_xor, mul_xor (by omega) (by omega), xor_swap]
theorem iterN_xor (k : Nat) {x y : Nat} (hx : x < 256) (hy : y < 256) : iterN k (x ^^^ y) = iterN k x ^^^ iterN k y := by
  induction k with
  | zero => rfl
  | succ k ih => rw [iterN, ih, stepN_xor (iterN_lt k hx) (iterN_lt k hy)]; rfl
theorem afterN_xor {x y : Nat} (hx : x < 256) (hy : y < 256) : afterN (x ^^^ y) = afterN x ^^^ afterN y := iterN_xor 8 hx hy
theorem afterN_zero {x : Nat} (h : x < 256) : afterN x = 0 ↔ x = 0 := by
  have key : ∀ y : Fin 256, afterN y.val = 0 → y.val = 0 := by decide +kernel
  exact ⟨fun e => key ⟨x, h⟩ e, fun e => by subst e; decide⟩

/-- The sum of bytes, from a start. -/
def crcF (s : Nat) (l : List Nat) : Nat := l.foldl (fun s b => afterN (s ^^^ b)) s
theorem crcF_cons (s b : Nat) (r : List Nat) : crcF s (b :: r) = crcF (afterN (s ^^^ b)) r := by simp only [crcF, List.foldl_cons]
theorem crcF_nil (s : Nat) : crcF s [] = s := by simp only [crcF, List.foldl_nil]
theorem crcF_lt {s : Nat} {l : List Nat} (hs : s < 256) (hl : ∀ b ∈ l, b < 256) : crcF s l < 256 := by
  induction l generalizing s with
  | nil => rw [crcF_nil]; exact hs
  | cons b r ih => rw [crcF_cons]; exact ih (afterN_lt (xor_lt hs (hl b (by simp)))) (fun c hc => hl c (by simp [hc]))
theorem crcF_append (s : Nat) (l r : List Nat) : crcF s (l ++ r) = crcF (crcF s l) r := by simp only [crcF, List.foldl_append]
theorem crcF_xor : ∀ {s t : Nat} {l r : List Nat}, s < 256 → t < 256 → l.length = r.length → (∀ b ∈ l, b < 256) → (∀ b ∈ r, b < 256) →
    crcF (s ^^^ t) (List.zipWith (· ^^^ ·) l r) = crcF s l ^^^ crcF t r
  | s, t, [], [], _, _, _, _, _ => by rw [List.zipWith_nil_left, crcF_nil, crcF_nil, crcF_nil]
  | s, t, a :: l, b :: r, hs, ht, hlen, hl, hr => by
    have ha := hl a (by simp)
    have hb := hr b (by simp)
    rw [List.zipWith_cons_cons, crcF_cons, crcF_cons, crcF_cons, xor_swap, afterN_xor (xor_lt hs ha) (xor_lt ht hb)]
    exact crcF_xor (afterN_lt (xor_lt hs ha)) (afterN_lt (xor_lt ht hb)) (by simpa using hlen) (fun c hc => hl c (by simp [hc])) (fun c hc => hr c (by simp [hc]))

/-! ### The same on ints -/
def crcI (xs : List Int) : Int := ((crcF 0 (xs.map Int.toNat) : Nat) : Int)
theorem crcI_range {xs : List Int} (h : ∀ x ∈ xs, 0 ≤ x ∧ x ≤ 255) : 0 ≤ crcI xs ∧ crcI xs ≤ 255 := by
  have := crcF_lt (s := 0) (l := xs.map Int.toNat) (by decide) (fun b hb => by
    obtain ⟨x, hx, rfl⟩ := List.mem_map.1 hb
    have := h x hx; omega)
  unfold crcI; omega
theorem crcI_snoc (xs : List Int) (x : Int) : crcI (xs ++ [x]) = afterI (xorI (crcI xs) x) := by
  unfold crcI afterI
  rw [List.map_append, crcF_append, xorI_toNat, List.map_cons, List.map_nil, crcF_cons, crcF_nil, Int.toNat_natCast]
theorem crcI_xor {xs ys : List Int} (hl : xs.length = ys.length) (hx : ∀ x ∈ xs, 0 ≤ x ∧ x ≤ 255) (hy : ∀ x ∈ ys, 0 ≤ x ∧ x ≤ 255) :
    crcI (List.zipWith xorI xs ys) = xorI (crcI xs) (crcI ys) := by
  have hb : ∀ {zs : List Int}, (∀ x ∈ zs, 0 ≤ x ∧ x ≤ 255) → ∀ b ∈ zs.map Int.toNat, b < 256 := fun h b hb => by
    obtain ⟨x, hx, rfl⟩ := List.mem_map.1 hb
    have := h x hx; omega
  have := crcF_xor (s := 0) (t := 0) (l := xs.map Int.toNat) (r := ys.map Int.toNat) (by decide) (by decide) (by simpa using hl) (hb hx) (hb hy)
  unfold crcI
  rw [xorI_nat, ← this]
  congr 2
  rw [List.zipWith_map, List.map_zipWith]
  simp [xorI_toNat]
end Go.Proofs.YtfkbbmomanaabaaDoor
