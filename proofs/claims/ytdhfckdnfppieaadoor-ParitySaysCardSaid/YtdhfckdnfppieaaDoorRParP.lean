/- The reference's parity, bit by bit: plain laws. No program in sight. -/
import Derived.Test.YtdhfckdnfppieaaDoorParP
namespace Go.Proofs.YtdhfckdnfppieaaDoor
open Go Go.RowKit
set_option linter.unusedVariables false

theorem take_snocP {xs : List Int} {k : Nat} (h : k < xs.length) : xs.take (k + 1) = xs.take k ++ [xs[k]?.getD 0] := by
  rw [List.take_succ_eq_append_getElem h, List.getElem?_eq_getElem h]; rfl
def col (l : List (List Int)) (k : Nat) : List Nat := l.map fun r => (r[k]?.getD 0).toNat
def colX (l : List (List Int)) (k : Nat) : Nat := (col l k).foldl (· ^^^ ·) 0
def manyN (c : List Nat) (p : Nat) : Nat := (c.map (· / p % 2)).sum
theorem many_snoc (c : List Nat) (x p : Nat) : manyN (c ++ [x]) p = manyN c p + x / p % 2 := by simp [manyN]
theorem many_le (c : List Nat) (p : Nat) : manyN c p ≤ c.length := by
  induction c with
  | nil => simp [manyN]
  | cons x c ih =>
    unfold manyN at *
    rw [List.map_cons, List.sum_cons, List.length_cons]; omega
theorem many_xor (t : Nat) : ∀ (c : List Nat) (a : Nat), (c.foldl (· ^^^ ·) a) / 2 ^ t % 2 = (a / 2 ^ t + manyN c (2 ^ t)) % 2
  | [], a => by simp [manyN]
  | x :: c, a => by
    rw [List.foldl_cons, many_xor t c]
    have h1 : (a ^^^ x) / 2 ^ t = a / 2 ^ t ^^^ x / 2 ^ t := Nat.xor_div_two_pow
    have h2 := xor_mod2 (a / 2 ^ t) (x / 2 ^ t)
    have h3 : manyN (x :: c) (2 ^ t) = x / 2 ^ t % 2 + manyN c (2 ^ t) := by simp [manyN]
    rw [h1, h3]; omega
theorem colX_bit (l : List (List Int)) (k t : Nat) : colX l k % 2 ^ (t + 1) = colX l k % 2 ^ t + 2 ^ t * (manyN (col l k) (2 ^ t) % 2) := by
  have h := many_xor t (col l k) 0
  rw [Nat.zero_div, Nat.zero_add] at h
  rw [Nat.mod_pow_succ, ← h]; rfl
theorem fold_col {m k : Nat} (hk : k < m) : ∀ (l : List (List Int)) (a : List Int), Bytes m a → (∀ r ∈ l, Bytes m r) → (l.foldl zx a)[k]?.getD 0 = (((col l k).foldl (· ^^^ ·) (a[k]?.getD 0).toNat : Nat) : Int)
  | [], a, ha, _ => by
    rw [List.foldl_nil]
    have := ha.2 (a[k]?.getD 0) (by rw [List.getElem?_eq_getElem (by rw [ha.1]; exact hk)]; exact List.getElem_mem _)
    simp [col]; omega
  | r :: l, a, ha, h => by
    have hr := h r (by simp)
    rw [List.foldl_cons, fold_col hk l _ (show Bytes m (zx a r) from zip_bytes ha hr) (fun x hx => h x (by simp [hx]))]
    have e : (zx a r)[k]?.getD 0 = xorI (a[k]?.getD 0) (r[k]?.getD 0) := zip_get (by rw [ha.1]; exact hk) (by rw [hr.1]; exact hk)
    rw [e, xorI_toNat]; rfl
theorem par_col {m : Nat} {l : List (List Int)} (h0 : 0 < l.length) (h : ∀ r ∈ l, Bytes m r) {k : Nat} (hk : k < m) : (parI l)[k]?.getD 0 = (colX l k : Int) := by
  rw [parI_eq h0 h]
  have := fold_col hk l (zeros m) (zeros_bytes m) h
  unfold parF
  rw [this]
  simp [zeros, colX, hk]
theorem colX_lt {m : Nat} {l : List (List Int)} (h0 : 0 < l.length) (h : ∀ r ∈ l, Bytes m r) {k : Nat} (hk : k < m) : colX l k < 256 := by
  have h1 := par_col h0 h hk
  have h2 := par_bytes h0 h
  have := h2.2 ((parI l)[k]?.getD 0) (by rw [List.getElem?_eq_getElem (by rw [h2.1]; exact hk)]; exact List.getElem_mem _)
  omega
theorem col_len (l : List (List Int)) (k : Nat) : (col l k).length = l.length := by simp [col]
theorem col_snoc {l : List (List Int)} {k j : Nat} (hj : j < l.length) : (col l k).take (j + 1) = (col l k).take j ++ [((l[j]?.getD [])[k]?.getD 0).toNat] := by
  rw [List.take_succ_eq_append_getElem (by rw [col_len]; exact hj)]
  simp [col, hj]
end Go.Proofs.YtdhfckdnfppieaaDoor
