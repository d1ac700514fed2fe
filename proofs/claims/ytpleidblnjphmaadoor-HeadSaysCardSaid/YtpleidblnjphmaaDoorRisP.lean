/- Plain: numbers in rising order, by taking the least away again and again. -/
import Derived.Test.YtpleidblnjphmaaDoorSweepP
namespace Go.Proofs.YtpleidblnjphmaaDoor
open Go Go.RowKit
set_option linter.unusedVariables false

def minF (m : Int) (L : List Int) : Int := L.foldl (fun s x => if x < s then x else s) m
theorem minF_snoc (m x : Int) (L : List Int) : minF m (L ++ [x]) = if x < minF m L then x else minF m L := by unfold minF; rw [List.foldl_append]; rfl
theorem minF_spec : ∀ (L : List Int) (m : Int), minF m L ≤ m ∧ (∀ x ∈ L, minF m L ≤ x) ∧ (minF m L = m ∨ minF m L ∈ L)
  | [], a => ⟨Int.le_refl _, by simp, Or.inl rfl⟩
  | y :: r, a => by
    have e : minF a (y :: r) = minF (if y < a then y else a) r := rfl
    rw [e]
    by_cases h : y < a
    · rw [if_pos h]
      obtain ⟨h1, h2, h3⟩ := minF_spec r y
      refine ⟨by omega, fun x hx => ?_, ?_⟩
      · rcases List.mem_cons.1 hx with rfl | hx
        · exact h1
        · exact h2 x hx
      · rcases h3 with h3 | h3
        · rw [h3]; simp
        · exact Or.inr (List.mem_cons_of_mem _ h3)
    · rw [if_neg h]
      obtain ⟨h1, h2, h3⟩ := minF_spec r a
      refine ⟨by omega, fun x hx => ?_, ?_⟩
      · rcases List.mem_cons.1 hx with rfl | hx
        · omega
        · exact h2 x hx
      · rcases h3 with h3 | h3
        · exact Or.inl h3
        · exact Or.inr (List.mem_cons_of_mem _ h3)
def leastI (xs : List Int) : Int := minF (xs[0]?.getD 0) xs
theorem leastI_mem {xs : List Int} (h : xs ≠ []) : leastI xs ∈ xs := by
  cases xs with
  | nil => exact absurd rfl h
  | cons y r =>
    rcases (minF_spec (y :: r) y).2.2 with e | e
    · show minF y (y :: r) ∈ y :: r
      rw [e]; simp
    · exact e
theorem leastI_le {xs : List Int} : ∀ x ∈ xs, leastI xs ≤ x := (minF_spec xs _).2.1
def rst (xs : List Int) : Nat → List Int × List Int
  | 0 => ([], xs)
  | k + 1 => ((rst xs k).1 ++ [leastI (rst xs k).2], (rst xs k).2.erase (leastI (rst xs k).2))
def risingL (xs : List Int) : List Int := (rst xs xs.length).1
theorem rst_len (xs : List Int) : ∀ k, k ≤ xs.length → (rst xs k).1.length = k ∧ (rst xs k).2.length + k = xs.length
  | 0, _ => ⟨rfl, rfl⟩
  | k + 1, h => by
    obtain ⟨h1, h2⟩ := rst_len xs k (by omega)
    have hne : (rst xs k).2 ≠ [] := by intro h; rw [h] at h2; simp at h2; omega
    refine ⟨by show ((rst xs k).1 ++ [_]).length = _; simp [h1], ?_⟩
    show ((rst xs k).2.erase _).length + (k + 1) = _
    rw [List.length_erase_of_mem (leastI_mem hne)]
    have : 0 < (rst xs k).2.length := List.length_pos_iff.2 hne
    omega
theorem rst_perm (xs : List Int) : ∀ k, k ≤ xs.length → ((rst xs k).1 ++ (rst xs k).2).Perm xs
  | 0, _ => List.Perm.refl _
  | k + 1, h => by
    have ih := rst_perm xs k (by omega)
    have h2 := (rst_len xs k (by omega)).2
    have hne : (rst xs k).2 ≠ [] := by intro h; rw [h] at h2; simp at h2; omega
    show (((rst xs k).1 ++ [leastI (rst xs k).2]) ++ (rst xs k).2.erase (leastI (rst xs k).2)).Perm xs
    refine List.Perm.trans ?_ ih
    rw [List.append_assoc]
    exact (List.perm_cons_erase (leastI_mem hne)).symm.append_left _
theorem rst_sorted (xs : List Int) : ∀ k, k ≤ xs.length → (rst xs k).1.Pairwise (· ≤ ·) ∧ ∀ x ∈ (rst xs k).1, ∀ y ∈ (rst xs k).2, x ≤ y
  | 0, _ => ⟨List.Pairwise.nil, by simp [rst]⟩
  | k + 1, h => by
    obtain ⟨h1, h3⟩ := rst_sorted xs k (by omega)
    have h2 := (rst_len xs k (by omega)).2
    have hne : (rst xs k).2 ≠ [] := by intro h; rw [h] at h2; simp at h2; omega
    have hm := leastI_mem hne
    refine ⟨List.pairwise_append.2 ⟨h1, List.pairwise_singleton _ _, fun x hx y hy => ?_⟩, fun x hx y hy => ?_⟩
    · rw [List.mem_singleton.1 hy]; exact h3 x hx _ hm
    · have hx' : x ∈ (rst xs k).1 ++ [leastI (rst xs k).2] := hx
      have hy' : y ∈ (rst xs k).2 := List.mem_of_mem_erase hy
      rcases List.mem_append.1 hx' with hx | hx
      · exact h3 x hx y hy'
      · rw [List.mem_singleton.1 hx]; exact leastI_le y hy'
theorem rst_mem (xs : List Int) (k : Nat) (hk : k ≤ xs.length) {x : Int} (h : x ∈ (rst xs k).1 ∨ x ∈ (rst xs k).2) : x ∈ xs :=
  (rst_perm xs k hk).mem_iff.1 (List.mem_append.2 h)
theorem risingL_sorted (xs : List Int) : (risingL xs).Pairwise (· ≤ ·) := (rst_sorted xs _ (Nat.le_refl _)).1
theorem risingL_length (xs : List Int) : (risingL xs).length = xs.length := (rst_len xs _ (Nat.le_refl _)).1
theorem risingL_perm (xs : List Int) : (risingL xs).Perm xs := by
  have h := rst_perm xs _ (Nat.le_refl _)
  have h2 := (rst_len xs _ (Nat.le_refl _)).2
  have h3 : (rst xs xs.length).2 = [] := List.length_eq_zero_iff.1 (by omega)
  rw [h3, List.append_nil] at h
  exact h
theorem risingL_sortL (xs : List Int) : risingL xs = sortL xs := sorted_eq (risingL_sorted xs) (sortL_sorted xs) ((risingL_perm xs).trans (sortL_perm xs).symm)
theorem risingL_of_perm {xs ys : List Int} (h : xs.Perm ys) : risingL xs = risingL ys := sorted_eq (risingL_sorted xs) (risingL_sorted ys) ((risingL_perm xs).trans (h.trans (risingL_perm ys).symm))
/-- The first of a number taken away, as the list grows. -/
theorem erase_ne {x t : Int} (h : t ≠ x) (L : List Int) : (L ++ [t]).erase x = L.erase x ++ [t] := by
  rw [List.erase_append]
  split
  · rfl
  · rename_i hn
    rw [List.erase_of_not_mem hn, List.erase_cons_tail (by simpa using h)]; rfl
theorem erase_gone {x : Int} {L : List Int} (h : x ∈ L) : (L ++ [x]).erase x = L.erase x ++ [x] := by rw [List.erase_append_left _ h]
theorem erase_first {x : Int} {L : List Int} (h : x ∉ L) : (L ++ [x]).erase x = L.erase x := by
  rw [List.erase_append_right _ h, List.erase_cons_head, List.append_nil, List.erase_of_not_mem h]
end Go.Proofs.YtpleidblnjphmaaDoor
