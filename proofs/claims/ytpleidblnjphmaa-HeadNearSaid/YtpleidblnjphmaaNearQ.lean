/- Plain: in the order of Near no later one was nearer. -/
import Derived.Test.YtpleidblnjphmaaNearP
namespace Go.Proofs.Ytpleidblnjphmaa
open Go Go.RowKit
set_option linter.unusedVariables false

theorem nst_sub (a : Int) (xs : List Int) : ∀ (j i : Nat), i ≤ j → ∀ x ∈ (nst a xs j).2.2, x ∈ (nst a xs i).2.2
  | 0, i, h => by
    obtain rfl : i = 0 := by omega
    exact fun x hx => hx
  | j + 1, i, h => by
    by_cases e : i = j + 1
    · subst e; exact fun x hx => hx
    · exact fun x hx => nst_sub a xs j i (by omega) x (List.mem_of_mem_erase hx)
theorem nst_take (a : Int) (xs : List Int) : ∀ (j i : Nat), i ≤ j → j ≤ xs.length → (nst a xs j).1.take i = (nst a xs i).1
  | 0, i, h, hj => by
    obtain rfl : i = 0 := by omega
    rfl
  | j + 1, i, h, hj => by
    have hl := (nst_len a xs j (by omega)).1
    by_cases e : i = j + 1
    · subst e
      exact List.take_of_length_le (by rw [(nst_len a xs (j + 1) hj).1]; exact Nat.le_refl _)
    · rw [← nst_take a xs j i (by omega) (by omega)]
      show ((nst a xs j).1 ++ [_]).take i = _
      rw [List.take_append_of_le_length (by omega)]
theorem near_get (a : Int) (xs : List Int) (k : Nat) (hk : k < xs.length) : (nearL a xs)[k]?.getD 0 = bestI (nst a xs k).2.1 (nst a xs k).2.2 := by
  have h := nst_take a xs xs.length (k + 1) (by omega) (Nat.le_refl _)
  have hl := (nst_len a xs k (by omega)).1
  have e : (nst a xs (k + 1)).1 = (nst a xs k).1 ++ [bestI (nst a xs k).2.1 (nst a xs k).2.2] := rfl
  rw [e] at h
  have h2 : ((nearL a xs).take (k + 1))[k]? = (nearL a xs)[k]? := by rw [List.getElem?_take, if_pos (by omega)]
  have h1 : ((nearL a xs).take (k + 1))[k]? = some (bestI (nst a xs k).2.1 (nst a xs k).2.2) := by
    rw [show (nearL a xs).take (k + 1) = (nst a xs k).1 ++ [bestI (nst a xs k).2.1 (nst a xs k).2.2] from h]
    rw [List.getElem?_append_right (by omega), hl]
    simp
  rw [← h2, h1]; rfl
theorem near_now (a : Int) (xs : List Int) : ∀ k, k ≤ xs.length → (nst a xs k).2.1 = (farS a (nearL a xs) k).2
  | 0, _ => rfl
  | k + 1, h => by
    show bestI _ _ = (nearL a xs)[k]?.getD 0
    rw [near_get a xs k (by omega)]
theorem near_law (a : Int) (xs : List Int) (i k : Nat) (hik : i ≤ k) (hk : k < xs.length) : ¬ absI ((nearL a xs)[k]?.getD 0) (farS a (nearL a xs) i).2 < absI ((nearL a xs)[i]?.getD 0) (farS a (nearL a xs) i).2 := by
  rw [near_get a xs k hk, near_get a xs i (by omega), ← near_now a xs i (by omega)]
  have h2 := (nst_len a xs k (by omega)).2
  have hne : (nst a xs k).2.2 ≠ [] := by intro h; rw [h] at h2; simp at h2; omega
  have hm := nst_sub a xs k i hik _ (bestI_mem (now := (nst a xs k).2.1) hne)
  have := (bestF_best (nst a xs i).2.1 (nst a xs i).2.2 ((nst a xs i).2.2[0]?.getD 0)).2 _ hm
  intro h
  exact this (Or.inl h)
end Go.Proofs.Ytpleidblnjphmaa
