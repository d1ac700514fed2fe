/- Plain laws of the sweep's order: mirrored. -/
import Derived.Test.YtpleidblnjphmaaDoorSweep
namespace Go.Proofs.YtpleidblnjphmaaDoor
open Go Go.RowKit
set_option linter.unusedVariables false

theorem sortL_perm (xs : List Int) : (sortL xs).Perm xs := List.mergeSort_perm _ _
theorem sortL_sorted (xs : List Int) : (sortL xs).Pairwise (· ≤ ·) := by
  have := List.pairwise_mergeSort (le := fun x y : Int => decide (x ≤ y)) (by intro a b c h1 h2; simp at *; omega) (by intro a b; simp; omega) xs
  simpa [sortL] using this
theorem sorted_eq {a b : List Int} (ha : a.Pairwise (· ≤ ·)) (hb : b.Pairwise (· ≤ ·)) (hp : a.Perm b) : a = b := hp.eq_of_pairwise (fun x y _ _ h1 h2 => Int.le_antisymm h1 h2) ha hb
def mir (t : Int) : Int := 99 - t
theorem sortL_mirror (xs : List Int) : sortL (xs.map mir) = ((sortL xs).map mir).reverse := by
  refine sorted_eq (sortL_sorted _) ?_ ?_
  · rw [List.pairwise_reverse, List.pairwise_map]
    exact (sortL_sorted xs).imp (fun h => by unfold mir; omega)
  · exact ((sortL_perm _).trans ((sortL_perm xs).map mir).symm).trans (List.reverse_perm _).symm
theorem isLow_mirror (a : Int) (up : Bool) (t : Int) : isLow (mir a) (!up) (mir t) = !isLow a up t := by
  unfold isLow mir
  rcases Int.lt_trichotomy t a with h | h | h
  · have h1 : ¬ 99 - t < 99 - a := by omega
    have h2 : ¬ 99 - t = 99 - a := by omega
    simp [h, h1, h2]
  · subst h; cases up <;> simp
  · have h1 : 99 - t < 99 - a := by omega
    have h2 : ¬ t < a := by omega
    have h3 : ¬ t = a := by omega
    simp [h1, h2, h3]
theorem low_mirror (a : Int) (up : Bool) (S : List Int) : lowL (mir a) (!up) ((S.map mir).reverse) = ((highL a up S).map mir).reverse := by
  unfold lowL highL
  rw [List.filter_reverse, List.filter_map]
  congr 3
  funext t
  exact isLow_mirror a up t
theorem high_mirror (a : Int) (up : Bool) (S : List Int) : highL (mir a) (!up) ((S.map mir).reverse) = ((lowL a up S).map mir).reverse := by
  unfold lowL highL
  rw [List.filter_reverse, List.filter_map]
  congr 3
  funext t
  show (!isLow (mir a) (!up) (mir t)) = _
  rw [isLow_mirror, Bool.not_not]
theorem sweepL_mirror (a : Int) (up : Bool) (xs : List Int) : sweepL (mir a) (!up) (xs.map mir) = (sweepL a up xs).map mir := by
  unfold sweepL
  rw [sortL_mirror, low_mirror, high_mirror]
  cases up <;> simp
theorem absI_mirror (x y : Int) : absI (mir x) (mir y) = absI x y := by unfold absI mir; split <;> split <;> omega
theorem farS_mirror (a : Int) (L : List Int) : ∀ k, k ≤ L.length → farS (mir a) (L.map mir) k = ((farS a L k).1, mir (farS a L k).2)
  | 0, _ => rfl
  | k + 1, hk => by
    have ih := farS_mirror a L k (by omega)
    have hg : (L.map mir)[k]?.getD 0 = mir (L[k]?.getD 0) := by
      rw [List.getElem?_map, List.getElem?_eq_getElem (by omega)]; rfl
    show ((farS (mir a) (L.map mir) k).1 + absI (farS (mir a) (L.map mir) k).2 ((L.map mir)[k]?.getD 0), (L.map mir)[k]?.getD 0) = _
    rw [ih, hg, absI_mirror]
    rfl
theorem farI_mirror (a : Int) (L : List Int) : farI (mir a) (L.map mir) = farI a L := by
  unfold farI
  rw [List.length_map, farS_mirror a L _ (Nat.le_refl _)]
theorem headE_mirror {a : Int} {xs : List Int} (h : headE a xs = 0) : headE (mir a) (xs.map mir) = 0 := by
  obtain ⟨h1, h2, h3⟩ := headE_zero h
  unfold headE
  rw [List.length_map, if_neg (by omega), if_pos]
  refine ⟨by unfold Trk at h2; unfold mir; omega, allB_mem.2 fun x hx => ?_⟩
  obtain ⟨y, hy, rfl⟩ := List.mem_map.1 hx
  have := allB_mem.1 h3 y hy
  unfold mir; omega
end Go.Proofs.YtpleidblnjphmaaDoor
