/- Plain laws of paths and blocks: no program in sight but for the namespace's words. -/
import Derived.Test.YtllacbogbbbcaaaDoorPlace
namespace Go.Proofs.YtllacbogbbbcaaaDoor
open Go Go.RowKit
set_option maxRecDepth 20000

/-! ### Paths and blocks -/
theorem blk_one {x : Int} (h0 : 0 ≤ x) (h1 : x ≤ 3) : blk [4, x] = (4 + x, 0) := by
  have e : allB [x] 0 3 = true := allB_mem.2 (by simp; omega)
  simp [blk, e, max1]
theorem blk_two {x y : Int} (h0 : 0 ≤ x) (h1 : x ≤ 3) (h2 : 0 ≤ y) (h3 : y ≤ 3) : blk [5, x, y] = (8 + x * 4 + y, 0) := by
  have e : allB [x, y] 0 3 = true := allB_mem.2 (by simp; omega)
  simp [blk, e, max2]
theorem blk_ofL {i : Int} (h0 : 0 ≤ i) (h1 : i ≤ 23) : blk (ofL i) = (i, 0) := by
  unfold ofL
  split
  · have : (max 0 (i - 3) : Int) = 0 := by omega
    simp [blk, allB, this]; omega
  · split
    · rw [blk_one (by omega) (by omega)]
      congr 1; omega
    · rw [blk_two (by omega) (by omega) (by omega) (by omega)]
      congr 1; omega
theorem ofL_blk {xs : List Int} {n : Int} (h : blk xs = (n, 0)) : 0 ≤ n ∧ n ≤ 23 ∧ ofL n = xs := by
  match xs with
  | [] => simp [blk] at h
  | t :: ys =>
    by_cases ht : 0 ≤ t ∧ t ≤ 5
    · by_cases hall : allB ys 0 3 = true
      · by_cases hs : (ys.length : Int) = max 0 (t - 3)
        · match ys, hall, hs with
          | [], hall, hs =>
            simp [blk, ht, hall, ← hs] at h
            simp at hs
            subst h
            refine ⟨by omega, by omega, ?_⟩
            rw [ofL, if_pos (by omega)]
          | [x], hall, hs =>
            obtain rfl : t = 4 := by simp at hs; omega
            have hx := allB_mem.1 hall x (by simp)
            simp [blk, hall, max1] at h
            subst h
            refine ⟨by omega, by omega, ?_⟩
            rw [ofL, if_neg (by omega), if_pos (by omega)]
            simp; omega
          | [x, y], hall, hs =>
            obtain rfl : t = 5 := by simp at hs; omega
            have hx := allB_mem.1 hall x (by simp)
            have hy := allB_mem.1 hall y (by simp)
            simp [blk, hall, max2] at h
            subst h
            refine ⟨by omega, by omega, ?_⟩
            rw [ofL, if_neg (by omega), if_neg (by omega)]
            simp; omega
          | x :: y :: z :: r, hall, hs =>
            exfalso; simp at hs; omega
        · simp [blk, ht, hall, hs] at h
      · have hall' : allB ys 0 3 = false := by simpa using hall
        simp [blk, ht, hall'] at h
    · simp [blk, ht] at h
end Go.Proofs.YtllacbogbbbcaaaDoor
