/- Plain: the nearest of some tracks, and the order in which the nearest is next. -/
import Derived.Test.YtpleidblnjphmaaDoorHeadP
namespace Go.Proofs.YtpleidblnjphmaaDoor
open Go Go.RowKit
set_option linter.unusedVariables false

def cmpI (x y : Int) : Int := if x < y then -1 else if x > y then 1 else 0
/-- What the closure of Near answers. -/
def cfI (now x y : Int) : Int := if cmpI (absI x now) (absI y now) = 0 then cmpI x y else cmpI (absI x now) (absI y now)
def nearer (now x m : Int) : Prop := absI x now < absI m now ∨ (absI x now = absI m now ∧ x < m)
instance (now x m : Int) : Decidable (nearer now x m) := by unfold nearer; infer_instance
theorem cfI_lt (now x m : Int) : cfI now x m < 0 ↔ nearer now x m := by
  unfold cfI cmpI nearer
  split <;> split <;> (try split) <;> omega
theorem nearer_self (now x : Int) : ¬ nearer now x x := by unfold nearer; omega
def bestF (now m : Int) (L : List Int) : Int := L.foldl (fun m x => if nearer now x m then x else m) m
theorem bestF_snoc (now m x : Int) (L : List Int) : bestF now m (L ++ [x]) = if nearer now x (bestF now m L) then x else bestF now m L := by unfold bestF; rw [List.foldl_append]; rfl
theorem bestF_mem (now : Int) : ∀ (L : List Int) (m : Int), bestF now m L = m ∨ bestF now m L ∈ L
  | [], m => Or.inl rfl
  | y :: r, m => by
    have e : bestF now m (y :: r) = bestF now (if nearer now y m then y else m) r := rfl
    rw [e]
    by_cases h : nearer now y m
    · rw [if_pos h]
      rcases bestF_mem now r y with h3 | h3
      · rw [h3]; simp
      · exact Or.inr (List.mem_cons_of_mem _ h3)
    · rw [if_neg h]
      rcases bestF_mem now r m with h3 | h3
      · exact Or.inl h3
      · exact Or.inr (List.mem_cons_of_mem _ h3)
theorem nearer_trans {now x y z : Int} (h1 : ¬ nearer now x y) (h2 : ¬ nearer now y z) : ¬ nearer now x z := by
  unfold nearer at *; omega
theorem nearer_asymm {now x y : Int} (h1 : nearer now x y) : ¬ nearer now y x := by
  unfold nearer at *; omega
theorem bestF_best (now : Int) : ∀ (L : List Int) (m : Int), ¬ nearer now m (bestF now m L) ∧ ∀ x ∈ L, ¬ nearer now x (bestF now m L)
  | [], m => ⟨nearer_self _ _, by simp⟩
  | y :: r, m => by
    have e : bestF now m (y :: r) = bestF now (if nearer now y m then y else m) r := rfl
    rw [e]
    by_cases h : nearer now y m
    · rw [if_pos h]
      obtain ⟨h1, h2⟩ := bestF_best now r y
      refine ⟨nearer_trans (nearer_asymm h) h1, fun x hx => ?_⟩
      rcases List.mem_cons.1 hx with rfl | hx
      · exact h1
      · exact h2 x hx
    · rw [if_neg h]
      obtain ⟨h1, h2⟩ := bestF_best now r m
      refine ⟨h1, fun x hx => ?_⟩
      rcases List.mem_cons.1 hx with rfl | hx
      · exact nearer_trans h h1
      · exact h2 x hx
/-- The nearest of a list that is not empty. -/
def bestI (now : Int) (xs : List Int) : Int := bestF now (xs[0]?.getD 0) xs
theorem bestI_mem {now : Int} {xs : List Int} (h : xs ≠ []) : bestI now xs ∈ xs := by
  cases xs with
  | nil => exact absurd rfl h
  | cons y r =>
    rcases bestF_mem now (y :: r) y with e | e
    · show bestF now y (y :: r) ∈ y :: r
      rw [e]; simp
    · exact e
/-- The first of the list stands: going over the rest is going over all. -/
theorem bestI_take1 (now : Int) (xs : List Int) : bestF now (xs[0]?.getD 0) (xs.take 1) = xs[0]?.getD 0 := by
  cases xs with
  | nil => rfl
  | cons y r =>
    show (if nearer now y y then y else y) = y
    split <;> rfl
/-- What is in order, where it is, what is left, after k. -/
def nst (a : Int) (xs : List Int) : Nat → List Int × Int × List Int
  | 0 => ([], a, xs)
  | k + 1 => let s := nst a xs k; (s.1 ++ [bestI s.2.1 s.2.2], bestI s.2.1 s.2.2, s.2.2.erase (bestI s.2.1 s.2.2))
def nearL (a : Int) (xs : List Int) : List Int := (nst a xs xs.length).1
theorem nst_len (a : Int) (xs : List Int) : ∀ k, k ≤ xs.length → (nst a xs k).1.length = k ∧ (nst a xs k).2.2.length + k = xs.length
  | 0, _ => ⟨rfl, rfl⟩
  | k + 1, h => by
    obtain ⟨h1, h2⟩ := nst_len a xs k (by omega)
    have hne : (nst a xs k).2.2 ≠ [] := by intro h; rw [h] at h2; simp at h2; omega
    refine ⟨by show ((nst a xs k).1 ++ [_]).length = _; simp [h1], ?_⟩
    show ((nst a xs k).2.2.erase _).length + (k + 1) = _
    rw [List.length_erase_of_mem (bestI_mem hne)]
    have : 0 < (nst a xs k).2.2.length := List.length_pos_iff.2 hne
    omega
theorem nst_perm (a : Int) (xs : List Int) : ∀ k, k ≤ xs.length → ((nst a xs k).1 ++ (nst a xs k).2.2).Perm xs
  | 0, _ => List.Perm.refl _
  | k + 1, h => by
    have ih := nst_perm a xs k (by omega)
    have h2 := (nst_len a xs k (by omega)).2
    have hne : (nst a xs k).2.2 ≠ [] := by intro h; rw [h] at h2; simp at h2; omega
    show (((nst a xs k).1 ++ [bestI (nst a xs k).2.1 (nst a xs k).2.2]) ++ (nst a xs k).2.2.erase (bestI (nst a xs k).2.1 (nst a xs k).2.2)).Perm xs
    refine List.Perm.trans ?_ ih
    rw [List.append_assoc]
    exact (List.perm_cons_erase (bestI_mem hne)).symm.append_left _
theorem nearL_length (a : Int) (xs : List Int) : (nearL a xs).length = xs.length := (nst_len a xs _ (Nat.le_refl _)).1
theorem nearL_perm (a : Int) (xs : List Int) : (nearL a xs).Perm xs := by
  have h := nst_perm a xs _ (Nat.le_refl _)
  have h2 := (nst_len a xs _ (Nat.le_refl _)).2
  have h3 : (nst a xs xs.length).2.2 = [] := List.length_eq_zero_iff.1 (by omega)
  rw [h3, List.append_nil] at h
  exact h
theorem nst_trk {a : Int} {xs : List Int} (ha : Trk a) (hx : ∀ x ∈ xs, Trk x) : ∀ k, k ≤ xs.length → (∀ x ∈ (nst a xs k).1, Trk x) ∧ Trk (nst a xs k).2.1 ∧ ∀ x ∈ (nst a xs k).2.2, Trk x
  | 0, _ => ⟨by simp [nst], ha, hx⟩
  | k + 1, h => by
    obtain ⟨h1, h2, h3⟩ := nst_trk ha hx k (by omega)
    have hl := (nst_len a xs k (by omega)).2
    have hne : (nst a xs k).2.2 ≠ [] := by intro h; rw [h] at hl; simp at hl; omega
    have hb := h3 _ (bestI_mem (now := (nst a xs k).2.1) hne)
    refine ⟨fun x hx => ?_, hb, fun x hx => h3 x (List.mem_of_mem_erase hx)⟩
    have hx' : x ∈ (nst a xs k).1 ++ [bestI (nst a xs k).2.1 (nst a xs k).2.2] := hx
    rcases List.mem_append.1 hx' with hx | hx
    · exact h1 x hx
    · rw [List.mem_singleton.1 hx]; exact hb
end Go.Proofs.YtpleidblnjphmaaDoor
