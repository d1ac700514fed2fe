/- Plain laws of the sweep: it turns once, and how far it goes. -/
import Derived.Test.YtpleidblnjphmaaSweepP
namespace Go.Proofs.Ytpleidblnjphmaa
open Go Go.RowKit
set_option linter.unusedVariables false

def farL : Int → List Int → Int
  | _, [] => 0
  | a, x :: r => absI a x + farL x r
def lastL : Int → List Int → Int
  | a, [] => a
  | _, x :: r => lastL x r
theorem farL_append : ∀ (L M : List Int) (a : Int), farL a (L ++ M) = farL a L + farL (lastL a L) M
  | [], M, a => by simp [farL, lastL]
  | x :: r, M, a => by
    show absI a x + farL x (r ++ M) = absI a x + farL x r + farL (lastL x r) M
    rw [farL_append r M x]; omega
theorem lastL_append : ∀ (L M : List Int) (a : Int), lastL a (L ++ M) = lastL (lastL a L) M
  | [], M, a => rfl
  | x :: r, M, a => lastL_append r M x
theorem farS_L (a : Int) (xs : List Int) : ∀ k, k ≤ xs.length → farS a xs k = (farL a (xs.take k), lastL a (xs.take k))
  | 0, _ => rfl
  | k + 1, hk => by
    have ih := farS_L a xs k (by omega)
    rw [← take_snoc (by omega), farL_append, lastL_append]
    show ((farS a xs k).1 + absI (farS a xs k).2 (xs[k]?.getD 0), xs[k]?.getD 0) = _
    rw [ih]
    simp [farL, lastL]
theorem farI_L (a : Int) (xs : List Int) : farI a xs = farL a xs := by
  unfold farI
  rw [farS_L a xs _ (Nat.le_refl _), List.take_of_length_le (Nat.le_refl _)]
/-- Rising from a, and falling. -/
def Up : Int → List Int → Prop
  | _, [] => True
  | a, x :: r => a ≤ x ∧ Up x r
def Dn : Int → List Int → Prop
  | _, [] => True
  | a, x :: r => x ≤ a ∧ Dn x r
theorem up_far : ∀ (L : List Int) (a : Int), Up a L → farL a L = lastL a L - a ∧ a ≤ lastL a L
  | [], a, _ => by simp [farL, lastL]
  | x :: r, a, h => by
    have ih := up_far r x h.2
    have := h.1
    show absI a x + farL x r = lastL x r - a ∧ a ≤ lastL x r
    unfold absI; split <;> omega
theorem dn_far : ∀ (L : List Int) (a : Int), Dn a L → farL a L = a - lastL a L ∧ lastL a L ≤ a
  | [], a, _ => by simp [farL, lastL]
  | x :: r, a, h => by
    have ih := dn_far r x h.2
    have := h.1
    show absI a x + farL x r = a - lastL x r ∧ lastL x r ≤ a
    unfold absI; split <;> omega
def step (s : Int × Bool × Nat) (x : Int) : Int × Bool × Nat := if x ≠ s.1 ∧ decide (x > s.1) ≠ s.2.1 then (x, !s.2.1, s.2.2 + 1) else (x, s.2.1, s.2.2)
theorem up_turn : ∀ (L : List Int) (a : Int) (t : Nat), Up a L → L.foldl step (a, true, t) = (lastL a L, true, t)
  | [], a, t, _ => rfl
  | x :: r, a, t, h => by
    have e : step (a, true, t) x = (x, true, t) := by
      unfold step; rw [if_neg]; simp; have := h.1; omega
    rw [List.foldl_cons, e, up_turn r x t h.2]; rfl
theorem dn_turn : ∀ (L : List Int) (a : Int) (t : Nat), Dn a L → L.foldl step (a, false, t) = (lastL a L, false, t)
  | [], a, t, _ => rfl
  | x :: r, a, t, h => by
    have e : step (a, false, t) x = (x, false, t) := by
      unfold step; rw [if_neg]; simp; have := h.1; omega
    rw [List.foldl_cons, e, dn_turn r x t h.2]; rfl
theorem dn_turn1 : ∀ (L : List Int) (a : Int) (t : Nat), Dn a L → (L.foldl step (a, true, t)).2.2 ≤ t + 1
  | [], a, t, _ => Nat.le_succ _
  | x :: r, a, t, h => by
    rw [List.foldl_cons]
    unfold step
    split
    · show (r.foldl step (x, false, t + 1)).2.2 ≤ t + 1
      rw [dn_turn r x _ h.2]; exact Nat.le_refl _
    · exact dn_turn1 r x t h.2
theorem up_turn1 : ∀ (L : List Int) (a : Int) (t : Nat), Up a L → (L.foldl step (a, false, t)).2.2 ≤ t + 1
  | [], a, t, _ => Nat.le_succ _
  | x :: r, a, t, h => by
    rw [List.foldl_cons]
    unfold step
    split
    · show (r.foldl step (x, true, t + 1)).2.2 ≤ t + 1
      rw [up_turn r x _ h.2]; exact Nat.le_refl _
    · exact up_turn1 r x t h.2
theorem up_of : ∀ (L : List Int) (a : Int), L.Pairwise (· ≤ ·) → (∀ x ∈ L, a ≤ x) → Up a L
  | [], a, _, _ => trivial
  | x :: r, a, h, ha => ⟨ha x (by simp), up_of r x (List.pairwise_cons.1 h).2 (List.pairwise_cons.1 h).1⟩
theorem dn_of : ∀ (L : List Int) (a : Int), L.Pairwise (fun x y => y ≤ x) → (∀ x ∈ L, x ≤ a) → Dn a L
  | [], a, _, _ => trivial
  | x :: r, a, h, ha => ⟨ha x (by simp), dn_of r x (List.pairwise_cons.1 h).2 (List.pairwise_cons.1 h).1⟩
theorem lastL_mem : ∀ (L : List Int) (a : Int), lastL a L = a ∨ lastL a L ∈ L
  | [], a => .inl rfl
  | x :: r, a => by
    rcases lastL_mem r x with h | h
    · right; show lastL x r ∈ _; rw [h]; simp
    · right; exact List.mem_cons_of_mem _ h
theorem up_last : ∀ (L : List Int) (a : Int), Up a L → ∀ x ∈ L, x ≤ lastL a L
  | y :: r, a, h, x, hx => by
    show x ≤ lastL y r
    rcases List.mem_cons.1 hx with rfl | hx
    · exact (up_far r _ h.2).2
    · exact up_last r y h.2 x hx
theorem dn_last : ∀ (L : List Int) (a : Int), Dn a L → ∀ x ∈ L, lastL a L ≤ x
  | y :: r, a, h, x, hx => by
    show lastL y r ≤ x
    rcases List.mem_cons.1 hx with rfl | hx
    · exact (dn_far r _ h.2).2
    · exact dn_last r y h.2 x hx
theorem high_up (a : Int) (up : Bool) (xs : List Int) (b : Int) (hb : b ≤ a) : Up b (highL a up (sortL xs)) :=
  up_of _ _ ((sortL_sorted xs).filter _) (fun x hx => by
    have := (List.mem_filter.1 hx).2
    simp [isLow] at this
    omega)
theorem low_dn (a : Int) (up : Bool) (xs : List Int) (b : Int) (hb : a ≤ b) : Dn b (lowL a up (sortL xs)).reverse :=
  dn_of _ _ (by rw [List.pairwise_reverse]; exact ((sortL_sorted xs).filter _)) (fun x hx => by
    have := (List.mem_filter.1 (List.mem_reverse.1 hx)).2
    simp [isLow] at this
    omega)
/-- **A sweep turns at most once.** -/
theorem sweep_turns (a : Int) (up : Bool) (xs : List Int) : ((sweepL a up xs).foldl step (a, up, 0)).2.2 ≤ 1 := by
  cases up
  · show ((_ ++ _ : List Int).foldl step (a, false, 0)).2.2 ≤ 1
    have h1 := low_dn a false xs a (Int.le_refl _)
    have h2 := (dn_far _ _ h1).2
    rw [List.foldl_append, dn_turn _ _ _ h1]
    exact up_turn1 _ _ _ (high_up a false xs _ h2)
  · show ((_ ++ _ : List Int).foldl step (a, true, 0)).2.2 ≤ 1
    have h1 := high_up a true xs a (Int.le_refl _)
    have h2 := (up_far _ _ h1).2
    rw [List.foldl_append, up_turn _ _ _ h1]
    exact dn_turn1 _ _ _ (low_dn a true xs _ h2)
theorem low_mem {a : Int} {up : Bool} {xs : List Int} {x : Int} : x ∈ (lowL a up (sortL xs)).reverse ↔ x ∈ xs ∧ isLow a up x = true := by
  rw [List.mem_reverse]; unfold lowL; rw [List.mem_filter, sortL_mem]
theorem high_mem {a : Int} {up : Bool} {xs : List Int} {x : Int} : x ∈ highL a up (sortL xs) ↔ x ∈ xs ∧ isLow a up x = false := by
  unfold highL; rw [List.mem_filter, sortL_mem]; simp
theorem isLow_le {a : Int} {up : Bool} {x : Int} (h : isLow a up x = true) : x ≤ a := by simp [isLow] at h; omega
theorem isHigh_le {a : Int} {up : Bool} {x : Int} (h : isLow a up x = false) : a ≤ x := by simp [isLow] at h; omega
theorem lastL_ne {L : List Int} (h : L ≠ []) (a : Int) : lastL a L ∈ L := by
  cases L with
  | nil => exact absurd rfl h
  | cons x r =>
    rcases lastL_mem r x with e | e
    · show lastL x r ∈ _; rw [e]; simp
    · exact List.mem_cons_of_mem _ e
/-- The end of all that lie high, seen from b. -/
theorem high_end {a : Int} {up : Bool} {xs : List Int} {b hi : Int} (hb : b ≤ a) (h1 : a ≤ hi) (h2 : ∀ x ∈ xs, x ≤ hi) (h3 : hi = a ∨ hi ∈ xs) (hn : highL a up (sortL xs) ≠ [] ∨ b = a) : lastL b (highL a up (sortL xs)) = hi := by
  have hu := high_up a up xs b hb
  have hle : lastL b (highL a up (sortL xs)) ≤ hi := by
    rcases lastL_mem (highL a up (sortL xs)) b with e | e
    · omega
    · exact h2 _ (high_mem.1 e).1
  have hge : a ≤ lastL b (highL a up (sortL xs)) := by
    rcases hn with hn | hn
    · exact isHigh_le (high_mem.1 (lastL_ne hn b)).2
    · have := (up_far _ _ hu).2; omega
  rcases h3 with h3 | h3
  · omega
  · cases hl : isLow a up hi
    · have := up_last _ _ hu hi (high_mem.2 ⟨h3, hl⟩); omega
    · have := isLow_le hl; omega
theorem low_end {a : Int} {up : Bool} {xs : List Int} {b lo : Int} (hb : a ≤ b) (h1 : lo ≤ a) (h2 : ∀ x ∈ xs, lo ≤ x) (h3 : lo = a ∨ lo ∈ xs) (hn : (lowL a up (sortL xs)).reverse ≠ [] ∨ b = a) : lastL b (lowL a up (sortL xs)).reverse = lo := by
  have hu := low_dn a up xs b hb
  have hle : lo ≤ lastL b (lowL a up (sortL xs)).reverse := by
    rcases lastL_mem (lowL a up (sortL xs)).reverse b with e | e
    · omega
    · exact h2 _ (low_mem.1 e).1
  have hge : lastL b (lowL a up (sortL xs)).reverse ≤ a := by
    rcases hn with hn | hn
    · exact isLow_le (low_mem.1 (lastL_ne hn b)).2
    · have := (dn_far _ _ hu).2; omega
  rcases h3 with h3 | h3
  · omega
  · cases hl : isLow a up lo
    · have := isHigh_le hl; omega
    · have := dn_last _ _ hu lo (low_mem.2 ⟨h3, hl⟩); omega
/-- **How far a sweep goes**: no farther than twice the whole way, and no less than the least way. -/
theorem sweep_far {a : Int} {up : Bool} {xs : List Int} {lo hi : Int} (l1 : lo ≤ a) (l2 : ∀ x ∈ xs, lo ≤ x) (l3 : lo = a ∨ lo ∈ xs) (h1 : a ≤ hi) (h2 : ∀ x ∈ xs, x ≤ hi) (h3 : hi = a ∨ hi ∈ xs) :
    farI a (sweepL a up xs) ≤ 2 * (hi - lo) ∧ ((hi - lo) + (a - lo) ≤ farI a (sweepL a up xs) ∨ (hi - lo) + (hi - a) ≤ farI a (sweepL a up xs)) := by
  rw [farI_L]
  cases up
  · have e : sweepL a false xs = (lowL a false (sortL xs)).reverse ++ highL a false (sortL xs) := rfl
    have d := dn_far _ _ (low_dn a false xs a (Int.le_refl _))
    have q := low_end (up := false) (b := a) (Int.le_refl _) l1 l2 l3 (.inr rfl)
    rw [q] at d
    rw [e, farL_append, q, d.1]
    by_cases hn : highL a false (sortL xs) = []
    · have : hi = a := by
        rcases h3 with h3 | h3
        · exact h3
        · cases hl : isLow a false hi
          · have := high_mem.2 ⟨h3, hl⟩; rw [hn] at this; cases this
          · have := isLow_le hl; omega
      rw [hn]
      simp only [farL]
      omega
    · have u := up_far _ _ (high_up a false xs lo l1)
      rw [high_end l1 h1 h2 h3 (.inl hn)] at u
      omega
  · have e : sweepL a true xs = highL a true (sortL xs) ++ (lowL a true (sortL xs)).reverse := rfl
    have d := up_far _ _ (high_up a true xs a (Int.le_refl _))
    have q := high_end (up := true) (b := a) (Int.le_refl _) h1 h2 h3 (.inr rfl)
    rw [q] at d
    rw [e, farL_append, q, d.1]
    by_cases hn : (lowL a true (sortL xs)).reverse = []
    · have : lo = a := by
        rcases l3 with h3 | h3
        · exact h3
        · cases hl : isLow a true lo
          · have := isHigh_le hl; omega
          · have := low_mem.2 ⟨h3, hl⟩; rw [hn] at this; cases this
      rw [hn]
      simp only [farL]
      omega
    · have u := dn_far _ _ (low_dn a true xs hi h1)
      rw [low_end h1 l1 l2 l3 (.inl hn)] at u
      omega
end Go.Proofs.Ytpleidblnjphmaa
