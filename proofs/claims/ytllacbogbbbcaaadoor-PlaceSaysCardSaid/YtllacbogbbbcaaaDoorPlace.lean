/- Package place by its contracts: Of, Block, Tables; and the plain laws of paths and blocks. -/
import Derived.Test.YtllacbogbbbcaaaDoorCore
import Derived.Test.YtllacbogbbbcaaaDoorInts
import Derived.Outline
namespace Go.Proofs.YtllacbogbbbcaaaDoor
open Go Go.RowKit
set_option maxRecDepth 20000

def ofL (i : Int) : List Int := if i < 4 then [i] else if i < 8 then [4, i - 4] else [5, (i - 4 - 4) / 4, (i - 4 - 4) % 4]
def tabN (n : Int) : Int := if n ≤ 4 then 0 else if n ≤ 8 then 1 else 2 + (n - 5) / 4
/-- What Block says of a way: the block, and what is wrong. -/
def blk (xs : List Int) : Int × Int := match xs with
  | [] => (0, 5)
  | t :: r => if ¬ (0 ≤ t ∧ t ≤ 5) then (0, 1) else if allB r 0 3 = false then (0, 1) else if (r.length : Int) ≠ max 0 (t - 3) then (0, 3) else
    match r with
    | [a] => (4 + a, 0)
    | [a, b] => (8 + a * 4 + b, 0)
    | _ => (t, 0)

theorem of_bad (i : Int) (w : World) (h : i < 0 ∨ 23 < i) :
    Calls Tryd.prog 10 #[.int .i64 i] w fun e w' => e = .returned (.tuple #[.slice none 0 0, .iface 65 (.int .i64 1)]) ∧ w = w' := by
  rcases h with h | h
  · go_enter Tryd.func10, Tryd.ntmps10
    go_wp2
    go_ret2
    exact ⟨rfl, rfl⟩
  · have h' : 0 ≤ i := by omega
    have hd : decide (i ≤ 23) = false := by simp; omega
    go_enter Tryd.func10, Tryd.ntmps10
    go_wp2
    go_ret2
    exact ⟨rfl, rfl⟩

theorem of_ok (i : Int) (w : World) (h0 : 0 ≤ i) (h1 : i ≤ 23) :
    Calls Tryd.prog 10 #[.int .i64 i] w fun e w' => ∃ A n, e = .returned (.tuple #[.slice A n n, .nilIface]) ∧ Rd w' A n (ofL i) ∧ Below w.heap.size w w' := by
  by_cases h4 : i < 4
  · go_enter Tryd.func10, Tryd.ntmps10
    go_wp2
    go_ret2
    refine ⟨_, _, rfl, ?_, (Below.refl _ _).alloc (Nat.le_refl _) _⟩
    rw [ofL, if_pos (by omega)]
    refine Rd.new rfl (by decide) (by simp) (by simp; omega) (fun k hk => ?_)
    obtain rfl : k = 0 := by omega
    simp
  · by_cases h8 : i < 8
    · go_enter Tryd.func10, Tryd.ntmps10
      go_wp2
      go_ret2
      refine ⟨_, _, rfl, ?_, (Below.refl _ _).alloc (Nat.le_refl _) _⟩
      rw [ofL, if_neg (by omega), if_pos (by omega)]
      refine Rd.new rfl (by decide) (by simp) (by simp; omega) (fun k hk => ?_)
      rcases (by omega : k = 0 ∨ k = 1) with rfl | rfl <;> simp
    · go_enter Tryd.func10, Tryd.ntmps10
      go_wp2
      go_ret2
      refine ⟨_, _, rfl, ?_, (Below.refl _ _).alloc (Nat.le_refl _) _⟩
      rw [ofL, if_neg (by omega), if_neg (by omega)]
      refine Rd.new rfl (by decide) (by simp) (by simp; omega) (fun k hk => ?_)
      rcases (by omega : k = 0 ∨ k = 1 ∨ k = 2) with rfl | rfl | rfl <;> simp

theorem tables_bad (n : Int) (w : World) (h : n < 0 ∨ 24 < n) :
    Calls Tryd.prog 15 #[.int .i64 n] w fun e w' => e = .returned (.tuple #[.int .i64 0, .iface 65 (.int .i64 1)]) ∧ w = w' := by
  rcases h with h | h
  · go_enter Tryd.func15, Tryd.ntmps15
    go_wp2
    go_ret2
    exact ⟨rfl, rfl⟩
  · have h' : 0 ≤ n := by omega
    have hd : decide (n ≤ 24) = false := by simp; omega
    go_enter Tryd.func15, Tryd.ntmps15
    go_wp2
    go_ret2
    exact ⟨rfl, rfl⟩

theorem tables_ok (n : Int) (w : World) (h0 : 0 ≤ n) (h1 : n ≤ 24) :
    Calls Tryd.prog 15 #[.int .i64 n] w fun e w' => e = .returned (.tuple #[.int .i64 (tabN n), .nilIface]) ∧ w = w' := by
  by_cases h4 : n ≤ 4
  · have e : tabN n = 0 := by simp [tabN, h4]
    rw [e]; clear e
    have h5 : ¬ 4 < n := by omega
    go_enter Tryd.func15, Tryd.ntmps15
    go_wp2
    go_ret2
    exact ⟨rfl, rfl⟩
  · by_cases h8 : n ≤ 8
    · have e : tabN n = 1 := by simp [tabN, h4, h8]
      rw [e]; clear e
      go_enter Tryd.func15, Tryd.ntmps15
      go_wp2
      go_ret2
      exact ⟨rfl, rfl⟩
    · have e : tabN n = 1 + (1 + (n - 4 - 4 + 4 - 1) / 4) := by simp [tabN, h4, h8]; omega
      rw [e]; clear e
      go_enter Tryd.func15, Tryd.ntmps15
      go_wp2
      go_ret2
      exact ⟨rfl, rfl⟩

/-! ### Block -/
theorem cut1 (A : Option Addr) (n cap : Nat) (hn : 0 < n) (W : World) :
    (Instr.slice 22 (.slice A n cap) (some (.int .i64 1)) none none).run Tryd.prog W = .ok (.slice (cutA A cap 1) (n - 1) (cap - 1)) W :=
  run_cut (P := Tryd.prog) Tryd.underlying22 (fun _ => by kernel_rfl) A n cap 1 hn W

theorem block_nil (A : Option Addr) (ca : Nat) (w : World) :
    Calls Tryd.prog 14 #[.slice A 0 ca] w fun e w' => e = .returned (.tuple #[.int .i64 0, .iface 65 (.int .i64 5)]) ∧ ∃ q, w' = w.drewN q := by
  go_enter Tryd.func14, Tryd.ntmps14
  go_wp2
  go_ret2
  exact ⟨rfl, 0, rfl⟩

/-- What the walk of Block is told of its way. -/
theorem block_known {w : World} {A : Option Addr} {n ca : Nat} {t : Int} {ys : List Int} (hA : Rd w A n (t :: ys)) (hc : n ≤ ca) :
    ∃ b off m, A = some ⟨b, off, none⟩ ∧ n = m + 1 ∧ w.cell? ⟨b, off, none⟩ = some (.int .i64 t) ∧ Rd w (cutA A ca 1) m ys ∧
      (∀ W, (Instr.slice 22 (.slice A n ca) (some (.int .i64 1)) none none).run Tryd.prog W = .ok (.slice (cutA A ca 1) m (ca - 1)) W) := by
  have hl := hA.len
  simp at hl
  obtain ⟨b, off, rfl, _, hcell⟩ := hA.at_ (by omega)
  have h0 := hcell 0 (by omega)
  rw [Nat.add_zero] at h0
  have hR := hA.cutA hc (show 1 ≤ n by omega)
  refine ⟨b, off, n - 1, rfl, by omega, by simpa using h0, by simpa using hR, fun W => cut1 _ n ca (by omega) W⟩

theorem block_top (A : Option Addr) (n ca : Nat) (t : Int) (ys : List Int) (w : World) (hA : Rd w A n (t :: ys)) (hc : n ≤ ca) (ht : t < 0 ∨ 5 < t) :
    Calls Tryd.prog 14 #[.slice A n ca] w fun e w' => e = .returned (.tuple #[.int .i64 0, .iface 65 (.int .i64 1)]) ∧ ∃ q, w' = w.drewN q := by
  obtain ⟨b, off, m, rfl, rfl, h0, hR, hcut⟩ := block_known hA hc
  clear hA
  have hne : (((m + 1 : Nat) : Int) == 0) = false := by simp; omega
  have hnn : (0 : Int) < ((m + 1 : Nat) : Int) := by omega
  rcases ht with ht | ht
  · go_enter Tryd.func14, Tryd.ntmps14
    go_wp2
    go_quiet (fail)
    go_wp2
    go_ret2
    exact ⟨rfl, _, rfl⟩
  · have hd : decide (t ≤ 5) = false := by simp; omega
    have h0' : 0 ≤ t := by omega
    go_enter Tryd.func14, Tryd.ntmps14
    go_wp2
    go_quiet (fail)
    go_wp2
    go_ret2
    exact ⟨rfl, _, rfl⟩

theorem block_rest (A : Option Addr) (n ca : Nat) (t : Int) (ys : List Int) (w : World) (hA : Rd w A n (t :: ys)) (hc : n ≤ ca) (h0' : 0 ≤ t) (h5 : t ≤ 5) (hall : allB ys 0 3 = false) :
    Calls Tryd.prog 14 #[.slice A n ca] w fun e w' => e = .returned (.tuple #[.int .i64 0, .iface 65 (.int .i64 1)]) ∧ ∃ q, w' = w.drewN q := by
  obtain ⟨b, off, m, rfl, rfl, h0, hR, hcut⟩ := block_known hA hc
  clear hA
  have hne : (((m + 1 : Nat) : Int) == 0) = false := by simp; omega
  have hnn : (0 : Int) < ((m + 1 : Nat) : Int) := by omega
  go_enter Tryd.func14, Tryd.ntmps14
  go_wp2
  go_quiet (fail)
  go_wp2_with (first | (go_at_call 34; go_in) | (go_at_call 37; refine (all_any _ _ _ _ _ _ _ (hR.drewN _)).mono ?_; rintro e w' ⟨rfl, rfl⟩))
  go_ret2
  exact ⟨rfl, _, rfl⟩

/-- The way is of the wrong length. -/
theorem block_shape (A : Option Addr) (n ca : Nat) (t : Int) (ys : List Int) (w : World) (hA : Rd w A n (t :: ys)) (hc : n ≤ ca) (h0' : 0 ≤ t) (h5 : t ≤ 5) (hall : allB ys 0 3 = true)
    (hs : (ys.length : Int) ≠ max 0 (t - 3)) :
    Calls Tryd.prog 14 #[.slice A n ca] w fun e w' => e = .returned (.tuple #[.int .i64 0, .iface 65 (.int .i64 3)]) ∧ ∃ q, w' = w.drewN q := by
  obtain ⟨b, off, m, rfl, rfl, h0, hR, hcut⟩ := block_known hA hc
  clear hA
  have hl := hR.len
  rw [hl] at hs
  clear hl
  have hne : (((m + 1 : Nat) : Int) == 0) = false := by simp; omega
  have hnn : (0 : Int) < ((m + 1 : Nat) : Int) := by omega
  by_cases hp : 0 < t - 4 + 1
  · have hb : ((m : Int) != (t - 4 + 1)) = true := by simp; omega
    clear hs
    go_enter Tryd.func14, Tryd.ntmps14
    go_wp2
    go_quiet (fail)
    go_wp2_with (first | (go_at_call 34; go_in) | (go_at_call 37; refine (all_any _ _ _ _ _ _ _ (hR.drewN _)).mono ?_; rintro e w' ⟨rfl, rfl⟩))
    go_ret2
    exact ⟨rfl, _, rfl⟩
  · have hb : ((m : Int) != 0) = true := by simp; omega
    clear hs
    go_enter Tryd.func14, Tryd.ntmps14
    go_wp2
    go_quiet (fail)
    go_wp2_with (first | (go_at_call 34; go_in) | (go_at_call 37; refine (all_any _ _ _ _ _ _ _ (hR.drewN _)).mono ?_; rintro e w' ⟨rfl, rfl⟩))
    go_ret2
    exact ⟨rfl, _, rfl⟩

theorem block_ok0 (A : Option Addr) (n ca : Nat) (t : Int) (w : World) (hA : Rd w A n [t]) (hc : n ≤ ca) (h0' : 0 ≤ t) (h5 : t ≤ 3) :
    Calls Tryd.prog 14 #[.slice A n ca] w fun e w' => e = .returned (.tuple #[.int .i64 t, .nilIface]) ∧ ∃ q, w' = w.drewN q := by
  obtain ⟨b, off, m, rfl, rfl, h0, hR, hcut⟩ := block_known hA hc
  clear hA
  have hl := hR.len
  simp at hl
  subst hl
  have hall : allB [] 0 3 = true := rfl
  have hp : t - 4 + 1 ≤ 0 := by omega
  go_enter Tryd.func14, Tryd.ntmps14
  go_wp2
  go_quiet (fail)
  go_wp2_with (first | (go_at_call 34; go_in) | (go_at_call 37; refine (all_any _ _ _ _ _ _ _ (hR.drewN _)).mono ?_; rintro e w' ⟨rfl, rfl⟩))
  go_ret2
  exact ⟨rfl, _, rfl⟩

theorem block_ok1 (A : Option Addr) (n ca : Nat) (x : Int) (w : World) (hA : Rd w A n [4, x]) (hc : n ≤ ca) (h0' : 0 ≤ x) (h3 : x ≤ 3) :
    Calls Tryd.prog 14 #[.slice A n ca] w fun e w' => e = .returned (.tuple #[.int .i64 (4 + x), .nilIface]) ∧ ∃ q, w' = w.drewN q := by
  obtain ⟨b, off, m, rfl, rfl, h0, hR, hcut⟩ := block_known hA hc
  clear hA
  have hl := hR.len
  simp at hl
  subst hl
  have hall : allB [x] 0 3 = true := allB_mem.2 (by simp; omega)
  obtain ⟨b', off', hB, _, hc'⟩ := hR.at_ (by decide)
  rw [hB] at hR hcut
  clear hB
  have h1 := hc' 0 (by decide)
  rw [Nat.add_zero] at h1
  have h1' : w.cell? ⟨b', off', none⟩ = some (.int .i64 x) := h1
  clear h1 hc'
  go_enter Tryd.func14, Tryd.ntmps14
  go_wp2
  go_quiet (fail)
  go_wp2_with (first | (go_at_call 34; go_in) | (go_at_call 37; refine (all_any _ _ _ _ _ _ _ (hR.drewN _)).mono ?_; rintro e w' ⟨rfl, rfl⟩))
  go_ret2
  exact ⟨rfl, _, rfl⟩

theorem block_ok2 (A : Option Addr) (n ca : Nat) (x y : Int) (w : World) (hA : Rd w A n [5, x, y]) (hc : n ≤ ca) (h0' : 0 ≤ x) (h3 : x ≤ 3) (h0'' : 0 ≤ y) (h3' : y ≤ 3) :
    Calls Tryd.prog 14 #[.slice A n ca] w fun e w' => e = .returned (.tuple #[.int .i64 (8 + x * 4 + y), .nilIface]) ∧ ∃ q, w' = w.drewN q := by
  obtain ⟨b, off, m, rfl, rfl, h0, hR, hcut⟩ := block_known hA hc
  clear hA
  have hl := hR.len
  simp at hl
  subst hl
  have hall : allB [x, y] 0 3 = true := allB_mem.2 (by simp; omega)
  obtain ⟨b', off', hB, _, hc'⟩ := hR.at_ (by decide)
  rw [hB] at hR hcut
  clear hB
  have h1 := hc' 0 (by decide)
  rw [Nat.add_zero] at h1
  have h1' : w.cell? ⟨b', off', none⟩ = some (.int .i64 x) := h1
  have h2' : w.cell? ⟨b', off' + 1, none⟩ = some (.int .i64 y) := hc' 1 (by decide)
  clear h1 hc'
  go_enter Tryd.func14, Tryd.ntmps14
  go_wp2
  go_quiet (fail)
  go_wp2_with (first | (go_at_call 34; go_in) | (go_at_call 37; refine (all_any _ _ _ _ _ _ _ (hR.drewN _)).mono ?_; rintro e w' ⟨rfl, rfl⟩))
  go_quiet (fail)
  go_wp2
  go_ret2
  exact ⟨rfl, _, World.drewN_drewN _ _ _⟩

theorem max1 : max (0 : Int) 1 = 1 := by decide
theorem max2 : max (0 : Int) 2 = 2 := by decide

/-- Block, whatever its way: the block, or the error. -/
theorem block_any (A : Option Addr) (n ca : Nat) (xs : List Int) (w : World) (hA : Rd w A n xs) (hc : n ≤ ca) :
    Calls Tryd.prog 14 #[.slice A n ca] w fun e w' =>
      (((blk xs).2 = 0 ∧ e = .returned (.tuple #[.int .i64 (blk xs).1, .nilIface])) ∨ ((blk xs).2 ≠ 0 ∧ e = .returned (.tuple #[.int .i64 0, .iface 65 (.int .i64 (blk xs).2)]))) ∧ ∃ q, w' = w.drewN q := by
  match xs, hA with
  | [], hA =>
    have hl := hA.len
    simp at hl
    subst hl
    exact (block_nil A ca w).mono fun e w' ⟨h1, h2⟩ => ⟨.inr ⟨by simp [blk], by simp [blk, h1]⟩, h2⟩
  | t :: ys, hA =>
    by_cases ht : 0 ≤ t ∧ t ≤ 5
    · by_cases hall : allB ys 0 3 = true
      · by_cases hs : (ys.length : Int) = max 0 (t - 3)
        · match ys, hA, hall, hs with
          | [], hA, hall, hs =>
            have h3 : t ≤ 3 := by simp at hs; omega
            exact (block_ok0 A n ca t w hA hc ht.1 h3).mono fun e w' ⟨h1, h2⟩ => ⟨.inl ⟨by simp [blk, ht, hall, ← hs], by simp [blk, ht, hall, ← hs, h1]⟩, h2⟩
          | [x], hA, hall, hs =>
            obtain rfl : t = 4 := by simp at hs; omega
            have hx := allB_mem.1 hall x (by simp)
            exact (block_ok1 A n ca x w hA hc hx.1 hx.2).mono fun e w' ⟨h1, h2⟩ => ⟨.inl ⟨by simp [blk, hall, max1], by simp [blk, hall, h1, max1]⟩, h2⟩
          | [x, y], hA, hall, hs =>
            obtain rfl : t = 5 := by simp at hs; omega
            have hx := allB_mem.1 hall x (by simp)
            have hy := allB_mem.1 hall y (by simp)
            exact (block_ok2 A n ca x y w hA hc hx.1 hx.2 hy.1 hy.2).mono fun e w' ⟨h1, h2⟩ => ⟨.inl ⟨by simp [blk, hall, max2], by simp [blk, hall, h1, max2]⟩, h2⟩
          | x :: y :: z :: r, hA, hall, hs =>
            exfalso; simp at hs; omega
        · exact (block_shape A n ca t ys w hA hc ht.1 ht.2 hall hs).mono fun e w' ⟨h1, h2⟩ => ⟨.inr ⟨by simp [blk, ht, hall, hs], by simp [blk, ht, hall, hs, h1]⟩, h2⟩
      · have hall' : allB ys 0 3 = false := by simpa using hall
        exact (block_rest A n ca t ys w hA hc ht.1 ht.2 hall').mono fun e w' ⟨h1, h2⟩ => ⟨.inr ⟨by simp [blk, ht, hall'], by simp [blk, ht, hall', h1]⟩, h2⟩
    · exact (block_top A n ca t ys w hA hc (by omega)).mono fun e w' ⟨h1, h2⟩ => ⟨.inr ⟨by simp [blk, ht], by simp [blk, ht, h1]⟩, h2⟩

theorem block_good (A : Option Addr) (n ca : Nat) (xs : List Int) (w : World) (hA : Rd w A n xs) (hc : n ≤ ca) (v : Int) (h : blk xs = (v, 0)) :
    Calls Tryd.prog 14 #[.slice A n ca] w fun e w' => e = .returned (.tuple #[.int .i64 v, .nilIface]) ∧ ∃ q, w' = w.drewN q :=
  (block_any A n ca xs w hA hc).mono fun e w' ⟨h1, h2⟩ => ⟨by rw [h] at h1; rcases h1 with h1 | h1; exact h1.2; exact absurd rfl h1.1, h2⟩
theorem block_err (A : Option Addr) (n ca : Nat) (xs : List Int) (w : World) (hA : Rd w A n xs) (hc : n ≤ ca) (h : (blk xs).2 ≠ 0) :
    Calls Tryd.prog 14 #[.slice A n ca] w fun e w' => e = .returned (.tuple #[.int .i64 0, .iface 65 (.int .i64 (blk xs).2)]) ∧ ∃ q, w' = w.drewN q :=
  (block_any A n ca xs w hA hc).mono fun e w' ⟨h1, h2⟩ => ⟨by rcases h1 with h1 | h1; exact absurd h1.1 h; exact h1.2, h2⟩

end Go.Proofs.YtllacbogbbbcaaaDoor
