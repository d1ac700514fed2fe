/- The functions of package place return what the document specifies: PlaceSays answers true at every int, slice of ints, int; errors.errorType is tied to the program's text. Conditions: none beside the card's own. -/
import Derived.Test.YtllacbogbbbcaaaDoorWays
import Derived.Test.YtllacbogbbbcaaaDoorPlaceLaw
import Derived.Test.YtllacbogbbbcaaaDoorRAll
import Derived.Test.YtllacbogbbbcaaaDoorIn
import Derived.Test.YtllacbogbbbcaaaDoorOpenD
import Derived.Test.YtllacbogbbbcaaaDoorTold
namespace Go.Proofs.YtllacbogbbbcaaaDoor.placeSays
open Go Go.ChangeShapes Go.WideShapes Go.ChangeAt Go.RowKit
set_option linter.unusedVariables false
set_option maxRecDepth 20000

theorem ints_bel (A B : Option Addr) (n m ca cb : Nat) (xs ys : List Int) (w : World) (hA : Rd w A n xs) (hB : Rd w B m ys) :
    Calls Tryd.prog 12 #[.slice A n ca, .slice B m cb] w fun e w' => e = .returned (.bool (decide (xs = ys))) ∧ Below w.heap.size w w' :=
  (ints_any A B n m ca cb xs ys w hA hB).mono (by rintro e w' ⟨rfl, q, rfl⟩; exact ⟨rfl, below_drewN_of (Below.refl _ _) q⟩)
theorem block_g (A : Option Addr) (n ca : Nat) (xs : List Int) (w : World) (hA : Rd w A n xs) (hc : n ≤ ca) (v : Int) (h : blk xs = (v, 0)) :
    Calls Tryd.prog 14 #[.slice A n ca] w fun e w' => e = .returned (.tuple #[.int .i64 v, .nilIface]) ∧ Below w.heap.size w w' :=
  (block_good A n ca xs w hA hc v h).mono (by rintro e w' ⟨rfl, q, rfl⟩; exact ⟨rfl, below_drewN_of (Below.refl _ _) q⟩)
theorem block_e (A : Option Addr) (n ca : Nat) (xs : List Int) (w : World) (hA : Rd w A n xs) (hc : n ≤ ca) (E : Int) (h : (blk xs).2 = E) (h0 : E ≠ 0) :
    Calls Tryd.prog 14 #[.slice A n ca] w fun e w' => e = .returned (.tuple #[.int .i64 0, .iface 65 (.int .i64 E)]) ∧ Below w.heap.size w w' :=
  (block_err A n ca xs w hA hc (by rw [h]; exact h0)).mono (by rintro e w' ⟨rfl, q, rfl⟩; exact ⟨by rw [h], below_drewN_of (Below.refl _ _) q⟩)
theorem wayL_get {k : Nat} (h : k < 24) : (wayL 24)[k]?.getD [] = ofL (k : Int) := by
  unfold wayL
  rw [List.getElem?_map, List.getElem?_range h]; rfl
theorem way_row {w : World} {C : Option Addr} {rs : List RV} (h : RRows w C 24 rs) (hd : dat rs = wayL 24) {k : Nat} (hk : k < 24) :
    ∃ b off A1 n1 c1, C = some ⟨b, off, none⟩ ∧ w.cell? ⟨b, off + k, none⟩ = some (.slice A1 n1 c1) ∧ Rd w A1 n1 (ofL (k : Int)) := by
  obtain ⟨b, off, hC, _, hcc⟩ := h.at_ (by omega)
  have h1 := hcc k hk
  have h2 := h.sl hk
  have h3 := dat_get rs k
  rw [hd, wayL_get hk] at h3
  obtain ⟨r, hr⟩ : ∃ r, rs[k]?.getD noRow = r := ⟨_, rfl⟩
  rw [hr] at h1 h2 h3
  obtain ⟨A1, n1, c1, x1⟩ := r
  change ofL (k : Int) = x1 at h3
  subst h3
  exact ⟨b, off, A1, n1, c1, hC, h1, h2.1⟩

theorem blk_shape {t : Int} {ys : List Int} (h0 : 0 ≤ t) (h1 : t ≤ 5) (hall : allB ys 0 3 = true) (h : (blk (t :: ys)).2 ≠ 0) : (blk (t :: ys)).2 = 3 := by
  have e1 : ¬ ¬ (0 ≤ t ∧ t ≤ 5) := fun h => h ⟨h0, h1⟩
  have e2 : ¬ allB ys 0 3 = false := by rw [hall]; simp
  by_cases hs : (ys.length : Int) ≠ max 0 (t - 3)
  · simp only [blk, if_neg e1, if_neg e2, if_pos hs]
  · exfalso
    apply h
    simp only [blk, if_neg e1, if_neg e2, if_neg hs]
    split <;> rfl

set_option maxHeartbeats 8000000 in
set_option maxRecDepth 100000 in
theorem walk_in_nil (w : World) (i : Int) (hi : -9223372036854775808 ≤ i ∧ i ≤ 9223372036854775807) (A : Option Addr) (n c : Nat) (xs : List Int) (hA : Rd w A n xs) (hc : n ≤ c) (bl : Int) (hbl : -9223372036854775808 ≤ bl ∧ bl ≤ 9223372036854775807) (hE : ErrT w) (kk : Nat) (hkk : kk < 24) (hik : i = kk) (hx : xs = []) :
    Calls Tryd.prog 3 #[.int .i64 i, .slice A n c, .int .i64 bl] w fun e w' => e = .returned (.bool true) ∧ Below w.heap.size w w' := by
  have HE := Lib.hid hE
  clear hE
  have hbk : (blk xs).2 = 5 := by rw [hx]; rfl
  have hno : ∀ k : Nat, k < 24 → decide (ofL (k : Int) = xs) = false := fun k hk => decide_eq_false (fun h => by
    have h1 := blk_ofL (i := (k : Int)) (by omega) (by omega)
    rw [h] at h1
    rw [h1] at hbk
    simp at hbk)
  have HK := Lib.hid (And.intro hbk hno)
  clear hbk hno
  have hlen := hA.len
  rw [hx] at hlen
  obtain rfl : n = 0 := by simpa using hlen.symm
  clear hlen
  subst hik
  have i0 : (0 : Int) ≤ (kk : Int) := by omega
  have i1 : (kk : Int) ≤ 23 := by omega
  have hB : Below w.heap.size w w := Below.refl _ _
  go_enter Tryd.func3, Tryd.ntmps3
  go_wp2_with fail
  with_reducible refine (ways_any _).mono ?_
  rintro e w1x ⟨⟨C, c', rs, rfl, hR, hdat⟩, k1⟩
  have hB := hB.trans (k1.mono hB.size)
  have HDAT := Lib.hid hdat
  clear hdat
  obtain ⟨b, off, A1, n1, c1, rfl, hcell, hrow⟩ := way_row hR HDAT.out hkk
  have hkI : (kk : Int) < 24 := by omega
  go_wp2_with fail
  with_reducible refine (in_yes _ _ _ _ i0 i1).mono ?_
  rintro e w' ⟨rfl, rfl⟩
  go_wp2_with fail
  with_reducible refine (of_ok _ _ i0 i1).mono ?_
  rintro e wO ⟨A2, n2, rfl, hr2, kO⟩
  have hB := hB.trans (kO.mono hB.size)
  have hR := hR.below kO
  have hrow := hrow.below kO
  clear hcell
  go_wp2_with fail
  with_reducible refine (error_nil _ _).mono ?_
  rintro e w' ⟨rfl, rfl⟩
  go_wp2_with fail
  with_reducible refine (ints_bel _ _ _ _ _ _ _ _ _ hr2 hrow).mono ?_
  rintro e w2x ⟨rfl, k2⟩
  have hB := hB.trans (k2.mono hB.size)
  rw [show decide (ofL (kk : Int) = ofL (kk : Int)) = true from decide_eq_true rfl]
  have hR := hR.below k2
  clear hr2 hrow
  go_wp2
  go_loopw [8, 13, 14] (fun e a j wr => ∃ k : Nat, k ≤ 24 ∧ j = .int .i64 k ∧ e = .int .i64 3 ∧ a = .int .i64 0 ∧ Below w2x.heap.size w2x wr) (fun _ _ j _ => 24 - (intOf j).toNat)
  case atStart => exact ⟨0, by omega, rfl, rfl, rfl, Below.refl _ _⟩
  case round =>
    obtain ⟨k, hk, rfl, rfl, rfl, hbel⟩ := hrel
    by_cases hlt : k < 24
    · have hkI2 : (k : Int) < 24 := by omega
      have hRr := hR.below hbel
      obtain ⟨b', off', A1', n1', c1', hCe, hcell, hrow⟩ := way_row hRr HDAT.out hlt
      have hAr := hA.below (hB.trans (hbel.mono hB.size))
      injection hCe with hCe
      injection hCe with q1 q2
      subst q1; subst q2
      go_wp2_with fail
      with_reducible refine (ints_bel _ _ _ _ _ _ _ _ _ hrow hAr).mono ?_
      rintro e w9 ⟨rfl, k9⟩
      rw [HK.out.2 k hlt]
      have hb9 := hbel.trans (k9.mono hbel.size)
      go_wp2
      go_roundw
      case rel => exact ⟨k + 1, by omega, by go_num, rfl, rfl, hb9⟩
      case measure => simp [intOf]; omega
    · skip
      obtain rfl : k = 24 := by omega
      have hB := hB.trans (hbel.mono hB.size)
      rw [show ((24 : Nat) : Int) = 24 from rfl]
      have hAx := hA.below hB
      go_wp2_with fail
      with_reducible refine (block_e _ _ _ xs _ hAx hc 5 HK.out.1 (by decide)).mono ?_
      rintro e w3x ⟨rfl, k3⟩
      have hB := hB.trans (k3.mono hB.size)
      go_wp2_with fail
      with_reducible refine (error_err 5 5 _ (HE.out.below hB)).mono ?_
      rintro e w4x ⟨rfl, k4⟩
      have hB := hB.trans (k4.mono hB.size)
      by_cases hb : bl < 0 ∨ 24 < bl
      · skip
        go_wp2_with fail
        with_reducible refine (in_no _ _ _ _ hb).mono ?_
        rintro e w' ⟨rfl, rfl⟩
        go_wp2_with fail
        with_reducible refine (tables_bad _ _ hb).mono ?_
        rintro e w' ⟨rfl, rfl⟩
        go_wp2_with fail
        with_reducible refine (error_err 1 1 _ (HE.out.below hB)).mono ?_
        rintro e w5x ⟨rfl, k5⟩
        have hB := hB.trans (k5.mono hB.size)
        go_wp2
        go_ret
        exact ⟨rfl, hB⟩
      · have b0 : 0 ≤ bl := by omega
        have b1 : bl ≤ 24 := by omega
        by_cases h4 : 4 < bl
        · by_cases h8 : 8 < bl
          · skip
            have ht : tabN bl = 2 + (bl - 5) / 4 := by unfold tabN; rw [if_neg (by omega), if_neg (by omega)]
            have hq0 : 0 ≤ (bl - 5) / 4 ∧ (bl - 5) / 4 ≤ 100 := by omega
            obtain ⟨hq1, hq2⟩ := hq0
            have HT := Lib.hid ht
            clear ht
            go_wp2_with fail
            with_reducible refine (in_yes _ _ _ _ b0 b1).mono ?_
            rintro e w' ⟨rfl, rfl⟩
            go_wp2_with fail
            with_reducible refine (tables_ok _ _ b0 b1).mono ?_
            rintro e w' ⟨rfl, rfl⟩
            rw [HT.out]
            go_wp2_with fail
            with_reducible refine (error_nil _ _).mono ?_
            rintro e w' ⟨rfl, rfl⟩
            go_wp2
            go_ret
            exact ⟨rfl, hB⟩
          · skip
            have hd8 : decide (8 < bl) = false := decide_eq_false h8
            have ht : tabN bl = 1 := by unfold tabN; rw [if_neg (by omega), if_pos (by omega)]
            have HT := Lib.hid ht
            clear ht
            go_wp2_with fail
            with_reducible refine (in_yes _ _ _ _ b0 b1).mono ?_
            rintro e w' ⟨rfl, rfl⟩
            go_wp2_with fail
            with_reducible refine (tables_ok _ _ b0 b1).mono ?_
            rintro e w' ⟨rfl, rfl⟩
            rw [HT.out]
            go_wp2_with fail
            with_reducible refine (error_nil _ _).mono ?_
            rintro e w' ⟨rfl, rfl⟩
            go_wp2
            go_ret
            exact ⟨rfl, hB⟩
        · skip
          have hd4 : decide (4 < bl) = false := decide_eq_false h4
          have hd8 : decide (8 < bl) = false := decide_eq_false (by omega)
          have ht : tabN bl = 0 := by unfold tabN; rw [if_pos (by omega)]
          have HT := Lib.hid ht
          clear ht
          go_wp2_with fail
          with_reducible refine (in_yes _ _ _ _ b0 b1).mono ?_
          rintro e w' ⟨rfl, rfl⟩
          go_wp2_with fail
          with_reducible refine (tables_ok _ _ b0 b1).mono ?_
          rintro e w' ⟨rfl, rfl⟩
          rw [HT.out]
          go_wp2_with fail
          with_reducible refine (error_nil _ _).mono ?_
          rintro e w' ⟨rfl, rfl⟩
          go_wp2
          go_ret
          exact ⟨rfl, hB⟩

set_option maxHeartbeats 8000000 in
set_option maxRecDepth 100000 in
theorem walk_in_top (w : World) (i : Int) (hi : -9223372036854775808 ≤ i ∧ i ≤ 9223372036854775807) (A : Option Addr) (n c : Nat) (xs : List Int) (hA : Rd w A n xs) (hc : n ≤ c) (bl : Int) (hbl : -9223372036854775808 ≤ bl ∧ bl ≤ 9223372036854775807) (hE : ErrT w) (kk : Nat) (hkk : kk < 24) (hik : i = kk) (t : Int) (ys : List Int) (hx : xs = t :: ys) (ht : t < 0 ∨ 5 < t) :
    Calls Tryd.prog 3 #[.int .i64 i, .slice A n c, .int .i64 bl] w fun e w' => e = .returned (.bool true) ∧ Below w.heap.size w w' := by
  have HE := Lib.hid hE
  clear hE
  have hbk : (blk xs).2 = 1 := by
    rw [hx]
    have h : ¬ (0 ≤ t ∧ t ≤ 5) := by omega
    simp only [blk, if_pos h]
  have hno : ∀ k : Nat, k < 24 → decide (ofL (k : Int) = xs) = false := fun k hk => decide_eq_false (fun h => by
    have h1 := blk_ofL (i := (k : Int)) (by omega) (by omega)
    rw [h] at h1
    rw [h1] at hbk
    simp at hbk)
  have HK := Lib.hid (And.intro hbk hno)
  clear hbk hno
  have hlen := hA.len
  have hn0 : 0 < n := by rw [← hlen, hx]; simp
  have hn0b : ((n : Int) == 0) = false := by simp; omega
  obtain ⟨b1, off1, rfl, hbl1, hcc1⟩ := hA.at_ hn0
  have hw0 := hcc1 0 hn0
  rw [Nat.add_zero, hx] at hw0
  change w.cell? ⟨b1, off1, none⟩ = some (.int .i64 t) at hw0
  have HW0 := Lib.hid hw0
  clear hcc1 hw0 hlen
  subst hik
  have i0 : (0 : Int) ≤ (kk : Int) := by omega
  have i1 : (kk : Int) ≤ 23 := by omega
  have hB : Below w.heap.size w w := Below.refl _ _
  go_enter Tryd.func3, Tryd.ntmps3
  go_wp2_with fail
  with_reducible refine (ways_any _).mono ?_
  rintro e w6x ⟨⟨C, c', rs, rfl, hR, hdat⟩, k6⟩
  have hB := hB.trans (k6.mono hB.size)
  have HDAT := Lib.hid hdat
  clear hdat
  obtain ⟨b, off, A1, n1, c1, rfl, hcell, hrow⟩ := way_row hR HDAT.out hkk
  have hkI : (kk : Int) < 24 := by omega
  go_wp2_with fail
  with_reducible refine (in_yes _ _ _ _ i0 i1).mono ?_
  rintro e w' ⟨rfl, rfl⟩
  go_wp2_with fail
  with_reducible refine (of_ok _ _ i0 i1).mono ?_
  rintro e wO ⟨A2, n2, rfl, hr2, kO⟩
  have hB := hB.trans (kO.mono hB.size)
  have hR := hR.below kO
  have hrow := hrow.below kO
  clear hcell
  go_wp2_with fail
  with_reducible refine (error_nil _ _).mono ?_
  rintro e w' ⟨rfl, rfl⟩
  go_wp2_with fail
  with_reducible refine (ints_bel _ _ _ _ _ _ _ _ _ hr2 hrow).mono ?_
  rintro e w7x ⟨rfl, k7⟩
  have hB := hB.trans (k7.mono hB.size)
  rw [show decide (ofL (kk : Int) = ofL (kk : Int)) = true from decide_eq_true rfl]
  have hR := hR.below k7
  clear hr2 hrow
  go_wp2
  go_loopw [8, 13, 14] (fun e a j wr => ∃ k : Nat, k ≤ 24 ∧ j = .int .i64 k ∧ e = .int .i64 3 ∧ a = .int .i64 0 ∧ Below w7x.heap.size w7x wr) (fun _ _ j _ => 24 - (intOf j).toNat)
  case atStart => exact ⟨0, by omega, rfl, rfl, rfl, Below.refl _ _⟩
  case round =>
    obtain ⟨k, hk, rfl, rfl, rfl, hbel⟩ := hrel
    by_cases hlt : k < 24
    · have hkI2 : (k : Int) < 24 := by omega
      have hRr := hR.below hbel
      obtain ⟨b', off', A1', n1', c1', hCe, hcell, hrow⟩ := way_row hRr HDAT.out hlt
      have hAr := hA.below (hB.trans (hbel.mono hB.size))
      injection hCe with hCe
      injection hCe with q1 q2
      subst q1; subst q2
      go_wp2_with fail
      with_reducible refine (ints_bel _ _ _ _ _ _ _ _ _ hrow hAr).mono ?_
      rintro e w9 ⟨rfl, k9⟩
      rw [HK.out.2 k hlt]
      have hb9 := hbel.trans (k9.mono hbel.size)
      go_wp2
      go_roundw
      case rel => exact ⟨k + 1, by omega, by go_num, rfl, rfl, hb9⟩
      case measure => simp [intOf]; omega
    · skip
      obtain rfl : k = 24 := by omega
      have hB := hB.trans (hbel.mono hB.size)
      rw [show ((24 : Nat) : Int) = 24 from rfl]
      have hAx := hA.below hB
      have hw0 := (hB.cell (p := ⟨b1, off1, none⟩) hbl1).trans HW0.out
      have hnI : (0 : Int) < (n : Int) := by omega
      go_wp2_with fail
      with_reducible refine (in_no _ _ _ _ ht).mono ?_
      rintro e w' ⟨rfl, rfl⟩
      go_wp2_with fail
      with_reducible refine (block_e _ _ _ xs _ hAx hc 1 HK.out.1 (by decide)).mono ?_
      rintro e w8x ⟨rfl, k8⟩
      have hB := hB.trans (k8.mono hB.size)
      go_wp2_with fail
      with_reducible refine (error_err 1 1 _ (HE.out.below hB)).mono ?_
      rintro e w9x ⟨rfl, k9⟩
      have hB := hB.trans (k9.mono hB.size)
      by_cases hb : bl < 0 ∨ 24 < bl
      · skip
        go_wp2_with fail
        with_reducible refine (in_no _ _ _ _ hb).mono ?_
        rintro e w' ⟨rfl, rfl⟩
        go_wp2_with fail
        with_reducible refine (tables_bad _ _ hb).mono ?_
        rintro e w' ⟨rfl, rfl⟩
        go_wp2_with fail
        with_reducible refine (error_err 1 1 _ (HE.out.below hB)).mono ?_
        rintro e w10x ⟨rfl, k10⟩
        have hB := hB.trans (k10.mono hB.size)
        go_wp2
        go_ret
        exact ⟨rfl, hB⟩
      · have b0 : 0 ≤ bl := by omega
        have b1 : bl ≤ 24 := by omega
        by_cases h4 : 4 < bl
        · by_cases h8 : 8 < bl
          · skip
            have ht : tabN bl = 2 + (bl - 5) / 4 := by unfold tabN; rw [if_neg (by omega), if_neg (by omega)]
            have hq0 : 0 ≤ (bl - 5) / 4 ∧ (bl - 5) / 4 ≤ 100 := by omega
            obtain ⟨hq1, hq2⟩ := hq0
            have HT := Lib.hid ht
            clear ht
            go_wp2_with fail
            with_reducible refine (in_yes _ _ _ _ b0 b1).mono ?_
            rintro e w' ⟨rfl, rfl⟩
            go_wp2_with fail
            with_reducible refine (tables_ok _ _ b0 b1).mono ?_
            rintro e w' ⟨rfl, rfl⟩
            rw [HT.out]
            go_wp2_with fail
            with_reducible refine (error_nil _ _).mono ?_
            rintro e w' ⟨rfl, rfl⟩
            go_wp2
            go_ret
            exact ⟨rfl, hB⟩
          · skip
            have hd8 : decide (8 < bl) = false := decide_eq_false h8
            have ht : tabN bl = 1 := by unfold tabN; rw [if_neg (by omega), if_pos (by omega)]
            have HT := Lib.hid ht
            clear ht
            go_wp2_with fail
            with_reducible refine (in_yes _ _ _ _ b0 b1).mono ?_
            rintro e w' ⟨rfl, rfl⟩
            go_wp2_with fail
            with_reducible refine (tables_ok _ _ b0 b1).mono ?_
            rintro e w' ⟨rfl, rfl⟩
            rw [HT.out]
            go_wp2_with fail
            with_reducible refine (error_nil _ _).mono ?_
            rintro e w' ⟨rfl, rfl⟩
            go_wp2
            go_ret
            exact ⟨rfl, hB⟩
        · skip
          have hd4 : decide (4 < bl) = false := decide_eq_false h4
          have hd8 : decide (8 < bl) = false := decide_eq_false (by omega)
          have ht : tabN bl = 0 := by unfold tabN; rw [if_pos (by omega)]
          have HT := Lib.hid ht
          clear ht
          go_wp2_with fail
          with_reducible refine (in_yes _ _ _ _ b0 b1).mono ?_
          rintro e w' ⟨rfl, rfl⟩
          go_wp2_with fail
          with_reducible refine (tables_ok _ _ b0 b1).mono ?_
          rintro e w' ⟨rfl, rfl⟩
          rw [HT.out]
          go_wp2_with fail
          with_reducible refine (error_nil _ _).mono ?_
          rintro e w' ⟨rfl, rfl⟩
          go_wp2
          go_ret
          exact ⟨rfl, hB⟩

set_option maxHeartbeats 8000000 in
set_option maxRecDepth 100000 in
theorem walk_in_rest (w : World) (i : Int) (hi : -9223372036854775808 ≤ i ∧ i ≤ 9223372036854775807) (A : Option Addr) (n c : Nat) (xs : List Int) (hA : Rd w A n xs) (hc : n ≤ c) (bl : Int) (hbl : -9223372036854775808 ≤ bl ∧ bl ≤ 9223372036854775807) (hE : ErrT w) (kk : Nat) (hkk : kk < 24) (hik : i = kk) (t : Int) (ys : List Int) (hx : xs = t :: ys) (ht0 : 0 ≤ t) (ht1 : t ≤ 5) (hall : allB ys 0 3 = false) :
    Calls Tryd.prog 3 #[.int .i64 i, .slice A n c, .int .i64 bl] w fun e w' => e = .returned (.bool true) ∧ Below w.heap.size w w' := by
  have HE := Lib.hid hE
  clear hE
  have hbk : (blk xs).2 = 1 := by
    rw [hx]
    simp only [blk, if_neg (show ¬ ¬ (0 ≤ t ∧ t ≤ 5) from fun h => h ⟨ht0, ht1⟩), if_pos hall]
  have hno : ∀ k : Nat, k < 24 → decide (ofL (k : Int) = xs) = false := fun k hk => decide_eq_false (fun h => by
    have h1 := blk_ofL (i := (k : Int)) (by omega) (by omega)
    rw [h] at h1
    rw [h1] at hbk
    simp at hbk)
  have HK := Lib.hid (And.intro hbk hno)
  clear hbk hno
  have hlen := hA.len
  have hn0 : 0 < n := by rw [← hlen, hx]; simp
  have hn0b : ((n : Int) == 0) = false := by simp; omega
  obtain ⟨b1, off1, rfl, hbl1, hcc1⟩ := hA.at_ hn0
  have hw0 := hcc1 0 hn0
  rw [Nat.add_zero, hx] at hw0
  change w.cell? ⟨b1, off1, none⟩ = some (.int .i64 t) at hw0
  have HW0 := Lib.hid hw0
  clear hcc1 hw0 hlen
  subst hik
  have i0 : (0 : Int) ≤ (kk : Int) := by omega
  have i1 : (kk : Int) ≤ 23 := by omega
  have hcut := cut1 (some ⟨b1, off1, none⟩) n c (by omega)
  have hRc := hA.cutA hc (show 1 ≤ n by omega)
  rw [hx, List.drop_one, List.tail_cons] at hRc
  obtain ⟨DD, hDD⟩ : ∃ DD, cutA (some ⟨b1, off1, none⟩) c 1 = DD := ⟨_, rfl⟩
  rw [hDD] at hcut hRc
  have HRC := Lib.hid hRc
  have HALL := Lib.hid hall
  clear hRc hDD hall
  have hB : Below w.heap.size w w := Below.refl _ _
  go_enter Tryd.func3, Tryd.ntmps3
  go_wp2_with fail
  with_reducible refine (ways_any _).mono ?_
  rintro e w11x ⟨⟨C, c', rs, rfl, hR, hdat⟩, k11⟩
  have hB := hB.trans (k11.mono hB.size)
  have HDAT := Lib.hid hdat
  clear hdat
  obtain ⟨b, off, A1, n1, c1, rfl, hcell, hrow⟩ := way_row hR HDAT.out hkk
  have hkI : (kk : Int) < 24 := by omega
  go_wp2_with fail
  with_reducible refine (in_yes _ _ _ _ i0 i1).mono ?_
  rintro e w' ⟨rfl, rfl⟩
  go_wp2_with fail
  with_reducible refine (of_ok _ _ i0 i1).mono ?_
  rintro e wO ⟨A2, n2, rfl, hr2, kO⟩
  have hB := hB.trans (kO.mono hB.size)
  have hR := hR.below kO
  have hrow := hrow.below kO
  clear hcell
  go_wp2_with fail
  with_reducible refine (error_nil _ _).mono ?_
  rintro e w' ⟨rfl, rfl⟩
  go_wp2_with fail
  with_reducible refine (ints_bel _ _ _ _ _ _ _ _ _ hr2 hrow).mono ?_
  rintro e w12x ⟨rfl, k12⟩
  have hB := hB.trans (k12.mono hB.size)
  rw [show decide (ofL (kk : Int) = ofL (kk : Int)) = true from decide_eq_true rfl]
  have hR := hR.below k12
  clear hr2 hrow
  go_wp2
  go_loopw [8, 13, 14] (fun e a j wr => ∃ k : Nat, k ≤ 24 ∧ j = .int .i64 k ∧ e = .int .i64 3 ∧ a = .int .i64 0 ∧ Below w12x.heap.size w12x wr) (fun _ _ j _ => 24 - (intOf j).toNat)
  case atStart => exact ⟨0, by omega, rfl, rfl, rfl, Below.refl _ _⟩
  case round =>
    obtain ⟨k, hk, rfl, rfl, rfl, hbel⟩ := hrel
    by_cases hlt : k < 24
    · have hkI2 : (k : Int) < 24 := by omega
      have hRr := hR.below hbel
      obtain ⟨b', off', A1', n1', c1', hCe, hcell, hrow⟩ := way_row hRr HDAT.out hlt
      have hAr := hA.below (hB.trans (hbel.mono hB.size))
      injection hCe with hCe
      injection hCe with q1 q2
      subst q1; subst q2
      go_wp2_with fail
      with_reducible refine (ints_bel _ _ _ _ _ _ _ _ _ hrow hAr).mono ?_
      rintro e w9 ⟨rfl, k9⟩
      rw [HK.out.2 k hlt]
      have hb9 := hbel.trans (k9.mono hbel.size)
      go_wp2
      go_roundw
      case rel => exact ⟨k + 1, by omega, by go_num, rfl, rfl, hb9⟩
      case measure => simp [intOf]; omega
    · skip
      obtain rfl : k = 24 := by omega
      have hB := hB.trans (hbel.mono hB.size)
      rw [show ((24 : Nat) : Int) = 24 from rfl]
      have hAx := hA.below hB
      have hw0 := (hB.cell (p := ⟨b1, off1, none⟩) hbl1).trans HW0.out
      have hnI : (0 : Int) < (n : Int) := by omega
      have hRx := HRC.out.below hB
      go_wp2_with fail
      with_reducible refine (in_yes _ _ _ _ ht0 ht1).mono ?_
      rintro e w' ⟨rfl, rfl⟩
      go_wp2_with fail
      with_reducible refine (rall_any _ _ _ _ _ ys _ hRx).mono ?_
      rintro e w' ⟨rfl, rfl⟩
      rw [HALL.out]
      go_wp2_with fail
      with_reducible refine (block_e _ _ _ xs _ hAx hc 1 HK.out.1 (by decide)).mono ?_
      rintro e w13x ⟨rfl, k13⟩
      have hB := hB.trans (k13.mono hB.size)
      go_wp2_with fail
      with_reducible refine (error_err 1 1 _ (HE.out.below hB)).mono ?_
      rintro e w14x ⟨rfl, k14⟩
      have hB := hB.trans (k14.mono hB.size)
      by_cases hb : bl < 0 ∨ 24 < bl
      · skip
        go_wp2_with fail
        with_reducible refine (in_no _ _ _ _ hb).mono ?_
        rintro e w' ⟨rfl, rfl⟩
        go_wp2_with fail
        with_reducible refine (tables_bad _ _ hb).mono ?_
        rintro e w' ⟨rfl, rfl⟩
        go_wp2_with fail
        with_reducible refine (error_err 1 1 _ (HE.out.below hB)).mono ?_
        rintro e w15x ⟨rfl, k15⟩
        have hB := hB.trans (k15.mono hB.size)
        go_wp2
        go_ret
        exact ⟨rfl, hB⟩
      · have b0 : 0 ≤ bl := by omega
        have b1 : bl ≤ 24 := by omega
        by_cases h4 : 4 < bl
        · by_cases h8 : 8 < bl
          · skip
            have ht : tabN bl = 2 + (bl - 5) / 4 := by unfold tabN; rw [if_neg (by omega), if_neg (by omega)]
            have hq0 : 0 ≤ (bl - 5) / 4 ∧ (bl - 5) / 4 ≤ 100 := by omega
            obtain ⟨hq1, hq2⟩ := hq0
            have HT := Lib.hid ht
            clear ht
            go_wp2_with fail
            with_reducible refine (in_yes _ _ _ _ b0 b1).mono ?_
            rintro e w' ⟨rfl, rfl⟩
            go_wp2_with fail
            with_reducible refine (tables_ok _ _ b0 b1).mono ?_
            rintro e w' ⟨rfl, rfl⟩
            rw [HT.out]
            go_wp2_with fail
            with_reducible refine (error_nil _ _).mono ?_
            rintro e w' ⟨rfl, rfl⟩
            go_wp2
            go_ret
            exact ⟨rfl, hB⟩
          · skip
            have hd8 : decide (8 < bl) = false := decide_eq_false h8
            have ht : tabN bl = 1 := by unfold tabN; rw [if_neg (by omega), if_pos (by omega)]
            have HT := Lib.hid ht
            clear ht
            go_wp2_with fail
            with_reducible refine (in_yes _ _ _ _ b0 b1).mono ?_
            rintro e w' ⟨rfl, rfl⟩
            go_wp2_with fail
            with_reducible refine (tables_ok _ _ b0 b1).mono ?_
            rintro e w' ⟨rfl, rfl⟩
            rw [HT.out]
            go_wp2_with fail
            with_reducible refine (error_nil _ _).mono ?_
            rintro e w' ⟨rfl, rfl⟩
            go_wp2
            go_ret
            exact ⟨rfl, hB⟩
        · skip
          have hd4 : decide (4 < bl) = false := decide_eq_false h4
          have hd8 : decide (8 < bl) = false := decide_eq_false (by omega)
          have ht : tabN bl = 0 := by unfold tabN; rw [if_pos (by omega)]
          have HT := Lib.hid ht
          clear ht
          go_wp2_with fail
          with_reducible refine (in_yes _ _ _ _ b0 b1).mono ?_
          rintro e w' ⟨rfl, rfl⟩
          go_wp2_with fail
          with_reducible refine (tables_ok _ _ b0 b1).mono ?_
          rintro e w' ⟨rfl, rfl⟩
          rw [HT.out]
          go_wp2_with fail
          with_reducible refine (error_nil _ _).mono ?_
          rintro e w' ⟨rfl, rfl⟩
          go_wp2
          go_ret
          exact ⟨rfl, hB⟩

set_option maxHeartbeats 8000000 in
set_option maxRecDepth 100000 in
theorem walk_in_shape (w : World) (i : Int) (hi : -9223372036854775808 ≤ i ∧ i ≤ 9223372036854775807) (A : Option Addr) (n c : Nat) (xs : List Int) (hA : Rd w A n xs) (hc : n ≤ c) (bl : Int) (hbl : -9223372036854775808 ≤ bl ∧ bl ≤ 9223372036854775807) (hE : ErrT w) (kk : Nat) (hkk : kk < 24) (hik : i = kk) (t : Int) (ys : List Int) (hx : xs = t :: ys) (ht0 : 0 ≤ t) (ht1 : t ≤ 5) (hall : allB ys 0 3 = true) (hbk : (blk xs).2 = 3) :
    Calls Tryd.prog 3 #[.int .i64 i, .slice A n c, .int .i64 bl] w fun e w' => e = .returned (.bool true) ∧ Below w.heap.size w w' := by
  have HE := Lib.hid hE
  clear hE
  have hno : ∀ k : Nat, k < 24 → decide (ofL (k : Int) = xs) = false := fun k hk => decide_eq_false (fun h => by
    have h1 := blk_ofL (i := (k : Int)) (by omega) (by omega)
    rw [h] at h1
    rw [h1] at hbk
    simp at hbk)
  have HK := Lib.hid (And.intro hbk hno)
  clear hbk hno
  have hlen := hA.len
  have hn0 : 0 < n := by rw [← hlen, hx]; simp
  have hn0b : ((n : Int) == 0) = false := by simp; omega
  obtain ⟨b1, off1, rfl, hbl1, hcc1⟩ := hA.at_ hn0
  have hw0 := hcc1 0 hn0
  rw [Nat.add_zero, hx] at hw0
  change w.cell? ⟨b1, off1, none⟩ = some (.int .i64 t) at hw0
  have HW0 := Lib.hid hw0
  clear hcc1 hw0 hlen
  subst hik
  have i0 : (0 : Int) ≤ (kk : Int) := by omega
  have i1 : (kk : Int) ≤ 23 := by omega
  have hcut := cut1 (some ⟨b1, off1, none⟩) n c (by omega)
  have hRc := hA.cutA hc (show 1 ≤ n by omega)
  rw [hx, List.drop_one, List.tail_cons] at hRc
  obtain ⟨DD, hDD⟩ : ∃ DD, cutA (some ⟨b1, off1, none⟩) c 1 = DD := ⟨_, rfl⟩
  rw [hDD] at hcut hRc
  have HRC := Lib.hid hRc
  have HALL := Lib.hid hall
  clear hRc hDD hall
  have hB : Below w.heap.size w w := Below.refl _ _
  go_enter Tryd.func3, Tryd.ntmps3
  go_wp2_with fail
  with_reducible refine (ways_any _).mono ?_
  rintro e w16x ⟨⟨C, c', rs, rfl, hR, hdat⟩, k16⟩
  have hB := hB.trans (k16.mono hB.size)
  have HDAT := Lib.hid hdat
  clear hdat
  obtain ⟨b, off, A1, n1, c1, rfl, hcell, hrow⟩ := way_row hR HDAT.out hkk
  have hkI : (kk : Int) < 24 := by omega
  go_wp2_with fail
  with_reducible refine (in_yes _ _ _ _ i0 i1).mono ?_
  rintro e w' ⟨rfl, rfl⟩
  go_wp2_with fail
  with_reducible refine (of_ok _ _ i0 i1).mono ?_
  rintro e wO ⟨A2, n2, rfl, hr2, kO⟩
  have hB := hB.trans (kO.mono hB.size)
  have hR := hR.below kO
  have hrow := hrow.below kO
  clear hcell
  go_wp2_with fail
  with_reducible refine (error_nil _ _).mono ?_
  rintro e w' ⟨rfl, rfl⟩
  go_wp2_with fail
  with_reducible refine (ints_bel _ _ _ _ _ _ _ _ _ hr2 hrow).mono ?_
  rintro e w17x ⟨rfl, k17⟩
  have hB := hB.trans (k17.mono hB.size)
  rw [show decide (ofL (kk : Int) = ofL (kk : Int)) = true from decide_eq_true rfl]
  have hR := hR.below k17
  clear hr2 hrow
  go_wp2
  go_loopw [8, 13, 14] (fun e a j wr => ∃ k : Nat, k ≤ 24 ∧ j = .int .i64 k ∧ e = .int .i64 3 ∧ a = .int .i64 0 ∧ Below w17x.heap.size w17x wr) (fun _ _ j _ => 24 - (intOf j).toNat)
  case atStart => exact ⟨0, by omega, rfl, rfl, rfl, Below.refl _ _⟩
  case round =>
    obtain ⟨k, hk, rfl, rfl, rfl, hbel⟩ := hrel
    by_cases hlt : k < 24
    · have hkI2 : (k : Int) < 24 := by omega
      have hRr := hR.below hbel
      obtain ⟨b', off', A1', n1', c1', hCe, hcell, hrow⟩ := way_row hRr HDAT.out hlt
      have hAr := hA.below (hB.trans (hbel.mono hB.size))
      injection hCe with hCe
      injection hCe with q1 q2
      subst q1; subst q2
      go_wp2_with fail
      with_reducible refine (ints_bel _ _ _ _ _ _ _ _ _ hrow hAr).mono ?_
      rintro e w9 ⟨rfl, k9⟩
      rw [HK.out.2 k hlt]
      have hb9 := hbel.trans (k9.mono hbel.size)
      go_wp2
      go_roundw
      case rel => exact ⟨k + 1, by omega, by go_num, rfl, rfl, hb9⟩
      case measure => simp [intOf]; omega
    · skip
      obtain rfl : k = 24 := by omega
      have hB := hB.trans (hbel.mono hB.size)
      rw [show ((24 : Nat) : Int) = 24 from rfl]
      have hAx := hA.below hB
      have hw0 := (hB.cell (p := ⟨b1, off1, none⟩) hbl1).trans HW0.out
      have hnI : (0 : Int) < (n : Int) := by omega
      have hRx := HRC.out.below hB
      go_wp2_with fail
      with_reducible refine (in_yes _ _ _ _ ht0 ht1).mono ?_
      rintro e w' ⟨rfl, rfl⟩
      go_wp2_with fail
      with_reducible refine (rall_any _ _ _ _ _ ys _ hRx).mono ?_
      rintro e w' ⟨rfl, rfl⟩
      rw [HALL.out]
      go_wp2_with fail
      with_reducible refine (block_e _ _ _ xs _ hAx hc 3 HK.out.1 (by decide)).mono ?_
      rintro e w18x ⟨rfl, k18⟩
      have hB := hB.trans (k18.mono hB.size)
      go_wp2_with fail
      with_reducible refine (error_err 3 3 _ (HE.out.below hB)).mono ?_
      rintro e w19x ⟨rfl, k19⟩
      have hB := hB.trans (k19.mono hB.size)
      by_cases hb : bl < 0 ∨ 24 < bl
      · skip
        go_wp2_with fail
        with_reducible refine (in_no _ _ _ _ hb).mono ?_
        rintro e w' ⟨rfl, rfl⟩
        go_wp2_with fail
        with_reducible refine (tables_bad _ _ hb).mono ?_
        rintro e w' ⟨rfl, rfl⟩
        go_wp2_with fail
        with_reducible refine (error_err 1 1 _ (HE.out.below hB)).mono ?_
        rintro e w20x ⟨rfl, k20⟩
        have hB := hB.trans (k20.mono hB.size)
        go_wp2
        go_ret
        exact ⟨rfl, hB⟩
      · have b0 : 0 ≤ bl := by omega
        have b1 : bl ≤ 24 := by omega
        by_cases h4 : 4 < bl
        · by_cases h8 : 8 < bl
          · skip
            have ht : tabN bl = 2 + (bl - 5) / 4 := by unfold tabN; rw [if_neg (by omega), if_neg (by omega)]
            have hq0 : 0 ≤ (bl - 5) / 4 ∧ (bl - 5) / 4 ≤ 100 := by omega
            obtain ⟨hq1, hq2⟩ := hq0
            have HT := Lib.hid ht
            clear ht
            go_wp2_with fail
            with_reducible refine (in_yes _ _ _ _ b0 b1).mono ?_
            rintro e w' ⟨rfl, rfl⟩
            go_wp2_with fail
            with_reducible refine (tables_ok _ _ b0 b1).mono ?_
            rintro e w' ⟨rfl, rfl⟩
            rw [HT.out]
            go_wp2_with fail
            with_reducible refine (error_nil _ _).mono ?_
            rintro e w' ⟨rfl, rfl⟩
            go_wp2
            go_ret
            exact ⟨rfl, hB⟩
          · skip
            have hd8 : decide (8 < bl) = false := decide_eq_false h8
            have ht : tabN bl = 1 := by unfold tabN; rw [if_neg (by omega), if_pos (by omega)]
            have HT := Lib.hid ht
            clear ht
            go_wp2_with fail
            with_reducible refine (in_yes _ _ _ _ b0 b1).mono ?_
            rintro e w' ⟨rfl, rfl⟩
            go_wp2_with fail
            with_reducible refine (tables_ok _ _ b0 b1).mono ?_
            rintro e w' ⟨rfl, rfl⟩
            rw [HT.out]
            go_wp2_with fail
            with_reducible refine (error_nil _ _).mono ?_
            rintro e w' ⟨rfl, rfl⟩
            go_wp2
            go_ret
            exact ⟨rfl, hB⟩
        · skip
          have hd4 : decide (4 < bl) = false := decide_eq_false h4
          have hd8 : decide (8 < bl) = false := decide_eq_false (by omega)
          have ht : tabN bl = 0 := by unfold tabN; rw [if_pos (by omega)]
          have HT := Lib.hid ht
          clear ht
          go_wp2_with fail
          with_reducible refine (in_yes _ _ _ _ b0 b1).mono ?_
          rintro e w' ⟨rfl, rfl⟩
          go_wp2_with fail
          with_reducible refine (tables_ok _ _ b0 b1).mono ?_
          rintro e w' ⟨rfl, rfl⟩
          rw [HT.out]
          go_wp2_with fail
          with_reducible refine (error_nil _ _).mono ?_
          rintro e w' ⟨rfl, rfl⟩
          go_wp2
          go_ret
          exact ⟨rfl, hB⟩

set_option maxHeartbeats 8000000 in
set_option maxRecDepth 100000 in
theorem walk_in_good (w : World) (i : Int) (hi : -9223372036854775808 ≤ i ∧ i ≤ 9223372036854775807) (A : Option Addr) (n c : Nat) (xs : List Int) (hA : Rd w A n xs) (hc : n ≤ c) (bl : Int) (hbl : -9223372036854775808 ≤ bl ∧ bl ≤ 9223372036854775807) (hE : ErrT w) (kk : Nat) (hkk : kk < 24) (hik : i = kk) (t : Int) (ys : List Int) (hx : xs = t :: ys) (ht0 : 0 ≤ t) (ht1 : t ≤ 5) (hall : allB ys 0 3 = true) (V : Int) (hbk : blk xs = (V, 0)) :
    Calls Tryd.prog 3 #[.int .i64 i, .slice A n c, .int .i64 bl] w fun e w' => e = .returned (.bool true) ∧ Below w.heap.size w w' := by
  have HE := Lib.hid hE
  clear hE
  obtain ⟨v0, v1, hov⟩ := ofL_blk hbk
  obtain ⟨VN, hVN⟩ : ∃ VN : Nat, V = VN := ⟨V.toNat, by omega⟩
  subst hVN
  have hyes : decide (ofL (VN : Int) = xs) = true := decide_eq_true hov
  have hno : ∀ k : Nat, k < 24 → k ≠ VN → decide (ofL (k : Int) = xs) = false := fun k hk hne => decide_eq_false (fun h => by
    have h1 := blk_ofL (i := (k : Int)) (by omega) (by omega)
    rw [h, hbk] at h1
    injection h1 with h1 _
    omega)
  have HK := Lib.hid (And.intro hbk (And.intro hyes hno))
  clear hbk hyes hno hov
  have hlen := hA.len
  have hn0 : 0 < n := by rw [← hlen, hx]; simp
  have hn0b : ((n : Int) == 0) = false := by simp; omega
  obtain ⟨b1, off1, rfl, hbl1, hcc1⟩ := hA.at_ hn0
  have hw0 := hcc1 0 hn0
  rw [Nat.add_zero, hx] at hw0
  change w.cell? ⟨b1, off1, none⟩ = some (.int .i64 t) at hw0
  have HW0 := Lib.hid hw0
  clear hcc1 hw0 hlen
  subst hik
  have i0 : (0 : Int) ≤ (kk : Int) := by omega
  have i1 : (kk : Int) ≤ 23 := by omega
  have hcut := cut1 (some ⟨b1, off1, none⟩) n c (by omega)
  have hRc := hA.cutA hc (show 1 ≤ n by omega)
  rw [hx, List.drop_one, List.tail_cons] at hRc
  obtain ⟨DD, hDD⟩ : ∃ DD, cutA (some ⟨b1, off1, none⟩) c 1 = DD := ⟨_, rfl⟩
  rw [hDD] at hcut hRc
  have HRC := Lib.hid hRc
  have HALL := Lib.hid hall
  clear hRc hDD hall
  have hB : Below w.heap.size w w := Below.refl _ _
  go_enter Tryd.func3, Tryd.ntmps3
  go_wp2_with fail
  with_reducible refine (ways_any _).mono ?_
  rintro e w21x ⟨⟨C, c', rs, rfl, hR, hdat⟩, k21⟩
  have hB := hB.trans (k21.mono hB.size)
  have HDAT := Lib.hid hdat
  clear hdat
  obtain ⟨b, off, A1, n1, c1, rfl, hcell, hrow⟩ := way_row hR HDAT.out hkk
  have hkI : (kk : Int) < 24 := by omega
  go_wp2_with fail
  with_reducible refine (in_yes _ _ _ _ i0 i1).mono ?_
  rintro e w' ⟨rfl, rfl⟩
  go_wp2_with fail
  with_reducible refine (of_ok _ _ i0 i1).mono ?_
  rintro e wO ⟨A2, n2, rfl, hr2, kO⟩
  have hB := hB.trans (kO.mono hB.size)
  have hR := hR.below kO
  have hrow := hrow.below kO
  clear hcell
  go_wp2_with fail
  with_reducible refine (error_nil _ _).mono ?_
  rintro e w' ⟨rfl, rfl⟩
  go_wp2_with fail
  with_reducible refine (ints_bel _ _ _ _ _ _ _ _ _ hr2 hrow).mono ?_
  rintro e w22x ⟨rfl, k22⟩
  have hB := hB.trans (k22.mono hB.size)
  rw [show decide (ofL (kk : Int) = ofL (kk : Int)) = true from decide_eq_true rfl]
  have hR := hR.below k22
  clear hr2 hrow
  go_wp2
  go_loopw [8, 13, 14] (fun e a j wr => ∃ (k : Nat) (E AT : Int), k ≤ 24 ∧ j = .int .i64 k ∧ e = .int .i64 E ∧ a = .int .i64 AT ∧ ((VN < k ∧ E = 0 ∧ AT = VN) ∨ (¬ VN < k ∧ E = 3 ∧ AT = 0)) ∧ Below w22x.heap.size w22x wr) (fun _ _ j _ => 24 - (intOf j).toNat)
  case atStart => exact ⟨0, 3, 0, by omega, rfl, rfl, rfl, .inr ⟨by omega, rfl, rfl⟩, Below.refl _ _⟩
  case round =>
    obtain ⟨k, E, AT, hk, rfl, rfl, rfl, hcase, hbel⟩ := hrel
    by_cases hlt : k < 24
    · have hkI2 : (k : Int) < 24 := by omega
      have hRr := hR.below hbel
      obtain ⟨b', off', A1', n1', c1', hCe, hcell, hrow⟩ := way_row hRr HDAT.out hlt
      have hAr := hA.below (hB.trans (hbel.mono hB.size))
      injection hCe with hCe
      injection hCe with q1 q2
      subst q1; subst q2
      have HC := Lib.hid hcase
      clear hcase
      by_cases hkv : k = VN
      · subst hkv
        go_wp2_with fail
        with_reducible refine (ints_bel _ _ _ _ _ _ _ _ _ hrow hAr).mono ?_
        rintro e w9 ⟨rfl, k9⟩
        rw [HK.out.2.1]
        have hb9 := hbel.trans (k9.mono hbel.size)
        go_wp2
        go_roundw
        case rel => exact ⟨k + 1, 0, k, by omega, by go_num, rfl, rfl, .inl ⟨by omega, rfl, rfl⟩, hb9⟩
        case measure => simp [intOf]; omega
      · have hkv2 := HK.out.2.2 k hlt hkv
        have HKV := Lib.hid hkv2
        clear hkv2
        go_wp2_with fail
        with_reducible refine (ints_bel _ _ _ _ _ _ _ _ _ hrow hAr).mono ?_
        rintro e w9 ⟨rfl, k9⟩
        rw [HKV.out]
        have hb9 := hbel.trans (k9.mono hbel.size)
        go_wp2
        go_roundw
        case rel => exact ⟨k + 1, E, AT, by omega, by go_num, rfl, rfl, by have := HC.out; omega, hb9⟩
        case measure => simp [intOf]; omega
    · skip
      obtain rfl : k = 24 := by omega
      have hB := hB.trans (hbel.mono hB.size)
      rw [show ((24 : Nat) : Int) = 24 from rfl]
      obtain ⟨rfl, rfl⟩ : E = 0 ∧ AT = VN := by omega
      have hVV : ((VN : Int) == (VN : Int)) = true := by simp
      clear hcase
      have hAx := hA.below hB
      have hw0 := (hB.cell (p := ⟨b1, off1, none⟩) hbl1).trans HW0.out
      have hnI : (0 : Int) < (n : Int) := by omega
      have hRx := HRC.out.below hB
      go_wp2_with fail
      with_reducible refine (in_yes _ _ _ _ ht0 ht1).mono ?_
      rintro e w' ⟨rfl, rfl⟩
      go_wp2_with fail
      with_reducible refine (rall_any _ _ _ _ _ ys _ hRx).mono ?_
      rintro e w' ⟨rfl, rfl⟩
      rw [HALL.out]
      go_wp2_with fail
      with_reducible refine (block_g _ _ _ xs _ hAx hc _ HK.out.1).mono ?_
      rintro e w23x ⟨rfl, k23⟩
      have hB := hB.trans (k23.mono hB.size)
      go_wp2_with fail
      with_reducible refine (error_nil _ _).mono ?_
      rintro e w' ⟨rfl, rfl⟩
      by_cases hb : bl < 0 ∨ 24 < bl
      · skip
        go_wp2_with fail
        with_reducible refine (in_no _ _ _ _ hb).mono ?_
        rintro e w' ⟨rfl, rfl⟩
        go_wp2_with fail
        with_reducible refine (tables_bad _ _ hb).mono ?_
        rintro e w' ⟨rfl, rfl⟩
        go_wp2_with fail
        with_reducible refine (error_err 1 1 _ (HE.out.below hB)).mono ?_
        rintro e w24x ⟨rfl, k24⟩
        have hB := hB.trans (k24.mono hB.size)
        go_wp2
        go_ret
        exact ⟨rfl, hB⟩
      · have b0 : 0 ≤ bl := by omega
        have b1 : bl ≤ 24 := by omega
        by_cases h4 : 4 < bl
        · by_cases h8 : 8 < bl
          · skip
            have ht : tabN bl = 2 + (bl - 5) / 4 := by unfold tabN; rw [if_neg (by omega), if_neg (by omega)]
            have hq0 : 0 ≤ (bl - 5) / 4 ∧ (bl - 5) / 4 ≤ 100 := by omega
            obtain ⟨hq1, hq2⟩ := hq0
            have HT := Lib.hid ht
            clear ht
            go_wp2_with fail
            with_reducible refine (in_yes _ _ _ _ b0 b1).mono ?_
            rintro e w' ⟨rfl, rfl⟩
            go_wp2_with fail
            with_reducible refine (tables_ok _ _ b0 b1).mono ?_
            rintro e w' ⟨rfl, rfl⟩
            rw [HT.out]
            go_wp2_with fail
            with_reducible refine (error_nil _ _).mono ?_
            rintro e w' ⟨rfl, rfl⟩
            go_wp2
            go_ret
            exact ⟨rfl, hB⟩
          · skip
            have hd8 : decide (8 < bl) = false := decide_eq_false h8
            have ht : tabN bl = 1 := by unfold tabN; rw [if_neg (by omega), if_pos (by omega)]
            have HT := Lib.hid ht
            clear ht
            go_wp2_with fail
            with_reducible refine (in_yes _ _ _ _ b0 b1).mono ?_
            rintro e w' ⟨rfl, rfl⟩
            go_wp2_with fail
            with_reducible refine (tables_ok _ _ b0 b1).mono ?_
            rintro e w' ⟨rfl, rfl⟩
            rw [HT.out]
            go_wp2_with fail
            with_reducible refine (error_nil _ _).mono ?_
            rintro e w' ⟨rfl, rfl⟩
            go_wp2
            go_ret
            exact ⟨rfl, hB⟩
        · skip
          have hd4 : decide (4 < bl) = false := decide_eq_false h4
          have hd8 : decide (8 < bl) = false := decide_eq_false (by omega)
          have ht : tabN bl = 0 := by unfold tabN; rw [if_pos (by omega)]
          have HT := Lib.hid ht
          clear ht
          go_wp2_with fail
          with_reducible refine (in_yes _ _ _ _ b0 b1).mono ?_
          rintro e w' ⟨rfl, rfl⟩
          go_wp2_with fail
          with_reducible refine (tables_ok _ _ b0 b1).mono ?_
          rintro e w' ⟨rfl, rfl⟩
          rw [HT.out]
          go_wp2_with fail
          with_reducible refine (error_nil _ _).mono ?_
          rintro e w' ⟨rfl, rfl⟩
          go_wp2
          go_ret
          exact ⟨rfl, hB⟩

set_option maxHeartbeats 8000000 in
set_option maxRecDepth 100000 in
theorem walk_out_nil (w : World) (i : Int) (hi : -9223372036854775808 ≤ i ∧ i ≤ 9223372036854775807) (A : Option Addr) (n c : Nat) (xs : List Int) (hA : Rd w A n xs) (hc : n ≤ c) (bl : Int) (hbl : -9223372036854775808 ≤ bl ∧ bl ≤ 9223372036854775807) (hE : ErrT w) (hout : i < 0 ∨ 23 < i) (hx : xs = []) :
    Calls Tryd.prog 3 #[.int .i64 i, .slice A n c, .int .i64 bl] w fun e w' => e = .returned (.bool true) ∧ Below w.heap.size w w' := by
  have HE := Lib.hid hE
  clear hE
  have hbk : (blk xs).2 = 5 := by rw [hx]; rfl
  have hno : ∀ k : Nat, k < 24 → decide (ofL (k : Int) = xs) = false := fun k hk => decide_eq_false (fun h => by
    have h1 := blk_ofL (i := (k : Int)) (by omega) (by omega)
    rw [h] at h1
    rw [h1] at hbk
    simp at hbk)
  have HK := Lib.hid (And.intro hbk hno)
  clear hbk hno
  have hlen := hA.len
  rw [hx] at hlen
  obtain rfl : n = 0 := by simpa using hlen.symm
  clear hlen
  have hB : Below w.heap.size w w := Below.refl _ _
  go_enter Tryd.func3, Tryd.ntmps3
  go_wp2_with fail
  with_reducible refine (ways_any _).mono ?_
  rintro e w25x ⟨⟨C, c', rs, rfl, hR, hdat⟩, k25⟩
  have hB := hB.trans (k25.mono hB.size)
  have HDAT := Lib.hid hdat
  clear hdat
  go_wp2_with fail
  with_reducible refine (in_no _ _ _ _ hout).mono ?_
  rintro e w' ⟨rfl, rfl⟩
  go_wp2_with fail
  with_reducible refine (of_bad _ _ hout).mono ?_
  rintro e w' ⟨rfl, rfl⟩
  go_wp2_with fail
  with_reducible refine (error_err 1 1 _ (HE.out.below hB)).mono ?_
  rintro e w26x ⟨rfl, k26⟩
  have hB := hB.trans (k26.mono hB.size)
  have hR := hR.below k26
  go_wp2_with fail
  with_reducible refine (ints_bel _ _ _ _ _ _ _ _ _ (Rd.nil _ _) (Rd.nil _ _)).mono ?_
  rintro e w27x ⟨rfl, k27⟩
  have hB := hB.trans (k27.mono hB.size)
  rw [show decide (([] : List Int) = []) = true from rfl]
  have hR := hR.below k27
  go_wp2
  go_loopw [8, 13, 14] (fun e a j wr => ∃ k : Nat, k ≤ 24 ∧ j = .int .i64 k ∧ e = .int .i64 3 ∧ a = .int .i64 0 ∧ Below w27x.heap.size w27x wr) (fun _ _ j _ => 24 - (intOf j).toNat)
  case atStart => exact ⟨0, by omega, rfl, rfl, rfl, Below.refl _ _⟩
  case round =>
    obtain ⟨k, hk, rfl, rfl, rfl, hbel⟩ := hrel
    by_cases hlt : k < 24
    · have hkI2 : (k : Int) < 24 := by omega
      have hRr := hR.below hbel
      obtain ⟨b', off', A1', n1', c1', hCe, hcell, hrow⟩ := way_row hRr HDAT.out hlt
      have hAr := hA.below (hB.trans (hbel.mono hB.size))
      subst hCe
      go_wp2_with fail
      with_reducible refine (ints_bel _ _ _ _ _ _ _ _ _ hrow hAr).mono ?_
      rintro e w9 ⟨rfl, k9⟩
      rw [HK.out.2 k hlt]
      have hb9 := hbel.trans (k9.mono hbel.size)
      go_wp2
      go_roundw
      case rel => exact ⟨k + 1, by omega, by go_num, rfl, rfl, hb9⟩
      case measure => simp [intOf]; omega
    · skip
      obtain rfl : k = 24 := by omega
      have hB := hB.trans (hbel.mono hB.size)
      rw [show ((24 : Nat) : Int) = 24 from rfl]
      have hAx := hA.below hB
      go_wp2_with fail
      with_reducible refine (block_e _ _ _ xs _ hAx hc 5 HK.out.1 (by decide)).mono ?_
      rintro e w28x ⟨rfl, k28⟩
      have hB := hB.trans (k28.mono hB.size)
      go_wp2_with fail
      with_reducible refine (error_err 5 5 _ (HE.out.below hB)).mono ?_
      rintro e w29x ⟨rfl, k29⟩
      have hB := hB.trans (k29.mono hB.size)
      by_cases hb : bl < 0 ∨ 24 < bl
      · skip
        go_wp2_with fail
        with_reducible refine (in_no _ _ _ _ hb).mono ?_
        rintro e w' ⟨rfl, rfl⟩
        go_wp2_with fail
        with_reducible refine (tables_bad _ _ hb).mono ?_
        rintro e w' ⟨rfl, rfl⟩
        go_wp2_with fail
        with_reducible refine (error_err 1 1 _ (HE.out.below hB)).mono ?_
        rintro e w30x ⟨rfl, k30⟩
        have hB := hB.trans (k30.mono hB.size)
        go_wp2
        go_ret
        exact ⟨rfl, hB⟩
      · have b0 : 0 ≤ bl := by omega
        have b1 : bl ≤ 24 := by omega
        by_cases h4 : 4 < bl
        · by_cases h8 : 8 < bl
          · skip
            have ht : tabN bl = 2 + (bl - 5) / 4 := by unfold tabN; rw [if_neg (by omega), if_neg (by omega)]
            have hq0 : 0 ≤ (bl - 5) / 4 ∧ (bl - 5) / 4 ≤ 100 := by omega
            obtain ⟨hq1, hq2⟩ := hq0
            have HT := Lib.hid ht
            clear ht
            go_wp2_with fail
            with_reducible refine (in_yes _ _ _ _ b0 b1).mono ?_
            rintro e w' ⟨rfl, rfl⟩
            go_wp2_with fail
            with_reducible refine (tables_ok _ _ b0 b1).mono ?_
            rintro e w' ⟨rfl, rfl⟩
            rw [HT.out]
            go_wp2_with fail
            with_reducible refine (error_nil _ _).mono ?_
            rintro e w' ⟨rfl, rfl⟩
            go_wp2
            go_ret
            exact ⟨rfl, hB⟩
          · skip
            have hd8 : decide (8 < bl) = false := decide_eq_false h8
            have ht : tabN bl = 1 := by unfold tabN; rw [if_neg (by omega), if_pos (by omega)]
            have HT := Lib.hid ht
            clear ht
            go_wp2_with fail
            with_reducible refine (in_yes _ _ _ _ b0 b1).mono ?_
            rintro e w' ⟨rfl, rfl⟩
            go_wp2_with fail
            with_reducible refine (tables_ok _ _ b0 b1).mono ?_
            rintro e w' ⟨rfl, rfl⟩
            rw [HT.out]
            go_wp2_with fail
            with_reducible refine (error_nil _ _).mono ?_
            rintro e w' ⟨rfl, rfl⟩
            go_wp2
            go_ret
            exact ⟨rfl, hB⟩
        · skip
          have hd4 : decide (4 < bl) = false := decide_eq_false h4
          have hd8 : decide (8 < bl) = false := decide_eq_false (by omega)
          have ht : tabN bl = 0 := by unfold tabN; rw [if_pos (by omega)]
          have HT := Lib.hid ht
          clear ht
          go_wp2_with fail
          with_reducible refine (in_yes _ _ _ _ b0 b1).mono ?_
          rintro e w' ⟨rfl, rfl⟩
          go_wp2_with fail
          with_reducible refine (tables_ok _ _ b0 b1).mono ?_
          rintro e w' ⟨rfl, rfl⟩
          rw [HT.out]
          go_wp2_with fail
          with_reducible refine (error_nil _ _).mono ?_
          rintro e w' ⟨rfl, rfl⟩
          go_wp2
          go_ret
          exact ⟨rfl, hB⟩

set_option maxHeartbeats 8000000 in
set_option maxRecDepth 100000 in
theorem walk_out_top (w : World) (i : Int) (hi : -9223372036854775808 ≤ i ∧ i ≤ 9223372036854775807) (A : Option Addr) (n c : Nat) (xs : List Int) (hA : Rd w A n xs) (hc : n ≤ c) (bl : Int) (hbl : -9223372036854775808 ≤ bl ∧ bl ≤ 9223372036854775807) (hE : ErrT w) (hout : i < 0 ∨ 23 < i) (t : Int) (ys : List Int) (hx : xs = t :: ys) (ht : t < 0 ∨ 5 < t) :
    Calls Tryd.prog 3 #[.int .i64 i, .slice A n c, .int .i64 bl] w fun e w' => e = .returned (.bool true) ∧ Below w.heap.size w w' := by
  have HE := Lib.hid hE
  clear hE
  have hbk : (blk xs).2 = 1 := by
    rw [hx]
    have h : ¬ (0 ≤ t ∧ t ≤ 5) := by omega
    simp only [blk, if_pos h]
  have hno : ∀ k : Nat, k < 24 → decide (ofL (k : Int) = xs) = false := fun k hk => decide_eq_false (fun h => by
    have h1 := blk_ofL (i := (k : Int)) (by omega) (by omega)
    rw [h] at h1
    rw [h1] at hbk
    simp at hbk)
  have HK := Lib.hid (And.intro hbk hno)
  clear hbk hno
  have hlen := hA.len
  have hn0 : 0 < n := by rw [← hlen, hx]; simp
  have hn0b : ((n : Int) == 0) = false := by simp; omega
  obtain ⟨b1, off1, rfl, hbl1, hcc1⟩ := hA.at_ hn0
  have hw0 := hcc1 0 hn0
  rw [Nat.add_zero, hx] at hw0
  change w.cell? ⟨b1, off1, none⟩ = some (.int .i64 t) at hw0
  have HW0 := Lib.hid hw0
  clear hcc1 hw0 hlen
  have hB : Below w.heap.size w w := Below.refl _ _
  go_enter Tryd.func3, Tryd.ntmps3
  go_wp2_with fail
  with_reducible refine (ways_any _).mono ?_
  rintro e w31x ⟨⟨C, c', rs, rfl, hR, hdat⟩, k31⟩
  have hB := hB.trans (k31.mono hB.size)
  have HDAT := Lib.hid hdat
  clear hdat
  go_wp2_with fail
  with_reducible refine (in_no _ _ _ _ hout).mono ?_
  rintro e w' ⟨rfl, rfl⟩
  go_wp2_with fail
  with_reducible refine (of_bad _ _ hout).mono ?_
  rintro e w' ⟨rfl, rfl⟩
  go_wp2_with fail
  with_reducible refine (error_err 1 1 _ (HE.out.below hB)).mono ?_
  rintro e w32x ⟨rfl, k32⟩
  have hB := hB.trans (k32.mono hB.size)
  have hR := hR.below k32
  go_wp2_with fail
  with_reducible refine (ints_bel _ _ _ _ _ _ _ _ _ (Rd.nil _ _) (Rd.nil _ _)).mono ?_
  rintro e w33x ⟨rfl, k33⟩
  have hB := hB.trans (k33.mono hB.size)
  rw [show decide (([] : List Int) = []) = true from rfl]
  have hR := hR.below k33
  go_wp2
  go_loopw [8, 13, 14] (fun e a j wr => ∃ k : Nat, k ≤ 24 ∧ j = .int .i64 k ∧ e = .int .i64 3 ∧ a = .int .i64 0 ∧ Below w33x.heap.size w33x wr) (fun _ _ j _ => 24 - (intOf j).toNat)
  case atStart => exact ⟨0, by omega, rfl, rfl, rfl, Below.refl _ _⟩
  case round =>
    obtain ⟨k, hk, rfl, rfl, rfl, hbel⟩ := hrel
    by_cases hlt : k < 24
    · have hkI2 : (k : Int) < 24 := by omega
      have hRr := hR.below hbel
      obtain ⟨b', off', A1', n1', c1', hCe, hcell, hrow⟩ := way_row hRr HDAT.out hlt
      have hAr := hA.below (hB.trans (hbel.mono hB.size))
      subst hCe
      go_wp2_with fail
      with_reducible refine (ints_bel _ _ _ _ _ _ _ _ _ hrow hAr).mono ?_
      rintro e w9 ⟨rfl, k9⟩
      rw [HK.out.2 k hlt]
      have hb9 := hbel.trans (k9.mono hbel.size)
      go_wp2
      go_roundw
      case rel => exact ⟨k + 1, by omega, by go_num, rfl, rfl, hb9⟩
      case measure => simp [intOf]; omega
    · skip
      obtain rfl : k = 24 := by omega
      have hB := hB.trans (hbel.mono hB.size)
      rw [show ((24 : Nat) : Int) = 24 from rfl]
      have hAx := hA.below hB
      have hw0 := (hB.cell (p := ⟨b1, off1, none⟩) hbl1).trans HW0.out
      have hnI : (0 : Int) < (n : Int) := by omega
      go_wp2_with fail
      with_reducible refine (in_no _ _ _ _ ht).mono ?_
      rintro e w' ⟨rfl, rfl⟩
      go_wp2_with fail
      with_reducible refine (block_e _ _ _ xs _ hAx hc 1 HK.out.1 (by decide)).mono ?_
      rintro e w34x ⟨rfl, k34⟩
      have hB := hB.trans (k34.mono hB.size)
      go_wp2_with fail
      with_reducible refine (error_err 1 1 _ (HE.out.below hB)).mono ?_
      rintro e w35x ⟨rfl, k35⟩
      have hB := hB.trans (k35.mono hB.size)
      by_cases hb : bl < 0 ∨ 24 < bl
      · skip
        go_wp2_with fail
        with_reducible refine (in_no _ _ _ _ hb).mono ?_
        rintro e w' ⟨rfl, rfl⟩
        go_wp2_with fail
        with_reducible refine (tables_bad _ _ hb).mono ?_
        rintro e w' ⟨rfl, rfl⟩
        go_wp2_with fail
        with_reducible refine (error_err 1 1 _ (HE.out.below hB)).mono ?_
        rintro e w36x ⟨rfl, k36⟩
        have hB := hB.trans (k36.mono hB.size)
        go_wp2
        go_ret
        exact ⟨rfl, hB⟩
      · have b0 : 0 ≤ bl := by omega
        have b1 : bl ≤ 24 := by omega
        by_cases h4 : 4 < bl
        · by_cases h8 : 8 < bl
          · skip
            have ht : tabN bl = 2 + (bl - 5) / 4 := by unfold tabN; rw [if_neg (by omega), if_neg (by omega)]
            have hq0 : 0 ≤ (bl - 5) / 4 ∧ (bl - 5) / 4 ≤ 100 := by omega
            obtain ⟨hq1, hq2⟩ := hq0
            have HT := Lib.hid ht
            clear ht
            go_wp2_with fail
            with_reducible refine (in_yes _ _ _ _ b0 b1).mono ?_
            rintro e w' ⟨rfl, rfl⟩
            go_wp2_with fail
            with_reducible refine (tables_ok _ _ b0 b1).mono ?_
            rintro e w' ⟨rfl, rfl⟩
            rw [HT.out]
            go_wp2_with fail
            with_reducible refine (error_nil _ _).mono ?_
            rintro e w' ⟨rfl, rfl⟩
            go_wp2
            go_ret
            exact ⟨rfl, hB⟩
          · skip
            have hd8 : decide (8 < bl) = false := decide_eq_false h8
            have ht : tabN bl = 1 := by unfold tabN; rw [if_neg (by omega), if_pos (by omega)]
            have HT := Lib.hid ht
            clear ht
            go_wp2_with fail
            with_reducible refine (in_yes _ _ _ _ b0 b1).mono ?_
            rintro e w' ⟨rfl, rfl⟩
            go_wp2_with fail
            with_reducible refine (tables_ok _ _ b0 b1).mono ?_
            rintro e w' ⟨rfl, rfl⟩
            rw [HT.out]
            go_wp2_with fail
            with_reducible refine (error_nil _ _).mono ?_
            rintro e w' ⟨rfl, rfl⟩
            go_wp2
            go_ret
            exact ⟨rfl, hB⟩
        · skip
          have hd4 : decide (4 < bl) = false := decide_eq_false h4
          have hd8 : decide (8 < bl) = false := decide_eq_false (by omega)
          have ht : tabN bl = 0 := by unfold tabN; rw [if_pos (by omega)]
          have HT := Lib.hid ht
          clear ht
          go_wp2_with fail
          with_reducible refine (in_yes _ _ _ _ b0 b1).mono ?_
          rintro e w' ⟨rfl, rfl⟩
          go_wp2_with fail
          with_reducible refine (tables_ok _ _ b0 b1).mono ?_
          rintro e w' ⟨rfl, rfl⟩
          rw [HT.out]
          go_wp2_with fail
          with_reducible refine (error_nil _ _).mono ?_
          rintro e w' ⟨rfl, rfl⟩
          go_wp2
          go_ret
          exact ⟨rfl, hB⟩

set_option maxHeartbeats 8000000 in
set_option maxRecDepth 100000 in
theorem walk_out_rest (w : World) (i : Int) (hi : -9223372036854775808 ≤ i ∧ i ≤ 9223372036854775807) (A : Option Addr) (n c : Nat) (xs : List Int) (hA : Rd w A n xs) (hc : n ≤ c) (bl : Int) (hbl : -9223372036854775808 ≤ bl ∧ bl ≤ 9223372036854775807) (hE : ErrT w) (hout : i < 0 ∨ 23 < i) (t : Int) (ys : List Int) (hx : xs = t :: ys) (ht0 : 0 ≤ t) (ht1 : t ≤ 5) (hall : allB ys 0 3 = false) :
    Calls Tryd.prog 3 #[.int .i64 i, .slice A n c, .int .i64 bl] w fun e w' => e = .returned (.bool true) ∧ Below w.heap.size w w' := by
  have HE := Lib.hid hE
  clear hE
  have hbk : (blk xs).2 = 1 := by
    rw [hx]
    simp only [blk, if_neg (show ¬ ¬ (0 ≤ t ∧ t ≤ 5) from fun h => h ⟨ht0, ht1⟩), if_pos hall]
  have hno : ∀ k : Nat, k < 24 → decide (ofL (k : Int) = xs) = false := fun k hk => decide_eq_false (fun h => by
    have h1 := blk_ofL (i := (k : Int)) (by omega) (by omega)
    rw [h] at h1
    rw [h1] at hbk
    simp at hbk)
  have HK := Lib.hid (And.intro hbk hno)
  clear hbk hno
  have hlen := hA.len
  have hn0 : 0 < n := by rw [← hlen, hx]; simp
  have hn0b : ((n : Int) == 0) = false := by simp; omega
  obtain ⟨b1, off1, rfl, hbl1, hcc1⟩ := hA.at_ hn0
  have hw0 := hcc1 0 hn0
  rw [Nat.add_zero, hx] at hw0
  change w.cell? ⟨b1, off1, none⟩ = some (.int .i64 t) at hw0
  have HW0 := Lib.hid hw0
  clear hcc1 hw0 hlen
  have hcut := cut1 (some ⟨b1, off1, none⟩) n c (by omega)
  have hRc := hA.cutA hc (show 1 ≤ n by omega)
  rw [hx, List.drop_one, List.tail_cons] at hRc
  obtain ⟨DD, hDD⟩ : ∃ DD, cutA (some ⟨b1, off1, none⟩) c 1 = DD := ⟨_, rfl⟩
  rw [hDD] at hcut hRc
  have HRC := Lib.hid hRc
  have HALL := Lib.hid hall
  clear hRc hDD hall
  have hB : Below w.heap.size w w := Below.refl _ _
  go_enter Tryd.func3, Tryd.ntmps3
  go_wp2_with fail
  with_reducible refine (ways_any _).mono ?_
  rintro e w37x ⟨⟨C, c', rs, rfl, hR, hdat⟩, k37⟩
  have hB := hB.trans (k37.mono hB.size)
  have HDAT := Lib.hid hdat
  clear hdat
  go_wp2_with fail
  with_reducible refine (in_no _ _ _ _ hout).mono ?_
  rintro e w' ⟨rfl, rfl⟩
  go_wp2_with fail
  with_reducible refine (of_bad _ _ hout).mono ?_
  rintro e w' ⟨rfl, rfl⟩
  go_wp2_with fail
  with_reducible refine (error_err 1 1 _ (HE.out.below hB)).mono ?_
  rintro e w38x ⟨rfl, k38⟩
  have hB := hB.trans (k38.mono hB.size)
  have hR := hR.below k38
  go_wp2_with fail
  with_reducible refine (ints_bel _ _ _ _ _ _ _ _ _ (Rd.nil _ _) (Rd.nil _ _)).mono ?_
  rintro e w39x ⟨rfl, k39⟩
  have hB := hB.trans (k39.mono hB.size)
  rw [show decide (([] : List Int) = []) = true from rfl]
  have hR := hR.below k39
  go_wp2
  go_loopw [8, 13, 14] (fun e a j wr => ∃ k : Nat, k ≤ 24 ∧ j = .int .i64 k ∧ e = .int .i64 3 ∧ a = .int .i64 0 ∧ Below w39x.heap.size w39x wr) (fun _ _ j _ => 24 - (intOf j).toNat)
  case atStart => exact ⟨0, by omega, rfl, rfl, rfl, Below.refl _ _⟩
  case round =>
    obtain ⟨k, hk, rfl, rfl, rfl, hbel⟩ := hrel
    by_cases hlt : k < 24
    · have hkI2 : (k : Int) < 24 := by omega
      have hRr := hR.below hbel
      obtain ⟨b', off', A1', n1', c1', hCe, hcell, hrow⟩ := way_row hRr HDAT.out hlt
      have hAr := hA.below (hB.trans (hbel.mono hB.size))
      subst hCe
      go_wp2_with fail
      with_reducible refine (ints_bel _ _ _ _ _ _ _ _ _ hrow hAr).mono ?_
      rintro e w9 ⟨rfl, k9⟩
      rw [HK.out.2 k hlt]
      have hb9 := hbel.trans (k9.mono hbel.size)
      go_wp2
      go_roundw
      case rel => exact ⟨k + 1, by omega, by go_num, rfl, rfl, hb9⟩
      case measure => simp [intOf]; omega
    · skip
      obtain rfl : k = 24 := by omega
      have hB := hB.trans (hbel.mono hB.size)
      rw [show ((24 : Nat) : Int) = 24 from rfl]
      have hAx := hA.below hB
      have hw0 := (hB.cell (p := ⟨b1, off1, none⟩) hbl1).trans HW0.out
      have hnI : (0 : Int) < (n : Int) := by omega
      have hRx := HRC.out.below hB
      go_wp2_with fail
      with_reducible refine (in_yes _ _ _ _ ht0 ht1).mono ?_
      rintro e w' ⟨rfl, rfl⟩
      go_wp2_with fail
      with_reducible refine (rall_any _ _ _ _ _ ys _ hRx).mono ?_
      rintro e w' ⟨rfl, rfl⟩
      rw [HALL.out]
      go_wp2_with fail
      with_reducible refine (block_e _ _ _ xs _ hAx hc 1 HK.out.1 (by decide)).mono ?_
      rintro e w40x ⟨rfl, k40⟩
      have hB := hB.trans (k40.mono hB.size)
      go_wp2_with fail
      with_reducible refine (error_err 1 1 _ (HE.out.below hB)).mono ?_
      rintro e w41x ⟨rfl, k41⟩
      have hB := hB.trans (k41.mono hB.size)
      by_cases hb : bl < 0 ∨ 24 < bl
      · skip
        go_wp2_with fail
        with_reducible refine (in_no _ _ _ _ hb).mono ?_
        rintro e w' ⟨rfl, rfl⟩
        go_wp2_with fail
        with_reducible refine (tables_bad _ _ hb).mono ?_
        rintro e w' ⟨rfl, rfl⟩
        go_wp2_with fail
        with_reducible refine (error_err 1 1 _ (HE.out.below hB)).mono ?_
        rintro e w42x ⟨rfl, k42⟩
        have hB := hB.trans (k42.mono hB.size)
        go_wp2
        go_ret
        exact ⟨rfl, hB⟩
      · have b0 : 0 ≤ bl := by omega
        have b1 : bl ≤ 24 := by omega
        by_cases h4 : 4 < bl
        · by_cases h8 : 8 < bl
          · skip
            have ht : tabN bl = 2 + (bl - 5) / 4 := by unfold tabN; rw [if_neg (by omega), if_neg (by omega)]
            have hq0 : 0 ≤ (bl - 5) / 4 ∧ (bl - 5) / 4 ≤ 100 := by omega
            obtain ⟨hq1, hq2⟩ := hq0
            have HT := Lib.hid ht
            clear ht
            go_wp2_with fail
            with_reducible refine (in_yes _ _ _ _ b0 b1).mono ?_
            rintro e w' ⟨rfl, rfl⟩
            go_wp2_with fail
            with_reducible refine (tables_ok _ _ b0 b1).mono ?_
            rintro e w' ⟨rfl, rfl⟩
            rw [HT.out]
            go_wp2_with fail
            with_reducible refine (error_nil _ _).mono ?_
            rintro e w' ⟨rfl, rfl⟩
            go_wp2
            go_ret
            exact ⟨rfl, hB⟩
          · skip
            have hd8 : decide (8 < bl) = false := decide_eq_false h8
            have ht : tabN bl = 1 := by unfold tabN; rw [if_neg (by omega), if_pos (by omega)]
            have HT := Lib.hid ht
            clear ht
            go_wp2_with fail
            with_reducible refine (in_yes _ _ _ _ b0 b1).mono ?_
            rintro e w' ⟨rfl, rfl⟩
            go_wp2_with fail
            with_reducible refine (tables_ok _ _ b0 b1).mono ?_
            rintro e w' ⟨rfl, rfl⟩
            rw [HT.out]
            go_wp2_with fail
            with_reducible refine (error_nil _ _).mono ?_
            rintro e w' ⟨rfl, rfl⟩
            go_wp2
            go_ret
            exact ⟨rfl, hB⟩
        · skip
          have hd4 : decide (4 < bl) = false := decide_eq_false h4
          have hd8 : decide (8 < bl) = false := decide_eq_false (by omega)
          have ht : tabN bl = 0 := by unfold tabN; rw [if_pos (by omega)]
          have HT := Lib.hid ht
          clear ht
          go_wp2_with fail
          with_reducible refine (in_yes _ _ _ _ b0 b1).mono ?_
          rintro e w' ⟨rfl, rfl⟩
          go_wp2_with fail
          with_reducible refine (tables_ok _ _ b0 b1).mono ?_
          rintro e w' ⟨rfl, rfl⟩
          rw [HT.out]
          go_wp2_with fail
          with_reducible refine (error_nil _ _).mono ?_
          rintro e w' ⟨rfl, rfl⟩
          go_wp2
          go_ret
          exact ⟨rfl, hB⟩

set_option maxHeartbeats 8000000 in
set_option maxRecDepth 100000 in
theorem walk_out_shape (w : World) (i : Int) (hi : -9223372036854775808 ≤ i ∧ i ≤ 9223372036854775807) (A : Option Addr) (n c : Nat) (xs : List Int) (hA : Rd w A n xs) (hc : n ≤ c) (bl : Int) (hbl : -9223372036854775808 ≤ bl ∧ bl ≤ 9223372036854775807) (hE : ErrT w) (hout : i < 0 ∨ 23 < i) (t : Int) (ys : List Int) (hx : xs = t :: ys) (ht0 : 0 ≤ t) (ht1 : t ≤ 5) (hall : allB ys 0 3 = true) (hbk : (blk xs).2 = 3) :
    Calls Tryd.prog 3 #[.int .i64 i, .slice A n c, .int .i64 bl] w fun e w' => e = .returned (.bool true) ∧ Below w.heap.size w w' := by
  have HE := Lib.hid hE
  clear hE
  have hno : ∀ k : Nat, k < 24 → decide (ofL (k : Int) = xs) = false := fun k hk => decide_eq_false (fun h => by
    have h1 := blk_ofL (i := (k : Int)) (by omega) (by omega)
    rw [h] at h1
    rw [h1] at hbk
    simp at hbk)
  have HK := Lib.hid (And.intro hbk hno)
  clear hbk hno
  have hlen := hA.len
  have hn0 : 0 < n := by rw [← hlen, hx]; simp
  have hn0b : ((n : Int) == 0) = false := by simp; omega
  obtain ⟨b1, off1, rfl, hbl1, hcc1⟩ := hA.at_ hn0
  have hw0 := hcc1 0 hn0
  rw [Nat.add_zero, hx] at hw0
  change w.cell? ⟨b1, off1, none⟩ = some (.int .i64 t) at hw0
  have HW0 := Lib.hid hw0
  clear hcc1 hw0 hlen
  have hcut := cut1 (some ⟨b1, off1, none⟩) n c (by omega)
  have hRc := hA.cutA hc (show 1 ≤ n by omega)
  rw [hx, List.drop_one, List.tail_cons] at hRc
  obtain ⟨DD, hDD⟩ : ∃ DD, cutA (some ⟨b1, off1, none⟩) c 1 = DD := ⟨_, rfl⟩
  rw [hDD] at hcut hRc
  have HRC := Lib.hid hRc
  have HALL := Lib.hid hall
  clear hRc hDD hall
  have hB : Below w.heap.size w w := Below.refl _ _
  go_enter Tryd.func3, Tryd.ntmps3
  go_wp2_with fail
  with_reducible refine (ways_any _).mono ?_
  rintro e w43x ⟨⟨C, c', rs, rfl, hR, hdat⟩, k43⟩
  have hB := hB.trans (k43.mono hB.size)
  have HDAT := Lib.hid hdat
  clear hdat
  go_wp2_with fail
  with_reducible refine (in_no _ _ _ _ hout).mono ?_
  rintro e w' ⟨rfl, rfl⟩
  go_wp2_with fail
  with_reducible refine (of_bad _ _ hout).mono ?_
  rintro e w' ⟨rfl, rfl⟩
  go_wp2_with fail
  with_reducible refine (error_err 1 1 _ (HE.out.below hB)).mono ?_
  rintro e w44x ⟨rfl, k44⟩
  have hB := hB.trans (k44.mono hB.size)
  have hR := hR.below k44
  go_wp2_with fail
  with_reducible refine (ints_bel _ _ _ _ _ _ _ _ _ (Rd.nil _ _) (Rd.nil _ _)).mono ?_
  rintro e w45x ⟨rfl, k45⟩
  have hB := hB.trans (k45.mono hB.size)
  rw [show decide (([] : List Int) = []) = true from rfl]
  have hR := hR.below k45
  go_wp2
  go_loopw [8, 13, 14] (fun e a j wr => ∃ k : Nat, k ≤ 24 ∧ j = .int .i64 k ∧ e = .int .i64 3 ∧ a = .int .i64 0 ∧ Below w45x.heap.size w45x wr) (fun _ _ j _ => 24 - (intOf j).toNat)
  case atStart => exact ⟨0, by omega, rfl, rfl, rfl, Below.refl _ _⟩
  case round =>
    obtain ⟨k, hk, rfl, rfl, rfl, hbel⟩ := hrel
    by_cases hlt : k < 24
    · have hkI2 : (k : Int) < 24 := by omega
      have hRr := hR.below hbel
      obtain ⟨b', off', A1', n1', c1', hCe, hcell, hrow⟩ := way_row hRr HDAT.out hlt
      have hAr := hA.below (hB.trans (hbel.mono hB.size))
      subst hCe
      go_wp2_with fail
      with_reducible refine (ints_bel _ _ _ _ _ _ _ _ _ hrow hAr).mono ?_
      rintro e w9 ⟨rfl, k9⟩
      rw [HK.out.2 k hlt]
      have hb9 := hbel.trans (k9.mono hbel.size)
      go_wp2
      go_roundw
      case rel => exact ⟨k + 1, by omega, by go_num, rfl, rfl, hb9⟩
      case measure => simp [intOf]; omega
    · skip
      obtain rfl : k = 24 := by omega
      have hB := hB.trans (hbel.mono hB.size)
      rw [show ((24 : Nat) : Int) = 24 from rfl]
      have hAx := hA.below hB
      have hw0 := (hB.cell (p := ⟨b1, off1, none⟩) hbl1).trans HW0.out
      have hnI : (0 : Int) < (n : Int) := by omega
      have hRx := HRC.out.below hB
      go_wp2_with fail
      with_reducible refine (in_yes _ _ _ _ ht0 ht1).mono ?_
      rintro e w' ⟨rfl, rfl⟩
      go_wp2_with fail
      with_reducible refine (rall_any _ _ _ _ _ ys _ hRx).mono ?_
      rintro e w' ⟨rfl, rfl⟩
      rw [HALL.out]
      go_wp2_with fail
      with_reducible refine (block_e _ _ _ xs _ hAx hc 3 HK.out.1 (by decide)).mono ?_
      rintro e w46x ⟨rfl, k46⟩
      have hB := hB.trans (k46.mono hB.size)
      go_wp2_with fail
      with_reducible refine (error_err 3 3 _ (HE.out.below hB)).mono ?_
      rintro e w47x ⟨rfl, k47⟩
      have hB := hB.trans (k47.mono hB.size)
      by_cases hb : bl < 0 ∨ 24 < bl
      · skip
        go_wp2_with fail
        with_reducible refine (in_no _ _ _ _ hb).mono ?_
        rintro e w' ⟨rfl, rfl⟩
        go_wp2_with fail
        with_reducible refine (tables_bad _ _ hb).mono ?_
        rintro e w' ⟨rfl, rfl⟩
        go_wp2_with fail
        with_reducible refine (error_err 1 1 _ (HE.out.below hB)).mono ?_
        rintro e w48x ⟨rfl, k48⟩
        have hB := hB.trans (k48.mono hB.size)
        go_wp2
        go_ret
        exact ⟨rfl, hB⟩
      · have b0 : 0 ≤ bl := by omega
        have b1 : bl ≤ 24 := by omega
        by_cases h4 : 4 < bl
        · by_cases h8 : 8 < bl
          · skip
            have ht : tabN bl = 2 + (bl - 5) / 4 := by unfold tabN; rw [if_neg (by omega), if_neg (by omega)]
            have hq0 : 0 ≤ (bl - 5) / 4 ∧ (bl - 5) / 4 ≤ 100 := by omega
            obtain ⟨hq1, hq2⟩ := hq0
            have HT := Lib.hid ht
            clear ht
            go_wp2_with fail
            with_reducible refine (in_yes _ _ _ _ b0 b1).mono ?_
            rintro e w' ⟨rfl, rfl⟩
            go_wp2_with fail
            with_reducible refine (tables_ok _ _ b0 b1).mono ?_
            rintro e w' ⟨rfl, rfl⟩
            rw [HT.out]
            go_wp2_with fail
            with_reducible refine (error_nil _ _).mono ?_
            rintro e w' ⟨rfl, rfl⟩
            go_wp2
            go_ret
            exact ⟨rfl, hB⟩
          · skip
            have hd8 : decide (8 < bl) = false := decide_eq_false h8
            have ht : tabN bl = 1 := by unfold tabN; rw [if_neg (by omega), if_pos (by omega)]
            have HT := Lib.hid ht
            clear ht
            go_wp2_with fail
            with_reducible refine (in_yes _ _ _ _ b0 b1).mono ?_
            rintro e w' ⟨rfl, rfl⟩
            go_wp2_with fail
            with_reducible refine (tables_ok _ _ b0 b1).mono ?_
            rintro e w' ⟨rfl, rfl⟩
            rw [HT.out]
            go_wp2_with fail
            with_reducible refine (error_nil _ _).mono ?_
            rintro e w' ⟨rfl, rfl⟩
            go_wp2
            go_ret
            exact ⟨rfl, hB⟩
        · skip
          have hd4 : decide (4 < bl) = false := decide_eq_false h4
          have hd8 : decide (8 < bl) = false := decide_eq_false (by omega)
          have ht : tabN bl = 0 := by unfold tabN; rw [if_pos (by omega)]
          have HT := Lib.hid ht
          clear ht
          go_wp2_with fail
          with_reducible refine (in_yes _ _ _ _ b0 b1).mono ?_
          rintro e w' ⟨rfl, rfl⟩
          go_wp2_with fail
          with_reducible refine (tables_ok _ _ b0 b1).mono ?_
          rintro e w' ⟨rfl, rfl⟩
          rw [HT.out]
          go_wp2_with fail
          with_reducible refine (error_nil _ _).mono ?_
          rintro e w' ⟨rfl, rfl⟩
          go_wp2
          go_ret
          exact ⟨rfl, hB⟩

set_option maxHeartbeats 8000000 in
set_option maxRecDepth 100000 in
theorem walk_out_good (w : World) (i : Int) (hi : -9223372036854775808 ≤ i ∧ i ≤ 9223372036854775807) (A : Option Addr) (n c : Nat) (xs : List Int) (hA : Rd w A n xs) (hc : n ≤ c) (bl : Int) (hbl : -9223372036854775808 ≤ bl ∧ bl ≤ 9223372036854775807) (hE : ErrT w) (hout : i < 0 ∨ 23 < i) (t : Int) (ys : List Int) (hx : xs = t :: ys) (ht0 : 0 ≤ t) (ht1 : t ≤ 5) (hall : allB ys 0 3 = true) (V : Int) (hbk : blk xs = (V, 0)) :
    Calls Tryd.prog 3 #[.int .i64 i, .slice A n c, .int .i64 bl] w fun e w' => e = .returned (.bool true) ∧ Below w.heap.size w w' := by
  have HE := Lib.hid hE
  clear hE
  obtain ⟨v0, v1, hov⟩ := ofL_blk hbk
  obtain ⟨VN, hVN⟩ : ∃ VN : Nat, V = VN := ⟨V.toNat, by omega⟩
  subst hVN
  have hyes : decide (ofL (VN : Int) = xs) = true := decide_eq_true hov
  have hno : ∀ k : Nat, k < 24 → k ≠ VN → decide (ofL (k : Int) = xs) = false := fun k hk hne => decide_eq_false (fun h => by
    have h1 := blk_ofL (i := (k : Int)) (by omega) (by omega)
    rw [h, hbk] at h1
    injection h1 with h1 _
    omega)
  have HK := Lib.hid (And.intro hbk (And.intro hyes hno))
  clear hbk hyes hno hov
  have hlen := hA.len
  have hn0 : 0 < n := by rw [← hlen, hx]; simp
  have hn0b : ((n : Int) == 0) = false := by simp; omega
  obtain ⟨b1, off1, rfl, hbl1, hcc1⟩ := hA.at_ hn0
  have hw0 := hcc1 0 hn0
  rw [Nat.add_zero, hx] at hw0
  change w.cell? ⟨b1, off1, none⟩ = some (.int .i64 t) at hw0
  have HW0 := Lib.hid hw0
  clear hcc1 hw0 hlen
  have hcut := cut1 (some ⟨b1, off1, none⟩) n c (by omega)
  have hRc := hA.cutA hc (show 1 ≤ n by omega)
  rw [hx, List.drop_one, List.tail_cons] at hRc
  obtain ⟨DD, hDD⟩ : ∃ DD, cutA (some ⟨b1, off1, none⟩) c 1 = DD := ⟨_, rfl⟩
  rw [hDD] at hcut hRc
  have HRC := Lib.hid hRc
  have HALL := Lib.hid hall
  clear hRc hDD hall
  have hB : Below w.heap.size w w := Below.refl _ _
  go_enter Tryd.func3, Tryd.ntmps3
  go_wp2_with fail
  with_reducible refine (ways_any _).mono ?_
  rintro e w49x ⟨⟨C, c', rs, rfl, hR, hdat⟩, k49⟩
  have hB := hB.trans (k49.mono hB.size)
  have HDAT := Lib.hid hdat
  clear hdat
  go_wp2_with fail
  with_reducible refine (in_no _ _ _ _ hout).mono ?_
  rintro e w' ⟨rfl, rfl⟩
  go_wp2_with fail
  with_reducible refine (of_bad _ _ hout).mono ?_
  rintro e w' ⟨rfl, rfl⟩
  go_wp2_with fail
  with_reducible refine (error_err 1 1 _ (HE.out.below hB)).mono ?_
  rintro e w50x ⟨rfl, k50⟩
  have hB := hB.trans (k50.mono hB.size)
  have hR := hR.below k50
  go_wp2_with fail
  with_reducible refine (ints_bel _ _ _ _ _ _ _ _ _ (Rd.nil _ _) (Rd.nil _ _)).mono ?_
  rintro e w51x ⟨rfl, k51⟩
  have hB := hB.trans (k51.mono hB.size)
  rw [show decide (([] : List Int) = []) = true from rfl]
  have hR := hR.below k51
  go_wp2
  go_loopw [8, 13, 14] (fun e a j wr => ∃ (k : Nat) (E AT : Int), k ≤ 24 ∧ j = .int .i64 k ∧ e = .int .i64 E ∧ a = .int .i64 AT ∧ ((VN < k ∧ E = 0 ∧ AT = VN) ∨ (¬ VN < k ∧ E = 3 ∧ AT = 0)) ∧ Below w51x.heap.size w51x wr) (fun _ _ j _ => 24 - (intOf j).toNat)
  case atStart => exact ⟨0, 3, 0, by omega, rfl, rfl, rfl, .inr ⟨by omega, rfl, rfl⟩, Below.refl _ _⟩
  case round =>
    obtain ⟨k, E, AT, hk, rfl, rfl, rfl, hcase, hbel⟩ := hrel
    by_cases hlt : k < 24
    · have hkI2 : (k : Int) < 24 := by omega
      have hRr := hR.below hbel
      obtain ⟨b', off', A1', n1', c1', hCe, hcell, hrow⟩ := way_row hRr HDAT.out hlt
      have hAr := hA.below (hB.trans (hbel.mono hB.size))
      subst hCe
      have HC := Lib.hid hcase
      clear hcase
      by_cases hkv : k = VN
      · subst hkv
        go_wp2_with fail
        with_reducible refine (ints_bel _ _ _ _ _ _ _ _ _ hrow hAr).mono ?_
        rintro e w9 ⟨rfl, k9⟩
        rw [HK.out.2.1]
        have hb9 := hbel.trans (k9.mono hbel.size)
        go_wp2
        go_roundw
        case rel => exact ⟨k + 1, 0, k, by omega, by go_num, rfl, rfl, .inl ⟨by omega, rfl, rfl⟩, hb9⟩
        case measure => simp [intOf]; omega
      · have hkv2 := HK.out.2.2 k hlt hkv
        have HKV := Lib.hid hkv2
        clear hkv2
        go_wp2_with fail
        with_reducible refine (ints_bel _ _ _ _ _ _ _ _ _ hrow hAr).mono ?_
        rintro e w9 ⟨rfl, k9⟩
        rw [HKV.out]
        have hb9 := hbel.trans (k9.mono hbel.size)
        go_wp2
        go_roundw
        case rel => exact ⟨k + 1, E, AT, by omega, by go_num, rfl, rfl, by have := HC.out; omega, hb9⟩
        case measure => simp [intOf]; omega
    · skip
      obtain rfl : k = 24 := by omega
      have hB := hB.trans (hbel.mono hB.size)
      rw [show ((24 : Nat) : Int) = 24 from rfl]
      obtain ⟨rfl, rfl⟩ : E = 0 ∧ AT = VN := by omega
      have hVV : ((VN : Int) == (VN : Int)) = true := by simp
      clear hcase
      have hAx := hA.below hB
      have hw0 := (hB.cell (p := ⟨b1, off1, none⟩) hbl1).trans HW0.out
      have hnI : (0 : Int) < (n : Int) := by omega
      have hRx := HRC.out.below hB
      go_wp2_with fail
      with_reducible refine (in_yes _ _ _ _ ht0 ht1).mono ?_
      rintro e w' ⟨rfl, rfl⟩
      go_wp2_with fail
      with_reducible refine (rall_any _ _ _ _ _ ys _ hRx).mono ?_
      rintro e w' ⟨rfl, rfl⟩
      rw [HALL.out]
      go_wp2_with fail
      with_reducible refine (block_g _ _ _ xs _ hAx hc _ HK.out.1).mono ?_
      rintro e w52x ⟨rfl, k52⟩
      have hB := hB.trans (k52.mono hB.size)
      go_wp2_with fail
      with_reducible refine (error_nil _ _).mono ?_
      rintro e w' ⟨rfl, rfl⟩
      by_cases hb : bl < 0 ∨ 24 < bl
      · skip
        go_wp2_with fail
        with_reducible refine (in_no _ _ _ _ hb).mono ?_
        rintro e w' ⟨rfl, rfl⟩
        go_wp2_with fail
        with_reducible refine (tables_bad _ _ hb).mono ?_
        rintro e w' ⟨rfl, rfl⟩
        go_wp2_with fail
        with_reducible refine (error_err 1 1 _ (HE.out.below hB)).mono ?_
        rintro e w53x ⟨rfl, k53⟩
        have hB := hB.trans (k53.mono hB.size)
        go_wp2
        go_ret
        exact ⟨rfl, hB⟩
      · have b0 : 0 ≤ bl := by omega
        have b1 : bl ≤ 24 := by omega
        by_cases h4 : 4 < bl
        · by_cases h8 : 8 < bl
          · skip
            have ht : tabN bl = 2 + (bl - 5) / 4 := by unfold tabN; rw [if_neg (by omega), if_neg (by omega)]
            have hq0 : 0 ≤ (bl - 5) / 4 ∧ (bl - 5) / 4 ≤ 100 := by omega
            obtain ⟨hq1, hq2⟩ := hq0
            have HT := Lib.hid ht
            clear ht
            go_wp2_with fail
            with_reducible refine (in_yes _ _ _ _ b0 b1).mono ?_
            rintro e w' ⟨rfl, rfl⟩
            go_wp2_with fail
            with_reducible refine (tables_ok _ _ b0 b1).mono ?_
            rintro e w' ⟨rfl, rfl⟩
            rw [HT.out]
            go_wp2_with fail
            with_reducible refine (error_nil _ _).mono ?_
            rintro e w' ⟨rfl, rfl⟩
            go_wp2
            go_ret
            exact ⟨rfl, hB⟩
          · skip
            have hd8 : decide (8 < bl) = false := decide_eq_false h8
            have ht : tabN bl = 1 := by unfold tabN; rw [if_neg (by omega), if_pos (by omega)]
            have HT := Lib.hid ht
            clear ht
            go_wp2_with fail
            with_reducible refine (in_yes _ _ _ _ b0 b1).mono ?_
            rintro e w' ⟨rfl, rfl⟩
            go_wp2_with fail
            with_reducible refine (tables_ok _ _ b0 b1).mono ?_
            rintro e w' ⟨rfl, rfl⟩
            rw [HT.out]
            go_wp2_with fail
            with_reducible refine (error_nil _ _).mono ?_
            rintro e w' ⟨rfl, rfl⟩
            go_wp2
            go_ret
            exact ⟨rfl, hB⟩
        · skip
          have hd4 : decide (4 < bl) = false := decide_eq_false h4
          have hd8 : decide (8 < bl) = false := decide_eq_false (by omega)
          have ht : tabN bl = 0 := by unfold tabN; rw [if_pos (by omega)]
          have HT := Lib.hid ht
          clear ht
          go_wp2_with fail
          with_reducible refine (in_yes _ _ _ _ b0 b1).mono ?_
          rintro e w' ⟨rfl, rfl⟩
          go_wp2_with fail
          with_reducible refine (tables_ok _ _ b0 b1).mono ?_
          rintro e w' ⟨rfl, rfl⟩
          rw [HT.out]
          go_wp2_with fail
          with_reducible refine (error_nil _ _).mono ?_
          rintro e w' ⟨rfl, rfl⟩
          go_wp2
          go_ret
          exact ⟨rfl, hB⟩

theorem walk (w : World) (i : Int) (hi : -9223372036854775808 ≤ i ∧ i ≤ 9223372036854775807) (A : Option Addr) (n c : Nat) (xs : List Int) (hA : Rd w A n xs) (hc : n ≤ c) (bl : Int) (hbl : -9223372036854775808 ≤ bl ∧ bl ≤ 9223372036854775807) (hE : ErrT w) :
    Calls Tryd.prog 3 #[.int .i64 i, .slice A n c, .int .i64 bl] w fun e w' => e = .returned (.bool true) ∧ Below w.heap.size w w' := by
  by_cases hi2 : i < 0 ∨ 23 < i
  · skip
    match hxs : xs with
    | [] => exact walk_out_nil w i hi A n c [] (hxs ▸ hA) hc bl hbl hE hi2 rfl
    | t :: ys =>
      by_cases ht : t < 0 ∨ 5 < t
      · exact walk_out_top w i hi A n c (t :: ys) (hxs ▸ hA) hc bl hbl hE hi2 t ys rfl ht
      · by_cases hall : allB ys 0 3 = true
        · by_cases hb : (blk (t :: ys)).2 = 0
          · exact walk_out_good w i hi A n c (t :: ys) (hxs ▸ hA) hc bl hbl hE hi2 t ys rfl (by omega) (by omega) hall _ (Prod.ext rfl hb)
          · exact walk_out_shape w i hi A n c (t :: ys) (hxs ▸ hA) hc bl hbl hE hi2 t ys rfl (by omega) (by omega) hall (blk_shape (by omega) (by omega) hall hb)
        · exact walk_out_rest w i hi A n c (t :: ys) (hxs ▸ hA) hc bl hbl hE hi2 t ys rfl (by omega) (by omega) (by simpa using hall)
  · obtain ⟨kk, hik⟩ : ∃ kk : Nat, i = kk := ⟨i.toNat, by omega⟩
    have hkk : kk < 24 := by omega
    match hxs : xs with
    | [] => exact walk_in_nil w i hi A n c [] (hxs ▸ hA) hc bl hbl hE kk hkk hik rfl
    | t :: ys =>
      by_cases ht : t < 0 ∨ 5 < t
      · exact walk_in_top w i hi A n c (t :: ys) (hxs ▸ hA) hc bl hbl hE kk hkk hik t ys rfl ht
      · by_cases hall : allB ys 0 3 = true
        · by_cases hb : (blk (t :: ys)).2 = 0
          · exact walk_in_good w i hi A n c (t :: ys) (hxs ▸ hA) hc bl hbl hE kk hkk hik t ys rfl (by omega) (by omega) hall _ (Prod.ext rfl hb)
          · exact walk_in_shape w i hi A n c (t :: ys) (hxs ▸ hA) hc bl hbl hE kk hkk hik t ys rfl (by omega) (by omega) hall (blk_shape (by omega) (by omega) hall hb)
        · exact walk_in_rest w i hi A n c (t :: ys) (hxs ▸ hA) hc bl hbl hE kk hkk hik t ys rfl (by omega) (by omega) (by simpa using hall)

set_option maxRecDepth 100000 in
theorem lifted (os : Os) (started : os.Started) (H : Type) (enc : TypeId × Value → H) :
    ReturnsInHanded {} Tryd.checked os 3 .any (fun w args => (Rows.placeSaysSpec.pre enc Tryd.prog Tryd.f3 [] false w args ∧ laidMetH Tryd.prog Rows.placeSaysRow.laid w) ∧ sizedMet enc Tryd.prog Tryd.f3 (OpenSpec.ofChange Rows.placeSaysSpec) false w args)
      (Rows.placeSaysSpec.post enc Tryd.prog Tryd.f3 false true false false) := by
  refine returnsInHanded_of_change_and (C := Tryd.checked) (X := fun w _ => laidMetH Tryd.prog Rows.placeSaysRow.laid w) (fun _ _ _ hh h => h.of_heap hh) own started (by kernel_rfl) Tryd.func3
    (ChangeSpec.witness_at (enc := enc) (C := Tryd.checked) (os := os) (X := fun w _ => laidMetH Tryd.prog Rows.placeSaysRow.laid w) false (laidWorld os) #[.int .i64 0, .slice none 0 0, .int .i64 0] 8 rfl (by kernel_rfl) (by kernel_rfl) (by kernel_rfl) (by kernel_rfl) (by kernel_rfl) (laidWorld_met os _)) ?_
  intro W base args ds gs before hval0 hW _ _ hL _
  have hval : ∀ (j : Nat) t v, Tryd.f3.params[j]? = some t → args[j]? = some v → Value.okWide Tryd.prog W .any base t v := hval0
  have hW' := hW
  obtain ⟨p, q, hA0, hV, rfl, hfz, hnd⟩ := hW
  have hA : DataW.TrodAll enc Tryd.prog W 0 (fun _ => true) true Tryd.f3.params.toList args.toList ds p := hA0
  rw [Tryd.params3] at hA hval
  obtain ⟨v0, vs0, d0, ds0, p0, q0, hargs, rfl, rfl, h0, r0⟩ := trodAll_cons hA
  obtain ⟨v1, vs1, d1, ds1, p1, q1, rfl, rfl, rfl, h1, r1⟩ := trodAll_cons r0
  obtain ⟨v2, vs2, d2, ds2, p2, q2, rfl, rfl, rfl, h2, r2⟩ := trodAll_cons r1
  obtain ⟨rfl, rfl, rfl⟩ := trodAll_nil r2
  obtain rfl : args = #[v0, v1, v2] := by cases args; simp_all
  obtain ⟨rfl, rfl⟩ := trodVars_none hV
  have k0 := h0
  have lt0 : ∀ x ∈ p0, x.block < W.heap.size := by obtain ⟨m, hm⟩ := k0; exact DataW.trod_lt m _ _ _ hm
  obtain ⟨a0, rfl, rfl, rfl, w0⟩ := open_int Tryd.underlying3 (hval 0 3 v0 rfl rfl) h0
  have k1 := h1
  have lt1 : ∀ x ∈ p1, x.block < W.heap.size := by obtain ⟨m, hm⟩ := k1; exact DataW.trod_lt m _ _ _ hm
  obtain ⟨A1, n1, c1, rfl⟩ := okWide_slice Tryd.underlying22 (hval 1 22 v1 rfl rfl)
  obtain ⟨xs1, w1, hc1⟩ : ∃ xs, Rd W A1 n1 xs ∧ n1 ≤ c1 := by
    obtain ⟨fuel, hf⟩ := h1
    rcases open_ints Tryd.underlying22 Tryd.underlying3 (by kernel_rfl) hf with ⟨hcs, _⟩ | ⟨x, l, c, zs, hcs, _, hl, hm, hz, _, hcell, hwz⟩
    · simp [Value.cells] at hcs
      obtain ⟨rfl, rfl, rfl⟩ := hcs
      exact ⟨[], Rd.nil _ _, Nat.le_refl _⟩
    · simp [Value.cells] at hcs
      obtain ⟨rfl, rfl, rfl⟩ := hcs
      exact ⟨_, rd_of_cells (by simp at hz; omega) hl hm hcell hwz, hl⟩
  have k2 := h2
  have lt2 : ∀ x ∈ p2, x.block < W.heap.size := by obtain ⟨m, hm⟩ := k2; exact DataW.trod_lt m _ _ _ hm
  obtain ⟨a2, rfl, rfl, rfl, w2⟩ := open_int Tryd.underlying3 (hval 2 3 v2 rfl rfl) h2
  clear hA0 hval0
  refine (walk W a0 (wf_range w0) A1 n1 c1 xs1 w1 hc1 a2 (wf_range w2) (handle_of_laid hL)).mono fun e W' ⟨he, bel⟩ => ?_
  subst he
  exact ⟨_, rfl, _, _, _, [], _, [], hW', trodAll_mk1 (shut_bool Tryd.underlying4 _), (trodAll_cons_mk (Below.trod laidOut (by kernel_rfl) (of_decide_eq_true (by kernel_rfl)) k0 bel lt0) (trodAll_cons_mk (Below.trod laidOut (by kernel_rfl) (of_decide_eq_true (by kernel_rfl)) k1 bel lt1) (trodAll_cons_mk (Below.trod laidOut (by kernel_rfl) (of_decide_eq_true (by kernel_rfl)) k2 bel lt2) trodAll_mk0))), rfl, bel.frame _, fun h => by cases h⟩

theorem over : Rows.placeSaysRow.holds Tryd.pinned (OpenSpec.ofChange Rows.placeSaysSpec) :=
  OpenClaim.holds_of_wide 3 Tryd.f3 rfl rfl rfl rfl rfl rfl rfl ⟨rfl, rfl, rfl, rfl, rfl⟩ rfl rfl rfl rfl rfl (by kernel_rfl) Tryd.func3 (by kernel_rfl)
    (of_decide_eq_true (by kernel_rfl)) (by unfold Func.isWrapper; first | (rw [if_pos (by decide +kernel)]; kernel_rfl) | (rw [if_neg (by decide +kernel)]; exact ⟨rfl, rfl⟩))
    (fun os started H enc _ => lifted os started H enc)

theorem card_holds : Rows.PlaceSaysCardSaid :=
  Claim7.holds_tied_plain_at .later [] [.handle] true Rows.placeSaysCard.stood.harness Rows.placeSaysCard.stood.looks
    over (fun _ h => by cases h) (by kernel_rfl) (fun _ h => by cases h) placeSays_row_tie rfl ⟨rfl, rfl⟩ (by kernel_rfl) rfl
    (fun f fn hf hfn => by
      obtain rfl : f = 3 := Option.some.inj ((show Tryd.prog.funcNamed "platterhold/platterholdlaw1.PlaceSays" = some 3 by kernel_rfl).symm.trans hf) |>.symm
      obtain rfl : fn = Tryd.f3 := (Option.some.inj (Tryd.func3.symm.trans hfn)).symm
      exact ⟨by kernel_rfl, fun j t ht => by
        rw [Tryd.params3] at ht
        have hm : t ∈ [3, 22, 3] := by simpa using Array.mem_of_getElem? ht
        have hall : ([3, 22, 3].all fun u => !Tryd.prog.wantsStandIn u) = true := by kernel_rfl
        exact (show Tryd.prog.wantsStandIn t = false by simpa using List.all_eq_true.1 hall t hm)⟩)
    (by kernel_rfl)
theorem proved : Rows.PlaceSaysCardSaid := card_holds
#print axioms proved
end Go.Proofs.YtllacbogbbbcaaaDoor.placeSays
