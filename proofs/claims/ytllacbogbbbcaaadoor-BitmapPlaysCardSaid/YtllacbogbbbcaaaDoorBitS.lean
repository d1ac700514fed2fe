/- The laws' own 'taken', and the closed fact of the bitmap laws. -/
import Derived.Test.YtllacbogbbbcaaaDoorBit
import Derived.Test.YtllacbogbbbcaaaDoorRL0
namespace Go.Proofs.YtllacbogbbbcaaaDoor
open Go Go.RowKit
set_option maxRecDepth 20000
set_option linter.unusedVariables false

/-- The map at block b holds something; all that lies below it stands. -/
def MapStep (w : World) (b : Nat) (w' : World) : Prop := (∃ u, MapAt w' b u) ∧ ∀ B W, B ≤ b → Below B W w → Below B W w'
theorem MapStep.refl {w : World} {b t : Nat} (h : MapAt w b t) : MapStep w b w := ⟨⟨t, h⟩, fun _ _ _ h => h⟩
theorem MapStep.drewN {w : World} {b t : Nat} (h : MapAt w b t) (q : Nat) : MapStep w b (w.drewN q) := ⟨⟨t, h⟩, fun _ _ _ h => below_drewN_of h _⟩
theorem MapStep.set {w : World} {b t u : Nat} (h : MapAt w b t) (hu : u < 4294967296) (q : Nat) : MapStep w b ((w.drewN q).setCell ⟨b, 0, none⟩ (.int .u32 (u : Int))) :=
  ⟨⟨u, MapAt.set (w := w.drewN q) h hu⟩, fun B W hB hb => (below_drewN_of hb q).setCell (p := ⟨b, 0, none⟩) hB _⟩
theorem take_step (b t : Nat) (v : Int) (w : World) (hM : MapAt w b t) : Calls Tryd.prog 29 #[.pointer (some ⟨b, 0, none⟩), .int .i64 v] w fun e w' => (∃ r ev, e = .returned (.tuple #[r, ev])) ∧ MapStep w b w' := by
  by_cases h : 1 ≤ v ∧ v ≤ 32
  · obtain ⟨n, rfl⟩ := Int.eq_ofNat_of_zero_le (show 0 ≤ v by omega)
    refine (take_any b t n w hM (by omega) (by omega)).mono fun e w' h => ?_
    rcases h with ⟨a, h1, h2, q, h3⟩ | ⟨_, h2, q, h3⟩
    · obtain ⟨hf, ha, _⟩ := first_is h1
      subst h3
      exact ⟨⟨_, _, h2⟩, MapStep.set hM (or_lt hM.2 (run_lt (by omega))) q⟩
    · subst h3
      exact ⟨⟨_, _, h2⟩, MapStep.drewN hM q⟩
  · refine (take_range b v w (by omega)).mono fun e w' h => ?_
    obtain ⟨h1, h2⟩ := h
    subst h2
    exact ⟨⟨_, _, h1⟩, MapStep.refl hM⟩
theorem back_step (b t : Nat) (a v : Int) (w : World) (hM : MapAt w b t) (ha : -9223372036854775808 ≤ a ∧ a ≤ 9223372036854775807) : Calls Tryd.prog 30 #[.pointer (some ⟨b, 0, none⟩), .int .i64 a, .int .i64 v] w fun e w' => (∃ ev, e = .returned ev) ∧ MapStep w b w' := by
  by_cases h : 1 ≤ v ∧ v ≤ 32 ∧ 0 ≤ a ∧ a ≤ 32 - v
  · obtain ⟨n, rfl⟩ := Int.eq_ofNat_of_zero_le (show 0 ≤ v by omega)
    obtain ⟨k, rfl⟩ := Int.eq_ofNat_of_zero_le h.2.2.1
    refine (back_any b t k n w hM (by omega) (by omega)).mono fun e w' h => ?_
    rcases h with ⟨_, h2, q, h3⟩ | ⟨_, h2, q, h3⟩
    · subst h3
      exact ⟨⟨_, h2⟩, MapStep.set hM (clear_lt hM.2) q⟩
    · subst h3
      exact ⟨⟨_, h2⟩, MapStep.drewN hM q⟩
  · refine (back_range b a v w ha h).mono fun e w' h => ?_
    obtain ⟨h1, h2⟩ := h
    subst h2
    exact ⟨⟨_, h1⟩, MapStep.refl hM⟩

/-- A row that is read: its header's cell and its numbers' cells. -/
theorem RRows.row {w : World} {A : Option Addr} {n : Nat} {rs : List RV} (h : RRows w A n rs) {k : Nat} (hk : k < n) :
    ∃ b off A1 n1 c1 xs, A = some ⟨b, off, none⟩ ∧ b < w.heap.size ∧ rs[k]?.getD noRow = (A1, n1, c1, xs) ∧ w.cell? ⟨b, off + k, none⟩ = some (.slice A1 n1 c1) ∧ Rd w A1 n1 xs := by
  obtain ⟨b, off, hA, hb, hc⟩ := h.at_ (by omega)
  have hs := h.sl hk
  have hck := hc k hk
  rcases hr : rs[k]?.getD noRow with ⟨A1, n1, c1, xs⟩
  rw [hr] at hs hck
  exact ⟨b, off, A1, n1, c1, xs, hA, hb, rfl, hck, hs.1⟩

set_option maxHeartbeats 4000000 in
theorem taken_any (A : Option Addr) (n c : Nat) (rs : List RV) (w : World) (hA : RRows w A n rs) : Calls Tryd.prog 26 #[.slice A n c] w fun e w' => e = .returned (.pointer (some ⟨w.heap.size, 0, none⟩)) ∧ (∃ t, MapAt w' w.heap.size t) ∧ Below w.heap.size w w' := by
  have hmax := hA.max
  go_enter Tryd.func26, Tryd.ntmps26
  go_wp2_with fail
  with_reducible refine (new_any _).mono ?_
  rintro e w1 ⟨rfl, rfl⟩
  have hM0 := MapAt.new w
  have hB0 := (Below.refl w.heap.size w).alloc (Nat.le_refl _) (.cells #[.int .u32 0] 73)
  go_wp2
  go_loopw [4] (fun i wr => ∃ k : Nat, k ≤ n ∧ k ≤ 60 ∧ i = .int .i64 k ∧ (∃ t, MapAt wr w.heap.size t) ∧ Below w.heap.size w wr) (fun i _ => n - (intOf i).toNat)
  case atStart => exact ⟨0, Nat.zero_le _, Nat.zero_le _, rfl, ⟨0, hM0⟩, hB0⟩
  case round =>
    obtain ⟨k, hk, hk60, rfl, ⟨t, hM⟩, hbel⟩ := hrel
    have HM := Lib.hid hM
    clear hM
    by_cases hgo : k < n ∧ k < 60
    · obtain ⟨hkn, hk6⟩ := hgo
      have hkI : (k : Int) < (n : Int) := by omega
      have hk6I : (k : Int) < 60 := by omega
      obtain ⟨b, off, A1, n1, c1, xs, rfl, hbl, _, hck, hRd⟩ := hA.row hkn
      have g1 := (hbel.cell (p := ⟨b, off + k, none⟩) hbl).trans hck
      clear hck
      by_cases h1 : n1 = 1
      · subst h1
        obtain ⟨b1, o1, rfl, hbl1, hc1⟩ := hRd.at_ (by omega)
        have g2 := (hbel.cell (p := ⟨b1, o1, none⟩) hbl1).trans (hc1 0 (by omega))
        obtain ⟨v, hv⟩ : ∃ v, xs[0]?.getD 0 = v := ⟨_, rfl⟩
        rw [hv] at g2
        clear hc1 hv
        go_wp2_with fail
        with_reducible refine (take_step _ t v _ HM.out).mono ?_
        rintro e w2 ⟨⟨r, ev, rfl⟩, hst⟩
        have hB2 := hst.2 w.heap.size w (Nat.le_refl _) hbel
        have HST := Lib.hid hst.1
        have g3 := (hB2.cell (p := ⟨b, off + k, none⟩) hbl).trans ((hbel.cell (p := ⟨b, off + k, none⟩) hbl).symm.trans g1)
        clear hst
        go_wp2
        go_roundw
        case rel => exact ⟨k + 1, by omega, by omega, by go_num, HST.out, hB2⟩
        case measure => simp [intOf]; omega
      · by_cases h2 : n1 = 2
        · subst h2
          obtain ⟨b1, o1, rfl, hbl1, hc1⟩ := hRd.at_ (by omega)
          have g2 := (hbel.cell (p := ⟨b1, o1, none⟩) hbl1).trans (hc1 0 (by omega))
          have g3 := (hbel.cell (p := ⟨b1, o1 + 1, none⟩) hbl1).trans (hc1 1 (by omega))
          have hr := hRd.range 0
          obtain ⟨v, hv⟩ : ∃ v, xs[0]?.getD 0 = v := ⟨_, rfl⟩
          obtain ⟨u, hu⟩ : ∃ u, xs[1]?.getD 0 = u := ⟨_, rfl⟩
          rw [hv] at g2 hr
          rw [hu] at g3
          have hbk := fun wx hM => back_step w.heap.size t v u wx hM hr
          have HBK := Lib.hid hbk
          clear hc1 hv hu hr hbk
          go_wp2
          go_region_law (first | (go_simp; go_at_call 30; refine (HBK.out _ (by exact HM.out)).mono ?_; rintro e w2 ⟨⟨ev, rfl⟩, hst⟩))
          all_goals
            have hB2 := hst.2 w.heap.size w (Nat.le_refl _) (by first | exact below_drewN_of hbel _ | exact hbel)
            have HST := Lib.hid hst.1
            clear hst
            go_wp2
            go_roundw
            case rel => exact ⟨k + 1, by omega, by omega, by go_num, HST.out, hB2⟩
            case measure => simp [intOf]; omega
        · have e1 : ((n1 : Int) == 1) = false := by simp; omega
          have e2 : ((n1 : Int) == 2) = false := by simp; omega
          go_wp2
          go_roundw
          case rel => exact ⟨k + 1, by omega, by omega, by go_num, ⟨t, HM.out⟩, hbel⟩
          case measure => simp [intOf]; omega
    · have hex : (¬ (k : Int) < (n : Int)) ∨ ((k : Int) < (n : Int) ∧ ¬ (k : Int) < 60) := by omega
      rcases hex with hkI | ⟨hkI, hk6I⟩
      all_goals
        go_wp2
        go_ret
        exact ⟨rfl, ⟨t, HM.out⟩, hbel⟩

set_option maxHeartbeats 4000000 in
theorem bitmapFact_any (w : World) : Calls Tryd.prog 25 #[] w fun e w' => e = .returned (.bool true) ∧ Below w.heap.size w w' := by
  have f1 : firstN 0 3 = some 0 := by decide +kernel
  have f2 : firstN 7 2 = some 3 := by decide +kernel
  have HF := Lib.hid (And.intro f1 f2)
  clear f1 f2
  go_enter Tryd.func25, Tryd.ntmps25
  go_wp2_with fail
  with_reducible refine (new_any _).mono ?_
  rintro e w1 ⟨rfl, rfl⟩
  have hM0 := MapAt.new w
  have hB0 := (Below.refl w.heap.size w).alloc (Nat.le_refl _) (.cells #[.int .u32 0] 73)
  obtain ⟨W0, hW0⟩ : ∃ W, W = w.alloc (.cells #[.int .u32 0] 73) := ⟨_, rfl⟩
  rw [← hW0] at hM0 hB0 ⊢
  clear hW0
  go_wp2_with fail
  refine (take_any _ 0 3 _ hM0 (by decide) (by decide)).mono ?_
  rintro e w2 h
  obtain ⟨rfl, q, rfl⟩ : e = .returned (.tuple #[.int .i64 0, .nilIface]) ∧ ∃ q, w2 = (W0.drewN q).setCell ⟨w.heap.size, 0, none⟩ (.int .u32 ((7 : Nat) : Int)) := by
    rcases h with ⟨a, h1, h2, h3⟩ | ⟨h1, _⟩
    · rw [HF.out.1] at h1
      injection h1 with h1
      subst h1
      exact ⟨h2, h3⟩
    · rw [HF.out.1] at h1; cases h1
  have hM1 := MapAt.set (w := W0.drewN q) hM0 (u := 7) (by decide)
  have hB1 := (below_drewN_of hB0 q).setCell (p := ⟨w.heap.size, 0, none⟩) (Nat.le_refl _) (.int .u32 ((7 : Nat) : Int))
  obtain ⟨W1, hW1⟩ : ∃ W, W = (W0.drewN q).setCell ⟨w.heap.size, 0, none⟩ (.int .u32 ((7 : Nat) : Int)) := ⟨_, rfl⟩
  rw [← hW1] at hM1 hB1 ⊢
  clear hW1 hM0 hB0
  go_wp2_with fail
  refine (take_any _ 7 2 _ hM1 (by decide) (by decide)).mono ?_
  rintro e w2 h
  obtain ⟨rfl, q2, rfl⟩ : e = .returned (.tuple #[.int .i64 3, .nilIface]) ∧ ∃ q, w2 = (W1.drewN q).setCell ⟨w.heap.size, 0, none⟩ (.int .u32 ((31 : Nat) : Int)) := by
    rcases h with ⟨a, h1, h2, h3⟩ | ⟨h1, _⟩
    · rw [HF.out.2] at h1
      injection h1 with h1
      subst h1
      exact ⟨h2, h3⟩
    · rw [HF.out.2] at h1; cases h1
  have hM2 := MapAt.set (w := W1.drewN q2) hM1 (u := 31) (by decide)
  have hB2 := (below_drewN_of hB1 q2).setCell (p := ⟨w.heap.size, 0, none⟩) (Nat.le_refl _) (.int .u32 ((31 : Nat) : Int))
  obtain ⟨W2, hW2⟩ : ∃ W, W = (W1.drewN q2).setCell ⟨w.heap.size, 0, none⟩ (.int .u32 ((31 : Nat) : Int)) := ⟨_, rfl⟩
  rw [← hW2] at hM2 hB2 ⊢
  clear hW2 hM1 hB1
  have hfr := fun wx h => free_any w.heap.size 31 wx h
  rw [show allF 31 32 = 27 from by decide +kernel, show mostF 31 32 = 27 from by decide +kernel] at hfr
  have hh4 := fun wx h => has_in w.heap.size 31 4 wx h (by decide)
  have hh5 := fun wx h => has_in w.heap.size 31 5 wx h (by decide)
  rw [show Nat.testBit 31 4 = true from by decide +kernel] at hh4
  rw [show Nat.testBit 31 5 = false from by decide +kernel] at hh5
  have HFR := Lib.hid hfr
  have H4 := Lib.hid hh4
  have H5 := Lib.hid hh5
  clear hfr hh4 hh5
  go_wp2_with fail
  refine (HFR.out _ hM2).mono ?_
  rintro e w' ⟨rfl, q3, rfl⟩
  go_wp2_with fail
  refine (H4.out _ (by exact hM2)).mono ?_
  rintro e w' ⟨rfl, rfl⟩
  go_wp2_with fail
  refine (H5.out _ (by exact hM2)).mono ?_
  rintro e w' ⟨rfl, rfl⟩
  go_wp2
  go_ret
  exact ⟨rfl, below_drewN_of hB2 _⟩
end Go.Proofs.YtllacbogbbbcaaaDoor
