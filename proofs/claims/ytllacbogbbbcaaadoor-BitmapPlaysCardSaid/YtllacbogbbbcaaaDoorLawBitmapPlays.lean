/- For any sequence of allocations and frees, all results are as specified: BitmapPlays answers true at every slice of slices of ints; errors.errorType is tied to the program's text. Conditions: none beside the card's own. -/
import Derived.Test.YtllacbogbbbcaaaDoorBitS
import Derived.Test.YtllacbogbbbcaaaDoorBitR
import Derived.Test.YtllacbogbbbcaaaDoorIn
import Derived.Test.YtllacbogbbbcaaaDoorOpenD
import Derived.Deep.DeepCutAuto
namespace Go.Proofs.YtllacbogbbbcaaaDoor.bitmapPlays
open Go Go.ChangeShapes Go.WideShapes Go.ChangeAt Go.RowKit
set_option linter.unusedVariables false
set_option maxRecDepth 100000

/-- The map at b holds t, and so does the list. -/
def PS (w : World) (b t : Nat) (v : Value) (wr : World) : Prop := MapAt wr b t ∧ Own wr (b + 1) v 32 (blN t) ∧ Below w.heap.size w wr
theorem PS.rd {w : World} {b t c : Nat} {A : Option Addr} {wr : World} (h : PS w b t (.slice A 32 c) wr) : Rd wr A 32 (blN t) := h.2.1.rd (by omega) (fun x hx => by have := bl_bytes t x hx; omega)
theorem PS.drewN {w : World} {b t : Nat} {v : Value} {wr : World} (h : PS w b t v wr) (q : Nat) : PS w b t v (wr.drewN q) := ⟨h.1, h.2.1, below_drewN_of h.2.2 q⟩
theorem PS.below {w : World} {b t : Nat} {v : Value} {wr w' : World} (h : PS w b t v wr) (hb : Below wr.heap.size wr w') : PS w b t v w' := ⟨h.1.below hb, h.2.1.below hb, h.2.2.trans (hb.mono h.2.2.size)⟩
theorem own_other {w : World} {B n b : Nat} {v : Value} {xs : List Int} (h : Own w B v n xs) (hb : b < B) (y : Value) : Own (w.setCell ⟨b, 0, none⟩ y) B v n xs := by
  refine World.ownsRow.kept (row := some b) h ?_ ?_
  · refine ⟨rfl, rfl, rfl, by simp, fun k hk hne => ?_⟩
    exact heap_setCell_other w ⟨b, 0, none⟩ k y (fun e => hne (by rw [e]))
  · rcases hv : v.ownBlock with _ | g
    · exact .inl rfl
    · exact .inr fun e => by
        injection e with e
        have := (World.ownsRow.lt h g hv).1
        omega
theorem PS.set {w : World} {b t u : Nat} {v : Value} {wr : World} (h : PS w b t v wr) (hb : w.heap.size ≤ b) (hu : u < 4294967296) {v' : Value} (ho : Own wr (b + 1) v' 32 (blN u)) (q : Nat) : PS w b u v' ((wr.drewN q).setCell ⟨b, 0, none⟩ (.int .u32 (u : Int))) :=
  ⟨MapAt.set (w := wr.drewN q) h.1 hu, own_other (w := wr.drewN q) ho (by omega) _, (below_drewN_of h.2.2 q).setCell (p := ⟨b, 0, none⟩) hb _⟩
def zeros32 : Array Value := Array.replicate 32 (.int .i64 0)
theorem own_zeros (w : World) (B : Nat) (hB : B ≤ w.heap.size) : Own (w.alloc (.cells zeros32 3)) B (.slice (some ⟨w.heap.size, 0, none⟩) 32 32) 32 (blN 0) :=
  ⟨by simp [bl_len], .inr ⟨w.heap.size, 32, zeros32, rfl, hB, heap_alloc_new w _, Nat.le_refl _, by unfold maxLen; omega, by simp [zeros32], by rw [bl_zero]; simp [zeros32]⟩⟩
/-- In the search: still nothing, or found. -/
def Search (w : World) (b t n : Nat) (v0 : Value) (wr : World) (v e want i : Value) : Prop :=
  (∃ k : Nat, k ≤ 33 - n ∧ i = .int .i64 k ∧ e = .int .i64 4 ∧ want = .int .i64 0 ∧ v = v0 ∧ (∀ a, a < k → hitB t n a = false) ∧ PS w b t v0 wr) ∨
  (∃ a : Nat, a < 33 - n ∧ i = .int .i64 ((a + 1 : Nat) : Int) ∧ e = .int .i64 0 ∧ want = .int .i64 a ∧ firstN t n = some a ∧ (∃ C c', v = .slice C 32 c') ∧ Own wr (b + 1) v 32 (blN (t ||| runN a n)) ∧ MapAt wr b t ∧ Below w.heap.size w wr)

set_option maxHeartbeats 16000000 in
theorem walk (w : World) (A : Option Addr) (m c : Nat) (rs : List RV) (hA : RRows w A m rs) (hmc : m ≤ c) (hE : ErrT w) :
    Calls Tryd.prog 7 #[.slice A m c] w fun e w' => e = .returned (.bool true) ∧ Below w.heap.size w w' := by
  have HET := Lib.hid hE
  have hmax := hA.max
  have hmk : ∀ W : World, (Instr.makeSlice 22 (.int .i64 32) (.int .i64 32)).run Tryd.prog W = .ok (.slice (some ⟨W.heap.size, 0, none⟩) 32 32) (W.alloc (.cells zeros32 3)) := fun _ => by kernel_rfl
  clear hE
  go_enter Tryd.func7, Tryd.ntmps7
  go_wp2_with fail
  with_reducible refine (new_any _).mono ?_
  rintro e w1 ⟨rfl, rfl⟩
  have hM0 := MapAt.new w
  have hB0 := (Below.refl w.heap.size w).alloc (Nat.le_refl _) (.cells #[.int .u32 0] 73)
  have hO0 := own_zeros (w.alloc (.cells #[.int .u32 0] 73)) (w.heap.size + 1) (by simp)
  have hP0 : PS w w.heap.size 0 (.slice (some ⟨w.heap.size + 1, 0, none⟩) 32 32) ((w.alloc (.cells #[.int .u32 0] 73)).alloc (.cells zeros32 3)) :=
    ⟨hM0.below ((Below.refl _ _).alloc (Nat.le_refl _) _), by simpa using hO0, hB0.alloc (by simp) _⟩
  have HP0 := Lib.hid hP0
  clear hM0 hB0 hO0 hP0
  go_wp2
  obtain ⟨b, hb⟩ : ∃ b, w.heap.size = b := ⟨_, rfl⟩
  have hbw : w.heap.size ≤ b := by omega
  rw [hb] at HP0 ⊢
  clear hb
  go_loopw [4, 5] (fun x i wr => ∃ (k t : Nat) (C : Option Addr) (c' : Nat), k ≤ m ∧ k ≤ 60 ∧ i = .int .i64 k ∧ x = .slice C 32 c' ∧ PS w b t (.slice C 32 c') wr) (fun _ i _ => m - (intOf i).toNat)
  case atStart => exact ⟨0, 0, _, _, Nat.zero_le _, Nat.zero_le _, rfl, rfl, HP0.out⟩
  case round =>
    obtain ⟨k, t, C, c', hk, hk60, rfl, rfl, hps⟩ := hrel
    have hbel := hps.2.2
    have HPS := Lib.hid hps
    clear hps HP0
    by_cases hgo : k < m ∧ k < 60
    · obtain ⟨hkn, hk6⟩ := hgo
      have hkI : (k : Int) < (m : Int) := by omega
      have hk6I : (k : Int) < 60 := by omega
      obtain ⟨b0, off, A1, n1, c1, xs, rfl, hbl, _, hck, hRd⟩ := hA.row hkn
      have g1 := (hbel.cell (p := ⟨b0, off + k, none⟩) hbl).trans hck
      have hn1 := hRd.max
      clear hck
      go_upto_if 36 with fail
      go_cut [4, 7, 8, 9, 10, 11] (fun s4 s7 s8 s9 s10 s11 wx => ∃ (t : Nat) (C : Option Addr) (c' : Nat), s4 = .slice C 32 c' ∧ (n1 = 2 → s7 = .int .i64 0) ∧ PS w b t (.slice C 32 c') wx)
      case first =>
        by_cases h1 : n1 = 1
        · subst h1
          obtain ⟨b1, o1, rfl, hbl1, hc1⟩ := hRd.at_ (by omega)
          have g2 := (hbel.cell (p := ⟨b1, o1, none⟩) hbl1).trans (hc1 0 (by omega))
          have hr := hRd.range 0
          obtain ⟨v, hv⟩ : ∃ v, xs[0]?.getD 0 = v := ⟨_, rfl⟩
          rw [hv] at g2 hr
          have HG0 := Lib.hid (show w.cell? ⟨b1, o1, none⟩ = some (.int .i64 v) by rw [← hv]; exact hc1 0 (by omega))
          clear hc1 hv
          by_cases hin : 1 ≤ v ∧ v ≤ 32
          · obtain ⟨n, rfl⟩ := Int.eq_ofNat_of_zero_le (show 0 ≤ v by omega)
            have n1 : 1 ≤ n := by omega
            have n32 : n ≤ 32 := by omega
            have n1I : (1 : Int) ≤ (n : Int) := by omega
            have n32I : (n : Int) ≤ 32 := by omega
            clear hin hr
            go_wp2_with fail
            with_reducible refine (in_yes _ _ _ _ n1I n32I).mono ?_
            rintro e w' ⟨rfl, rfl⟩
            go_wp2
            obtain ⟨W0, rfl⟩ : ∃ W, W = wr := ⟨wr, rfl⟩
            go_loopw [4, 7, 8, 9] (fun v e want i wr => Search w b t n (.slice C 32 c') wr v e want i) (fun _ _ _ i _ => 40 - (intOf i).toNat)
            case atStart => exact .inl ⟨0, Nat.zero_le _, rfl, rfl, rfl, rfl, fun a h => absurd h (Nat.not_lt_zero _), HPS.out⟩
            case round =>
              rcases hrel with ⟨k2, hk2, rfl, rfl, rfl, rfl, hno, hps2⟩ | ⟨a, ha, rfl, rfl, rfl, hfirst, ⟨C2, c2, rfl⟩, hown2, hM2, hB2⟩
              · have hb2 := hps2.2.2
                have g4 := (hb2.cell (p := ⟨b1, o1, none⟩) hbl1).trans HG0.out
                have HP2 := Lib.hid (And.intro hps2 hno)
                clear hps2 hno
                by_cases hlt : k2 < 33 - n
                · have hsI : (k2 : Int) + (n : Int) ≤ 32 := by omega
                  have hrd2 := HP2.out.1.rd
                  have hbs := fun wx h => beside_any C c' t k2 n false wx h (by omega)
                  have hB : isB t k2 n false = hitB t n k2 := rfl
                  rw [hB] at hbs
                  obtain ⟨H, hH⟩ : ∃ H, hitB t n k2 = H := ⟨_, rfl⟩
                  rw [hH] at hbs
                  have HBS := Lib.hid (show ∀ wx, Rd wx C 32 (blN t) → Calls Tryd.prog 32 #[.slice C 32 c', .int .i64 k2, .int .i64 n, .int .i64 0] wx fun e w' => e = .returned (.bool H) ∧ wx = w' from hbs)
                  have HRD := Lib.hid hrd2
                  have HH := Lib.hid hH
                  clear hbs hB hH hrd2
                  cases H
                  · go_wp2_with fail
                    with_reducible refine (HBS.out _ HRD.out).mono ?_
                    rintro e w' ⟨rfl, rfl⟩
                    go_wp2
                    go_roundw
                    case rel => exact .inl ⟨k2 + 1, by omega, by go_num, rfl, rfl, rfl, (fun a ha => by
                      by_cases e : a = k2
                      · subst e; exact HH.out
                      · exact HP2.out.2 a (by omega)), HP2.out.1⟩
                    case measure => simp [intOf]; omega
                  · have hfs := first_some HH.out hlt HP2.out.2
                    have hfl := fun wx h => fill_any C c' t k2 n true wx h HP2.out.1.1.2 n1 (by omega)
                    have HFS := Lib.hid hfs
                    have HFL := Lib.hid (show ∀ wx, Rd wx C 32 (blN t) → Calls Tryd.prog 33 #[.slice C 32 c', .int .i64 k2, .int .i64 n, .int .i64 1] wx fun e w' => (∃ C c', e = .returned (.slice C 32 c') ∧ Own w' wx.heap.size (.slice C 32 c') 32 (blN (t ||| runN k2 n))) ∧ Below wx.heap.size wx w' from hfl)
                    clear hfs hfl
                    go_wp2_with fail
                    with_reducible refine (HBS.out _ HRD.out).mono ?_
                    rintro e w' ⟨rfl, rfl⟩
                    go_wp2_with fail
                    with_reducible refine (HFL.out _ HRD.out).mono ?_
                    rintro e w5 ⟨⟨C5, c5, rfl, hown5⟩, k5⟩
                    have hM5 := HP2.out.1.1.below k5
                    have hO5 := hown5.monoX (show b + 1 ≤ wr.heap.size from HP2.out.1.1.1.2.2)
                    have hB5 := hb2.trans (k5.mono hb2.size)
                    have H5 := Lib.hid (And.intro hM5 hO5)
                    clear hM5 hO5 hown5 k5
                    go_wp2
                    go_roundw
                    case rel => exact .inr ⟨k2, hlt, by go_num, rfl, rfl, HFS.out, ⟨_, _, rfl⟩, H5.out.2, H5.out.1, hB5⟩
                    case measure => simp [intOf]; omega
                · have hsI : ¬ (k2 : Int) + (n : Int) ≤ 32 := by omega
                  have hfn := first_none (t := t) (n := n) (fun a ha => HP2.out.2 a (by omega))
                  have HFN := Lib.hid hfn
                  have hM2 := HP2.out.1.1
                  have HM2 := Lib.hid hM2
                  clear hfn hM2
                  go_wp2_with fail
                  with_reducible refine (take_any b t n _ HM2.out n1 n32).mono ?_
                  rintro e w6 h
                  rcases h with ⟨a, h1, _⟩ | ⟨_, h2, q6, h3⟩
                  · rw [HFN.out] at h1; cases h1
                  · subst h2
                    subst h3
                    have hps6 := HP2.out.1.drewN q6
                    have HP6 := Lib.hid hps6
                    have hT := HET.out.below hps6.2.2
                    clear hps6
                    go_wp2_with fail
                    with_reducible refine (error_err 4 4 _ hT).mono ?_
                    rintro e w7 ⟨rfl, k7⟩
                    have hps7 := HP6.out.below k7
                    have HP7 := Lib.hid hps7
                    clear hps7 k7 hT
                    go_wp2_with fail
                    go_meet
                    exact ⟨t, C, c', rfl, fun h => by omega, HP7.out⟩
              · have g4 := (hB2.cell (p := ⟨b1, o1, none⟩) hbl1).trans HG0.out
                have hul : t ||| runN a n < 4294967296 := or_lt hM2.2 (run_lt (by omega))
                obtain ⟨u, hu⟩ : ∃ u, t ||| runN a n = u := ⟨_, rfl⟩
                rw [hu] at hul hown2
                have HU := Lib.hid (And.intro hu (And.intro hfirst hul))
                have HO2 := Lib.hid (And.intro hown2 hM2)
                clear hu hfirst hul hown2 hM2
                have hex : ((a : Int) + 1 + (n : Int) ≤ 32) ∨ ¬ ((a : Int) + 1 + (n : Int) ≤ 32) := by omega
                rcases hex with hsI | hsI
                all_goals
                  go_wp2_with fail
                  with_reducible refine (take_any b t n _ HO2.out.2 n1 n32).mono ?_
                  rintro e w6 h
                  rcases h with ⟨a', h1, h2, h3⟩ | ⟨h1, _⟩
                  · rw [HU.out.2.1] at h1
                    injection h1 with h1
                    subst h1
                    rw [HU.out.1] at h3
                    obtain ⟨q6, rfl⟩ := h3
                    subst h2
                    have hps6 : PS w b u (.slice C2 32 c2) ((wr.drewN q6).setCell ⟨b, 0, none⟩ (.int .u32 (u : Int))) := ⟨MapAt.set (w := wr.drewN q6) HO2.out.2 HU.out.2.2, own_other (w := wr.drewN q6) HO2.out.1 (by omega) _, (below_drewN_of hB2 q6).setCell (p := ⟨b, 0, none⟩) hbw _⟩
                    obtain ⟨W6, hW6⟩ : ∃ W, W = (wr.drewN q6).setCell ⟨b, 0, none⟩ (.int .u32 (u : Int)) := ⟨_, rfl⟩
                    rw [← hW6] at hps6 ⊢
                    have HP6 := Lib.hid hps6
                    have haa : ((a : Int) != (a : Int)) = false := by simp
                    clear hps6 hW6
                    go_wp2_with fail
                    with_reducible refine (error_nil 0 _).mono ?_
                    rintro e w' ⟨rfl, rfl⟩
                    go_wp2_with fail
                    go_meet
                    exact ⟨u, C2, c2, rfl, fun h => by omega, HP6.out⟩
                  · rw [HU.out.2.1] at h1; cases h1
          · have hno : v < 1 ∨ 32 < v := by omega
            have hT := HET.out.below hbel
            go_wp2_with fail
            with_reducible refine (in_no _ _ _ _ hno).mono ?_
            rintro e w' ⟨rfl, rfl⟩
            go_wp2_with fail
            with_reducible refine (take_range b v _ hno).mono ?_
            rintro e w' ⟨rfl, rfl⟩
            go_wp2_with fail
            with_reducible refine (error_err 1 1 _ hT).mono ?_
            rintro e w7 ⟨rfl, k7⟩
            have hps7 := HPS.out.below k7
            have HP7 := Lib.hid hps7
            clear hps7 k7 hT
            go_wp2_with fail
            go_meet
            exact ⟨t, C, c', rfl, fun h => by omega, HP7.out⟩
        · have hneb : ((n1 : Int) == 1) = false := by simp; omega
          go_wp2_with fail
          go_meet
          exact ⟨t, C, c', rfl, fun _ => rfl, HPS.out⟩
      case rest =>
        obtain ⟨t, C, c', rfl, he0, hps⟩ := hcut
        have hbel := hps.2.2
        have HPS := Lib.hid hps
        have HE0 := Lib.hid he0
        clear hps he0
        go_upto_if 86 with fail
        go_cut [4, 7] (fun s4 s7 wx => ∃ (t : Nat) (C : Option Addr) (c' : Nat), s4 = .slice C 32 c' ∧ PS w b t (.slice C 32 c') wx)
        case first =>
          by_cases h2 : n1 = 2
          · subst h2
            have he := HE0.out rfl
            subst he
            clear HE0
            obtain ⟨b1, o1, rfl, hbl1, hc1⟩ := hRd.at_ (by omega)
            have g2 := (hbel.cell (p := ⟨b1, o1, none⟩) hbl1).trans (hc1 0 (by omega))
            have g3 := (hbel.cell (p := ⟨b1, o1 + 1, none⟩) hbl1).trans (hc1 1 (by omega))
            have hr := hRd.range 0
            have hr1 := hRd.range 1
            obtain ⟨v, hv⟩ : ∃ v, xs[0]?.getD 0 = v := ⟨_, rfl⟩
            obtain ⟨u, hu⟩ : ∃ u, xs[1]?.getD 0 = u := ⟨_, rfl⟩
            have HC1 := Lib.hid (show (∀ W : World, Below w.heap.size w W → W.cell? ⟨b1, o1, none⟩ = some (.int .i64 v) ∧ W.cell? ⟨b1, o1 + 1, none⟩ = some (.int .i64 u)) from fun W h => ⟨by rw [← hv]; exact (h.cell (p := ⟨b1, o1, none⟩) hbl1).trans (hc1 0 (by omega)), by rw [← hu]; exact (h.cell (p := ⟨b1, o1 + 1, none⟩) hbl1).trans (hc1 1 (by omega))⟩)
            rw [hv] at g2 hr
            rw [hu] at g3 hr1
            have hT := HET.out.below hbel
            have HT := Lib.hid hT
            clear hc1 hv hu hT
            by_cases hin : (1 ≤ u ∧ u ≤ 32) ∧ 0 ≤ v ∧ v ≤ 32 - u
            · obtain ⟨⟨u0, u1⟩, v0, v1⟩ := hin
              obtain ⟨n, rfl⟩ := Int.eq_ofNat_of_zero_le (show 0 ≤ u by omega)
              obtain ⟨a, rfl⟩ := Int.eq_ofNat_of_zero_le v0
              have n1 : 1 ≤ n := by omega
              have han : a + n ≤ 32 := by omega
              have hrd2 := HPS.out.rd
              have hbs := fun wx h => beside_any C c' t a n true wx h han
              have hBq : isB t a n true = fullB t a n := rfl
              rw [hBq] at hbs
              obtain ⟨H, hH⟩ : ∃ H, fullB t a n = H := ⟨_, rfl⟩
              rw [hH] at hbs
              have HBS := Lib.hid (show ∀ wx, Rd wx C 32 (blN t) → Calls Tryd.prog 32 #[.slice C 32 c', .int .i64 a, .int .i64 n, .int .i64 1] wx fun e w' => e = .returned (.bool H) ∧ wx = w' from hbs)
              have HRD := Lib.hid hrd2
              clear hbs hBq hrd2 hr hr1
              cases H
              · have hnf : ¬ FullAt t a n := fun h => by
                  have : fullB t a n = true := decide_eq_true (full_iff.2 h)
                  rw [hH] at this; cases this
                have hbk : ∀ wx, MapAt wx b t → Calls Tryd.prog 30 #[.pointer (some ⟨b, 0, none⟩), .int .i64 a, .int .i64 n] wx fun e w' => e = .returned (.iface 65 (.int .i64 5)) ∧ ∃ q, w' = wx.drewN q := fun wx h =>
                  (back_any b t a n wx h n1 han).mono fun e w' h => by
                    rcases h with ⟨h1, _⟩ | ⟨_, h2⟩
                    · exact absurd h1 hnf
                    · exact h2
                have HBK := Lib.hid hbk
                clear hnf hbk hH
                go_wp2
                go_quiet ((go_at_call 9; first | exact Calls.quiet_of_same ((in_yes _ _ _ _ (by omega) (by omega)).mono fun _ _ h => ⟨h.1, h.2.symm⟩) | exact Calls.quiet_of_same ((in_no _ _ _ _ (by omega)).mono fun _ _ h => ⟨h.1, h.2.symm⟩)))
                go_wp2
                obtain ⟨Wq, hWq⟩ : ∃ W, W = wc.drewN nq := ⟨_, rfl⟩
                rw [← hWq]
                have hPWq : PS w b t (.slice C 32 c') Wq := by rw [hWq]; exact HPS.out.drewN _
                have HPWq := Lib.hid hPWq
                have hBWq := hPWq.2.2
                have hrdWq := hPWq.rd
                have hMWq := hPWq.1
                have HRDWq := Lib.hid hrdWq
                have HMWq := Lib.hid hMWq
                obtain ⟨g2Wq, g3Wq⟩ := HC1.out Wq hBWq
                have hTWq := HET.out.below hBWq
                have HTWq := Lib.hid hTWq
                clear hWq hPWq hrdWq hMWq hTWq
                go_quiet ((go_at_call 32; exact Calls.quiet_of_same ((HBS.out _ (by exact HRDWq.out)).mono fun _ _ h => ⟨h.1, h.2.symm⟩)))
                go_wp2
                obtain ⟨Wr, hWr⟩ : ∃ W, W = Wq.drewN nq := ⟨_, rfl⟩
                rw [← hWr]
                have hPWr : PS w b t (.slice C 32 c') Wr := by rw [hWr]; exact HPWq.out.drewN _
                have HPWr := Lib.hid hPWr
                have hBWr := hPWr.2.2
                have hrdWr := hPWr.rd
                have hMWr := hPWr.1
                have HRDWr := Lib.hid hrdWr
                have HMWr := Lib.hid hMWr
                obtain ⟨g2Wr, g3Wr⟩ := HC1.out Wr hBWr
                have hTWr := HET.out.below hBWr
                have HTWr := Lib.hid hTWr
                clear hWr hPWr hrdWr hMWr hTWr
                go_region_law (first
                  | (go_simp; go_at_call 30; refine (HBK.out _ (by exact HMWr.out)).mono ?_; rintro e w6 ⟨rfl, hw6⟩; have HW6 := Lib.hid hw6; clear hw6)
                  | (go_simp; go_at_call 11; refine (error_err 5 5 _ (by obtain ⟨q, hq⟩ := HW6.out; rw [hq]; exact HTWr.out)).mono ?_; rintro e w7 ⟨rfl, k7⟩))
                all_goals
                  have hp6 : PS w b t (.slice C 32 c') w6 := by
                    obtain ⟨q, hq⟩ := HW6.out
                    rw [hq]
                    first | exact (HPWr.out.drewN _).drewN _ | exact HPWr.out.drewN _
                  have hp7 : PS w b t (.slice C 32 c') w7 := by first | exact hp6.below k7 | exact (hp6.drewN _).below k7
                  have HP7 := Lib.hid hp7
                  clear hp6 hp7 k7
                  go_wp2_with fail
                  go_meet
                  first | exact ⟨t, C, c', rfl, HP7.out⟩ | exact ⟨t, C, c', rfl, HP7.out.drewN _⟩
              · have hfu : FullAt t a n := full_iff.1 (of_decide_eq_true hH)
                have htl := HPS.out.1.2
                have hul : clearN t (runN a n) < 4294967296 := clear_lt htl
                have hfl := fun wx h => fill_any C c' t a n false wx h htl n1 han
                have hfe : fillN t a n false = clearN t (runN a n) := rfl
                rw [hfe] at hfl
                have hbk : ∀ wx, MapAt wx b t → Calls Tryd.prog 30 #[.pointer (some ⟨b, 0, none⟩), .int .i64 a, .int .i64 n] wx fun e w' => e = .returned .nilIface ∧ ∃ q, w' = (wx.drewN q).setCell ⟨b, 0, none⟩ (.int .u32 ((clearN t (runN a n) : Nat) : Int)) := fun wx h =>
                  (back_any b t a n wx h n1 han).mono fun e w' h => by
                    rcases h with ⟨_, h2⟩ | ⟨h1, _⟩
                    · exact h2
                    · exact absurd hfu h1
                obtain ⟨U, hU⟩ : ∃ U, clearN t (runN a n) = U := ⟨_, rfl⟩
                rw [hU] at hul hbk hfl
                have HBK := Lib.hid hbk
                have HFL := Lib.hid (show ∀ wx, Rd wx C 32 (blN t) → Calls Tryd.prog 33 #[.slice C 32 c', .int .i64 a, .int .i64 n, .int .i64 0] wx fun e w' => (∃ C c', e = .returned (.slice C 32 c') ∧ Own w' wx.heap.size (.slice C 32 c') 32 (blN U)) ∧ Below wx.heap.size wx w' from hfl)
                have HUL := Lib.hid hul
                clear hfu htl hul hfl hfe hbk hU hH
                go_wp2
                go_quiet ((go_at_call 9; first | exact Calls.quiet_of_same ((in_yes _ _ _ _ (by omega) (by omega)).mono fun _ _ h => ⟨h.1, h.2.symm⟩) | exact Calls.quiet_of_same ((in_no _ _ _ _ (by omega)).mono fun _ _ h => ⟨h.1, h.2.symm⟩)))
                go_wp2
                obtain ⟨Wq, hWq⟩ : ∃ W, W = wc.drewN nq := ⟨_, rfl⟩
                rw [← hWq]
                have hPWq : PS w b t (.slice C 32 c') Wq := by rw [hWq]; exact HPS.out.drewN _
                have HPWq := Lib.hid hPWq
                have hBWq := hPWq.2.2
                have hrdWq := hPWq.rd
                have hMWq := hPWq.1
                have HRDWq := Lib.hid hrdWq
                have HMWq := Lib.hid hMWq
                obtain ⟨g2Wq, g3Wq⟩ := HC1.out Wq hBWq
                have hTWq := HET.out.below hBWq
                have HTWq := Lib.hid hTWq
                clear hWq hPWq hrdWq hMWq hTWq
                go_quiet ((go_at_call 32; exact Calls.quiet_of_same ((HBS.out _ (by exact HRDWq.out)).mono fun _ _ h => ⟨h.1, h.2.symm⟩)))
                go_wp2
                obtain ⟨Wr, hWr⟩ : ∃ W, W = Wq.drewN nq := ⟨_, rfl⟩
                rw [← hWr]
                have hPWr : PS w b t (.slice C 32 c') Wr := by rw [hWr]; exact HPWq.out.drewN _
                have HPWr := Lib.hid hPWr
                have hBWr := hPWr.2.2
                have hrdWr := hPWr.rd
                have hMWr := hPWr.1
                have HRDWr := Lib.hid hrdWr
                have HMWr := Lib.hid hMWr
                obtain ⟨g2Wr, g3Wr⟩ := HC1.out Wr hBWr
                have hTWr := HET.out.below hBWr
                have HTWr := Lib.hid hTWr
                clear hWr hPWr hrdWr hMWr hTWr
                go_region_law (first | (go_simp; go_at_call 33; refine (HFL.out _ (by exact HRDWr.out)).mono ?_; rintro e w5 ⟨⟨C5, c5, rfl, hown5⟩, k5⟩))
                all_goals
                  have hM5 : MapAt w5 b t := by first | exact HMWr.out.below k5 | exact (show MapAt (Wr.drewN _) b t from HMWr.out).below k5
                  have hO5 : Own w5 (b + 1) (.slice C5 32 c5) 32 (blN U) := hown5.monoX (show b + 1 ≤ Wr.heap.size from HMWr.out.1.2.2)
                  have hB5 : Below w.heap.size w w5 := by first | exact hBWr.trans (k5.mono hBWr.size) | exact (below_drewN_of hBWr _).trans (k5.mono hBWr.size)
                  obtain ⟨g25, g35⟩ := HC1.out w5 hB5
                  have H5 := Lib.hid (And.intro hM5 hO5)
                  have HM5 := Lib.hid hM5
                  clear hM5 hO5 hown5 k5
                  go_wp2
                  go_region_law (first
                    | (go_simp; go_at_call 30; refine (HBK.out _ (by exact HM5.out)).mono ?_; rintro e w6 ⟨rfl, hw6⟩; have HW6 := Lib.hid hw6; clear hw6)
                    | (go_simp; go_at_call 11; refine (error_nil 0 _).mono ?_; rintro e w7 ⟨rfl, rfl⟩))
                  all_goals
                    have hp6 : PS w b U (.slice C5 32 c5) w6 := by
                      obtain ⟨q, hq⟩ := HW6.out
                      rw [hq]
                      exact ⟨MapAt.set (by exact HM5.out) HUL.out, own_other (by exact H5.out.2) (by omega) _, (below_drewN_of (by first | exact below_drewN_of hB5 _ | exact hB5) q).setCell (p := ⟨b, 0, none⟩) hbw _⟩
                    have HP6 := Lib.hid hp6
                    clear hp6
                    go_wp2_with fail
                    go_meet
                    first | exact ⟨U, C5, c5, rfl, HP6.out⟩ | exact ⟨U, C5, c5, rfl, HP6.out.drewN _⟩
            · have hbk := fun wx => back_range b v u wx hr (by omega)
              have HBK := Lib.hid (show ∀ wx, Calls Tryd.prog 30 #[.pointer (some ⟨b, 0, none⟩), .int .i64 v, .int .i64 u] wx fun e w' => e = .returned (.iface 65 (.int .i64 1)) ∧ ∃ q, w' = wx.drewN q from fun wx => (hbk wx).mono fun e w' h => ⟨h.1, 0, h.2.symm⟩)
              clear hbk hr hr1
              rcases (by omega : (u < 1 ∨ 32 < u) ∨ ((1 ≤ u ∧ u ≤ 32) ∧ (v < 0 ∨ 32 - u < v))) with hno | ⟨⟨u0, u1⟩, hno⟩
              all_goals
                go_wp2
                go_quiet ((go_at_call 9; first | exact Calls.quiet_of_same ((in_yes _ _ _ _ (by omega) (by omega)).mono fun _ _ h => ⟨h.1, h.2.symm⟩) | exact Calls.quiet_of_same ((in_no _ _ _ _ (by omega)).mono fun _ _ h => ⟨h.1, h.2.symm⟩)))
                go_wp2
                obtain ⟨Wq, hWq⟩ : ∃ W, W = wc.drewN nq := ⟨_, rfl⟩
                rw [← hWq]
                have hPWq : PS w b t (.slice C 32 c') Wq := by rw [hWq]; exact HPS.out.drewN _
                have HPWq := Lib.hid hPWq
                have hBWq := hPWq.2.2
                have hrdWq := hPWq.rd
                have hMWq := hPWq.1
                have HRDWq := Lib.hid hrdWq
                have HMWq := Lib.hid hMWq
                obtain ⟨g2Wq, g3Wq⟩ := HC1.out Wq hBWq
                have hTWq := HET.out.below hBWq
                have HTWq := Lib.hid hTWq
                clear hWq hPWq hrdWq hMWq hTWq
                go_region_law (first
                  | (go_simp; go_at_call 30; refine (HBK.out _).mono ?_; rintro e w6 ⟨rfl, hw6⟩; have HW6 := Lib.hid hw6; clear hw6)
                  | (go_simp; go_at_call 11; refine (error_err 1 1 _ (by obtain ⟨q, hq⟩ := HW6.out; rw [hq]; exact HTWq.out)).mono ?_; rintro e w7 ⟨rfl, k7⟩))
                all_goals
                  have hp6 : PS w b t (.slice C 32 c') w6 := by
                    obtain ⟨q, hq⟩ := HW6.out
                    rw [hq]
                    first | exact (HPWq.out.drewN _).drewN _ | exact HPWq.out.drewN _
                  have hp7 : PS w b t (.slice C 32 c') w7 := by first | exact hp6.below k7 | exact (hp6.drewN _).below k7
                  have HP7 := Lib.hid hp7
                  clear hp6 hp7 k7
                  go_wp2_with fail
                  go_meet
                  first | exact ⟨t, C, c', rfl, HP7.out⟩ | exact ⟨t, C, c', rfl, HP7.out.drewN _⟩
          · have hneb : ((n1 : Int) == 2) = false := by simp; omega
            go_wp2_with fail
            go_meet
            exact ⟨t, C, c', rfl, HPS.out⟩
        case rest =>
          obtain ⟨t, C, c', rfl, hps⟩ := hcut
          obtain ⟨bx, ox, rfl, _, _⟩ := hps.rd.at_ (by omega)
          have HPS2 := Lib.hid hps
          clear hps HPS HE0
          go_wp2
          go_loopw [12, 13, 14, 15] (fun al mo he i wr => ∃ k : Nat, k ≤ 32 ∧ i = .int .i64 k ∧ al = .int .i64 ((allF t k : Nat) : Int) ∧ mo = .int .i64 ((mostF t k : Nat) : Int) ∧ he = .int .i64 ((hereF t k : Nat) : Int) ∧ PS w b t (.slice (some ⟨bx, ox, none⟩) 32 c') wr) (fun _ _ _ i _ => 32 - (intOf i).toNat)
          case atStart => exact ⟨0, Nat.zero_le _, rfl, rfl, rfl, rfl, HPS2.out⟩
          case round =>
            obtain ⟨j, hj, rfl, rfl, rfl, rfl, hps⟩ := hrel
            have HP3 := Lib.hid hps
            have h1 := here_le t j
            have h2 := most_le t j
            have h3 := all_le t j
            clear hps HPS2
            by_cases hlt : j < 32
            · have hjI : (j : Int) < 32 := by omega
              obtain ⟨_, _, hbe, _, hcx⟩ := HP3.out.rd.at_ (by omega)
              injection hbe with hbe
              injection hbe with e1 e2 _
              subst e1
              subst e2
              have gx := hcx j hlt
              rw [bl_get t hlt] at gx
              have hhas := fun wx h => has_in b t j wx h hlt
              have e1 : hereF t (j + 1) = if t.testBit j then 0 else hereF t j + 1 := rfl
              have e2 : mostF t (j + 1) = if t.testBit j then mostF t j else max (mostF t j) (hereF t j + 1) := rfl
              have e3 : allF t (j + 1) = allF t j + if t.testBit j then 0 else 1 := rfl
              obtain ⟨H, hH⟩ : ∃ H, hereF t j = H := ⟨_, rfl⟩
              obtain ⟨M, hMm⟩ : ∃ M, mostF t j = M := ⟨_, rfl⟩
              obtain ⟨F, hF⟩ : ∃ F, allF t j = F := ⟨_, rfl⟩
              rw [hH] at h1 e1 e2 ⊢
              rw [hMm] at h2 e2 ⊢
              rw [hF] at h3 e3 ⊢
              cases hbit : t.testBit j
              · rw [hbit] at e1 e2 e3 hhas gx
                rw [if_neg (by decide)] at e1 e2 e3 gx
                have HE := Lib.hid (And.intro e1 (And.intro e2 e3))
                have HH := Lib.hid (fun wx => hhas wx)
                clear e1 e2 e3 hH hMm hF hbit hcx hhas
                rcases Nat.lt_or_ge M (H + 1) with hmx | hmx
                · have hm1 : (M : Int) < (H : Int) + 1 := by omega
                  go_wp2
                  go_quiet ((go_at_call 28; exact Calls.quiet_of_same ((HH.out _ (by exact HP3.out.1)).mono fun _ _ h => ⟨h.1, h.2.symm⟩)))
                  go_wp2
                  go_roundw
                  case rel => exact ⟨j + 1, by omega, by go_num, by rw [HE.out.2.2]; go_num, by rw [HE.out.2.1, show max M (H + 1) = H + 1 by omega]; go_num, by rw [HE.out.1]; go_num, HP3.out.drewN _⟩
                  case measure => simp [intOf]; omega
                · have hm1 : ¬ (M : Int) < (H : Int) + 1 := by omega
                  go_wp2
                  go_quiet ((go_at_call 28; exact Calls.quiet_of_same ((HH.out _ (by exact HP3.out.1)).mono fun _ _ h => ⟨h.1, h.2.symm⟩)))
                  go_wp2
                  go_roundw
                  case rel => exact ⟨j + 1, by omega, by go_num, by rw [HE.out.2.2]; go_num, by rw [HE.out.2.1, show max M (H + 1) = M by omega], by rw [HE.out.1]; go_num, HP3.out.drewN _⟩
                  case measure => simp [intOf]; omega
              · rw [hbit] at e1 e2 e3 hhas gx
                rw [if_pos rfl] at e1 e2 e3 gx
                have HE := Lib.hid (And.intro e1 (And.intro e2 e3))
                have HH := Lib.hid (fun wx => hhas wx)
                have hm1 : ¬ (M : Int) < 0 := by omega
                clear e1 e2 e3 hH hMm hF hbit hcx hhas
                go_wp2
                go_quiet ((go_at_call 28; exact Calls.quiet_of_same ((HH.out _ (by exact HP3.out.1)).mono fun _ _ h => ⟨h.1, h.2.symm⟩)))
                go_wp2
                go_roundw
                case rel => exact ⟨j + 1, by omega, by go_num, by rw [HE.out.2.2]; go_num, by rw [HE.out.2.1], by rw [HE.out.1]; rfl, HP3.out.drewN _⟩
                case measure => simp [intOf]; omega
            · obtain rfl : j = 32 := by omega
              have hfr := fun wx h => free_any b t wx h
              obtain ⟨M, hMm⟩ : ∃ M, mostF t 32 = M := ⟨_, rfl⟩
              obtain ⟨F, hF⟩ : ∃ F, allF t 32 = F := ⟨_, rfl⟩
              rw [hMm, hF] at hfr
              rw [hMm, hF]
              rw [show ((32 : Nat) : Int) = 32 from rfl]
              have HFR := Lib.hid hfr
              have hM3 := HP3.out.1
              have HM3 := Lib.hid hM3
              have hf1 : ((F : Int) != (F : Int)) = false := by simp
              have hf2 : ((M : Int) != (M : Int)) = false := by simp
              clear hfr hM3 hMm hF h1 h2 h3
              go_wp2_with fail
              with_reducible refine (HFR.out _ HM3.out).mono ?_
              rintro e w' ⟨rfl, q9, rfl⟩
              go_wp2
              go_roundw
              case rel => first | exact ⟨k + 1, t, _, c', by omega, by omega, by go_num, rfl, HP3.out.drewN _⟩ | ((repeat apply Exists.intro); exact ⟨⟨k + 1, t, _, c', by omega, by omega, by go_num, rfl, HP3.out.drewN _⟩, rfl⟩)
              case measure => simp [intOf]; omega
    · have hex : (¬ (k : Int) < (m : Int)) ∨ ((k : Int) < (m : Int) ∧ ¬ (k : Int) < 60) := by omega
      rcases hex with hkI | ⟨hkI, hk6I⟩
      all_goals
        go_wp2_with fail
        with_reducible refine (has_out b (-1) _ (by omega)).mono ?_
        rintro e w' ⟨rfl, rfl⟩
        go_wp2_with fail
        with_reducible refine (has_out b 32 _ (by omega)).mono ?_
        rintro e w' ⟨rfl, rfl⟩
        go_wp2
        go_ret
        exact ⟨rfl, hbel⟩

set_option maxRecDepth 100000 in
theorem lifted (os : Os) (started : os.Started) (H : Type) (enc : TypeId × Value → H) :
    ReturnsInHanded {} Tryd.checked os 7 .any (fun w args => (Rows.bitmapPlaysSpec.pre enc Tryd.prog Tryd.f7 [] false w args ∧ laidMetH Tryd.prog Rows.bitmapPlaysRow.laid w) ∧ sizedMet enc Tryd.prog Tryd.f7 (OpenSpec.ofChange Rows.bitmapPlaysSpec) false w args)
      (Rows.bitmapPlaysSpec.post enc Tryd.prog Tryd.f7 false true false false) := by
  refine returnsInHanded_of_change_and (C := Tryd.checked) (X := fun w _ => laidMetH Tryd.prog Rows.bitmapPlaysRow.laid w) (fun _ _ _ hh h => h.of_heap hh) own started (by kernel_rfl) Tryd.func7
    (ChangeSpec.witness_at (enc := enc) (C := Tryd.checked) (os := os) (X := fun w _ => laidMetH Tryd.prog Rows.bitmapPlaysRow.laid w) false (laidWorld os) #[.slice none 0 0] 8 rfl (by kernel_rfl) (by kernel_rfl) (by kernel_rfl) (by kernel_rfl) (by kernel_rfl) (laidWorld_met os _)) ?_
  intro W base args ds gs before hval0 hW _ _ hL _
  have hval : ∀ (j : Nat) t v, Tryd.f7.params[j]? = some t → args[j]? = some v → Value.okWide Tryd.prog W .any base t v := hval0
  have hW' := hW
  obtain ⟨p, q, hA0, hV, rfl, hfz, hnd⟩ := hW
  have hA : DataW.TrodAll enc Tryd.prog W 0 (fun _ => true) true Tryd.f7.params.toList args.toList ds p := hA0
  rw [Tryd.params7] at hA hval
  obtain ⟨v0, vs0, d0, ds0, p0, q0, hargs, rfl, rfl, h0, r0⟩ := trodAll_cons hA
  obtain ⟨rfl, rfl, rfl⟩ := trodAll_nil r0
  obtain rfl : args = #[v0] := by cases args; simp_all
  obtain ⟨rfl, rfl⟩ := trodVars_none hV
  have k0 := h0
  have lt0 : ∀ x ∈ p0, x.block < W.heap.size := by obtain ⟨m, hm⟩ := k0; exact DataW.trod_lt m _ _ _ hm
  obtain ⟨A0, n0, c0, rfl⟩ := okWide_slice Tryd.underlying23 (hval 0 23 v0 rfl rfl)
  obtain ⟨rs0, w0, hc0⟩ : ∃ rs, RRows W A0 n0 rs ∧ n0 ≤ c0 := by
    obtain ⟨fuel, hf⟩ := h0
    rcases Go.Deep.open_int_rows Tryd.underlying23 Tryd.underlying22 Tryd.underlying3 (by kernel_rfl) (by kernel_rfl) hf with ⟨hcs, _⟩ | ⟨x, l, c, AA, LL, CC, ZZ, hcs, _, hl, hm, _, hrow⟩
    · simp [Value.cells] at hcs
      obtain ⟨rfl, rfl, rfl⟩ := hcs
      exact ⟨[], rrows_nil _ _, Nat.le_refl _⟩
    · simp [Value.cells] at hcs
      obtain ⟨rfl, rfl, rfl⟩ := hcs
      exact ⟨_, rrows_of_cells hl hm hrow, hl⟩
  clear hA0 hval0
  refine (walk W A0 n0 c0 rs0 w0 hc0 (handle_of_laid hL)).mono fun e W' ⟨he, bel⟩ => ?_
  subst he
  exact ⟨_, rfl, _, _, _, [], _, [], hW', trodAll_mk1 (shut_bool Tryd.underlying4 _), (trodAll_cons_mk (Below.trod laidOut (by kernel_rfl) (of_decide_eq_true (by kernel_rfl)) k0 bel lt0) trodAll_mk0), rfl, bel.frame _, fun h => by cases h⟩

theorem over : Rows.bitmapPlaysRow.holds Tryd.pinned (OpenSpec.ofChange Rows.bitmapPlaysSpec) :=
  OpenClaim.holds_of_wide 7 Tryd.f7 rfl rfl rfl rfl rfl rfl rfl ⟨rfl, rfl, rfl, rfl, rfl⟩ rfl rfl rfl rfl rfl (by kernel_rfl) Tryd.func7 (by kernel_rfl)
    (of_decide_eq_true (by kernel_rfl)) (by unfold Func.isWrapper; first | (rw [if_pos (by decide +kernel)]; kernel_rfl) | (rw [if_neg (by decide +kernel)]; exact ⟨rfl, rfl⟩))
    (fun os started H enc _ => lifted os started H enc)

theorem card_holds : Rows.BitmapPlaysCardSaid :=
  Claim7.holds_tied_plain_at .later [] [.handle] true Rows.bitmapPlaysCard.stood.harness Rows.bitmapPlaysCard.stood.looks
    over (fun _ h => by cases h) (by kernel_rfl) (fun _ h => by cases h) bitmapPlays_row_tie rfl ⟨rfl, rfl⟩ (by kernel_rfl) rfl
    (fun f fn hf hfn => by
      obtain rfl : f = 7 := Option.some.inj ((show Tryd.prog.funcNamed "platterhold/platterholdlaw1.BitmapPlays" = some 7 by kernel_rfl).symm.trans hf) |>.symm
      obtain rfl : fn = Tryd.f7 := (Option.some.inj (Tryd.func7.symm.trans hfn)).symm
      exact ⟨by kernel_rfl, fun j t ht => by
        rw [Tryd.params7] at ht
        have hm : t ∈ [23] := by simpa using Array.mem_of_getElem? ht
        have hall : ([23].all fun u => !Tryd.prog.wantsStandIn u) = true := by kernel_rfl
        exact (show Tryd.prog.wantsStandIn t = false by simpa using List.all_eq_true.1 hall t hm)⟩)
    (by kernel_rfl)
theorem proved : Rows.BitmapPlaysCardSaid := card_holds
#print axioms proved
end Go.Proofs.YtllacbogbbbcaaaDoor.bitmapPlays
