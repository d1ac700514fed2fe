/- Allocation bitmaps and extent sets agree: TopBlocks answers true at every slice of slices of ints and every int. Conditions: none beside the row's own. -/
import Derived.Test.YtllacbogbbbcaaaBit
import Derived.Test.YtllacbogbbbcaaaTopBP
import Derived.Test.YtllacbogbbbcaaaExt4
import Derived.Test.YtllacbogbbbcaaaRL0
namespace Go.Proofs.Ytllacbogbbbcaaa.topBlocks
open Go Go.ChangeShapes Go.WideShapes Go.ChangeAt Go.RowKit
set_option linter.unusedVariables false
set_option maxRecDepth 100000

theorem rowAt {w : World} {A : Option Addr} {n : Nat} {rs : List RV} (h : RRows w A n rs) {k : Nat} (hk : k < n) :
    ∃ b off A1 n1 c1 xs, A = some ⟨b, off, none⟩ ∧ b < w.heap.size ∧ rs[k]?.getD noRow = (A1, n1, c1, xs) ∧ w.cell? ⟨b, off + k, none⟩ = some (.slice A1 n1 c1) ∧ Rd w A1 n1 xs := by
  obtain ⟨b, off, hA, hb, hc⟩ := h.at_ (by omega)
  have hs := h.sl hk
  have hck := hc k hk
  rcases hr : rs[k]?.getD noRow with ⟨A1, n1, c1, xs⟩
  rw [hr] at hs hck
  exact ⟨b, off, A1, n1, c1, xs, hA, hb, rfl, hck, hs.1⟩
theorem ownP_other {w : World} {B n b : Nat} {v : Value} {xs : List VV} (h : OwnP w B v n xs) (hb : b < B) (y : Value) : OwnP (w.setCell ⟨b, 0, none⟩ y) B v n xs := by
  refine World.ownsRow.kept (row := some b) h ?_ ?_
  · refine ⟨rfl, rfl, rfl, by simp, fun k hk hne => ?_⟩
    exact heap_setCell_other w ⟨b, 0, none⟩ k y (fun e => hne (by rw [e]))
  · rcases hv : v.ownBlock with _ | g
    · exact .inl rfl
    · exact .inr fun e => by
        injection e with e
        have := (World.ownsRow.lt h g hv).1
        omega
def TB (w : World) (b t : Nat) (v : Value) (n' : Nat) (l : List Rn) (wr : World) : Prop := MapAt wr b t ∧ OwnP wr (b + 1) v n' (l.map rv) ∧ n' ≤ 16 ∧ RunsOf l t ∧ Below w.heap.size w wr
theorem TB.rd {w : World} {b t n' c : Nat} {C : Option Addr} {l : List Rn} {wr : World} (h : TB w b t (.slice C n' c) n' l wr) : RdP wr C n' (l.map rv) ∧ Bd l :=
  ⟨h.2.1.rd (by have := h.2.2.1; omega), bd_ok (okR_mem (runsE_zero.1 h.2.2.2.1.1).2)⟩
theorem TB.drewN {w : World} {b t n' : Nat} {v : Value} {l : List Rn} {wr : World} (h : TB w b t v n' l wr) (q : Nat) : TB w b t v n' l (wr.drewN q) := ⟨h.1, h.2.1, h.2.2.1, h.2.2.2.1, below_drewN_of h.2.2.2.2 q⟩
/-- The map has changed; the runs not yet. -/
def TC (w : World) (b t u : Nat) (v : Value) (n' : Nat) (l : List Rn) (wr : World) : Prop := MapAt wr b u ∧ OwnP wr (b + 1) v n' (l.map rv) ∧ n' ≤ 16 ∧ RunsOf l t ∧ Below w.heap.size w wr
theorem TB.set {w : World} {b t u n' : Nat} {v : Value} {l : List Rn} {wr : World} (h : TB w b t v n' l wr) (hb : w.heap.size ≤ b) (hu : u < 4294967296) (q : Nat) : TC w b t u v n' l ((wr.drewN q).setCell ⟨b, 0, none⟩ (.int .u32 (u : Int))) :=
  ⟨MapAt.set (w := wr.drewN q) h.1 hu, ownP_other (w := wr.drewN q) h.2.1 (by omega) _, h.2.2.1, h.2.2.2.1, (below_drewN_of h.2.2.2.2 q).setCell (p := ⟨b, 0, none⟩) hb _⟩
theorem TC.rd {w : World} {b t u n' c : Nat} {C : Option Addr} {l : List Rn} {wr : World} (h : TC w b t u (.slice C n' c) n' l wr) : RdP wr C n' (l.map rv) ∧ Bd l :=
  ⟨h.2.1.rd (by have := h.2.2.1; omega), bd_ok (okR_mem (runsE_zero.1 h.2.2.2.1.1).2)⟩
theorem TC.next {w : World} {b t u n' m : Nat} {v v' : Value} {l l' : List Rn} {wr w' : World} (h : TC w b t u v n' l wr) (hb : Below wr.heap.size wr w') (hm : m ≤ 16) (ho : OwnP w' wr.heap.size v' m (l'.map rv)) (hr : RunsOf l' u) : TB w b u v' m l' w' :=
  ⟨h.1.below hb, ho.mono h.1.1.2.2, hm, hr, h.2.2.2.2.trans (hb.mono h.2.2.2.2.size)⟩
theorem TC.drewN {w : World} {b t u n' : Nat} {v : Value} {l : List Rn} {wr : World} (h : TC w b t u v n' l wr) (q : Nat) : TC w b t u v n' l (wr.drewN q) := ⟨h.1, h.2.1, h.2.2.1, h.2.2.2.1, below_drewN_of h.2.2.2.2 q⟩

set_option maxHeartbeats 16000000 in
theorem walk (w : World) (A : Option Addr) (m c : Nat) (rs : List RV) (hA : RRows w A m rs) (hmc : m ≤ c) (p : Int) (hp : -9223372036854775808 ≤ p ∧ p ≤ 9223372036854775807) :
    Calls Try.prog 9 #[.slice A m c, .int .i64 p] w fun e w' => e = .returned (.bool true) ∧ Below w.heap.size w w' := by
  have hmax := hA.max
  have f1 : firstN 0 2 = some 0 := by decide +kernel
  have HF := Lib.hid f1
  have hz : ∀ wx, MapAt wx w.heap.size 3 → Calls Try.prog 27 #[.pointer (some ⟨w.heap.size, 0, none⟩), .int .i64 1] wx fun e w' => e = .returned (.bool true) ∧ wx = w' := fun wx h => has_in w.heap.size 3 1 wx h (by decide)
  have HZ := Lib.hid hz
  clear f1 hz
  go_enter Try.func9, Try.ntmps9
  go_wp2_with fail
  with_reducible refine (new_any _).mono ?_
  rintro e w1 ⟨rfl, rfl⟩
  have hM0 := MapAt.new w
  have hB0 := (Below.refl w.heap.size w).alloc (Nat.le_refl _) (.cells #[.int .u32 0] 65)
  obtain ⟨W0, hW0⟩ : ∃ W, W = w.alloc (.cells #[.int .u32 0] 65) := ⟨_, rfl⟩
  rw [← hW0] at hM0 hB0 ⊢
  clear hW0
  go_wp2_with fail
  refine (take_any _ 0 2 _ hM0 (by decide) (by decide)).mono ?_
  rintro e w2 h
  obtain ⟨rfl, q, rfl⟩ : e = .returned (.tuple #[.int .i64 0, .nilIface]) ∧ ∃ q, w2 = (W0.drewN q).setCell ⟨w.heap.size, 0, none⟩ (.int .u32 ((3 : Nat) : Int)) := by
    rcases h with ⟨a, h1, h2, h3⟩ | ⟨h1, _⟩
    · rw [HF.out] at h1
      injection h1 with h1
      subst h1
      exact ⟨h2, h3⟩
    · rw [HF.out] at h1; cases h1
  have hM1 := MapAt.set (w := W0.drewN q) hM0 (u := 3) (by decide)
  have hB1 := (below_drewN_of hB0 q).setCell (p := ⟨w.heap.size, 0, none⟩) (Nat.le_refl _) (.int .u32 ((3 : Nat) : Int))
  obtain ⟨W1, hW1⟩ : ∃ W, W = (W0.drewN q).setCell ⟨w.heap.size, 0, none⟩ (.int .u32 ((3 : Nat) : Int)) := ⟨_, rfl⟩
  rw [← hW1] at hM1 hB1 ⊢
  have HM1 := Lib.hid hM1
  clear hW1 hM0 hB0 hM1
  go_wp2_with fail
  with_reducible refine (HZ.out _ HM1.out).mono ?_
  rintro e w' ⟨rfl, rfl⟩
  go_wp2_with fail
  with_reducible refine (new_any _).mono ?_
  rintro e w3 ⟨rfl, rfl⟩
  have hbw := hB1.size
  have hP0 : TB w W1.heap.size 0 (.slice none 0 0) 0 [] (W1.alloc (.cells #[.int .u32 0] 65)) :=
    ⟨MapAt.new W1, OwnP.nil _ _, by omega, runs_zero, hB1.alloc hB1.size _⟩
  obtain ⟨b, hb⟩ : ∃ b, W1.heap.size = b := ⟨_, rfl⟩
  rw [hb] at hP0 hbw ⊢
  have HP0 := Lib.hid hP0
  clear hb hP0 HM1 hB1 HZ
  go_wp2
  go_loopw [9, 10] (fun x i wr => ∃ (k t n' : Nat) (C : Option Addr) (c' : Nat) (l : List Rn), k ≤ m ∧ k ≤ 60 ∧ i = .int .i64 k ∧ x = .slice C n' c' ∧ TB w b t (.slice C n' c') n' l wr) (fun _ i _ => m - (intOf i).toNat)
  case atStart => exact ⟨0, 0, 0, none, 0, [], Nat.zero_le _, Nat.zero_le _, rfl, rfl, HP0.out⟩
  case round =>
    obtain ⟨k, t, n', C, c', l, hk, hk60, rfl, rfl, htb⟩ := hrel
    have hbel := htb.2.2.2.2
    have HTB := Lib.hid htb
    clear htb HP0
    by_cases hgo : k < m ∧ k < 60
    · obtain ⟨hkn, hk6⟩ := hgo
      have hkI : (k : Int) < (m : Int) := by omega
      have hk6I : (k : Int) < 60 := by omega
      obtain ⟨b0, off, A1, n1, c1, xs, rfl, hbl, _, hck, hRd⟩ := rowAt hA hkn
      have g1 := (hbel.cell (p := ⟨b0, off + k, none⟩) hbl).trans hck
      have hn1 := hRd.max
      have HCK := Lib.hid hck
      clear hck
      by_cases h1 : n1 = 1
      · subst h1
        obtain ⟨b1, o1, rfl, hbl1, hc1⟩ := hRd.at_ (by omega)
        have g2 := (hbel.cell (p := ⟨b1, o1, none⟩) hbl1).trans (hc1 0 (by omega))
        obtain ⟨v, hv⟩ : ∃ v, xs[0]?.getD 0 = v := ⟨_, rfl⟩
        rw [hv] at g2
        have HC1 := Lib.hid (show ∀ W : World, Below w.heap.size w W → W.cell? ⟨b0, off + k, none⟩ = some (.slice (some ⟨b1, o1, none⟩) 1 c1) ∧ W.cell? ⟨b1, o1, none⟩ = some (.int .i64 v) from fun W h => ⟨(h.cell (p := ⟨b0, off + k, none⟩) hbl).trans HCK.out, by rw [← hv]; exact (h.cell (p := ⟨b1, o1, none⟩) hbl1).trans (hc1 0 (by omega))⟩)
        clear hc1 hv
        by_cases hin : 1 ≤ v ∧ v ≤ 32
        · obtain ⟨n, rfl⟩ := Int.eq_ofNat_of_zero_le (show 0 ≤ v by omega)
          have n1 : 1 ≤ n := by omega
          have n32 : n ≤ 32 := by omega
          have hM := HTB.out.1
          have HM := Lib.hid hM
          clear hM hin
          go_wp2_with fail
          with_reducible refine (take_any b t n _ HM.out n1 n32).mono ?_
          rintro e w4 h
          rcases h with ⟨a, h1, h2, h3⟩ | ⟨_, h2, h3⟩
          · obtain ⟨hfree, ha, _⟩ := first_is h1
            have han : a + n ≤ 32 := by omega
            have hul : t ||| runN a n < 4294967296 := or_lt HM.out.2 (run_lt han)
            have hra := runs_add HTB.out.2.2.2.1 n1 han
            obtain ⟨u, hu⟩ : ∃ u, t ||| runN a n = u := ⟨_, rfl⟩
            rw [hu] at h3 hul hra
            obtain ⟨q4, rfl⟩ := h3
            subst h2
            have htc := HTB.out.set hbw hul q4
            obtain ⟨W4, hW4⟩ : ∃ W, W = (wr.drewN q4).setCell ⟨b, 0, none⟩ (.int .u32 (u : Int)) := ⟨_, rfl⟩
            rw [← hW4] at htc ⊢
            have HTC := Lib.hid htc
            have HRA := Lib.hid hra
            obtain ⟨c4, c5⟩ := HC1.out W4 htc.2.2.2.2
            have hxa := fun wx h => xAdd_ok C n' c' l (a : Int) (n : Int) wx h htc.rd.2 hra.1
            have hrdp := htc.rd.1
            have HXA := Lib.hid hxa
            have HRP := Lib.hid hrdp
            clear hW4 htc hra hxa hrdp h1 hfree hu hul
            go_wp2_with fail
            with_reducible refine (HXA.out _ HRP.out).mono ?_
            rintro e w5 ⟨⟨C5, m5, d5, rfl, hm5, hown5⟩, k5⟩
            have hfin := HTC.out.next k5 hm5 hown5 HRA.out.2
            have HFIN := Lib.hid hfin
            obtain ⟨c6, c7⟩ := HC1.out w5 hfin.2.2.2.2
            clear hfin hown5 k5
            go_wp2
            go_quiet (fail)
            go_wp2
            go_roundw
            case rel => exact ⟨k + 1, u, m5, C5, d5, _, by omega, by omega, by go_num, rfl, by first | exact HFIN.out | exact HFIN.out.drewN _⟩
            case measure => simp [intOf]; omega
          · obtain ⟨q4, rfl⟩ := h3
            subst h2
            have htb := HTB.out.drewN q4
            obtain ⟨W4, hW4⟩ : ∃ W, W = wr.drewN q4 := ⟨_, rfl⟩
            rw [← hW4] at htb ⊢
            have HT4 := Lib.hid htb
            obtain ⟨c4, c5⟩ := HC1.out W4 htb.2.2.2.2
            clear htb hW4
            go_wp2
            go_quiet (fail)
            go_wp2
            go_roundw
            case rel => exact ⟨k + 1, t, n', C, c', l, by omega, by omega, by go_num, rfl, by first | exact HT4.out | exact HT4.out.drewN _⟩
            case measure => simp [intOf]; omega
        · have hno : v < 1 ∨ 32 < v := by omega
          go_wp2_with fail
          with_reducible refine (take_range b v _ hno).mono ?_
          rintro e w' ⟨rfl, rfl⟩
          go_wp2
          go_quiet (fail)
          go_wp2
          go_roundw
          case rel => exact ⟨k + 1, t, n', C, c', l, by omega, by omega, by go_num, rfl, by first | exact HTB.out | exact HTB.out.drewN _⟩
          case measure => simp [intOf]; omega
      · by_cases h2 : n1 = 2
        · subst h2
          obtain ⟨b1, o1, rfl, hbl1, hc1⟩ := hRd.at_ (by omega)
          have g2 := (hbel.cell (p := ⟨b1, o1, none⟩) hbl1).trans (hc1 0 (by omega))
          have g3 := (hbel.cell (p := ⟨b1, o1 + 1, none⟩) hbl1).trans (hc1 1 (by omega))
          have hr := hRd.range 0
          obtain ⟨v, hv⟩ : ∃ v, xs[0]?.getD 0 = v := ⟨_, rfl⟩
          obtain ⟨u, hu⟩ : ∃ u, xs[1]?.getD 0 = u := ⟨_, rfl⟩
          have HC1 := Lib.hid (show ∀ W : World, Below w.heap.size w W → W.cell? ⟨b0, off + k, none⟩ = some (.slice (some ⟨b1, o1, none⟩) 2 c1) ∧ W.cell? ⟨b1, o1, none⟩ = some (.int .i64 v) ∧ W.cell? ⟨b1, o1 + 1, none⟩ = some (.int .i64 u) from fun W h => ⟨(h.cell (p := ⟨b0, off + k, none⟩) hbl).trans HCK.out, by rw [← hv]; exact (h.cell (p := ⟨b1, o1, none⟩) hbl1).trans (hc1 0 (by omega)), by rw [← hu]; exact (h.cell (p := ⟨b1, o1 + 1, none⟩) hbl1).trans (hc1 1 (by omega))⟩)
          rw [hv] at g2 hr
          rw [hu] at g3
          have hM := HTB.out.1
          have HM := Lib.hid hM
          clear hc1 hv hu hM
          by_cases hyes : ∃ a n : Nat, v = (a : Int) ∧ u = (n : Int) ∧ 1 ≤ n ∧ a + n ≤ 32 ∧ FullAt t a n
          · obtain ⟨a, n, rfl, rfl, n1, han, hfull⟩ := hyes
            have hul : clearN t (runN a n) < 4294967296 := clear_lt HM.out.2
            have hra := runs_cut HTB.out.2.2.2.1 n1 han
            have hbk : ∀ wx, MapAt wx b t → Calls Try.prog 28 #[.pointer (some ⟨b, 0, none⟩), .int .i64 a, .int .i64 n] wx fun e w' => e = .returned .nilIface ∧ ∃ q, w' = (wx.drewN q).setCell ⟨b, 0, none⟩ (.int .u32 ((clearN t (runN a n) : Nat) : Int)) := fun wx h =>
              (back_any b t a n wx h n1 han).mono fun e w' h => by
                rcases h with ⟨_, h2⟩ | ⟨h1, _⟩
                · exact h2
                · exact absurd hfull h1
            obtain ⟨U, hU⟩ : ∃ U, clearN t (runN a n) = U := ⟨_, rfl⟩
            rw [hU] at hul hra hbk
            have hxa := fun wx h => xCut_ok C n' c' l (a : Int) (n : Int) wx h HTB.out.rd.2 hra.1
            have HXA := Lib.hid hxa
            have HBK := Lib.hid hbk
            have HUL := Lib.hid hul
            have HRA := Lib.hid hra
            clear hfull hul hra hbk hU hxa
            go_wp2
            go_region_held3 (fun w' => w'.cell? ⟨b0, off + k, none⟩ = some (.slice (some ⟨b1, o1, none⟩) 2 c1) ∧ w'.cell? ⟨b1, o1, none⟩ = some (.int .i64 a) ∧ w'.cell? ⟨b1, o1 + 1, none⟩ = some (.int .i64 n)) (first | go_keep | exact HC1.out _ hB6)
              (first
                | (go_at_call 28; refine (HBK.out _ (by exact HM.out)).mono ?_; rintro e w6 ⟨rfl, hw6⟩; have HW6 := Lib.hid hw6; have hB6 : Below w.heap.size w w6 := (by obtain ⟨q, hq⟩ := hw6; rw [hq]; exact (below_drewN_of (by first | exact below_drewN_of hbel _ | exact hbel) q).setCell (p := ⟨b, 0, none⟩) hbw _); clear hw6)
                | fail)
            have htc : TC w b t U (.slice C n' c') n' l w6 := by
              obtain ⟨q, hq⟩ := HW6.out
              rw [hq]
              first | exact (HTB.out.drewN _).set hbw HUL.out q | exact HTB.out.set hbw HUL.out q
            have HTC := Lib.hid htc
            have hrdp := htc.rd.1
            have HRP := Lib.hid hrdp
            obtain ⟨d1, d2, d3⟩ := HC1.out w6 hB6
            clear htc hrdp
            go_wp2
            go_region_held3 (fun w' => w'.cell? ⟨b0, off + k, none⟩ = some (.slice (some ⟨b1, o1, none⟩) 2 c1) ∧ w'.cell? ⟨b1, o1, none⟩ = some (.int .i64 a) ∧ w'.cell? ⟨b1, o1 + 1, none⟩ = some (.int .i64 n)) (first | go_keep | exact HC1.out _ hB7)
              (first
                | (go_at_call 21; refine (HXA.out _ (by exact HRP.out)).mono ?_; rintro e w7 ⟨⟨C7, m7, d7, rfl, hm7, hown7⟩, k7⟩; have hfin := (show TB w b U (.slice C7 m7 d7) m7 _ w7 from by first | exact HTC.out.next k7 hm7 hown7 HRA.out.2 | exact (HTC.out.drewN _).next k7 hm7 hown7 HRA.out.2); have hB7 : Below w.heap.size w w7 := hfin.2.2.2.2; have HFIN := Lib.hid hfin; clear hfin hown7 k7)
                | fail)
            go_wp2
            go_roundw
            case rel => exact ⟨k + 1, U, m7, C7, d7, _, by omega, by omega, by go_num, rfl, by first | exact HFIN.out | exact HFIN.out.drewN _⟩
            case measure => simp [intOf]; omega
          · obtain ⟨E, hbk⟩ : ∃ E : Int, ∀ wx, MapAt wx b t → Calls Try.prog 28 #[.pointer (some ⟨b, 0, none⟩), .int .i64 v, .int .i64 u] wx fun e w' => e = .returned (.iface 23 (.int .i64 E)) ∧ ∃ q, w' = wx.drewN q := by
              by_cases hin : 1 ≤ u ∧ u ≤ 32 ∧ 0 ≤ v ∧ v ≤ 32 - u
              · obtain ⟨n, rfl⟩ := Int.eq_ofNat_of_zero_le (show 0 ≤ u by omega)
                obtain ⟨a, rfl⟩ := Int.eq_ofNat_of_zero_le hin.2.2.1
                refine ⟨5, fun wx h => (back_any b t a n wx h (by omega) (by omega)).mono fun e w' h => ?_⟩
                rcases h with ⟨h1, _⟩ | ⟨_, h2⟩
                · exact absurd ⟨a, n, rfl, rfl, by omega, by omega, h1⟩ hyes
                · exact h2
              · exact ⟨1, fun wx _ => (back_range b v u wx hr hin).mono fun e w' h => ⟨h.1, 0, h.2.symm⟩⟩
            have HBK := Lib.hid hbk
            clear hbk hyes hr
            go_wp2
            go_region_held3 (fun w' => w'.cell? ⟨b0, off + k, none⟩ = some (.slice (some ⟨b1, o1, none⟩) 2 c1) ∧ w'.cell? ⟨b1, o1, none⟩ = some (.int .i64 v) ∧ w'.cell? ⟨b1, o1 + 1, none⟩ = some (.int .i64 u)) (first | go_keep | exact HC1.out _ hB6)
              (first
                | (go_at_call 28; refine (HBK.out _ (by exact HM.out)).mono ?_; rintro e w6 ⟨rfl, hw6⟩; have HW6 := Lib.hid hw6; have hB6 : Below w.heap.size w w6 := (by obtain ⟨q, hq⟩ := hw6; rw [hq]; exact below_drewN_of (by first | exact below_drewN_of hbel _ | exact hbel) q); clear hw6)
                | fail)
            have htb : TB w b t (.slice C n' c') n' l w6 := by
              obtain ⟨q, hq⟩ := HW6.out
              rw [hq]
              first | exact (HTB.out.drewN _).drewN _ | exact HTB.out.drewN _
            have HT6 := Lib.hid htb
            clear htb
            go_wp2
            go_roundw
            case rel => exact ⟨k + 1, t, n', C, c', l, by omega, by omega, by go_num, rfl, by first | exact HT6.out | exact HT6.out.drewN _⟩
            case measure => simp [intOf]; omega
        · have e1 : ((n1 : Int) == 1) = false := by simp; omega
          have e2 : ((n1 : Int) == 2) = false := by simp; omega
          go_wp2
          go_quiet (fail)
          go_wp2
          go_roundw
          case rel => exact ⟨k + 1, t, n', C, c', l, by omega, by omega, by go_num, rfl, by first | exact HTB.out | exact HTB.out.drewN _⟩
          case measure => simp [intOf]; omega
    · have hex : (¬ (k : Int) < (m : Int)) ∨ ((k : Int) < (m : Int) ∧ ¬ (k : Int) < 60) := by omega
      have hz := HTB.out.2.2.2.1.1
      have hvE : hasV l p = .tuple #[.bool (hasB l p), .nilIface] := by unfold hasV; rw [if_pos hz]
      have hsE : sizeV l = .tuple #[.int .i64 (32 - ((allF t 32 : Nat) : Int)), .nilIface] := by unfold sizeV; rw [if_pos hz, runs_size HTB.out.2.2.2.1]
      have hxh := fun wx h => xhas_bd C n' c' l p wx h HTB.out.rd.2
      have hxs := fun wx h => size_bd C n' c' l wx h HTB.out.rd.2
      have hfr := fun wx h => free_any b t wx h
      have hhb : ∀ wx, MapAt wx b t → Calls Try.prog 27 #[.pointer (some ⟨b, 0, none⟩), .int .i64 p] wx fun e w' => e = .returned (.bool (hasB l p)) ∧ wx = w' := fun wx h => by
        rw [runs_has HTB.out.2.2.2.1]
        by_cases hp2 : 0 ≤ p ∧ p < 32
        · obtain ⟨i, rfl⟩ := Int.eq_ofNat_of_zero_le hp2.1
          rw [decide_eq_true hp2.1, decide_eq_true hp2.2, Int.toNat_natCast, Bool.true_and, Bool.true_and]
          exact has_in b t i wx h (by omega)
        · have e : (decide (0 ≤ p) && decide (p < 32)) = false := by
            rw [Bool.eq_false_iff]; intro hh
            rw [Bool.and_eq_true, decide_eq_true_eq, decide_eq_true_eq] at hh
            exact hp2 hh
          rw [e, Bool.false_and]
          exact has_out b p wx (by omega)
      have hal := all_le t 32
      rw [hvE] at hxh
      rw [hsE] at hxs
      obtain ⟨HB, hHB⟩ : ∃ q, hasB l p = q := ⟨_, rfl⟩
      obtain ⟨F, hF⟩ : ∃ F, allF t 32 = F := ⟨_, rfl⟩
      rw [hHB] at hxh hhb
      rw [hF] at hxs hfr hal
      have hM := HTB.out.1
      have hrdp := HTB.out.rd.1
      have HM := Lib.hid hM
      have HRP := Lib.hid hrdp
      have HXH := Lib.hid hxh
      have HXS := Lib.hid hxs
      have HFR := Lib.hid hfr
      have HHB := Lib.hid hhb
      have hself : (HB == HB) = true := by simp
      have hself2 : (32 - (F : Int) == 32 - (F : Int)) = true := by simp
      have hF32 : (F : Int) ≤ 32 := by omega
      clear hz hvE hsE hxh hxs hfr hhb hal hHB hF hM hrdp hgo
      rcases hex with hkI | ⟨hkI, hk6I⟩
      all_goals
        go_wp2_with fail
        with_reducible refine (HXH.out _ HRP.out).mono ?_
        rintro e w2 ⟨rfl, k2⟩
        have hM2 := HM.out.below k2
        have hR2 := HRP.out.below k2
        have hB2 := hbel.trans (k2.mono hbel.size)
        have HM2 := Lib.hid hM2
        clear k2 hM2
        go_wp2_with fail
        with_reducible refine (HXS.out _ hR2).mono ?_
        rintro e w3 ⟨rfl, k3⟩
        have hM3 := HM2.out.below k3
        have hB3 := hB2.trans (k3.mono hB2.size)
        have HM3 := Lib.hid hM3
        clear k3 hM3
        go_wp2_with fail
        with_reducible refine (HFR.out _ HM3.out).mono ?_
        rintro e w' ⟨rfl, q4, rfl⟩
        have hM4 : MapAt (w3.drewN q4) b t := HM3.out
        have HM4 := Lib.hid hM4
        have hB4 := below_drewN_of hB3 q4
        clear hM4
        go_wp2_with fail
        refine (HHB.out _ HM4.out).mono ?_
        rintro e w' ⟨rfl, rfl⟩
        go_wp2
        go_ret
        exact ⟨rfl, hB4⟩

set_option maxRecDepth 100000 in
theorem lifted (os : Os) (started : os.Started) (H : Type) (enc : TypeId × Value → H) :
    ReturnsInHanded {} Try.checked os 9 .any (Rows.topBlocksSpec.pre6 enc Try.prog Try.f9 Rows.topBlocksRow.domain false) (Rows.topBlocksSpec.post enc Try.prog Try.f9 false true false false) := by
  refine returnsInHanded_of_change (C := Try.checked) own started (by kernel_rfl) Try.func9
    (ChangeSpec.witness6 (enc := enc) (C := Try.checked) false ⟨#[], #[.slice none 0 0, .int .i64 0], []⟩ 8 (by kernel_rfl) (by kernel_rfl) (by kernel_rfl) (by kernel_rfl)) ?_
  intro W base args ds gs before hval0 hW hcnd _
  have hval : ∀ (j : Nat) t v, Try.f9.params[j]? = some t → args[j]? = some v → Value.okWide Try.prog W .any base t v := hval0
  have hW' := hW
  obtain ⟨p, q, hA0, hV, rfl, hfz, hnd⟩ := hW
  have hA : DataW.TrodAll enc Try.prog W 0 (fun _ => true) true Try.f9.params.toList args.toList ds p := hA0
  rw [Try.params9] at hA hval
  obtain ⟨v0, vs0, d0, ds0, p0, q0, hargs, rfl, rfl, h0, r0⟩ := trodAll_cons hA
  obtain ⟨v1, vs1, d1, ds1, p1, q1, rfl, rfl, rfl, h1, r1⟩ := trodAll_cons r0
  obtain ⟨rfl, rfl, rfl⟩ := trodAll_nil r1
  obtain rfl : args = #[v0, v1] := by cases args; simp_all
  obtain ⟨rfl, rfl⟩ := trodVars_none hV
  have k0 := h0
  have lt0 : ∀ x ∈ p0, x.block < W.heap.size := by obtain ⟨m, hm⟩ := k0; exact DataW.trod_lt m _ _ _ hm
  obtain ⟨A0, n0, c0, rfl⟩ := okWide_slice Try.underlying51 (hval 0 51 v0 rfl rfl)
  obtain ⟨rs0, w0, hc0⟩ : ∃ rs, RRows W A0 n0 rs ∧ n0 ≤ c0 := by
    obtain ⟨fuel, hf⟩ := h0
    rcases Go.Deep.open_int_rows Try.underlying51 Try.underlying31 Try.underlying3 (by kernel_rfl) (by kernel_rfl) hf with ⟨hcs, _⟩ | ⟨x, l, c, AA, LL, CC, ZZ, hcs, _, hl, hm, _, hrow⟩
    · simp [Value.cells] at hcs
      obtain ⟨rfl, rfl, rfl⟩ := hcs
      exact ⟨[], rrows_nil _ _, Nat.le_refl _⟩
    · simp [Value.cells] at hcs
      obtain ⟨rfl, rfl, rfl⟩ := hcs
      exact ⟨_, rrows_of_cells hl hm hrow, hl⟩
  have k1 := h1
  have lt1 : ∀ x ∈ p1, x.block < W.heap.size := by obtain ⟨m, hm⟩ := k1; exact DataW.trod_lt m _ _ _ hm
  obtain ⟨a1, rfl, rfl, rfl, w1⟩ := open_int Try.underlying3 (hval 1 3 v1 rfl rfl) h1
  clear hA0 hval0
  refine (walk W A0 n0 c0 rs0 w0 hc0 a1 (wf_range w1)).mono fun e W' ⟨he, bel⟩ => ?_
  subst he
  exact ⟨_, rfl, _, _, _, [], _, [], hW', trodAll_mk1 (shut_bool Try.underlying4 _), (trodAll_cons_mk (Below.trod laidOut (by kernel_rfl) (of_decide_eq_true (by kernel_rfl)) k0 bel lt0) (trodAll_cons_mk (Below.trod laidOut (by kernel_rfl) (of_decide_eq_true (by kernel_rfl)) k1 bel lt1) trodAll_mk0)), rfl, bel.frame _, fun h => by cases h⟩

theorem over : Rows.topBlocksRow.holds Try.pinned (OpenSpec.ofChange Rows.topBlocksSpec) :=
  OpenClaim.holds_of_wide 9 Try.f9 rfl rfl rfl rfl rfl rfl rfl ⟨rfl, rfl, rfl, rfl, rfl⟩ rfl rfl rfl rfl rfl (by kernel_rfl) Try.func9 (by kernel_rfl)
    (of_decide_eq_true (by kernel_rfl)) (by unfold Func.isWrapper; first | (rw [if_pos (by decide +kernel)]; kernel_rfl) | (rw [if_neg (by decide +kernel)]; exact ⟨rfl, rfl⟩))
    (fun os started H enc _ => lifted os started H enc)

theorem proved : Rows.TopBlocksSaid := over
#print axioms proved
end Go.Proofs.Ytllacbogbbbcaaa.topBlocks
