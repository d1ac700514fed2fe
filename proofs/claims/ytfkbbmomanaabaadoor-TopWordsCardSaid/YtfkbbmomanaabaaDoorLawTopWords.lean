/- Hamming words correct a bit per word, and the CRC detects changed bytes: TopWords answers true at every two slices of ints and two ints; hamming.checks is tied to the program's text. Conditions: none beside the card's own. -/
import Derived.Test.YtfkbbmomanaabaaDoorOpenH
import Derived.Test.YtfkbbmomanaabaaDoorHamL
import Derived.Test.YtfkbbmomanaabaaDoorCrc
import Derived.Test.YtfkbbmomanaabaaDoorCrcB
import Derived.Test.YtfkbbmomanaabaaDoorInts
import Derived.Test.YtfkbbmomanaabaaDoorRSet
import Derived.Test.YtfkbbmomanaabaaDoorTIn
import Derived.Test.YtfkbbmomanaabaaDoorXor
namespace Go.Proofs.YtfkbbmomanaabaaDoor.topWords
open Go Go.ChangeShapes Go.WideShapes Go.ChangeAt Go.RowKit
set_option linter.unusedVariables false

theorem word_fix {h : Int} (h0 : 0 ≤ h) (h15 : h ≤ 15) {T : Nat} (hT : T ≤ 6) :
    readI (xorI (writeI h) ((2 ^ T : Nat) : Int)) = h ∧ True ∧ 0 ≤ xorI (writeI h) ((2 ^ T : Nat) : Int) ∧ xorI (writeI h) ((2 ^ T : Nat) : Int) ≤ 127 := by
  have key : ∀ k : Fin 16, ∀ t : Fin 7, readI (xorI (writeI (k.val : Int)) ((2 ^ t.val : Nat) : Int)) = (k.val : Int) ∧ xorI (writeI (k.val : Int)) ((2 ^ t.val : Nat) : Int) ≤ 127 := by decide +kernel
  have := key ⟨h.toNat, by omega⟩ ⟨T, by omega⟩
  rw [show (((⟨h.toNat, by omega⟩ : Fin 16).val : Nat) : Int) = h from by simp; omega] at this
  exact ⟨this.1, trivial, xorI_nonneg _ _, this.2⟩
theorem xor_left {s x y : Nat} (h : s ^^^ x = s ^^^ y) : x = y := by
  have h2 : s ^^^ (s ^^^ x) = s ^^^ (s ^^^ y) := by rw [h]
  rwa [← Nat.xor_assoc, ← Nat.xor_assoc, Nat.xor_self, Nat.zero_xor, Nat.zero_xor] at h2
theorem crc_other {xs : List Int} (hx : ∀ x ∈ xs, 0 ≤ x ∧ x ≤ 255) {k : Nat} (hk : k < xs.length) {y : Int} (y0 : 0 ≤ y) (y1 : y ≤ 255) (hne : xs[k]?.getD 0 ≠ y) : crcI (xs.set k y) ≠ crcI xs := by
  intro h
  have hg := getD_byt hx k
  have hP := nat_byt (fun x hx' => hx x (List.mem_of_mem_take (i := k) hx'))
  have hS := nat_byt (fun x hx' => hx x (List.mem_of_mem_drop (i := k + 1) hx'))
  have hl : (xs.take k).length = k := by rw [List.length_take]; omega
  have e1 : xs = xs.take k ++ xs[k]?.getD 0 :: xs.drop (k + 1) := by
    conv => lhs; rw [← List.take_append_drop k xs, List.drop_eq_getElem_cons hk]
    rw [List.getElem?_eq_getElem hk]; rfl
  have e2 : xs.set k y = xs.take k ++ y :: xs.drop (k + 1) := by
    conv => lhs; rw [e1]
    rw [List.set_append_right _ _ (by omega), hl, Nat.sub_self, List.set_cons_zero]
  unfold crcI at h
  rw [e2] at h
  conv at h => rhs; rw [e1]
  simp only [List.map_append, List.map_cons, crcF_append, crcF_cons] at h
  have hs := crcF_lt (s := 0) (by decide) hP
  generalize crcF 0 ((xs.take k).map Int.toNat) = s at *
  have hx1 := xor_lt hs (show y.toNat < 256 by omega)
  have hx2 := xor_lt hs (show (xs[k]?.getD 0).toNat < 256 by omega)
  have h3 := crcF_inj hS (afterN_lt hx1) (afterN_lt hx2) (by omega)
  have h4 := xor_left (afterN_inj hx1 hx2 h3)
  omega
theorem mem_set {xs : List Int} (h : ∀ x ∈ xs, 0 ≤ x ∧ x ≤ 255) {k : Nat} {u : Int} (h0 : 0 ≤ u) (h1 : u ≤ 255) : ∀ x ∈ xs.set k u, 0 ≤ x ∧ x ≤ 255 := by
  intro x hx
  rcases List.mem_or_eq_of_mem_set hx with hx | hx
  · exact h x hx
  · subst hx; exact ⟨h0, h1⟩

set_option maxHeartbeats 8000000 in
set_option maxRecDepth 100000 in
theorem walk_ok (w : World) (A : Option Addr) (n c : Nat) (xs : List Int) (hA : Rd w A n xs) (hc : n ≤ c) (M : Option Addr) (m cm : Nat) (ys : List Int) (hM : Rd w M m ys) (hcm : m ≤ cm)
    (at_ : Int) (hat : -9223372036854775808 ≤ at_ ∧ at_ ≤ 9223372036854775807) (y : Int) (hy : -9223372036854775808 ≤ y ∧ y ≤ 9223372036854775807) (hT : ChkT w) (hn : n ≤ 64) (hall : allB xs 0 255 = true) :
    Calls Tryd.prog 9 #[.slice A n c, .slice M m cm, .int .i64 at_, .int .i64 y] w fun e w' => e = .returned (.bool true) ∧ Below w.heap.size w w' := by
  have HT := Lib.hid hT
  have hlx := hA.len
  have hmm := hM.max
  have HM := Lib.hid (And.intro hlx (allB_mem.1 hall))
  have HALL := Lib.hid hall
  obtain ⟨X0, hX0⟩ : ∃ X, crcI xs = X := ⟨_, rfl⟩
  have HX0 := Lib.hid hX0
  clear hT hlx hall hX0
  go_enter Tryd.func9, Tryd.ntmps9
  go_wp2_with fail
  refine (sum_ok _ _ _ [2] _ (Rd.new (n := 1) rfl (by decide) (by simp) (by simp) (fun k hk => ?_)) (by decide) (by decide)).mono ?_
  · obtain rfl : k = 0 := by omega
    simp
  rintro e w' ⟨rfl, rfl⟩
  rw [show crcI [2] = 14 from by decide]
  have hB : Below w.heap.size w (w.alloc (.cells #[.int .i64 2] 3)) := (Below.refl _ _).alloc (Nat.le_refl _) _
  go_wp2_with fail
  with_reducible refine (sum_ok _ _ _ xs _ (hA.below hB) hn HALL.out).mono ?_
  rintro e w' ⟨rfl, rfl⟩
  rw [HX0.out]
  go_wp2
  go_loopw [13, 14] (fun v i wr => ∃ (k : Nat) (C : Option Addr) (c' : Nat), k ≤ n ∧ i = .int .i64 k ∧ v = .slice C k c' ∧ Own wr w.heap.size (.slice C k c') k (xs.take k) ∧ Below w.heap.size w wr) (fun _ i _ => n - (intOf i).toNat)
  case atStart => exact ⟨0, none, 0, Nat.zero_le _, rfl, rfl, Own.nil _ _, hB⟩
  case round =>
    obtain ⟨i, C, c', hi, rfl, rfl, hown, hbel⟩ := hrel
    by_cases hlt : i < n
    · obtain ⟨b, off, rfl, hbl, hcc⟩ := hA.at_ (by omega)
      have hw1 := hcc i hlt
      have hvx := allB_iff.1 HALL.out i (by rw [HM.out.1]; exact hlt)
      have hsn := take_snoc (xs := xs) (k := i) (by rw [HM.out.1]; exact hlt)
      obtain ⟨x, hxe⟩ : ∃ x, xs[i]?.getD 0 = x := ⟨_, rfl⟩
      rw [hxe] at hw1 hvx hsn
      obtain ⟨x0, x255⟩ := hvx
      have HS := Lib.hid hsn
      clear hcc hxe hsn
      go_wp2
      go_loopw [15, 16] (fun v k wq => ((k = .int .i64 0 ∧ v = .int .i64 0) ∨ (k = .int .i64 1 ∧ v = .int .i64 (x % 16)) ∨ (k = .int .i64 2 ∧ v = .int .i64 x)) ∧ Own wq w.heap.size (.slice C i c') i (xs.take i) ∧ Below w.heap.size w wq) (fun _ k _ => 2 - (intOf k).toNat)
      case atStart => exact ⟨.inl ⟨rfl, rfl⟩, hown, hbel⟩
      case round =>
        obtain ⟨hk, hown2, hbel2⟩ := hrel
        rcases hk with ⟨rfl, rfl⟩ | ⟨rfl, rfl⟩ | ⟨rfl, rfl⟩
        · skip
          obtain ⟨h, hhe⟩ : ∃ h, x % 16 = h := ⟨_, rfl⟩
          have h0 : 0 ≤ h := by omega
          have h15 : h ≤ 15 := by omega
          have hc1 := (hbel2.cell (p := ⟨b, off + i, none⟩) hbl).trans hw1
          have hr := write_range h0 h15
          have hf0 := ham_fix0 h0 h15
          have hfx := fun T hT => word_fix (T := T) h0 h15 hT
          obtain ⟨W, hW⟩ : ∃ W, writeI h = W := ⟨_, rfl⟩
          rw [hW] at hr hf0 hfx
          obtain ⟨W0, W127⟩ := hr
          have HW := Lib.hid hW
          have HF0 := Lib.hid hf0
          have HFX := Lib.hid hfx
          clear hW hf0 hfx
          by_cases hm : 2 * i < m
          · obtain ⟨b', off', rfl, hbl', hc'⟩ := hM.at_ (by omega)
            have hv1 := hc' (2 * i) hm
            have hmI : 2 * (i : Int) < (m : Int) := by omega
            obtain ⟨T, hT'⟩ : ∃ T, ys[2 * i]?.getD 0 = T := ⟨_, rfl⟩
            rw [hT'] at hv1
            clear hc' hT'
            by_cases hTr : 0 ≤ T ∧ T ≤ 6
            · obtain ⟨T0, T6⟩ := hTr
              obtain ⟨t, rfl⟩ := Int.eq_ofNat_of_zero_le T0
              obtain ⟨hX1, hX2, hX0, hX127⟩ := HFX.out t (by omega)
              have hP6 : 2 ^ t ≤ 2 ^ 6 := Nat.pow_le_pow_right (by decide) (by omega)
              have HX1 := Lib.hid hX1
              clear hX1 hX2
              go_wp2_with fail
              with_reducible refine (write_ok h _ h0 h15 (HT.out.below hbel2)).mono ?_
              rintro e w1 ⟨rfl, k1⟩
              rw [HW.out]
              have hO1 := hown2.below k1
              have hB1 := hbel2.trans (k1.mono hbel2.size)
              have hv2 := (hB1.cell (p := ⟨b', off' + (2 * i), none⟩) hbl').trans hv1
              go_wp2_with fail
              with_reducible refine (tin_yes _ _ _ _ W0 W127).mono ?_
              rintro e w' ⟨rfl, rfl⟩
              go_wp2_with fail
              with_reducible refine (tin_yes _ _ _ _ T0 T6).mono ?_
              rintro e w' ⟨rfl, rfl⟩
              go_wp2
              go_loop [20, 21] (fun p j => ∃ s : Nat, s ≤ t ∧ j = .int .i64 s ∧ p = .int .i64 ((2 ^ s : Nat) : Int)) (fun _ j => t - (intOf j).toNat)
              case atStart => exact ⟨0, Nat.zero_le _, rfl, rfl⟩
              case round =>
                obtain ⟨s, hs, rfl, rfl⟩ := hrel
                by_cases hst : s < t
                · have hPs : 2 ^ s ≤ 2 ^ 6 := Nat.pow_le_pow_right (by decide) (by omega)
                  have hPn : 2 ^ s * 2 = 2 ^ (s + 1) := by rw [Nat.pow_succ]
                  obtain ⟨Q, hQ⟩ : ∃ Q : Nat, 2 ^ s = Q := ⟨_, rfl⟩
                  rw [hQ] at hPs hPn ⊢
                  have HPN := Lib.hid hPn
                  clear hQ hPn
                  go_wp2
                  go_round
                  case rel => exact ⟨s + 1, by omega, by go_num, by rw [← HPN.out]; go_num⟩
                  case measure => simp [intOf]; omega
                · obtain rfl : s = t := by omega
                  obtain ⟨Q, hQ⟩ : ∃ Q : Nat, 2 ^ s = Q := ⟨_, rfl⟩
                  rw [hQ] at hP6 hX0 hX127 ⊢
                  have HX1' := Lib.hid (hQ ▸ HX1.out)
                  have Q0 : (0 : Int) ≤ (Q : Int) := by omega
                  have Q1 : (Q : Int) ≤ 65535 := by omega
                  obtain ⟨X, hX⟩ : ∃ X, xorI W (Q : Int) = X := ⟨_, rfl⟩
                  rw [hX] at hX0 hX127
                  have HX := Lib.hid hX
                  clear hX hQ HX1
                  go_wp2_with fail
                  with_reducible refine (xor_any W (Q : Int) _ W0 (Int.le_trans W127 (by decide)) Q0 Q1).mono ?_
                  rintro e w' ⟨rfl, rfl⟩
                  rw [HX.out]
                  go_wp2_with fail
                  with_reducible refine (read_ok X _ hX0 hX127 (HT.out.below hB1)).mono ?_
                  rintro e w2 ⟨rfl, k2⟩
                  rw [show readI X = h from by rw [← HX.out]; exact HX1'.out]
                  have hO2 := hO1.below k2
                  have hB2 := hB1.trans (k2.mono hB1.size)
                  go_wp2
                  go_roundw
                  case rel => exact ⟨.inr (.inl ⟨rfl, congrArg _ hhe.symm⟩), hO2, hB2⟩
                  case measure => simp [intOf]
            · go_wp2_with fail
              with_reducible refine (write_ok h _ h0 h15 (HT.out.below hbel2)).mono ?_
              rintro e w1 ⟨rfl, k1⟩
              rw [HW.out]
              have hO1 := hown2.below k1
              have hB1 := hbel2.trans (k1.mono hbel2.size)
              have hv2 := (hB1.cell (p := ⟨b', off' + (2 * i), none⟩) hbl').trans hv1
              go_wp2_with fail
              with_reducible refine (tin_yes _ _ _ _ W0 W127).mono ?_
              rintro e w' ⟨rfl, rfl⟩
              go_wp2_with fail
              with_reducible refine (tin_no _ _ _ _ (by omega)).mono ?_
              rintro e w' ⟨rfl, rfl⟩
              go_wp2_with fail
              with_reducible refine (read_ok W _ W0 W127 (HT.out.below hB1)).mono ?_
              rintro e w2 ⟨rfl, k2⟩
              rw [HF0.out.1]
              have hO2 := hO1.below k2
              have hB2 := hB1.trans (k2.mono hB1.size)
              go_wp2
              go_roundw
              case rel => exact ⟨.inr (.inl ⟨rfl, congrArg _ hhe.symm⟩), hO2, hB2⟩
              case measure => simp [intOf]
          · have hmI : ¬ 2 * (i : Int) < (m : Int) := by omega
            go_wp2_with fail
            with_reducible refine (write_ok h _ h0 h15 (HT.out.below hbel2)).mono ?_
            rintro e w1 ⟨rfl, k1⟩
            rw [HW.out]
            have hO1 := hown2.below k1
            have hB1 := hbel2.trans (k1.mono hbel2.size)
            go_wp2_with fail
            with_reducible refine (tin_yes _ _ _ _ W0 W127).mono ?_
            rintro e w' ⟨rfl, rfl⟩
            go_wp2_with fail
            with_reducible refine (read_ok W _ W0 W127 (HT.out.below hB1)).mono ?_
            rintro e w2 ⟨rfl, k2⟩
            rw [HF0.out.1]
            have hO2 := hO1.below k2
            have hB2 := hB1.trans (k2.mono hB1.size)
            go_wp2
            go_roundw
            case rel => exact ⟨.inr (.inl ⟨rfl, congrArg _ hhe.symm⟩), hO2, hB2⟩
            case measure => simp [intOf]
        · skip
          obtain ⟨h, hhe⟩ : ∃ h, x / 16 = h := ⟨_, rfl⟩
          have h0 : 0 ≤ h := by omega
          have h15 : h ≤ 15 := by omega
          have hc1 := (hbel2.cell (p := ⟨b, off + i, none⟩) hbl).trans hw1
          have hr := write_range h0 h15
          have hf0 := ham_fix0 h0 h15
          have hfx := fun T hT => word_fix (T := T) h0 h15 hT
          obtain ⟨W, hW⟩ : ∃ W, writeI h = W := ⟨_, rfl⟩
          rw [hW] at hr hf0 hfx
          obtain ⟨W0, W127⟩ := hr
          have HW := Lib.hid hW
          have HF0 := Lib.hid hf0
          have HFX := Lib.hid hfx
          clear hW hf0 hfx
          by_cases hm : 2 * i + 1 < m
          · obtain ⟨b', off', rfl, hbl', hc'⟩ := hM.at_ (by omega)
            have hv1 := hc' (2 * i + 1) hm
            have hmI : 2 * (i : Int) + 1 < (m : Int) := by omega
            obtain ⟨T, hT'⟩ : ∃ T, ys[2 * i + 1]?.getD 0 = T := ⟨_, rfl⟩
            rw [hT'] at hv1
            clear hc' hT'
            by_cases hTr : 0 ≤ T ∧ T ≤ 6
            · obtain ⟨T0, T6⟩ := hTr
              obtain ⟨t, rfl⟩ := Int.eq_ofNat_of_zero_le T0
              obtain ⟨hX1, hX2, hX0, hX127⟩ := HFX.out t (by omega)
              have hP6 : 2 ^ t ≤ 2 ^ 6 := Nat.pow_le_pow_right (by decide) (by omega)
              have HX1 := Lib.hid hX1
              clear hX1 hX2
              go_wp2_with fail
              with_reducible refine (write_ok h _ h0 h15 (HT.out.below hbel2)).mono ?_
              rintro e w1 ⟨rfl, k1⟩
              rw [HW.out]
              have hO1 := hown2.below k1
              have hB1 := hbel2.trans (k1.mono hbel2.size)
              have hv2 := (hB1.cell (p := ⟨b', off' + (2 * i + 1), none⟩) hbl').trans hv1
              go_wp2_with fail
              with_reducible refine (tin_yes _ _ _ _ W0 W127).mono ?_
              rintro e w' ⟨rfl, rfl⟩
              go_wp2_with fail
              with_reducible refine (tin_yes _ _ _ _ T0 T6).mono ?_
              rintro e w' ⟨rfl, rfl⟩
              go_wp2
              go_loop [20, 21] (fun p j => ∃ s : Nat, s ≤ t ∧ j = .int .i64 s ∧ p = .int .i64 ((2 ^ s : Nat) : Int)) (fun _ j => t - (intOf j).toNat)
              case atStart => exact ⟨0, Nat.zero_le _, rfl, rfl⟩
              case round =>
                obtain ⟨s, hs, rfl, rfl⟩ := hrel
                by_cases hst : s < t
                · have hPs : 2 ^ s ≤ 2 ^ 6 := Nat.pow_le_pow_right (by decide) (by omega)
                  have hPn : 2 ^ s * 2 = 2 ^ (s + 1) := by rw [Nat.pow_succ]
                  obtain ⟨Q, hQ⟩ : ∃ Q : Nat, 2 ^ s = Q := ⟨_, rfl⟩
                  rw [hQ] at hPs hPn ⊢
                  have HPN := Lib.hid hPn
                  clear hQ hPn
                  go_wp2
                  go_round
                  case rel => exact ⟨s + 1, by omega, by go_num, by rw [← HPN.out]; go_num⟩
                  case measure => simp [intOf]; omega
                · obtain rfl : s = t := by omega
                  obtain ⟨Q, hQ⟩ : ∃ Q : Nat, 2 ^ s = Q := ⟨_, rfl⟩
                  rw [hQ] at hP6 hX0 hX127 ⊢
                  have HX1' := Lib.hid (hQ ▸ HX1.out)
                  have Q0 : (0 : Int) ≤ (Q : Int) := by omega
                  have Q1 : (Q : Int) ≤ 65535 := by omega
                  obtain ⟨X, hX⟩ : ∃ X, xorI W (Q : Int) = X := ⟨_, rfl⟩
                  rw [hX] at hX0 hX127
                  have HX := Lib.hid hX
                  clear hX hQ HX1
                  go_wp2_with fail
                  with_reducible refine (xor_any W (Q : Int) _ W0 (Int.le_trans W127 (by decide)) Q0 Q1).mono ?_
                  rintro e w' ⟨rfl, rfl⟩
                  rw [HX.out]
                  go_wp2_with fail
                  with_reducible refine (read_ok X _ hX0 hX127 (HT.out.below hB1)).mono ?_
                  rintro e w2 ⟨rfl, k2⟩
                  rw [show readI X = h from by rw [← HX.out]; exact HX1'.out]
                  have hO2 := hO1.below k2
                  have hB2 := hB1.trans (k2.mono hB1.size)
                  go_wp2
                  go_roundw
                  case rel => exact ⟨.inr (.inr ⟨rfl, congrArg _ (by omega)⟩), hO2, hB2⟩
                  case measure => simp [intOf]
            · go_wp2_with fail
              with_reducible refine (write_ok h _ h0 h15 (HT.out.below hbel2)).mono ?_
              rintro e w1 ⟨rfl, k1⟩
              rw [HW.out]
              have hO1 := hown2.below k1
              have hB1 := hbel2.trans (k1.mono hbel2.size)
              have hv2 := (hB1.cell (p := ⟨b', off' + (2 * i + 1), none⟩) hbl').trans hv1
              go_wp2_with fail
              with_reducible refine (tin_yes _ _ _ _ W0 W127).mono ?_
              rintro e w' ⟨rfl, rfl⟩
              go_wp2_with fail
              with_reducible refine (tin_no _ _ _ _ (by omega)).mono ?_
              rintro e w' ⟨rfl, rfl⟩
              go_wp2_with fail
              with_reducible refine (read_ok W _ W0 W127 (HT.out.below hB1)).mono ?_
              rintro e w2 ⟨rfl, k2⟩
              rw [HF0.out.1]
              have hO2 := hO1.below k2
              have hB2 := hB1.trans (k2.mono hB1.size)
              go_wp2
              go_roundw
              case rel => exact ⟨.inr (.inr ⟨rfl, congrArg _ (by omega)⟩), hO2, hB2⟩
              case measure => simp [intOf]
          · have hmI : ¬ 2 * (i : Int) + 1 < (m : Int) := by omega
            go_wp2_with fail
            with_reducible refine (write_ok h _ h0 h15 (HT.out.below hbel2)).mono ?_
            rintro e w1 ⟨rfl, k1⟩
            rw [HW.out]
            have hO1 := hown2.below k1
            have hB1 := hbel2.trans (k1.mono hbel2.size)
            go_wp2_with fail
            with_reducible refine (tin_yes _ _ _ _ W0 W127).mono ?_
            rintro e w' ⟨rfl, rfl⟩
            go_wp2_with fail
            with_reducible refine (read_ok W _ W0 W127 (HT.out.below hB1)).mono ?_
            rintro e w2 ⟨rfl, k2⟩
            rw [HF0.out.1]
            have hO2 := hO1.below k2
            have hB2 := hB1.trans (k2.mono hB1.size)
            go_wp2
            go_roundw
            case rel => exact ⟨.inr (.inr ⟨rfl, congrArg _ (by omega)⟩), hO2, hB2⟩
            case measure => simp [intOf]
        · go_wp2_with (at_builtin; refine wpList_app1 rfl _ _ rfl w.heap.size i _ _ rfl (hown2.alloc _) wr.heap.size x rfl (by simp) (by omega) (by have := hbel2.size; simp; omega) ?_; intro A2 c2 w4 hown4 hbel4)
          have hq4 := hbel4 w.heap.size w (Nat.le_refl _) (hbel2.alloc hbel2.size _)
          go_roundw
          case rel => exact ⟨i + 1, A2, c2, by omega, by go_num, rfl, by rw [HS.out]; exact hown4, hq4⟩
          case measure => simp [intOf]; omega
    · obtain rfl : i = n := by omega
      rw [List.take_of_length_le (by rw [HM.out.1]; omega)] at hown
      have hRo := hown.rd (by omega) (fun x hx => by have := HM.out.2 x hx; omega)
      have hself : (X0 != X0) = false := by simp
      go_wp2_with fail
      with_reducible refine (sum_ok _ _ _ xs _ hRo hn HALL.out).mono ?_
      rintro e w' ⟨rfl, rfl⟩
      rw [HX0.out]
      go_wp2_with fail
      with_reducible refine (ints_any _ _ _ _ _ _ xs xs _ hRo (hA.below hbel)).mono ?_
      rintro e w' ⟨rfl, q, rfl⟩
      rw [show decide (xs = xs) = true from by simp]
      have hBq := below_drewN_of hbel q
      by_cases ha : 0 ≤ at_ ∧ at_ ≤ (i : Int) - 1
      · obtain ⟨a0, a1⟩ := ha
        obtain ⟨k, rfl⟩ := Int.eq_ofNat_of_zero_le a0
        by_cases hyr : 0 ≤ y ∧ y ≤ 255
        · obtain ⟨y0, y1⟩ := hyr
          obtain ⟨b, off, rfl, hbl, hcc⟩ := hA.at_ (by omega)
          have hw1 := (hBq.cell (p := ⟨b, off + k, none⟩) hbl).trans (hcc k (by omega))
          have hco := crc_other HM.out.2 (k := k) (by rw [HM.out.1]; omega) y0 y1
          have hms := mem_set HM.out.2 (k := k) y0 y1
          obtain ⟨x, hxe⟩ : ∃ x, xs[k]?.getD 0 = x := ⟨_, rfl⟩
          rw [hxe] at hw1 hco
          have hki : (k : Int) < (i : Int) := by omega
          by_cases hxy : x = y
          · have hxb : (x == y) = true := by simpa using hxy
            clear hcc hxe hco hms hxy
            go_wp2_with fail
            with_reducible refine (tin_yes _ _ _ _ a0 a1).mono ?_
            rintro e w' ⟨rfl, rfl⟩
            go_wp2_with fail
            with_reducible refine (tin_yes _ _ _ _ y0 y1).mono ?_
            rintro e w' ⟨rfl, rfl⟩
            go_wp2
            go_ret
            exact ⟨rfl, hBq⟩
          · have hxb : (x == y) = false := by simpa using hxy
            have hfin : (crcI (xs.set k y) != X0) = true := by rw [← HX0.out]; simpa using hco hxy
            have HMS := Lib.hid hms
            obtain ⟨Y0, hY0⟩ : ∃ Y, crcI (xs.set k y) = Y := ⟨_, rfl⟩
            rw [hY0] at hfin
            have HY0 := Lib.hid hY0
            clear hcc hxe hco hms hxy hY0
            go_wp2_with fail
            with_reducible refine (tin_yes _ _ _ _ a0 a1).mono ?_
            rintro e w' ⟨rfl, rfl⟩
            go_wp2_with fail
            with_reducible refine (tin_yes _ _ _ _ y0 y1).mono ?_
            rintro e w' ⟨rfl, rfl⟩
            go_wp2_with fail
            with_reducible refine (rset_any _ _ _ xs _ (hA.below hBq) k (by omega) (by omega) y).mono ?_
            rintro e w5 ⟨⟨D, d, rfl, hown5⟩, k5⟩
            have hB5 := hBq.trans (k5.mono hBq.size)
            have hR5 := hown5.rd (by omega) (fun x hx => by have := HMS.out x hx; omega)
            go_wp2_with fail
            with_reducible refine (sum_ok _ _ _ _ _ hR5 hn (allB_mem.2 HMS.out)).mono ?_
            rintro e w' ⟨rfl, rfl⟩
            rw [HY0.out]
            go_wp2
            go_ret
            exact ⟨rfl, hB5⟩
        · go_wp2_with fail
          with_reducible refine (tin_yes _ _ _ _ a0 a1).mono ?_
          rintro e w' ⟨rfl, rfl⟩
          go_wp2_with fail
          with_reducible refine (tin_no _ _ _ _ (by omega)).mono ?_
          rintro e w' ⟨rfl, rfl⟩
          go_wp2
          go_ret
          exact ⟨rfl, hBq⟩
      · go_wp2_with fail
        with_reducible refine (tin_no _ _ _ _ (by omega)).mono ?_
        rintro e w' ⟨rfl, rfl⟩
        go_wp2
        go_ret
        exact ⟨rfl, hBq⟩

set_option maxHeartbeats 1000000 in
set_option maxRecDepth 100000 in
theorem walk (w : World) (A : Option Addr) (n c : Nat) (xs : List Int) (hA : Rd w A n xs) (hc : n ≤ c) (M : Option Addr) (m cm : Nat) (ys : List Int) (hM : Rd w M m ys) (hcm : m ≤ cm)
    (at_ : Int) (hat : -9223372036854775808 ≤ at_ ∧ at_ ≤ 9223372036854775807) (y : Int) (hy : -9223372036854775808 ≤ y ∧ y ≤ 9223372036854775807) (hT : ChkT w) :
    Calls Tryd.prog 9 #[.slice A n c, .slice M m cm, .int .i64 at_, .int .i64 y] w fun e w' => e = .returned (.bool true) ∧ Below w.heap.size w w' := by
  by_cases hx : bytesE xs 64 = 0
  · obtain ⟨hx1, hx2⟩ := bytesE_zero.1 hx
    rw [hA.len] at hx1
    exact walk_ok w A n c xs hA hc M m cm ys hM hcm at_ hat y hy hT (by omega) hx2
  · have HX := Lib.hid hx
    clear hx
    go_enter Tryd.func9, Tryd.ntmps9
    go_wp2_with fail
    refine (sum_ok _ _ _ [2] _ (Rd.new (n := 1) rfl (by decide) (by simp) (by simp) (fun k hk => ?_)) (by decide) (by decide)).mono ?_
    · obtain rfl : k = 0 := by omega
      simp
    rintro e w' ⟨rfl, rfl⟩
    rw [show crcI [2] = 14 from by decide]
    have hB : Below w.heap.size w (w.alloc (.cells #[.int .i64 2] 3)) := (Below.refl _ _).alloc (Nat.le_refl _) _
    go_wp2_with fail
    with_reducible refine (sum_bad _ _ _ xs _ (hA.below hB) HX.out).mono ?_
    rintro e w' ⟨rfl, rfl⟩
    go_wp2
    go_ret
    exact ⟨rfl, hB⟩

set_option maxRecDepth 100000 in
theorem lifted (os : Os) (started : os.Started) (H : Type) (enc : TypeId × Value → H) :
    ReturnsInHanded {} Tryd.checked os 9 .any (fun w args => (Rows.topWordsSpec.pre enc Tryd.prog Tryd.f9 [] false w args ∧ laidMetH Tryd.prog Rows.topWordsRow.laid w) ∧ sizedMet enc Tryd.prog Tryd.f9 (OpenSpec.ofChange Rows.topWordsSpec) false w args)
      (Rows.topWordsSpec.post enc Tryd.prog Tryd.f9 false true false false) := by
  refine returnsInHanded_of_change_and (C := Tryd.checked) (X := fun w _ => laidMetH Tryd.prog Rows.topWordsRow.laid w) (fun _ _ _ hh h => h.of_heap hh) own started (by kernel_rfl) Tryd.func9
    (ChangeSpec.witness_at (enc := enc) (C := Tryd.checked) (os := os) (X := fun w _ => laidMetH Tryd.prog Rows.topWordsRow.laid w) false (laidWorldC os) #[.slice none 0 0, .slice none 0 0, .int .i64 0, .int .i64 0] 8 rfl (by kernel_rfl) (by kernel_rfl) (by kernel_rfl) (by kernel_rfl) (by kernel_rfl) (laidWorldC_met os _)) ?_
  intro W base args ds gs before hval0 hW _ _ hL _
  have hval : ∀ (j : Nat) t v, Tryd.f9.params[j]? = some t → args[j]? = some v → Value.okWide Tryd.prog W .any base t v := hval0
  have hW' := hW
  obtain ⟨p, q, hA0, hV, rfl, hfz, hnd⟩ := hW
  have hA : DataW.TrodAll enc Tryd.prog W 0 (fun _ => true) true Tryd.f9.params.toList args.toList ds p := hA0
  rw [Tryd.params9] at hA hval
  obtain ⟨v0, vs0, d0, ds0, p0, q0, hargs, rfl, rfl, h0, r0⟩ := trodAll_cons hA
  obtain ⟨v1, vs1, d1, ds1, p1, q1, rfl, rfl, rfl, h1, r1⟩ := trodAll_cons r0
  obtain ⟨v2, vs2, d2, ds2, p2, q2, rfl, rfl, rfl, h2, r2⟩ := trodAll_cons r1
  obtain ⟨v3, vs3, d3, ds3, p3, q3, rfl, rfl, rfl, h3, r3⟩ := trodAll_cons r2
  obtain ⟨rfl, rfl, rfl⟩ := trodAll_nil r3
  obtain rfl : args = #[v0, v1, v2, v3] := by cases args; simp_all
  obtain ⟨rfl, rfl⟩ := trodVars_none hV
  have k0 := h0
  have lt0 : ∀ x ∈ p0, x.block < W.heap.size := by obtain ⟨m, hm⟩ := k0; exact DataW.trod_lt m _ _ _ hm
  obtain ⟨A0, n0, c0, rfl⟩ := okWide_slice Tryd.underlying37 (hval 0 37 v0 rfl rfl)
  obtain ⟨xs0, w0, hc0⟩ : ∃ xs, Rd W A0 n0 xs ∧ n0 ≤ c0 := by
    obtain ⟨fuel, hf⟩ := h0
    rcases open_ints Tryd.underlying37 Tryd.underlying3 (by kernel_rfl) hf with ⟨hcs, _⟩ | ⟨x, l, c, zs, hcs, _, hl, hm, hz, _, hcell, hwz⟩
    · simp [Value.cells] at hcs
      obtain ⟨rfl, rfl, rfl⟩ := hcs
      exact ⟨[], Rd.nil _ _, Nat.le_refl _⟩
    · simp [Value.cells] at hcs
      obtain ⟨rfl, rfl, rfl⟩ := hcs
      exact ⟨_, rd_of_cells (by simp at hz; omega) hl hm hcell hwz, hl⟩
  have k1 := h1
  have lt1 : ∀ x ∈ p1, x.block < W.heap.size := by obtain ⟨m, hm⟩ := k1; exact DataW.trod_lt m _ _ _ hm
  obtain ⟨A1, n1, c1, rfl⟩ := okWide_slice Tryd.underlying37 (hval 1 37 v1 rfl rfl)
  obtain ⟨xs1, w1, hc1⟩ : ∃ xs, Rd W A1 n1 xs ∧ n1 ≤ c1 := by
    obtain ⟨fuel, hf⟩ := h1
    rcases open_ints Tryd.underlying37 Tryd.underlying3 (by kernel_rfl) hf with ⟨hcs, _⟩ | ⟨x, l, c, zs, hcs, _, hl, hm, hz, _, hcell, hwz⟩
    · simp [Value.cells] at hcs
      obtain ⟨rfl, rfl, rfl⟩ := hcs
      exact ⟨[], Rd.nil _ _, Nat.le_refl _⟩
    · simp [Value.cells] at hcs
      obtain ⟨rfl, rfl, rfl⟩ := hcs
      exact ⟨_, rd_of_cells (by simp at hz; omega) hl hm hcell hwz, hl⟩
  have k2 := h2
  have lt2 : ∀ x ∈ p2, x.block < W.heap.size := by obtain ⟨m, hm⟩ := k2; exact DataW.trod_lt m _ _ _ hm
  obtain ⟨a2, rfl, rfl, rfl, w2⟩ := open_int Tryd.underlying3 (hval 2 3 v2 rfl rfl) h2
  have k3 := h3
  have lt3 : ∀ x ∈ p3, x.block < W.heap.size := by obtain ⟨m, hm⟩ := k3; exact DataW.trod_lt m _ _ _ hm
  obtain ⟨a3, rfl, rfl, rfl, w3⟩ := open_int Tryd.underlying3 (hval 3 3 v3 rfl rfl) h3
  clear hA0 hval0
  refine (walk W A0 n0 c0 xs0 w0 hc0 A1 n1 c1 xs1 w1 hc1 a2 (wf_range w2) a3 (wf_range w3) (chk_of_laidC hL)).mono fun e W' ⟨he, bel⟩ => ?_
  subst he
  exact ⟨_, rfl, _, _, _, [], _, [], hW', trodAll_mk1 (shut_bool Tryd.underlying4 _), (trodAll_cons_mk (Below.trod laidOut (by kernel_rfl) (of_decide_eq_true (by kernel_rfl)) k0 bel lt0) (trodAll_cons_mk (Below.trod laidOut (by kernel_rfl) (of_decide_eq_true (by kernel_rfl)) k1 bel lt1) (trodAll_cons_mk (Below.trod laidOut (by kernel_rfl) (of_decide_eq_true (by kernel_rfl)) k2 bel lt2) (trodAll_cons_mk (Below.trod laidOut (by kernel_rfl) (of_decide_eq_true (by kernel_rfl)) k3 bel lt3) trodAll_mk0)))), rfl, bel.frame _, fun h => by cases h⟩

theorem over : Rows.topWordsRow.holds Tryd.pinned (OpenSpec.ofChange Rows.topWordsSpec) :=
  OpenClaim.holds_of_wide 9 Tryd.f9 rfl rfl rfl rfl rfl rfl rfl ⟨rfl, rfl, rfl, rfl, rfl⟩ rfl rfl rfl rfl rfl (by kernel_rfl) Tryd.func9 (by kernel_rfl)
    (of_decide_eq_true (by kernel_rfl)) (by unfold Func.isWrapper; first | (rw [if_pos (by decide +kernel)]; kernel_rfl) | (rw [if_neg (by decide +kernel)]; exact ⟨rfl, rfl⟩))
    (fun os started H enc _ => lifted os started H enc)

theorem card_holds : Rows.TopWordsCardSaid :=
  Claim7.holds_tied_plain_at .later [] [.data] true Rows.topWordsCard.stood.harness Rows.topWordsCard.stood.looks
    over (fun _ h => by cases h) (by kernel_rfl) (fun _ h => by cases h) topWords_row_tie rfl ⟨rfl, rfl⟩ (by kernel_rfl) rfl
    (fun f fn hf hfn => by
      obtain rfl : f = 9 := Option.some.inj ((show Tryd.prog.funcNamed "platterhold/platterholdtop.TopWords" = some 9 by kernel_rfl).symm.trans hf) |>.symm
      obtain rfl : fn = Tryd.f9 := (Option.some.inj (Tryd.func9.symm.trans hfn)).symm
      exact ⟨by kernel_rfl, fun j t ht => by
        rw [Tryd.params9] at ht
        have hm : t ∈ [37, 37, 3, 3] := by simpa using Array.mem_of_getElem? ht
        have hall : ([37, 37, 3, 3].all fun u => !Tryd.prog.wantsStandIn u) = true := by kernel_rfl
        exact (show Tryd.prog.wantsStandIn t = false by simpa using List.all_eq_true.1 hall t hm)⟩)
    (by kernel_rfl)
theorem proved : Rows.TopWordsCardSaid := card_holds
#print axioms proved
end Go.Proofs.YtfkbbmomanaabaaDoor.topWords
