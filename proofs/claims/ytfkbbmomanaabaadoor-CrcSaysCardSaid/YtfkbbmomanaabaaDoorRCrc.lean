/- The reference's Crc by its contract. -/
import Derived.Test.YtfkbbmomanaabaaDoorRCrcP
import Derived.Test.YtfkbbmomanaabaaDoorXor
import Derived.Test.YtfkbbmomanaabaaDoorCrc
import Derived.Test.YtfkbbmomanaabaaDoorOwn
import Derived.Deep.RegionHeld3
namespace Go.Proofs.YtfkbbmomanaabaaDoor
open Go Go.RowKit

theorem push_big {l b : Int} (h0 : 0 ≤ l) (h1 : 0 ≤ b) (h : 255 < l * 2 + b) : ((pushN l.toNat b.toNat : Nat) : Int) = xorI (l * 2 + b) 263 := by
  unfold pushN xorI
  rw [if_pos (by omega)]
  congr 2
  omega
theorem push_small {l b : Int} (h0 : 0 ≤ l) (h1 : 0 ≤ b) (h : ¬ 255 < l * 2 + b) : ((pushN l.toNat b.toNat : Nat) : Int) = l * 2 + b := by
  unfold pushN
  rw [if_neg (by omega)]
  omega

set_option maxHeartbeats 2000000 in
theorem rcrc_any (A : Option Addr) (n ca : Nat) (xs : List Int) (w : World) (hA : Rd w A n xs) (hn : n ≤ 64) (hall : allB xs 0 255 = true) :
    Calls Tryd.prog 20 #[.slice A n ca] w fun e w' => e = .returned (.int .i64 (crcI xs)) ∧ Below w.heap.size w w' := by
  have hx := hA.len
  have hm := allB_mem.1 hall
  have HX := Lib.hid hx
  have HM := Lib.hid hm
  clear hx hm hall
  go_enter Tryd.func20, Tryd.ntmps20
  go_wp2
  go_loopw [3, 4, 5] (fun v i p wr => ∃ (k : Nat) (C : Option Addr) (c' : Nat), k ≤ n ∧ i = .int .i64 k ∧ v = .slice C (8 * k) c' ∧ Own wr w.heap.size (.slice C (8 * k) c') (8 * k) (bitsL (xs.take k)) ∧ Below w.heap.size w wr) (fun _ i _ _ => n - (intOf i).toNat)
  case atStart => exact ⟨0, none, 0, Nat.zero_le _, rfl, rfl, Own.nil _ _, Below.refl _ _⟩
  case round =>
    obtain ⟨k, C, c', hk, rfl, rfl, hown, hbel⟩ := hrel
    by_cases hlt : k < n
    · obtain ⟨b, off, rfl, hbl, hc⟩ := hA.at_ (by omega)
      have hw1 := hc k hlt
      have hvx := allB_iff.1 (allB_mem.2 HM.out) k (by rw [HX.out]; exact hlt)
      have hsn := bitsL_snoc (xs := xs) (k := k) (by rw [HX.out]; exact hlt)
      obtain ⟨x, hxe⟩ : ∃ x, xs[k]?.getD 0 = x := ⟨_, rfl⟩
      rw [hxe] at hw1 hvx hsn
      obtain ⟨hvx0, hvx1⟩ := hvx
      have HS := Lib.hid hsn
      clear hc hxe hsn
      go_wp2
      go_loopw [3, 5] (fun v p wq => ∃ (t : Nat) (D : Option Addr) (d : Nat), t ≤ 8 ∧ p = .int .i64 ((128 / 2 ^ t : Nat) : Int) ∧ v = .slice D (8 * k + t) d ∧ Own wq w.heap.size (.slice D (8 * k + t) d) (8 * k + t) (bitsL (xs.take k) ++ (bitsOf x).take t) ∧ Below w.heap.size w wq) (fun _ p _ => (intOf p).toNat)
      case atStart => exact ⟨0, C, c', by omega, rfl, rfl, by simpa using hown, hbel⟩
      case round =>
        obtain ⟨t, D, d, ht, rfl, rfl, hown2, hbel2⟩ := hrel
        by_cases ht8 : t < 8
        · have hbs := bitsOf_snoc x ht8
          have hP : ∃ P : Nat, 128 / 2 ^ t = P ∧ 1 ≤ P ∧ P ≤ 128 ∧ P / 2 = 128 / 2 ^ (t + 1) := by
            refine ⟨_, rfl, ?_, Nat.div_le_self _ _, by rw [Nat.div_div_eq_div_mul, Nat.pow_succ]⟩
            have : 2 ^ t ≤ 2 ^ 7 := Nat.pow_le_pow_right (by decide) (by omega)
            exact (Nat.one_le_div_iff (Nat.two_pow_pos t)).2 (by omega)
          obtain ⟨P, hPe, hP1, hP2, hP3⟩ := hP
          rw [hPe] at hbs ⊢
          have hdx : 0 ≤ x / (P : Int) ∧ x / (P : Int) ≤ 255 := ⟨Int.ediv_nonneg hvx0 (by omega), Int.le_trans (Int.ediv_le_self _ hvx0) hvx1⟩
          obtain ⟨q, hq⟩ : ∃ q, x / (P : Int) = q := ⟨_, rfl⟩
          rw [hq] at hbs hdx
          obtain ⟨hq0, hq1⟩ := hdx
          have HB := Lib.hid hbs
          have HP := Lib.hid hP3
          clear hbs hP3 hPe
          have h1 := (hbel2.cell (p := ⟨b, off + k, none⟩) hbl).trans hw1
          have hP0 : (0 : Int) < (P : Int) := by omega
          go_wp2_with (at_builtin; refine wpList_app1 rfl _ _ rfl w.heap.size (8 * k + t) _ _ rfl (hown2.alloc _) wr.heap.size (q % 2) rfl (by simp) (by omega) (by have := hbel2.size; simp; omega) ?_; intro A2 c2 w4 hown4 hbel4)
          have hq4 := hbel4 w.heap.size w (Nat.le_refl _) (hbel2.alloc hbel2.size _)
          go_roundw
          case rel => exact ⟨t + 1, A2, c2, by omega, by rw [← HP.out]; go_num, rfl, by rw [HB.out, ← List.append_assoc]; exact hown4, hq4⟩
          case measure => simp [intOf]; omega
        · obtain rfl : t = 8 := by omega
          rw [List.take_of_length_le (l := bitsOf x) (i := 8) (by rw [bitsOf_len]; omega), ← HS.out] at hown2
          go_wp2
          go_roundw
          case rel => exact ⟨k + 1, D, d, by omega, by go_num, rfl, hown2, hbel2⟩
          case measure => simp [intOf]; omega
    · obtain rfl : k = n := by omega
      rw [List.take_of_length_le (by rw [HX.out]; omega)] at hown
      go_wp2
      go_loopw [3, 6] (fun v i wq => ∃ (j : Nat) (D : Option Addr) (d : Nat), j ≤ 8 ∧ i = .int .i64 j ∧ v = .slice D (8 * k + j) d ∧ Own wq w.heap.size (.slice D (8 * k + j) d) (8 * k + j) (bitsL xs ++ List.replicate j 0) ∧ Below w.heap.size w wq) (fun _ i _ => 8 - (intOf i).toNat)
      case atStart => exact ⟨0, C, c', by omega, rfl, rfl, by simpa using hown, hbel⟩
      case round =>
        obtain ⟨j, D, d, hj, rfl, rfl, hown2, hbel2⟩ := hrel
        by_cases hj8 : j < 8
        · go_wp2_with (at_builtin; refine wpList_app1 rfl _ _ rfl w.heap.size (8 * k + j) _ _ rfl (hown2.alloc _) wr.heap.size 0 rfl (by simp) (by omega) (by have := hbel2.size; simp; omega) ?_; intro A2 c2 w4 hown4 hbel4)
          have hq4 := hbel4 w.heap.size w (Nat.le_refl _) (hbel2.alloc hbel2.size _)
          go_roundw
          case rel => exact ⟨j + 1, A2, c2, by omega, by go_num, rfl, by rw [List.replicate_succ', ← List.append_assoc]; exact hown4, hq4⟩
          case measure => simp [intOf]; omega
        · obtain rfl : j = 8 := by omega
          rw [show ((8 : Nat) : Int) = 8 from rfl]
          have hcrc := left_crc HM.out
          have hmz : ∀ z ∈ bitsL xs ++ List.replicate 8 0, 0 ≤ z ∧ z ≤ 1 := by
            intro z hz
            rcases List.mem_append.1 hz with hz | hz
            · exact bitsL_range hz
            · obtain rfl := List.eq_of_mem_replicate hz
              omega
          obtain ⟨Z, hZ⟩ : ∃ Z, bitsL xs ++ List.replicate 8 0 = Z := ⟨_, rfl⟩
          rw [hZ] at hown2 hcrc hmz
          obtain ⟨g, rfl, hg0, hg1, hcell, hfr⟩ := hown2.at_ (by omega)
          have hZl := hown2.len
          have HC := Lib.hid hcrc
          have HZM := Lib.hid hmz
          have HZL := Lib.hid hZl
          clear hcrc hmz hZ hZl hown2 hown
          go_wp2
          go_loop [7, 8] (fun l i => ∃ j : Nat, j ≤ 8 * k + 8 ∧ i = .int .i64 j ∧ l = .int .i64 (leftI (Z.take j))) (fun _ i => 8 * k + 8 - (intOf i).toNat)
          case atStart => exact ⟨0, Nat.zero_le _, rfl, rfl⟩
          case round =>
            obtain ⟨j, hj, rfl, rfl⟩ := hrel
            by_cases hjl : j < 8 * k + 8
            · have h1 := hcell j hjl
              have hsn := leftI_snoc (Z.take j) (Z[j]?.getD 0)
              rw [← take_snoc (by rw [HZL.out]; exact hjl)] at hsn
              have hr := leftI_range (bs := Z.take j) (fun b hb => HZM.out b (List.mem_of_mem_take hb))
              have hzr : 0 ≤ Z[j]?.getD 0 ∧ Z[j]?.getD 0 ≤ 1 := by
                have hl := HZL.out
                rw [List.getElem?_eq_getElem (by omega)]
                exact HZM.out _ (List.getElem_mem _)
              obtain ⟨z, hz⟩ : ∃ z, Z[j]?.getD 0 = z := ⟨_, rfl⟩
              obtain ⟨l, hl⟩ : ∃ l, leftI (Z.take j) = l := ⟨_, rfl⟩
              rw [hz] at h1 hsn hzr
              rw [hl] at hsn hr ⊢
              obtain ⟨hr0, hr1⟩ := hr
              obtain ⟨hz0, hz1⟩ := hzr
              clear hz hl hcell hfr
              by_cases hbig : 255 < l * 2 + z
              · rw [push_big hr0 hz0 hbig] at hsn
                have HS := Lib.hid hsn
                clear hsn
                have b0 : 0 ≤ l * 2 + z := by omega
                have b1 : l * 2 + z ≤ 65535 := by omega
                go_wp2_with (go_at_call 13; refine (xor_any (l * 2 + z) 263 _ b0 b1 (by decide) (by decide)).mono ?_; rintro e w' ⟨rfl, rfl⟩)
                go_round
                case rel => exact ⟨j + 1, by omega, by go_num, by rw [HS.out]⟩
                case measure => simp [intOf]; omega
              · rw [push_small hr0 hz0 hbig] at hsn
                have HS := Lib.hid hsn
                clear hsn
                go_wp2
                go_round
                case rel => exact ⟨j + 1, by omega, by go_num, by rw [HS.out]⟩
                case measure => simp [intOf]; omega
            · obtain rfl : j = 8 * k + 8 := by omega
              go_wp2
              go_ret
              exact ⟨ret_int (by rw [List.take_of_length_le (by rw [HZL.out]; omega)]; exact HC.out), hbel2⟩
end Go.Proofs.YtfkbbmomanaabaaDoor
