/- hamming.Write and Read by their contracts: the walks (by wip/tools/gen_ham.py). -/
import Derived.Test.YtfkbbmomanaabaaDoorHamW
import Derived.Test.YtfkbbmomanaabaaDoorHamP
import Derived.Deep.QuietTactic
import Derived.BigQuiet
import Derived.OwnWalk
namespace Go.Proofs.YtfkbbmomanaabaaDoor
open Go Go.RowKit

set_option maxHeartbeats 2000000 in
set_option maxRecDepth 100000 in
theorem write_ok (n : Int) (w : World) (hn0 : 0 ≤ n) (hn : n ≤ 15) (hT : ChkT w) :
    Calls Tryd.prog 11 #[.int .i64 n] w fun e w' => e = .returned (.tuple #[.int .i64 (writeI n), .nilIface]) ∧ Below w.heap.size w w' := by
  have ea0 := and_one (b := n) (by omega) (by omega)
  obtain ⟨m0, hm0⟩ : ∃ m, n % 2 = m := ⟨_, rfl⟩
  have bm00 : 0 ≤ m0 := by omega
  have bm01 : m0 ≤ 1 := by omega
  rw [hm0] at ea0
  obtain ⟨W0, hW0, bW00, bW01, eo0⟩ := or_bits (0 : Int) (m0 * 4) (by omega) (by omega) (by omega) (by omega)
  have ea1 := and_one (b := (n / 2)) (by omega) (by omega)
  obtain ⟨m1, hm1⟩ : ∃ m, (n / 2) % 2 = m := ⟨_, rfl⟩
  have bm10 : 0 ≤ m1 := by omega
  have bm11 : m1 ≤ 1 := by omega
  rw [hm1] at ea1
  obtain ⟨W1, hW1, bW10, bW11, eo1⟩ := or_bits W0 (m1 * 16) bW00 bW01 (by omega) (by omega)
  have ea2 := and_one (b := (n / 4)) (by omega) (by omega)
  obtain ⟨m2, hm2⟩ : ∃ m, (n / 4) % 2 = m := ⟨_, rfl⟩
  have bm20 : 0 ≤ m2 := by omega
  have bm21 : m2 ≤ 1 := by omega
  rw [hm2] at ea2
  obtain ⟨W2, hW2, bW20, bW21, eo2⟩ := or_bits W1 (m2 * 32) bW10 bW11 (by omega) (by omega)
  have ea3 := and_one (b := (n / 8)) (by omega) (by omega)
  obtain ⟨m3, hm3⟩ : ∃ m, (n / 8) % 2 = m := ⟨_, rfl⟩
  have bm30 : 0 ≤ m3 := by omega
  have bm31 : m3 ≤ 1 := by omega
  rw [hm3] at ea3
  obtain ⟨W3, hW3, bW30, bW31, eo3⟩ := or_bits W2 (m3 * 64) bW20 bW21 (by omega) (by omega)
  obtain ⟨k, hk⟩ : ∃ k, wrongI W3 = k := ⟨_, rfl⟩
  have hkr := wrongI_range W3; rw [hk] at hkr; obtain ⟨hk0, hk7⟩ := hkr
  have ec0 := and_one (b := k) (by omega) (by omega)
  obtain ⟨c0, hc0⟩ : ∃ m, k % 2 = m := ⟨_, rfl⟩
  have bc00 : 0 ≤ c0 := by omega
  have bc01 : c0 ≤ 1 := by omega
  rw [hc0] at ec0
  obtain ⟨V0, hV0, bV00, bV01, ev0⟩ := or_bits W3 c0 bW30 bW31 (by omega) (by omega)
  have ec1 := and_one (b := (k / 2)) (by omega) (by omega)
  obtain ⟨c1, hc1⟩ : ∃ m, (k / 2) % 2 = m := ⟨_, rfl⟩
  have bc10 : 0 ≤ c1 := by omega
  have bc11 : c1 ≤ 1 := by omega
  rw [hc1] at ec1
  obtain ⟨V1, hV1, bV10, bV11, ev1⟩ := or_bits V0 (c1 * 2) bV00 bV01 (by omega) (by omega)
  have ec2 := and_one (b := (k / 4)) (by omega) (by omega)
  obtain ⟨c2, hc2⟩ : ∃ m, (k / 4) % 2 = m := ⟨_, rfl⟩
  have bc20 : 0 ≤ c2 := by omega
  have bc21 : c2 ≤ 1 := by omega
  rw [hc2] at ec2
  obtain ⟨V2, hV2, bV20, bV21, ev2⟩ := or_bits V1 (c2 * 8) bV10 bV11 (by omega) (by omega)
  have hfin : writeI n = V2 := by unfold writeI writeW; rw [hm0, hm1, hm2, hm3, hW0, hW1, hW2, hW3, hk, hc0, hc1, hc2, Int.mul_one, hV0, hV1, hV2]
  have HF := Lib.hid hfin
  have HK := Lib.hid hk
  clear hfin hk hm0 hW0 hm1 hW1 hm2 hW2 hm3 hW3 hc0 hV0 hc1 hV1 hc2 hV2
  have i0 : ∀ w, (Instr.index 49 (.agg #[.int .i64 3, .int .i64 5, .int .i64 6, .int .i64 7]) (.int .i64 0)).run Tryd.prog w = .ok (.int .i64 3) w := fun _ => by kernel_rfl
  have i1 : ∀ w, (Instr.index 49 (.agg #[.int .i64 3, .int .i64 5, .int .i64 6, .int .i64 7]) (.int .i64 1)).run Tryd.prog w = .ok (.int .i64 5) w := fun _ => by kernel_rfl
  have i2 : ∀ w, (Instr.index 49 (.agg #[.int .i64 3, .int .i64 5, .int .i64 6, .int .i64 7]) (.int .i64 2)).run Tryd.prog w = .ok (.int .i64 6) w := fun _ => by kernel_rfl
  have i3 : ∀ w, (Instr.index 49 (.agg #[.int .i64 3, .int .i64 5, .int .i64 6, .int .i64 7]) (.int .i64 3)).run Tryd.prog w = .ok (.int .i64 7) w := fun _ => by kernel_rfl
  go_enter Tryd.func11, Tryd.ntmps11
  go_wp2_with fail
  with_reducible refine (within_yes _ _ _ _ hn0 hn).mono ?_
  rintro e w' ⟨rfl, rfl⟩
  go_wp2_with fail
  refine wp_loop_rounds 5 ?_
  rw [rounds_succ]
  go_wp2_with fail
  rw [rounds_succ]
  go_wp2_with fail
  rw [rounds_succ]
  go_wp2_with fail
  rw [rounds_succ]
  go_wp2_with fail
  rw [rounds_succ]
  go_wp2_with fail
  with_reducible refine (wrong_any W3 _ bW30 bW31 hT).mono ?_
  rintro e w1 ⟨rfl, hB⟩
  rw [HK.out]
  go_wp2_with fail
  refine wp_loop_rounds 4 ?_
  rw [rounds_succ]
  go_wp2_with fail
  go_quiet (fail)
  go_wp2_with fail
  rw [rounds_succ]
  go_wp2_with fail
  go_quiet (fail)
  go_wp2_with fail
  rw [rounds_succ]
  go_wp2_with fail
  go_quiet (fail)
  go_wp2_with fail
  rw [rounds_succ]
  go_wp2
  go_ret2
  exact ⟨ret2_int HF.out.symm, below_drewN_of hB _⟩

set_option maxHeartbeats 4000000 in
set_option maxRecDepth 100000 in
theorem read_ok (v : Int) (w : World) (hv0 : 0 ≤ v) (hv : v ≤ 127) (hT : ChkT w) :
    Calls Tryd.prog 15 #[.int .i64 v] w fun e w' => e = .returned (.tuple #[.int .i64 (readI v), .int .i64 (wrongI v), .nilIface]) ∧ Below w.heap.size w w' := by
  obtain ⟨u, hu⟩ : ∃ u, readU v = u := ⟨_, rfl⟩
  have hur := readU_range hv0 hv; rw [hu] at hur; obtain ⟨hu0, hu1⟩ := hur
  obtain ⟨b0, hb0⟩ : ∃ b, bitI u 3 = b := ⟨_, rfl⟩
  have r0 := bitI_range u 3; rw [hb0] at r0; obtain ⟨r00, r01⟩ := r0
  have H0 := Lib.hid hb0
  obtain ⟨N0, hN0, bN00, bN01, eo0⟩ := or_bits (0 : Int) b0 (by omega) (by omega) (by omega) (by omega)
  obtain ⟨b1, hb1⟩ : ∃ b, bitI u 5 = b := ⟨_, rfl⟩
  have r1 := bitI_range u 5; rw [hb1] at r1; obtain ⟨r10, r11⟩ := r1
  have H1 := Lib.hid hb1
  obtain ⟨N1, hN1, bN10, bN11, eo1⟩ := or_bits N0 (b1 * 2) bN00 bN01 (by omega) (by omega)
  obtain ⟨b2, hb2⟩ : ∃ b, bitI u 6 = b := ⟨_, rfl⟩
  have r2 := bitI_range u 6; rw [hb2] at r2; obtain ⟨r20, r21⟩ := r2
  have H2 := Lib.hid hb2
  obtain ⟨N2, hN2, bN20, bN21, eo2⟩ := or_bits N1 (b2 * 4) bN10 bN11 (by omega) (by omega)
  obtain ⟨b3, hb3⟩ : ∃ b, bitI u 7 = b := ⟨_, rfl⟩
  have r3 := bitI_range u 7; rw [hb3] at r3; obtain ⟨r30, r31⟩ := r3
  have H3 := Lib.hid hb3
  obtain ⟨N3, hN3, bN30, bN31, eo3⟩ := or_bits N2 (b3 * 8) bN20 bN21 (by omega) (by omega)
  have hfin : readI v = N3 := by unfold readI; rw [hu, hb0, hb1, hb2, hb3, hN0, hN1, hN2, hN3]
  have HF := Lib.hid hfin
  clear hfin hb0 hN0 hb1 hN1 hb2 hN2 hb3 hN3
  have i0 : ∀ w, (Instr.index 49 (.agg #[.int .i64 3, .int .i64 5, .int .i64 6, .int .i64 7]) (.int .i64 0)).run Tryd.prog w = .ok (.int .i64 3) w := fun _ => by kernel_rfl
  have i1 : ∀ w, (Instr.index 49 (.agg #[.int .i64 3, .int .i64 5, .int .i64 6, .int .i64 7]) (.int .i64 1)).run Tryd.prog w = .ok (.int .i64 5) w := fun _ => by kernel_rfl
  have i2 : ∀ w, (Instr.index 49 (.agg #[.int .i64 3, .int .i64 5, .int .i64 6, .int .i64 7]) (.int .i64 2)).run Tryd.prog w = .ok (.int .i64 6) w := fun _ => by kernel_rfl
  have i3 : ∀ w, (Instr.index 49 (.agg #[.int .i64 3, .int .i64 5, .int .i64 6, .int .i64 7]) (.int .i64 3)).run Tryd.prog w = .ok (.int .i64 7) w := fun _ => by kernel_rfl
  obtain ⟨k, hk⟩ : ∃ k, wrongI v = k := ⟨_, rfl⟩
  have hkr := wrongI_range v; rw [hk] at hkr; obtain ⟨hk0, hk7⟩ := hkr
  have HK := Lib.hid hk
  rw [hk]
  rcases (by omega : k = 0 ∨ k = 1 ∨ k = 2 ∨ k = 3 ∨ k = 4 ∨ k = 5 ∨ k = 6 ∨ k = 7) with rfl | rfl | rfl | rfl | rfl | rfl | rfl | rfl
  · obtain rfl : v = u := by rw [← hu]; unfold readU; rw [hk, if_pos rfl]
    clear hu hk
    go_enter Tryd.func15, Tryd.ntmps15
    go_wp2_with fail
    with_reducible refine (within_yes _ _ _ _ hv0 hv).mono ?_
    rintro e w' ⟨rfl, rfl⟩
    go_wp2_with fail
    with_reducible refine (wrong_any v _ hv0 hv hT).mono ?_
    rintro e w1 ⟨rfl, hB⟩
    rw [HK.out]
    go_wp2_with fail
    refine wp_loop_rounds 5 ?_
    rw [rounds_succ]
    go_wp2_with fail
    with_reducible refine (bit_any v 3 _ hv0 hv (by omega) (by omega)).mono ?_
    rintro e w' ⟨rfl, rfl⟩
    rw [H0.out]
    go_wp2_with fail
    rw [rounds_succ]
    go_wp2_with fail
    with_reducible refine (bit_any v 5 _ hv0 hv (by omega) (by omega)).mono ?_
    rintro e w' ⟨rfl, rfl⟩
    rw [H1.out]
    go_wp2_with fail
    rw [rounds_succ]
    go_wp2_with fail
    with_reducible refine (bit_any v 6 _ hv0 hv (by omega) (by omega)).mono ?_
    rintro e w' ⟨rfl, rfl⟩
    rw [H2.out]
    go_wp2_with fail
    rw [rounds_succ]
    go_wp2_with fail
    with_reducible refine (bit_any v 7 _ hv0 hv (by omega) (by omega)).mono ?_
    rintro e w' ⟨rfl, rfl⟩
    rw [H3.out]
    go_wp2_with fail
    rw [rounds_succ]
    go_wp2
    go_ret3
    exact ⟨by rw [HF.out]; rfl, hB⟩
  · have hx : bits .xor .i64 v 1 = u := (bits_xorI hv0 (by omega) (by decide) (by decide)).trans (by rw [← hu]; unfold readU; rw [hk, if_neg (by decide)]; rfl)
    clear hu hk
    go_enter Tryd.func15, Tryd.ntmps15
    go_wp2_with fail
    with_reducible refine (within_yes _ _ _ _ hv0 hv).mono ?_
    rintro e w' ⟨rfl, rfl⟩
    go_wp2_with fail
    with_reducible refine (wrong_any v _ hv0 hv hT).mono ?_
    rintro e w1 ⟨rfl, hB⟩
    rw [HK.out]
    go_wp2_with fail
    refine wp_loop_rounds 5 ?_
    rw [rounds_succ]
    go_wp2_with fail
    with_reducible refine (bit_any u 3 _ hu0 hu1 (by omega) (by omega)).mono ?_
    rintro e w' ⟨rfl, rfl⟩
    rw [H0.out]
    go_wp2_with fail
    rw [rounds_succ]
    go_wp2_with fail
    with_reducible refine (bit_any u 5 _ hu0 hu1 (by omega) (by omega)).mono ?_
    rintro e w' ⟨rfl, rfl⟩
    rw [H1.out]
    go_wp2_with fail
    rw [rounds_succ]
    go_wp2_with fail
    with_reducible refine (bit_any u 6 _ hu0 hu1 (by omega) (by omega)).mono ?_
    rintro e w' ⟨rfl, rfl⟩
    rw [H2.out]
    go_wp2_with fail
    rw [rounds_succ]
    go_wp2_with fail
    with_reducible refine (bit_any u 7 _ hu0 hu1 (by omega) (by omega)).mono ?_
    rintro e w' ⟨rfl, rfl⟩
    rw [H3.out]
    go_wp2_with fail
    rw [rounds_succ]
    go_wp2
    go_ret3
    exact ⟨by rw [HF.out]; rfl, hB⟩
  · have hx : bits .xor .i64 v 2 = u := (bits_xorI hv0 (by omega) (by decide) (by decide)).trans (by rw [← hu]; unfold readU; rw [hk, if_neg (by decide)]; rfl)
    clear hu hk
    go_enter Tryd.func15, Tryd.ntmps15
    go_wp2_with fail
    with_reducible refine (within_yes _ _ _ _ hv0 hv).mono ?_
    rintro e w' ⟨rfl, rfl⟩
    go_wp2_with fail
    with_reducible refine (wrong_any v _ hv0 hv hT).mono ?_
    rintro e w1 ⟨rfl, hB⟩
    rw [HK.out]
    go_wp2_with fail
    refine wp_loop_rounds 5 ?_
    rw [rounds_succ]
    go_wp2_with fail
    with_reducible refine (bit_any u 3 _ hu0 hu1 (by omega) (by omega)).mono ?_
    rintro e w' ⟨rfl, rfl⟩
    rw [H0.out]
    go_wp2_with fail
    rw [rounds_succ]
    go_wp2_with fail
    with_reducible refine (bit_any u 5 _ hu0 hu1 (by omega) (by omega)).mono ?_
    rintro e w' ⟨rfl, rfl⟩
    rw [H1.out]
    go_wp2_with fail
    rw [rounds_succ]
    go_wp2_with fail
    with_reducible refine (bit_any u 6 _ hu0 hu1 (by omega) (by omega)).mono ?_
    rintro e w' ⟨rfl, rfl⟩
    rw [H2.out]
    go_wp2_with fail
    rw [rounds_succ]
    go_wp2_with fail
    with_reducible refine (bit_any u 7 _ hu0 hu1 (by omega) (by omega)).mono ?_
    rintro e w' ⟨rfl, rfl⟩
    rw [H3.out]
    go_wp2_with fail
    rw [rounds_succ]
    go_wp2
    go_ret3
    exact ⟨by rw [HF.out]; rfl, hB⟩
  · have hx : bits .xor .i64 v 4 = u := (bits_xorI hv0 (by omega) (by decide) (by decide)).trans (by rw [← hu]; unfold readU; rw [hk, if_neg (by decide)]; rfl)
    clear hu hk
    go_enter Tryd.func15, Tryd.ntmps15
    go_wp2_with fail
    with_reducible refine (within_yes _ _ _ _ hv0 hv).mono ?_
    rintro e w' ⟨rfl, rfl⟩
    go_wp2_with fail
    with_reducible refine (wrong_any v _ hv0 hv hT).mono ?_
    rintro e w1 ⟨rfl, hB⟩
    rw [HK.out]
    go_wp2_with fail
    refine wp_loop_rounds 5 ?_
    rw [rounds_succ]
    go_wp2_with fail
    with_reducible refine (bit_any u 3 _ hu0 hu1 (by omega) (by omega)).mono ?_
    rintro e w' ⟨rfl, rfl⟩
    rw [H0.out]
    go_wp2_with fail
    rw [rounds_succ]
    go_wp2_with fail
    with_reducible refine (bit_any u 5 _ hu0 hu1 (by omega) (by omega)).mono ?_
    rintro e w' ⟨rfl, rfl⟩
    rw [H1.out]
    go_wp2_with fail
    rw [rounds_succ]
    go_wp2_with fail
    with_reducible refine (bit_any u 6 _ hu0 hu1 (by omega) (by omega)).mono ?_
    rintro e w' ⟨rfl, rfl⟩
    rw [H2.out]
    go_wp2_with fail
    rw [rounds_succ]
    go_wp2_with fail
    with_reducible refine (bit_any u 7 _ hu0 hu1 (by omega) (by omega)).mono ?_
    rintro e w' ⟨rfl, rfl⟩
    rw [H3.out]
    go_wp2_with fail
    rw [rounds_succ]
    go_wp2
    go_ret3
    exact ⟨by rw [HF.out]; rfl, hB⟩
  · have hx : bits .xor .i64 v 8 = u := (bits_xorI hv0 (by omega) (by decide) (by decide)).trans (by rw [← hu]; unfold readU; rw [hk, if_neg (by decide)]; rfl)
    clear hu hk
    go_enter Tryd.func15, Tryd.ntmps15
    go_wp2_with fail
    with_reducible refine (within_yes _ _ _ _ hv0 hv).mono ?_
    rintro e w' ⟨rfl, rfl⟩
    go_wp2_with fail
    with_reducible refine (wrong_any v _ hv0 hv hT).mono ?_
    rintro e w1 ⟨rfl, hB⟩
    rw [HK.out]
    go_wp2_with fail
    refine wp_loop_rounds 5 ?_
    rw [rounds_succ]
    go_wp2_with fail
    with_reducible refine (bit_any u 3 _ hu0 hu1 (by omega) (by omega)).mono ?_
    rintro e w' ⟨rfl, rfl⟩
    rw [H0.out]
    go_wp2_with fail
    rw [rounds_succ]
    go_wp2_with fail
    with_reducible refine (bit_any u 5 _ hu0 hu1 (by omega) (by omega)).mono ?_
    rintro e w' ⟨rfl, rfl⟩
    rw [H1.out]
    go_wp2_with fail
    rw [rounds_succ]
    go_wp2_with fail
    with_reducible refine (bit_any u 6 _ hu0 hu1 (by omega) (by omega)).mono ?_
    rintro e w' ⟨rfl, rfl⟩
    rw [H2.out]
    go_wp2_with fail
    rw [rounds_succ]
    go_wp2_with fail
    with_reducible refine (bit_any u 7 _ hu0 hu1 (by omega) (by omega)).mono ?_
    rintro e w' ⟨rfl, rfl⟩
    rw [H3.out]
    go_wp2_with fail
    rw [rounds_succ]
    go_wp2
    go_ret3
    exact ⟨by rw [HF.out]; rfl, hB⟩
  · have hx : bits .xor .i64 v 16 = u := (bits_xorI hv0 (by omega) (by decide) (by decide)).trans (by rw [← hu]; unfold readU; rw [hk, if_neg (by decide)]; rfl)
    clear hu hk
    go_enter Tryd.func15, Tryd.ntmps15
    go_wp2_with fail
    with_reducible refine (within_yes _ _ _ _ hv0 hv).mono ?_
    rintro e w' ⟨rfl, rfl⟩
    go_wp2_with fail
    with_reducible refine (wrong_any v _ hv0 hv hT).mono ?_
    rintro e w1 ⟨rfl, hB⟩
    rw [HK.out]
    go_wp2_with fail
    refine wp_loop_rounds 5 ?_
    rw [rounds_succ]
    go_wp2_with fail
    with_reducible refine (bit_any u 3 _ hu0 hu1 (by omega) (by omega)).mono ?_
    rintro e w' ⟨rfl, rfl⟩
    rw [H0.out]
    go_wp2_with fail
    rw [rounds_succ]
    go_wp2_with fail
    with_reducible refine (bit_any u 5 _ hu0 hu1 (by omega) (by omega)).mono ?_
    rintro e w' ⟨rfl, rfl⟩
    rw [H1.out]
    go_wp2_with fail
    rw [rounds_succ]
    go_wp2_with fail
    with_reducible refine (bit_any u 6 _ hu0 hu1 (by omega) (by omega)).mono ?_
    rintro e w' ⟨rfl, rfl⟩
    rw [H2.out]
    go_wp2_with fail
    rw [rounds_succ]
    go_wp2_with fail
    with_reducible refine (bit_any u 7 _ hu0 hu1 (by omega) (by omega)).mono ?_
    rintro e w' ⟨rfl, rfl⟩
    rw [H3.out]
    go_wp2_with fail
    rw [rounds_succ]
    go_wp2
    go_ret3
    exact ⟨by rw [HF.out]; rfl, hB⟩
  · have hx : bits .xor .i64 v 32 = u := (bits_xorI hv0 (by omega) (by decide) (by decide)).trans (by rw [← hu]; unfold readU; rw [hk, if_neg (by decide)]; rfl)
    clear hu hk
    go_enter Tryd.func15, Tryd.ntmps15
    go_wp2_with fail
    with_reducible refine (within_yes _ _ _ _ hv0 hv).mono ?_
    rintro e w' ⟨rfl, rfl⟩
    go_wp2_with fail
    with_reducible refine (wrong_any v _ hv0 hv hT).mono ?_
    rintro e w1 ⟨rfl, hB⟩
    rw [HK.out]
    go_wp2_with fail
    refine wp_loop_rounds 5 ?_
    rw [rounds_succ]
    go_wp2_with fail
    with_reducible refine (bit_any u 3 _ hu0 hu1 (by omega) (by omega)).mono ?_
    rintro e w' ⟨rfl, rfl⟩
    rw [H0.out]
    go_wp2_with fail
    rw [rounds_succ]
    go_wp2_with fail
    with_reducible refine (bit_any u 5 _ hu0 hu1 (by omega) (by omega)).mono ?_
    rintro e w' ⟨rfl, rfl⟩
    rw [H1.out]
    go_wp2_with fail
    rw [rounds_succ]
    go_wp2_with fail
    with_reducible refine (bit_any u 6 _ hu0 hu1 (by omega) (by omega)).mono ?_
    rintro e w' ⟨rfl, rfl⟩
    rw [H2.out]
    go_wp2_with fail
    rw [rounds_succ]
    go_wp2_with fail
    with_reducible refine (bit_any u 7 _ hu0 hu1 (by omega) (by omega)).mono ?_
    rintro e w' ⟨rfl, rfl⟩
    rw [H3.out]
    go_wp2_with fail
    rw [rounds_succ]
    go_wp2
    go_ret3
    exact ⟨by rw [HF.out]; rfl, hB⟩
  · have hx : bits .xor .i64 v 64 = u := (bits_xorI hv0 (by omega) (by decide) (by decide)).trans (by rw [← hu]; unfold readU; rw [hk, if_neg (by decide)]; rfl)
    clear hu hk
    go_enter Tryd.func15, Tryd.ntmps15
    go_wp2_with fail
    with_reducible refine (within_yes _ _ _ _ hv0 hv).mono ?_
    rintro e w' ⟨rfl, rfl⟩
    go_wp2_with fail
    with_reducible refine (wrong_any v _ hv0 hv hT).mono ?_
    rintro e w1 ⟨rfl, hB⟩
    rw [HK.out]
    go_wp2_with fail
    refine wp_loop_rounds 5 ?_
    rw [rounds_succ]
    go_wp2_with fail
    with_reducible refine (bit_any u 3 _ hu0 hu1 (by omega) (by omega)).mono ?_
    rintro e w' ⟨rfl, rfl⟩
    rw [H0.out]
    go_wp2_with fail
    rw [rounds_succ]
    go_wp2_with fail
    with_reducible refine (bit_any u 5 _ hu0 hu1 (by omega) (by omega)).mono ?_
    rintro e w' ⟨rfl, rfl⟩
    rw [H1.out]
    go_wp2_with fail
    rw [rounds_succ]
    go_wp2_with fail
    with_reducible refine (bit_any u 6 _ hu0 hu1 (by omega) (by omega)).mono ?_
    rintro e w' ⟨rfl, rfl⟩
    rw [H2.out]
    go_wp2_with fail
    rw [rounds_succ]
    go_wp2_with fail
    with_reducible refine (bit_any u 7 _ hu0 hu1 (by omega) (by omega)).mono ?_
    rintro e w' ⟨rfl, rfl⟩
    rw [H3.out]
    go_wp2_with fail
    rw [rounds_succ]
    go_wp2
    go_ret3
    exact ⟨by rw [HF.out]; rfl, hB⟩
end Go.Proofs.YtfkbbmomanaabaaDoor
