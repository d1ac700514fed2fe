/- hamming.wrong by its contract: the walk (by wip/tools/gen_wrong.py). -/
import Derived.Test.YtfkbbmomanaabaaDoorHamB
import Derived.WalkSpells
namespace Go.Proofs.YtfkbbmomanaabaaDoor
open Go Go.RowKit

set_option maxHeartbeats 2000000 in
set_option maxRecDepth 100000 in
theorem wrong_any (v : Int) (w : World) (hv0 : 0 ≤ v) (hv : v ≤ 127) (hT : ChkT w) :
    Calls Tryd.prog 28 #[.int .i64 v] w fun e w' => e = .returned (.int .i64 (wrongI v)) ∧ Below w.heap.size w w' := by
  obtain ⟨b1, hb1⟩ : ∃ b, bitI v 1 = b := ⟨_, rfl⟩
  have r1 := bitI_range v 1; rw [hb1] at r1; obtain ⟨r10, r11⟩ := r1
  have H1 := Lib.hid hb1
  obtain ⟨b2, hb2⟩ : ∃ b, bitI v 2 = b := ⟨_, rfl⟩
  have r2 := bitI_range v 2; rw [hb2] at r2; obtain ⟨r20, r21⟩ := r2
  have H2 := Lib.hid hb2
  obtain ⟨b3, hb3⟩ : ∃ b, bitI v 3 = b := ⟨_, rfl⟩
  have r3 := bitI_range v 3; rw [hb3] at r3; obtain ⟨r30, r31⟩ := r3
  have H3 := Lib.hid hb3
  obtain ⟨b4, hb4⟩ : ∃ b, bitI v 4 = b := ⟨_, rfl⟩
  have r4 := bitI_range v 4; rw [hb4] at r4; obtain ⟨r40, r41⟩ := r4
  have H4 := Lib.hid hb4
  obtain ⟨b5, hb5⟩ : ∃ b, bitI v 5 = b := ⟨_, rfl⟩
  have r5 := bitI_range v 5; rw [hb5] at r5; obtain ⟨r50, r51⟩ := r5
  have H5 := Lib.hid hb5
  obtain ⟨b6, hb6⟩ : ∃ b, bitI v 6 = b := ⟨_, rfl⟩
  have r6 := bitI_range v 6; rw [hb6] at r6; obtain ⟨r60, r61⟩ := r6
  have H6 := Lib.hid hb6
  obtain ⟨b7, hb7⟩ : ∃ b, bitI v 7 = b := ⟨_, rfl⟩
  have r7 := bitI_range v 7; rw [hb7] at r7; obtain ⟨r70, r71⟩ := r7
  have H7 := Lib.hid hb7
  have hW : wrongI v = wrongB b1 b2 b3 b4 b5 b6 b7 := by unfold wrongI; rw [hb1, hb2, hb3, hb4, hb5, hb6, hb7]
  rw [hW]
  clear hW hb1 hb2 hb3 hb4 hb5 hb6 hb7
  obtain ⟨s00, hs00, q000, q001, e00⟩ := xor_bit (0 : Int) b1 (by omega) (by omega) r10 r11
  obtain ⟨s01, hs01, q010, q011, e01⟩ := xor_bit s00 b3 (by omega) (by omega) r30 r31
  obtain ⟨s02, hs02, q020, q021, e02⟩ := xor_bit s01 b5 (by omega) (by omega) r50 r51
  obtain ⟨s03, hs03, q030, q031, e03⟩ := xor_bit s02 b7 (by omega) (by omega) r70 r71
  obtain ⟨s10, hs10, q100, q101, e10⟩ := xor_bit (0 : Int) b2 (by omega) (by omega) r20 r21
  obtain ⟨s11, hs11, q110, q111, e11⟩ := xor_bit s10 b3 (by omega) (by omega) r30 r31
  obtain ⟨s12, hs12, q120, q121, e12⟩ := xor_bit s11 b6 (by omega) (by omega) r60 r61
  obtain ⟨s13, hs13, q130, q131, e13⟩ := xor_bit s12 b7 (by omega) (by omega) r70 r71
  obtain ⟨s20, hs20, q200, q201, e20⟩ := xor_bit (0 : Int) b4 (by omega) (by omega) r40 r41
  obtain ⟨s21, hs21, q210, q211, e21⟩ := xor_bit s20 b5 (by omega) (by omega) r50 r51
  obtain ⟨s22, hs22, q220, q221, e22⟩ := xor_bit s21 b6 (by omega) (by omega) r60 r61
  obtain ⟨s23, hs23, q230, q231, e23⟩ := xor_bit s22 b7 (by omega) (by omega) r70 r71
  have HS := Lib.hid (And.intro hs00 (And.intro hs01 (And.intro hs02 (And.intro hs03 (And.intro hs10 (And.intro hs11 (And.intro hs12 (And.intro hs13 (And.intro hs20 (And.intro hs21 (And.intro hs22 hs23)))))))))))
  clear hs00 hs01 hs02 hs03 hs10 hs11 hs12 hs13 hs20 hs21 hs22 hs23
  have i0 : ∀ w, (Instr.index 50 (.agg chkCells) (.int .i64 0)).run Tryd.prog w = .ok (.agg #[.int .i64 1, .int .i64 3, .int .i64 5, .int .i64 7]) w := fun _ => by kernel_rfl
  have i00 : ∀ w, (Instr.index 49 (.agg #[.int .i64 1, .int .i64 3, .int .i64 5, .int .i64 7]) (.int .i64 0)).run Tryd.prog w = .ok (.int .i64 1) w := fun _ => by kernel_rfl
  have i01 : ∀ w, (Instr.index 49 (.agg #[.int .i64 1, .int .i64 3, .int .i64 5, .int .i64 7]) (.int .i64 1)).run Tryd.prog w = .ok (.int .i64 3) w := fun _ => by kernel_rfl
  have i02 : ∀ w, (Instr.index 49 (.agg #[.int .i64 1, .int .i64 3, .int .i64 5, .int .i64 7]) (.int .i64 2)).run Tryd.prog w = .ok (.int .i64 5) w := fun _ => by kernel_rfl
  have i03 : ∀ w, (Instr.index 49 (.agg #[.int .i64 1, .int .i64 3, .int .i64 5, .int .i64 7]) (.int .i64 3)).run Tryd.prog w = .ok (.int .i64 7) w := fun _ => by kernel_rfl
  have i1 : ∀ w, (Instr.index 50 (.agg chkCells) (.int .i64 1)).run Tryd.prog w = .ok (.agg #[.int .i64 2, .int .i64 3, .int .i64 6, .int .i64 7]) w := fun _ => by kernel_rfl
  have i10 : ∀ w, (Instr.index 49 (.agg #[.int .i64 2, .int .i64 3, .int .i64 6, .int .i64 7]) (.int .i64 0)).run Tryd.prog w = .ok (.int .i64 2) w := fun _ => by kernel_rfl
  have i11 : ∀ w, (Instr.index 49 (.agg #[.int .i64 2, .int .i64 3, .int .i64 6, .int .i64 7]) (.int .i64 1)).run Tryd.prog w = .ok (.int .i64 3) w := fun _ => by kernel_rfl
  have i12 : ∀ w, (Instr.index 49 (.agg #[.int .i64 2, .int .i64 3, .int .i64 6, .int .i64 7]) (.int .i64 2)).run Tryd.prog w = .ok (.int .i64 6) w := fun _ => by kernel_rfl
  have i13 : ∀ w, (Instr.index 49 (.agg #[.int .i64 2, .int .i64 3, .int .i64 6, .int .i64 7]) (.int .i64 3)).run Tryd.prog w = .ok (.int .i64 7) w := fun _ => by kernel_rfl
  have i2 : ∀ w, (Instr.index 50 (.agg chkCells) (.int .i64 2)).run Tryd.prog w = .ok (.agg #[.int .i64 4, .int .i64 5, .int .i64 6, .int .i64 7]) w := fun _ => by kernel_rfl
  have i20 : ∀ w, (Instr.index 49 (.agg #[.int .i64 4, .int .i64 5, .int .i64 6, .int .i64 7]) (.int .i64 0)).run Tryd.prog w = .ok (.int .i64 4) w := fun _ => by kernel_rfl
  have i21 : ∀ w, (Instr.index 49 (.agg #[.int .i64 4, .int .i64 5, .int .i64 6, .int .i64 7]) (.int .i64 1)).run Tryd.prog w = .ok (.int .i64 5) w := fun _ => by kernel_rfl
  have i22 : ∀ w, (Instr.index 49 (.agg #[.int .i64 4, .int .i64 5, .int .i64 6, .int .i64 7]) (.int .i64 2)).run Tryd.prog w = .ok (.int .i64 6) w := fun _ => by kernel_rfl
  have i23 : ∀ w, (Instr.index 49 (.agg #[.int .i64 4, .int .i64 5, .int .i64 6, .int .i64 7]) (.int .i64 3)).run Tryd.prog w = .ok (.int .i64 7) w := fun _ => by kernel_rfl
  go_enter Tryd.func28, Tryd.ntmps28
  go_wp2_with (first | (refine wpList_load_chk rfl rfl hT ?_))
  refine wp_loop_rounds 4 ?_
  rw [rounds_succ]
  go_wp2_with fail
  refine wp_loop_rounds 5 ?_
  rw [rounds_succ]
  go_wp2_with fail
  with_reducible refine (bit_any v 1 _ hv0 hv (by omega) (by omega)).mono ?_
  rintro e w' ⟨rfl, rfl⟩
  rw [H1.out]
  go_wp2_with fail
  rw [rounds_succ]
  go_wp2_with fail
  with_reducible refine (bit_any v 3 _ hv0 hv (by omega) (by omega)).mono ?_
  rintro e w' ⟨rfl, rfl⟩
  rw [H3.out]
  go_wp2_with fail
  rw [rounds_succ]
  go_wp2_with fail
  with_reducible refine (bit_any v 5 _ hv0 hv (by omega) (by omega)).mono ?_
  rintro e w' ⟨rfl, rfl⟩
  rw [H5.out]
  go_wp2_with fail
  rw [rounds_succ]
  go_wp2_with fail
  with_reducible refine (bit_any v 7 _ hv0 hv (by omega) (by omega)).mono ?_
  rintro e w' ⟨rfl, rfl⟩
  rw [H7.out]
  go_wp2_with fail
  rw [rounds_succ]
  go_wp2_with fail
  rw [rounds_succ]
  go_wp2_with fail
  refine wp_loop_rounds 5 ?_
  rw [rounds_succ]
  go_wp2_with fail
  with_reducible refine (bit_any v 2 _ hv0 hv (by omega) (by omega)).mono ?_
  rintro e w' ⟨rfl, rfl⟩
  rw [H2.out]
  go_wp2_with fail
  rw [rounds_succ]
  go_wp2_with fail
  with_reducible refine (bit_any v 3 _ hv0 hv (by omega) (by omega)).mono ?_
  rintro e w' ⟨rfl, rfl⟩
  rw [H3.out]
  go_wp2_with fail
  rw [rounds_succ]
  go_wp2_with fail
  with_reducible refine (bit_any v 6 _ hv0 hv (by omega) (by omega)).mono ?_
  rintro e w' ⟨rfl, rfl⟩
  rw [H6.out]
  go_wp2_with fail
  rw [rounds_succ]
  go_wp2_with fail
  with_reducible refine (bit_any v 7 _ hv0 hv (by omega) (by omega)).mono ?_
  rintro e w' ⟨rfl, rfl⟩
  rw [H7.out]
  go_wp2_with fail
  rw [rounds_succ]
  go_wp2_with fail
  rw [rounds_succ]
  go_wp2_with fail
  refine wp_loop_rounds 5 ?_
  rw [rounds_succ]
  go_wp2_with fail
  with_reducible refine (bit_any v 4 _ hv0 hv (by omega) (by omega)).mono ?_
  rintro e w' ⟨rfl, rfl⟩
  rw [H4.out]
  go_wp2_with fail
  rw [rounds_succ]
  go_wp2_with fail
  with_reducible refine (bit_any v 5 _ hv0 hv (by omega) (by omega)).mono ?_
  rintro e w' ⟨rfl, rfl⟩
  rw [H5.out]
  go_wp2_with fail
  rw [rounds_succ]
  go_wp2_with fail
  with_reducible refine (bit_any v 6 _ hv0 hv (by omega) (by omega)).mono ?_
  rintro e w' ⟨rfl, rfl⟩
  rw [H6.out]
  go_wp2_with fail
  rw [rounds_succ]
  go_wp2_with fail
  with_reducible refine (bit_any v 7 _ hv0 hv (by omega) (by omega)).mono ?_
  rintro e w' ⟨rfl, rfl⟩
  rw [H7.out]
  go_wp2_with fail
  rw [rounds_succ]
  go_wp2_with fail
  rw [rounds_succ]
  go_wp2
  go_ret
  refine ⟨?_, (((Below.refl _ _).alloc (Nat.le_refl _) _).alloc (by simp) _).alloc (by simp; omega) _⟩
  show Ending.returned (.int .i64 (s03 + s13 * 2 + s23 * 4)) = _
  obtain ⟨h00, h01, h02, h03, h10, h11, h12, h13, h20, h21, h22, h23⟩ := HS.out
  have hfin : wrongB b1 b2 b3 b4 b5 b6 b7 = s03 + s13 * 2 + s23 * 4 := by unfold wrongB; rw [par4 h00 h01 h02 h03, par4 h10 h11 h12 h13, par4 h20 h21 h22 h23]
  rw [hfin]
end Go.Proofs.YtfkbbmomanaabaaDoor
