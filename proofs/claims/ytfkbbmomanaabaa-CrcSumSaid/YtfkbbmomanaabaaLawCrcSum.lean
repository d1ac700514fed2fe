/- The CRC is linear: CrcSum answers true at every two slices of ints. Conditions: none beside the row's own. -/
import Derived.Test.YtfkbbmomanaabaaOpen
import Derived.Test.YtfkbbmomanaabaaCrc
import Derived.Test.YtfkbbmomanaabaaXor
import Derived.Test.YtfkbbmomanaabaaOwn
import Derived.Deep.RegionHeld3
namespace Go.Proofs.Ytfkbbmomanaabaa.crcSum
open Go.ChangeShapes Go.WideShapes Go.ChangeAt Go.RowKit
set_option linter.unusedVariables false

theorem zip_get {xs ys : List Int} {k : Nat} (hx : k < xs.length) (hy : k < ys.length) : (List.zipWith xorI xs ys)[k]?.getD 0 = xorI (xs[k]?.getD 0) (ys[k]?.getD 0) := by
  rw [List.getElem?_zipWith, List.getElem?_eq_getElem hx, List.getElem?_eq_getElem hy]; rfl
theorem zip_mem {xs ys : List Int} (hx : ∀ x ∈ xs, 0 ≤ x ∧ x ≤ 255) (hy : ∀ x ∈ ys, 0 ≤ x ∧ x ≤ 255) : ∀ z ∈ List.zipWith xorI xs ys, 0 ≤ z ∧ z ≤ 255 := by
  intro z hz
  obtain ⟨k, hk, rfl⟩ := List.mem_iff_getElem.1 hz
  rw [List.length_zipWith] at hk
  rw [List.getElem_zipWith]
  exact ⟨xorI_nonneg _ _, xorI_255 (hx _ (List.getElem_mem _)).2 (hy _ (List.getElem_mem _)).2⟩

theorem in_yes (n lo hi : Int) (w : World) (h0 : lo ≤ n) (h1 : n ≤ hi) : Calls Try.prog 8 #[.int .i64 n, .int .i64 lo, .int .i64 hi] w fun e w' => e = .returned (.bool true) ∧ w = w' := by
  go_enter Try.func8, Try.ntmps8
  go_wp2
  go_ret
  exact ⟨rfl, rfl⟩

set_option maxHeartbeats 2000000 in
set_option maxRecDepth 100000 in
theorem walk_ok (w : World) (A : Option Addr) (n c : Nat) (xs : List Int) (hA : Rd w A n xs) (B : Option Addr) (d : Nat) (ys : List Int) (hB : Rd w B n ys) (hn : n ≤ 64) (hax : allB xs 0 255 = true) (hay : allB ys 0 255 = true) :
    Calls Try.prog 3 #[.slice A n c, .slice B n d] w fun e w' => e = .returned (.bool true) ∧ Below w.heap.size w w' := by
  have hlx := hA.len
  have hly := hB.len
  have hmx := allB_mem.1 hax
  have hmy := allB_mem.1 hay
  obtain ⟨Z, hZ⟩ : ∃ Z, List.zipWith xorI xs ys = Z := ⟨_, rfl⟩
  have hZl : Z.length = n := by rw [← hZ, List.length_zipWith]; omega
  have hZm : ∀ z ∈ Z, 0 ≤ z ∧ z ≤ 255 := by rw [← hZ]; exact zip_mem hmx hmy
  have hZg : ∀ k, k < n → Z[k]?.getD 0 = xorI (xs[k]?.getD 0) (ys[k]?.getD 0) := fun k hk => by rw [← hZ]; exact zip_get (by omega) (by omega)
  have hZc : crcI Z = xorI (crcI xs) (crcI ys) := by rw [← hZ]; exact crcI_xor (by omega) hmx hmy
  have hcx := crcI_range hmx
  have hcy := crcI_range hmy
  have hne : ((n : Int) != (n : Int)) = false := by simp
  have HAX := Lib.hid hax
  have HAY := Lib.hid hay
  have HL := Lib.hid (And.intro hlx hly)
  have HZ := Lib.hid (And.intro hZl (And.intro hZm (And.intro hZg hZc)))
  have HM := Lib.hid (And.intro hmx hmy)
  clear hax hay hlx hly hZ hZl hZm hZg hZc hmx hmy
  obtain ⟨X, hX⟩ : ∃ X, crcI xs = X := ⟨_, rfl⟩
  obtain ⟨Y, hY⟩ : ∃ Y, crcI ys = Y := ⟨_, rfl⟩
  have HXY := Lib.hid (And.intro hX hY)
  rw [hX] at hcx
  rw [hY] at hcy
  obtain ⟨hx0, hx1⟩ := hcx
  obtain ⟨hy0, hy1⟩ := hcy
  go_enter Try.func3, Try.ntmps3
  go_wp2_with fail
  refine (crcFact_any _).mono ?_
  rintro e w1 ⟨rfl, hB1⟩
  go_wp2_with fail
  refine (sum_ok _ _ _ xs _ (hA.below hB1) hn HAX.out).mono ?_
  rintro e w2 ⟨rfl, rfl⟩
  rw [hX]
  go_wp2_with fail
  refine (sum_ok _ _ _ ys _ (hB.below hB1) hn HAY.out).mono ?_
  rintro e w2 ⟨rfl, rfl⟩
  rw [hY]
  clear hX hY
  go_wp2
  go_loopw [10, 11] (fun v i wr => ∃ k C c', k ≤ n ∧ i = .int .i64 (k : Nat) ∧ v = .slice C k c' ∧ Own wr w.heap.size (.slice C k c') k (Z.take k) ∧ Below w.heap.size w wr) (fun _ i _ => n - (intOf i).toNat)
  case atStart => exact ⟨0, none, 0, Nat.zero_le _, rfl, rfl, Own.nil _ _, hB1⟩
  case round =>
    obtain ⟨k, C, c', hk, rfl, rfl, hown, hbel⟩ := hrel
    by_cases hlt : k < n
    · obtain ⟨b, off, rfl, hbl, hc⟩ := hA.at_ (by omega)
      obtain ⟨b', off', rfl, hbl', hc'⟩ := hB.at_ (by omega)
      have hw1 := hc k hlt
      have hw2 := hc' k hlt
      have h1 := (hbel.cell (p := ⟨b, off + k, none⟩) hbl).trans (hc k hlt)
      have h2 := (hbel.cell (p := ⟨b', off' + k, none⟩) hbl').trans (hc' k hlt)
      have hvx := allB_iff.1 HAX.out k (by have := HL.out; omega)
      have hvy := allB_iff.1 HAY.out k (by have := HL.out; omega)
      have hz := HZ.out.2.2.1 k hlt
      obtain ⟨x, hx⟩ : ∃ x, xs[k]?.getD 0 = x := ⟨_, rfl⟩
      obtain ⟨y, hy⟩ : ∃ y, ys[k]?.getD 0 = y := ⟨_, rfl⟩
      rw [hx] at h1 hvx hz hw1
      rw [hy] at h2 hvy hz hw2
      obtain ⟨hvx0, hvx1⟩ := hvx
      obtain ⟨hvy0, hvy1⟩ := hvy
      have HZk := Lib.hid hz
      clear hc hc' hx hy hz
      go_wp2
      go_region_held3 (fun w' => w'.cell? ⟨b, off + k, none⟩ = some (.int .i64 x) ∧ w'.cell? ⟨b', off' + k, none⟩ = some (.int .i64 y)) (first | go_keep | exact ⟨(hq.cell (p := ⟨b, off + k, none⟩) hbl).trans hw1, (hq.cell (p := ⟨b', off' + k, none⟩) hbl').trans hw2⟩)
        (first
          | (go_at_call 7; refine (xor_any x y _ hvx0 (by omega) hvy0 (by omega)).mono ?_; rintro e w' ⟨rfl, rfl⟩)
          | (refine step_app1 (by rfl) _ _ (by rfl) w.heap.size k _ (Z.take k) (by rfl) (hown.alloc _) wr.heap.size (xorI x y) (by rfl) (by simp) (by omega) (by have := hbel.size; simp; omega) ?_; intro A' c1 w3 hown3 hbel3; have hq := hbel3 w.heap.size w (Nat.le_refl _) (by first | exact (hbel.alloc hbel.size _).drew | exact hbel.drew.alloc hbel.size _)))
      go_wp2
      go_roundw
      case rel => exact ⟨k + 1, A', c1, by omega, by go_num, rfl, by rw [take_snoc (by rw [HZ.out.1]; exact hlt), HZk.out]; exact hown3, hq⟩
      case measure => simp [intOf]; omega
    · have hkn : k = n := by omega
      subst hkn
      rw [List.take_of_length_le (by rw [HZ.out.1]; omega)] at hown
      have hZr := hown.rd (by omega) (fun x hx => by have := HZ.out.2.1 x hx; omega)
      have hzb : allB Z 0 255 = true := allB_mem.2 HZ.out.2.1
      have HZB := Lib.hid hzb
      clear hzb
      go_wp2_with fail
      refine (sum_ok _ _ _ Z _ hZr hn HZB.out).mono ?_
      rintro e w2 ⟨rfl, rfl⟩
      rw [show crcI Z = xorI X Y from by rw [HZ.out.2.2.2, HXY.out.1, HXY.out.2]]
      have hself : (xorI X Y == xorI X Y) = true := by simp
      go_wp2_with (first | (go_at_call 8; refine (in_yes _ _ _ _ (by assumption) (by assumption)).mono ?_; rintro e w' ⟨rfl, rfl⟩) | (go_at_call 7; refine (xor_any X Y _ hx0 (by omega) hy0 (by omega)).mono ?_; rintro e w' ⟨rfl, rfl⟩))
      go_ret
      exact ⟨rfl, hbel⟩

set_option maxHeartbeats 1000000 in
theorem walk (w : World) (A : Option Addr) (n c : Nat) (xs : List Int) (hA : Rd w A n xs) (hc : n ≤ c) (B : Option Addr) (m d : Nat) (ys : List Int) (hB : Rd w B m ys) (hd : m ≤ d) :
    Calls Try.prog 3 #[.slice A n c, .slice B m d] w fun e w' => e = .returned (.bool true) ∧ Below w.heap.size w w' := by
  by_cases hx : bytesE xs 64 = 0
  · obtain ⟨hx1, hx2⟩ := bytesE_zero.1 hx
    rw [hA.len] at hx1
    by_cases hy : bytesE ys 64 = 0
    · obtain ⟨hy1, hy2⟩ := bytesE_zero.1 hy
      rw [hB.len] at hy1
      by_cases hnm : n = m
      · subst hnm
        exact walk_ok w A n c xs hA B d ys hB (by omega) hx2 hy2
      · have hne : ((n : Int) != (m : Int)) = true := by simp; omega
        clear hx hy
        go_enter Try.func3, Try.ntmps3
        go_wp2_with fail
        refine (crcFact_any _).mono ?_
        rintro e w1 ⟨rfl, hB1⟩
        go_wp2_with fail
        refine (sum_ok _ _ _ xs _ (hA.below hB1) (by omega) hx2).mono ?_
        rintro e w2 ⟨rfl, rfl⟩
        go_wp2_with fail
        refine (sum_ok _ _ _ ys _ (hB.below hB1) (by omega) hy2).mono ?_
        rintro e w2 ⟨rfl, rfl⟩
        clear hx2 hy2
        go_wp2
        go_ret
        exact ⟨rfl, hB1⟩
    · go_enter Try.func3, Try.ntmps3
      go_wp2_with fail
      refine (crcFact_any _).mono ?_
      rintro e w1 ⟨rfl, hB1⟩
      go_wp2_with fail
      refine (sum_ok _ _ _ xs _ (hA.below hB1) (by omega) hx2).mono ?_
      rintro e w2 ⟨rfl, rfl⟩
      go_wp2_with fail
      refine (sum_bad _ _ _ ys _ (hB.below hB1) hy).mono ?_
      rintro e w2 ⟨rfl, rfl⟩
      clear hx hx2 hy
      go_wp2
      go_ret
      exact ⟨rfl, hB1⟩
  · by_cases hy : bytesE ys 64 = 0
    · obtain ⟨hy1, hy2⟩ := bytesE_zero.1 hy
      rw [hB.len] at hy1
      go_enter Try.func3, Try.ntmps3
      go_wp2_with fail
      refine (crcFact_any _).mono ?_
      rintro e w1 ⟨rfl, hB1⟩
      go_wp2_with fail
      refine (sum_bad _ _ _ xs _ (hA.below hB1) hx).mono ?_
      rintro e w2 ⟨rfl, rfl⟩
      go_wp2_with fail
      refine (sum_ok _ _ _ ys _ (hB.below hB1) (by omega) hy2).mono ?_
      rintro e w2 ⟨rfl, rfl⟩
      clear hx hy hy2
      go_wp2
      go_ret
      exact ⟨rfl, hB1⟩
    · go_enter Try.func3, Try.ntmps3
      go_wp2_with fail
      refine (crcFact_any _).mono ?_
      rintro e w1 ⟨rfl, hB1⟩
      go_wp2_with fail
      refine (sum_bad _ _ _ xs _ (hA.below hB1) hx).mono ?_
      rintro e w2 ⟨rfl, rfl⟩
      go_wp2_with fail
      refine (sum_bad _ _ _ ys _ (hB.below hB1) hy).mono ?_
      rintro e w2 ⟨rfl, rfl⟩
      clear hx hy
      go_wp2
      go_ret
      exact ⟨rfl, hB1⟩

set_option maxRecDepth 100000 in
theorem lifted (os : Os) (started : os.Started) (H : Type) (enc : TypeId × Value → H) :
    ReturnsInHanded {} Try.checked os 3 .any (Rows.crcSumSpec.pre6 enc Try.prog Try.f3 Rows.crcSumRow.domain false) (Rows.crcSumSpec.post enc Try.prog Try.f3 false true false false) := by
  refine returnsInHanded_of_change (C := Try.checked) own started (by kernel_rfl) Try.func3
    (ChangeSpec.witness6 (enc := enc) (C := Try.checked) false ⟨#[], #[.slice none 0 0, .slice none 0 0], []⟩ 8 (by kernel_rfl) (by kernel_rfl) (by kernel_rfl) (by kernel_rfl)) ?_
  intro W base args ds gs before hval0 hW hcnd _
  have hval : ∀ (j : Nat) t v, Try.f3.params[j]? = some t → args[j]? = some v → Value.okWide Try.prog W .any base t v := hval0
  have hW' := hW
  obtain ⟨p, q, hA0, hV, rfl, hfz, hnd⟩ := hW
  have hA : DataW.TrodAll enc Try.prog W 0 (fun _ => true) true Try.f3.params.toList args.toList ds p := hA0
  rw [Try.params3] at hA hval
  obtain ⟨v0, vs0, d0, ds0, p0, q0, hargs, rfl, rfl, h0, r0⟩ := trodAll_cons hA
  obtain ⟨v1, vs1, d1, ds1, p1, q1, rfl, rfl, rfl, h1, r1⟩ := trodAll_cons r0
  obtain ⟨rfl, rfl, rfl⟩ := trodAll_nil r1
  obtain rfl : args = #[v0, v1] := by cases args; simp_all
  obtain ⟨rfl, rfl⟩ := trodVars_none hV
  have k0 := h0
  have lt0 : ∀ x ∈ p0, x.block < W.heap.size := by obtain ⟨m, hm⟩ := k0; exact DataW.trod_lt m _ _ _ hm
  obtain ⟨A0, n0, c0, rfl⟩ := okWide_slice Try.underlying22 (hval 0 22 v0 rfl rfl)
  obtain ⟨xs0, w0, hc0⟩ : ∃ xs, Rd W A0 n0 xs ∧ n0 ≤ c0 := by
    obtain ⟨fuel, hf⟩ := h0
    rcases open_ints Try.underlying22 Try.underlying3 (by kernel_rfl) hf with ⟨hcs, _⟩ | ⟨x, l, c, zs, hcs, _, hl, hm, hz, _, hcell, hwz⟩
    · simp [Value.cells] at hcs
      obtain ⟨rfl, rfl, rfl⟩ := hcs
      exact ⟨[], Rd.nil _ _, Nat.le_refl _⟩
    · simp [Value.cells] at hcs
      obtain ⟨rfl, rfl, rfl⟩ := hcs
      exact ⟨_, rd_of_cells (by simp at hz; omega) hl hm hcell hwz, hl⟩
  have k1 := h1
  have lt1 : ∀ x ∈ p1, x.block < W.heap.size := by obtain ⟨m, hm⟩ := k1; exact DataW.trod_lt m _ _ _ hm
  obtain ⟨A1, n1, c1, rfl⟩ := okWide_slice Try.underlying22 (hval 1 22 v1 rfl rfl)
  obtain ⟨xs1, w1, hc1⟩ : ∃ xs, Rd W A1 n1 xs ∧ n1 ≤ c1 := by
    obtain ⟨fuel, hf⟩ := h1
    rcases open_ints Try.underlying22 Try.underlying3 (by kernel_rfl) hf with ⟨hcs, _⟩ | ⟨x, l, c, zs, hcs, _, hl, hm, hz, _, hcell, hwz⟩
    · simp [Value.cells] at hcs
      obtain ⟨rfl, rfl, rfl⟩ := hcs
      exact ⟨[], Rd.nil _ _, Nat.le_refl _⟩
    · simp [Value.cells] at hcs
      obtain ⟨rfl, rfl, rfl⟩ := hcs
      exact ⟨_, rd_of_cells (by simp at hz; omega) hl hm hcell hwz, hl⟩
  clear hA0 hval0
  refine (walk W A0 n0 c0 xs0 w0 hc0 A1 n1 c1 xs1 w1 hc1).mono fun e W' ⟨he, bel⟩ => ?_
  subst he
  exact ⟨_, rfl, _, _, _, [], _, [], hW', trodAll_mk1 (shut_bool Try.underlying4 _), (trodAll_cons_mk (Below.trod laidOut (by kernel_rfl) (of_decide_eq_true (by kernel_rfl)) k0 bel lt0) (trodAll_cons_mk (Below.trod laidOut (by kernel_rfl) (of_decide_eq_true (by kernel_rfl)) k1 bel lt1) trodAll_mk0)), rfl, bel.frame _, fun h => by cases h⟩

theorem over : Rows.crcSumRow.holds Try.pinned (OpenSpec.ofChange Rows.crcSumSpec) :=
  OpenClaim.holds_of_wide 3 Try.f3 rfl rfl rfl rfl rfl rfl rfl ⟨rfl, rfl, rfl, rfl, rfl⟩ rfl rfl rfl rfl rfl (by kernel_rfl) Try.func3 (by kernel_rfl)
    (of_decide_eq_true (by kernel_rfl)) (by unfold Func.isWrapper; first | (rw [if_pos (by decide +kernel)]; kernel_rfl) | (rw [if_neg (by decide +kernel)]; exact ⟨rfl, rfl⟩))
    (fun os started H enc _ => lifted os started H enc)

theorem proved : Rows.CrcSumSaid := over
#print axioms proved
end Go.Proofs.Ytfkbbmomanaabaa.crcSum
