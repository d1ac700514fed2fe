/- The code is linear: ReedSum answers true at every two slices of ints and every int. Conditions: none beside the row's own. -/
import Derived.Test.YtdhfckdnfppieaaReedF
import Derived.Test.YtdhfckdnfppieaaIn
import Derived.Test.YtdhfckdnfppieaaXor
import Derived.Test.YtdhfckdnfppieaaOpen
import Derived.Deep.RegionHeld3
import Derived.Deep.QuietTactic
import Derived.BigQuiet
namespace Go.Proofs.Ytdhfckdnfppieaa.reedSum
open Go Go.ChangeShapes Go.WideShapes Go.ChangeAt Go.RowKit
set_option linter.unusedVariables false
set_option maxRecDepth 20000

def sumI (xs ys : List Int) : List Int := List.zipWith xorI xs ys
theorem sum_len {xs ys : List Int} (h : xs.length = ys.length) : (sumI xs ys).length = xs.length := by unfold sumI; rw [List.length_zipWith, h, Nat.min_self]
theorem sum_get {xs ys : List Int} (h : xs.length = ys.length) {k : Nat} (hk : k < xs.length) : (sumI xs ys)[k]?.getD 0 = xorI (xs[k]?.getD 0) (ys[k]?.getD 0) := zip_get hk (by omega)
theorem sum_bytes {xs ys : List Int} (hx : ∀ x ∈ xs, 0 ≤ x ∧ x ≤ 255) (hy : ∀ x ∈ ys, 0 ≤ x ∧ x ≤ 255) : ∀ z ∈ sumI xs ys, 0 ≤ z ∧ z ≤ 255 := zip_mem hx hy
theorem sum_take {xs ys : List Int} (h : xs.length = ys.length) {k : Nat} (hk : k < xs.length) : (sumI xs ys).take (k + 1) = (sumI xs ys).take k ++ [xorI (xs[k]?.getD 0) (ys[k]?.getD 0)] := by
  rw [← sum_get h hk, List.take_succ_eq_append_getElem (by rw [sum_len h]; exact hk), List.getElem?_eq_getElem (by rw [sum_len h]; exact hk)]; rfl
theorem sum_make {xs ys : List Int} {p : Nat} (h : xs.length = ys.length) (h1 : makeE xs p = 0) (h2 : makeE ys p = 0) : makeE (sumI xs ys) p = 0 := by
  obtain ⟨a1, a2, a3, a4, a5⟩ := makeE_zero h1
  obtain ⟨b1, b2, b3, b4, b5⟩ := makeE_zero h2
  unfold makeE
  have hb : bytesE (sumI xs ys) 8 = 0 := bytesE_zero.2 ⟨by rw [sum_len h]; omega, allB_mem.2 (sum_bytes (allB_mem.1 a3) (allB_mem.1 b3))⟩
  rw [if_neg (by rw [sum_len h]; omega), if_neg (by simp [hb]), if_pos ⟨a4, a5⟩]
theorem sum_shards {xs ys : List Int} (h : xs.length = ys.length) (h8 : xs.length ≤ 256) (hx : ∀ x ∈ xs, 0 ≤ x ∧ x ≤ 255) (hy : ∀ x ∈ ys, 0 ≤ x ∧ x ≤ 255) {p k : Nat} (hk : k < xs.length + p) :
    (shards (sumI xs ys) p)[k]?.getD 0 = xorI ((shards xs p)[k]?.getD 0) ((shards ys p)[k]?.getD 0) := by
  rw [shards_get (sum_bytes hx hy) (by rw [sum_len h]; exact h8) (by rw [sum_len h]; exact hk), shards_get hx h8 hk, shards_get hy (by omega) (by omega)]
  rw [valI_nat, valI_nat, valI_nat]
  unfold valN
  rw [thrN_sum (Y := nts xs) (Z := nts ys) (nts_byt hx) (nts_byt hy) _ (fun j hj => by
    rw [sum_len h] at hj
    rw [nts_get, nts_get, nts_get, sum_get h hj]
    unfold xorI
    rw [Int.toNat_natCast]), sum_len h, h]
  unfold xorI
  rw [Int.toNat_natCast, Int.toNat_natCast]

set_option maxHeartbeats 8000000 in
theorem walk_ok (w : World) (A : Option Addr) (n c : Nat) (xs : List Int) (hA : Sl w A n c xs) (B : Option Addr) (d : Nat) (ys : List Int) (hB : Sl w B n d ys) (p : Nat) (he1 : makeE xs p = 0) (he2 : makeE ys p = 0) :
    Calls Try.prog 8 #[.slice A n c, .slice B n d, .int .i64 p] w fun e w' => e = .returned (.bool true) ∧ Below w.heap.size w w' := by
  have hlx := hA.1.len
  have hly := hB.1.len
  obtain ⟨a1, a2, a3, a4, a5⟩ := makeE_zero he1
  obtain ⟨b1, b2, b3, b4, b5⟩ := makeE_zero he2
  have hx := allB_mem.1 a3
  have hy := allB_mem.1 b3
  have hlen : xs.length = ys.length := by rw [hlx, hly]
  have hZ := sum_make hlen he1 he2
  have hsh := fun k hk => sum_shards (p := p) (k := k) hlen (by omega) hx hy hk
  have hn8 : n ≤ 8 := by omega
  have hp4 : p ≤ 4 := by omega
  have HE1 := Lib.hid he1
  have HE2 := Lib.hid he2
  have HX := Lib.hid (And.intro hlx (And.intro hly (And.intro hx hy)))
  have HLE := Lib.hid hlen
  have HZ := Lib.hid (And.intro hZ hsh)
  have HA0 := Lib.hid hA
  have HB0 := Lib.hid hB
  have hRA := hA.1
  have hRB := hB.1
  have hne : ((n : Int) != (n : Int)) = false := by simp
  have hnp : (((n + p : Nat) : Int) != ((n + p : Nat) : Int)) = false := by simp
  have hnp2 : ((n : Int) + (p : Int) != (n : Int) + (p : Int)) = false := by simp
  clear he1 he2 hA hB hlx hly a1 a2 a3 a4 a5 b1 b2 b3 b4 b5 hx hy hlen hZ hsh
  go_enter Try.func8, Try.ntmps8
  go_wp2_with fail
  with_reducible refine (reedFact_any _).mono ?_
  rintro e w1 ⟨rfl, hB⟩
  go_wp2_with fail
  with_reducible refine (make_ok A n c xs p _ (HA0.out.below hB) HE1.out).mono ?_
  rintro e w1x ⟨⟨C1, c1, rfl, hown1⟩, k1⟩
  have hB := hB.trans (k1.mono hB.size)
  go_wp2_with fail
  with_reducible refine (make_ok B n d ys p _ (HB0.out.below hB) HE2.out).mono ?_
  rintro e w2x ⟨⟨C2, c2, rfl, hown2⟩, k2⟩
  have hB := hB.trans (k2.mono hB.size)
  have hS1 := hown1.below k2
  have hO2 := hown2
  clear k1 k2
  go_wp2
  go_loopw [12, 13] (fun v i wr => ∃ k C c', k ≤ n ∧ i = .int .i64 (k : Nat) ∧ v = .slice C k c' ∧ Own wr w2x.heap.size (.slice C k c') k ((sumI xs ys).take k) ∧ Below w2x.heap.size w2x wr) (fun _ i _ => n - (intOf i).toNat)
  case atStart => exact ⟨0, none, 0, Nat.zero_le _, rfl, rfl, Own.nil _ _, Below.refl _ _⟩
  case round =>
    obtain ⟨k, C, c', hk, rfl, rfl, hown, hbel⟩ := hrel
    by_cases hlt : k < n
    · obtain ⟨b, off, rfl, hbl, hc⟩ := hRA.at_ (by omega)
      obtain ⟨b', off', rfl, hbl', hc'⟩ := hRB.at_ (by omega)
      have hb2 := hB.trans (hbel.mono hB.size)
      have hw1 := (hB.cell (p := ⟨b, off + k, none⟩) hbl).trans (hc k hlt)
      have hw2 := (hB.cell (p := ⟨b', off' + k, none⟩) hbl').trans (hc' k hlt)
      have h1 := (hb2.cell (p := ⟨b, off + k, none⟩) hbl).trans (hc k hlt)
      have h2 := (hb2.cell (p := ⟨b', off' + k, none⟩) hbl').trans (hc' k hlt)
      have hvx := get_byte HX.out.2.2.1 k
      have hvy := get_byte HX.out.2.2.2 k
      have hz := sum_take HLE.out (k := k) (by rw [HX.out.1]; exact hlt)
      obtain ⟨x, hx⟩ : ∃ x, xs[k]?.getD 0 = x := ⟨_, rfl⟩
      obtain ⟨y, hy⟩ : ∃ y, ys[k]?.getD 0 = y := ⟨_, rfl⟩
      rw [hx] at h1 hvx hz hw1
      rw [hy] at h2 hvy hz hw2
      obtain ⟨hvx0, hvx1⟩ := hvx
      obtain ⟨hvy0, hvy1⟩ := hvy
      have hl1 : b < w2x.heap.size := Nat.lt_of_lt_of_le hbl hB.size
      have hl2 : b' < w2x.heap.size := Nat.lt_of_lt_of_le hbl' hB.size
      have HZk := Lib.hid hz
      clear hc hc' hx hy hz
      go_wp2
      go_region_held3 (fun w' => w'.cell? ⟨b, off + k, none⟩ = some (.int .i64 x) ∧ w'.cell? ⟨b', off' + k, none⟩ = some (.int .i64 y)) (first | go_keep | exact ⟨(hq.cell (p := ⟨b, off + k, none⟩) hl1).trans hw1, (hq.cell (p := ⟨b', off' + k, none⟩) hl2).trans hw2⟩)
        (first
          | (go_at_call 15; refine (xor_any x y _ hvx0 (by omega) hvy0 (by omega)).mono ?_; rintro e w' ⟨rfl, rfl⟩)
          | (refine step_app1 (by rfl) _ _ (by rfl) w2x.heap.size k _ ((sumI xs ys).take k) (by rfl) (hown.alloc _) wr.heap.size (xorI x y) (by rfl) (by simp) (by omega) (by have := hbel.size; simp; omega) ?_; intro A' c1 w3 hown3 hbel3; have hq := hbel3 w2x.heap.size w2x (Nat.le_refl _) (by first | exact (hbel.alloc hbel.size _).drew | exact hbel.drew.alloc hbel.size _)))
      go_wp2
      go_roundw
      case rel => exact ⟨k + 1, A', c1, by omega, by go_num, rfl, by rw [HZk.out]; exact hown3, hq⟩
      case measure => simp [intOf]; omega
    · obtain rfl : k = n := by omega
      have hlS : (sumI xs ys).length = k := by rw [sum_len HLE.out, HX.out.1]
      rw [List.take_of_length_le (by rw [hlS]; omega)] at hown
      have hsb := sum_bytes HX.out.2.2.1 HX.out.2.2.2
      have hSl : Sl wr C k c' (sumI xs ys) := hown.sl (by omega) (fun x hx => by have := hsb x hx; omega)
      have HSL := Lib.hid (And.intro hSl (And.intro hlS hsb))
      have hb2 := hB.trans (hbel.mono hB.size)
      have hkk : ¬ (k : Int) < (k : Int) := by omega
      clear hlS hsb hSl
      go_wp2_with fail
      with_reducible refine (make_ok C k c' (sumI xs ys) p _ HSL.out.1 HZ.out.1).mono ?_
      rintro e w3 ⟨⟨C3, c3, rfl, hown3⟩, k3⟩
      have hb3 := hb2.trans (k3.mono hb2.size)
      have hs1 := shards_bytes HX.out.2.2.1 p
      have hs2 := shards_bytes HX.out.2.2.2 p
      have hs3 := shards_bytes HSL.out.2.2 p
      have hR1 : Rd w3 C1 (k + p) (shards xs p) := (hS1.rd (by omega) (fun x hx => by have := hs1 x hx; omega)).below (hbel.trans (k3.mono hbel.size))
      have hR2 : Rd w3 C2 (k + p) (shards ys p) := (hO2.rd (by omega) (fun x hx => by have := hs2 x hx; omega)).below (hbel.trans (k3.mono hbel.size))
      have hR3 : Rd w3 C3 (k + p) (shards (sumI xs ys) p) := hown3.rd (by omega) (fun x hx => by have := hs3 x hx; omega)
      have HSB := Lib.hid (And.intro hs1 hs2)
      clear k3 hs1 hs2 hs3 hown3 hown1 hown2 hS1 hO2 hown
      go_wp2
      go_loopw [16] (fun i wr => ∃ j : Nat, j ≤ k + p ∧ i = .int .i64 j ∧ Below w3.heap.size w3 wr) (fun i _ => (k + p) - (intOf i).toNat)
      case atStart => exact ⟨0, Nat.zero_le _, rfl, Below.refl _ _⟩
      case round =>
        obtain ⟨j, hj, rfl, hbel3⟩ := hrel
        by_cases hjl : j < k + p
        · obtain ⟨b1, o1, rfl, hbl1, hc1⟩ := hR1.at_ (by omega)
          obtain ⟨b2, o2, rfl, hbl2, hc2⟩ := hR2.at_ (by omega)
          obtain ⟨b3, o3, rfl, hbl3, hc3⟩ := hR3.at_ (by omega)
          have g1 := (hbel3.cell (p := ⟨b1, o1 + j, none⟩) hbl1).trans (hc1 j hjl)
          have g2 := (hbel3.cell (p := ⟨b2, o2 + j, none⟩) hbl2).trans (hc2 j hjl)
          have g3 := (hbel3.cell (p := ⟨b3, o3 + j, none⟩) hbl3).trans (hc3 j hjl)
          have hv1 := get_byte HSB.out.1 j
          have hv2 := get_byte HSB.out.2 j
          rw [HZ.out.2 j (by rw [HX.out.1]; exact hjl)] at g3
          obtain ⟨x, hx⟩ : ∃ x, (shards xs p)[j]?.getD 0 = x := ⟨_, rfl⟩
          obtain ⟨y, hy⟩ : ∃ y, (shards ys p)[j]?.getD 0 = y := ⟨_, rfl⟩
          rw [hx] at g1 hv1 g3
          rw [hy] at g2 hv2 g3
          obtain ⟨hvx0, hvx1⟩ := hv1
          obtain ⟨hvy0, hvy1⟩ := hv2
          have hself : (xorI x y != xorI x y) = false := by simp
          have hjI : (j : Int) < (k : Int) + (p : Int) := by omega
          have hxo := fun w => xor_any x y w hvx0 (by omega) hvy0 (by omega)
          have HXO := Lib.hid hxo
          clear hc1 hc2 hc3 hx hy hxo
          go_wp2
          go_quiet (first
            | (go_at_call 13; exact Calls.quiet_of_same ((in_yes _ _ _ _ (by omega) (by omega)).mono fun _ _ h => ⟨h.1, h.2.symm⟩))
            | (go_at_call 15; exact Calls.quiet_of_same ((HXO.out _).mono fun _ _ h => ⟨h.1, h.2.symm⟩)))
          go_wp2
          go_roundw
          case rel => exact ⟨j + 1, by omega, by go_num, below_drewN_of hbel3 _⟩
          case measure => simp [intOf]; omega
        · obtain rfl : j = k + p := by omega
          have hjI : ¬ ((k + p : Nat) : Int) < (k : Int) + (p : Int) := by omega
          go_wp2
          go_ret
          exact ⟨rfl, hb3.trans (hbel3.mono hb3.size)⟩

set_option maxHeartbeats 4000000 in
theorem walk (w : World) (A : Option Addr) (n c : Nat) (xs : List Int) (hA : Sl w A n c xs) (B : Option Addr) (m d : Nat) (ys : List Int) (hB : Sl w B m d ys) (more : Int) (hmore : -9223372036854775808 ≤ more ∧ more ≤ 9223372036854775807) :
    Calls Try.prog 8 #[.slice A n c, .slice B m d, .int .i64 more] w fun e w' => e = .returned (.bool true) ∧ Below w.heap.size w w' := by
  have HA0 := Lib.hid hA
  have HB0 := Lib.hid hB
  by_cases he1 : makeE xs more = 0
  · obtain ⟨_, _, _, hm0, hm4⟩ := makeE_zero he1
    obtain ⟨p, rfl⟩ := Int.eq_ofNat_of_zero_le hm0
    have HE1 := Lib.hid he1
    by_cases he2 : makeE ys p = 0
    · have HE2 := Lib.hid he2
      by_cases hnm : n = m
      · subst hnm
        exact walk_ok w A n c xs hA B d ys hB p he1 he2
      · have hne : ((n : Int) != (m : Int)) = true := by simp; omega
        clear he1 he2 hA hB
        go_enter Try.func8, Try.ntmps8
        go_wp2_with fail
        with_reducible refine (reedFact_any _).mono ?_
        rintro e w2 ⟨rfl, hB⟩
        go_wp2_with fail
        with_reducible refine (make_ok A n c xs p _ (HA0.out.below hB) HE1.out).mono ?_
        rintro e w1x ⟨⟨C1, c1, rfl, hown1⟩, k1⟩
        have hB := hB.trans (k1.mono hB.size)
        go_wp2_with fail
        with_reducible refine (make_ok B m d ys p _ (HB0.out.below hB) HE2.out).mono ?_
        rintro e w2x ⟨⟨C2, c2, rfl, hown2⟩, k2⟩
        have hB := hB.trans (k2.mono hB.size)
        go_wp2
        go_ret
        exact ⟨rfl, hB⟩
    · have HE2 := Lib.hid he2
      clear he1 he2 hA hB
      go_enter Try.func8, Try.ntmps8
      go_wp2_with fail
      with_reducible refine (reedFact_any _).mono ?_
      rintro e w3 ⟨rfl, hB⟩
      go_wp2_with fail
      with_reducible refine (make_ok A n c xs p _ (HA0.out.below hB) HE1.out).mono ?_
      rintro e w1x ⟨⟨C1, c1, rfl, hown1⟩, k1⟩
      have hB := hB.trans (k1.mono hB.size)
      go_wp2_with fail
      have hRb2 := (HB0.out.below hB).1
      with_reducible refine (make_bad B m d ys _ _ hRb2 HE2.out).mono ?_
      rintro e w' ⟨rfl, rfl⟩
      go_wp2
      go_ret
      exact ⟨rfl, hB⟩
  · have HE1 := Lib.hid he1
    by_cases he2 : makeE ys more = 0
    · obtain ⟨_, _, _, hm0, hm4⟩ := makeE_zero he2
      obtain ⟨p, rfl⟩ := Int.eq_ofNat_of_zero_le hm0
      have HE2 := Lib.hid he2
      clear he1 he2 hA hB
      go_enter Try.func8, Try.ntmps8
      go_wp2_with fail
      with_reducible refine (reedFact_any _).mono ?_
      rintro e w4 ⟨rfl, hB⟩
      go_wp2_with fail
      have hRb1 := (HA0.out.below hB).1
      with_reducible refine (make_bad A n c xs _ _ hRb1 HE1.out).mono ?_
      rintro e w' ⟨rfl, rfl⟩
      go_wp2_with fail
      with_reducible refine (make_ok B m d ys p _ (HB0.out.below hB) HE2.out).mono ?_
      rintro e w2x ⟨⟨C2, c2, rfl, hown2⟩, k2⟩
      have hB := hB.trans (k2.mono hB.size)
      go_wp2
      go_ret
      exact ⟨rfl, hB⟩
    · have HE2 := Lib.hid he2
      clear he1 he2 hA hB
      go_enter Try.func8, Try.ntmps8
      go_wp2_with fail
      with_reducible refine (reedFact_any _).mono ?_
      rintro e w5 ⟨rfl, hB⟩
      go_wp2_with fail
      have hRb1 := (HA0.out.below hB).1
      with_reducible refine (make_bad A n c xs _ _ hRb1 HE1.out).mono ?_
      rintro e w' ⟨rfl, rfl⟩
      go_wp2_with fail
      have hRb2 := (HB0.out.below hB).1
      with_reducible refine (make_bad B m d ys _ _ hRb2 HE2.out).mono ?_
      rintro e w' ⟨rfl, rfl⟩
      go_wp2
      go_ret
      exact ⟨rfl, hB⟩

set_option maxRecDepth 100000 in
theorem lifted (os : Os) (started : os.Started) (H : Type) (enc : TypeId × Value → H) :
    ReturnsInHanded {} Try.checked os 8 .any (Rows.reedSumSpec.pre6 enc Try.prog Try.f8 Rows.reedSumRow.domain false) (Rows.reedSumSpec.post enc Try.prog Try.f8 false true false false) := by
  refine returnsInHanded_of_change (C := Try.checked) own started (by kernel_rfl) Try.func8
    (ChangeSpec.witness6 (enc := enc) (C := Try.checked) false ⟨#[], #[.slice none 0 0, .slice none 0 0, .int .i64 0], []⟩ 8 (by kernel_rfl) (by kernel_rfl) (by kernel_rfl) (by kernel_rfl)) ?_
  intro W base args ds gs before hval0 hW hcnd _
  have hval : ∀ (j : Nat) t v, Try.f8.params[j]? = some t → args[j]? = some v → Value.okWide Try.prog W .any base t v := hval0
  have hW' := hW
  obtain ⟨p, q, hA0, hV, rfl, hfz, hnd⟩ := hW
  have hA : DataW.TrodAll enc Try.prog W 0 (fun _ => true) true Try.f8.params.toList args.toList ds p := hA0
  rw [Try.params8] at hA hval
  obtain ⟨v0, vs0, d0, ds0, p0, q0, hargs, rfl, rfl, h0, r0⟩ := trodAll_cons hA
  obtain ⟨v1, vs1, d1, ds1, p1, q1, rfl, rfl, rfl, h1, r1⟩ := trodAll_cons r0
  obtain ⟨v2, vs2, d2, ds2, p2, q2, rfl, rfl, rfl, h2, r2⟩ := trodAll_cons r1
  obtain ⟨rfl, rfl, rfl⟩ := trodAll_nil r2
  obtain rfl : args = #[v0, v1, v2] := by cases args; simp_all
  obtain ⟨rfl, rfl⟩ := trodVars_none hV
  have k0 := h0
  have lt0 : ∀ x ∈ p0, x.block < W.heap.size := by obtain ⟨m, hm⟩ := k0; exact DataW.trod_lt m _ _ _ hm
  obtain ⟨A0, n0, c0, rfl⟩ := okWide_slice Try.underlying29 (hval 0 29 v0 rfl rfl)
  obtain ⟨xs0, w0⟩ : ∃ xs, Sl W A0 n0 c0 xs := by
    obtain ⟨fuel, hf⟩ := h0
    rcases open_ints Try.underlying29 Try.underlying3 (by kernel_rfl) hf with ⟨hcs, _⟩ | ⟨x, l, c, zs, hcs, _, hl, hm, hz, _, hcell, hwz⟩
    · simp [Value.cells] at hcs
      obtain ⟨rfl, rfl, rfl⟩ := hcs
      exact ⟨[], Rd.nil _ _, Nat.le_refl _, fun _ => rfl⟩
    · simp [Value.cells] at hcs
      obtain ⟨rfl, rfl, rfl⟩ := hcs
      exact ⟨_, rd_of_cells (by simp at hz; omega) hl hm hcell hwz, hl, fun h => by cases h⟩
  have k1 := h1
  have lt1 : ∀ x ∈ p1, x.block < W.heap.size := by obtain ⟨m, hm⟩ := k1; exact DataW.trod_lt m _ _ _ hm
  obtain ⟨A1, n1, c1, rfl⟩ := okWide_slice Try.underlying29 (hval 1 29 v1 rfl rfl)
  obtain ⟨xs1, w1⟩ : ∃ xs, Sl W A1 n1 c1 xs := by
    obtain ⟨fuel, hf⟩ := h1
    rcases open_ints Try.underlying29 Try.underlying3 (by kernel_rfl) hf with ⟨hcs, _⟩ | ⟨x, l, c, zs, hcs, _, hl, hm, hz, _, hcell, hwz⟩
    · simp [Value.cells] at hcs
      obtain ⟨rfl, rfl, rfl⟩ := hcs
      exact ⟨[], Rd.nil _ _, Nat.le_refl _, fun _ => rfl⟩
    · simp [Value.cells] at hcs
      obtain ⟨rfl, rfl, rfl⟩ := hcs
      exact ⟨_, rd_of_cells (by simp at hz; omega) hl hm hcell hwz, hl, fun h => by cases h⟩
  have k2 := h2
  have lt2 : ∀ x ∈ p2, x.block < W.heap.size := by obtain ⟨m, hm⟩ := k2; exact DataW.trod_lt m _ _ _ hm
  obtain ⟨a2, rfl, rfl, rfl, w2⟩ := open_int Try.underlying3 (hval 2 3 v2 rfl rfl) h2
  clear hA0 hval0
  refine (walk W A0 n0 c0 xs0 w0 A1 n1 c1 xs1 w1 a2 (wf_range w2)).mono fun e W' ⟨he, bel⟩ => ?_
  subst he
  exact ⟨_, rfl, _, _, _, [], _, [], hW', trodAll_mk1 (shut_bool Try.underlying4 _), (trodAll_cons_mk (Below.trod laidOut (by kernel_rfl) (of_decide_eq_true (by kernel_rfl)) k0 bel lt0) (trodAll_cons_mk (Below.trod laidOut (by kernel_rfl) (of_decide_eq_true (by kernel_rfl)) k1 bel lt1) (trodAll_cons_mk (Below.trod laidOut (by kernel_rfl) (of_decide_eq_true (by kernel_rfl)) k2 bel lt2) trodAll_mk0))), rfl, bel.frame _, fun h => by cases h⟩

theorem over : Rows.reedSumRow.holds Try.pinned (OpenSpec.ofChange Rows.reedSumSpec) :=
  OpenClaim.holds_of_wide 8 Try.f8 rfl rfl rfl rfl rfl rfl rfl ⟨rfl, rfl, rfl, rfl, rfl⟩ rfl rfl rfl rfl rfl (by kernel_rfl) Try.func8 (by kernel_rfl)
    (of_decide_eq_true (by kernel_rfl)) (by unfold Func.isWrapper; first | (rw [if_pos (by decide +kernel)]; kernel_rfl) | (rw [if_neg (by decide +kernel)]; exact ⟨rfl, rfl⟩))
    (fun os started H enc _ => lifted os started H enc)

theorem proved : Rows.ReedSumSaid := over
#print axioms proved
end Go.Proofs.Ytdhfckdnfppieaa.reedSum
