/- Burst errors of at most eight bits are detected: CrcBurst answers true at every slice of ints and every three ints. Conditions: none beside the row's own. -/
import Derived.Test.YtfkbbmomanaabaaOpen
import Derived.Test.YtfkbbmomanaabaaCrc
import Derived.Test.YtfkbbmomanaabaaCrcB
import Derived.Test.YtfkbbmomanaabaaXor
import Derived.Test.YtfkbbmomanaabaaOwn
import Derived.Test.YtfkbbmomanaabaaPower
namespace Go.Proofs.Ytfkbbmomanaabaa.crcBurst
open Go.ChangeShapes Go.WideShapes Go.ChangeAt Go.RowKit
set_option linter.unusedVariables false

theorem in_yes (n lo hi : Int) (w : World) (h0 : lo ≤ n) (h1 : n ≤ hi) : Calls Try.prog 8 #[.int .i64 n, .int .i64 lo, .int .i64 hi] w fun e w' => e = .returned (.bool true) ∧ w = w' := by
  go_enter Try.func8, Try.ntmps8
  go_wp2
  go_ret
  exact ⟨rfl, rfl⟩
theorem in_no (n lo hi : Int) (w : World) (h : n < lo ∨ hi < n) : Calls Try.prog 8 #[.int .i64 n, .int .i64 lo, .int .i64 hi] w fun e w' => e = .returned (.bool false) ∧ w = w' := by
  by_cases h0 : lo ≤ n
  · have hd : decide (n ≤ hi) = false := by simp; omega
    go_enter Try.func8, Try.ntmps8
    go_wp2
    go_ret
    exact ⟨rfl, rfl⟩
  · go_enter Try.func8, Try.ntmps8
    go_wp2
    go_ret
    exact ⟨rfl, rfl⟩

theorem mem_good {xs : List Int} (h : ∀ x ∈ xs, 0 ≤ x ∧ x ≤ 255) : ∀ x ∈ xs ++ [crcI xs], 0 ≤ x ∧ x ≤ 255 := by
  intro x hx
  rcases List.mem_append.1 hx with hx | hx
  · exact h x hx
  · simp at hx; subst hx; exact crcI_range h
theorem mem_set {xs : List Int} (h : ∀ x ∈ xs, 0 ≤ x ∧ x ≤ 255) {k : Nat} {u : Int} (h0 : 0 ≤ u) (h1 : u ≤ 255) : ∀ x ∈ xs.set k u, 0 ≤ x ∧ x ≤ 255 := by
  intro x hx
  rcases List.mem_or_eq_of_mem_set hx with hx | hx
  · exact h x hx
  · subst hx; exact ⟨h0, h1⟩
theorem facts (b s : Int) (hb0 : 1 ≤ b) (hb : b ≤ 255) (hs0 : 0 ≤ s) (hs : s ≤ 7) : ∃ P1 P2 D M : Int, ((2 ^ s.toNat : Nat) : Int) = P1 ∧ ((2 ^ (8 - s).toNat : Nat) : Int) = P2 ∧ 1 ≤ P1 ∧ b / P1 = D ∧ b * P2 = M ∧ 0 ≤ D ∧ D ≤ 255 ∧ 0 ≤ M ∧ M ≤ 65280 ∧
    afterN D.toNat ≠ (M % 256).toNat := by
  obtain ⟨x, rfl⟩ := Int.eq_ofNat_of_zero_le (show 0 ≤ b by omega)
  obtain ⟨t, rfl⟩ := Int.eq_ofNat_of_zero_le hs0
  have hp := pattern (b := x) (s := t) (by omega) (by omega) (by omega)
  have e8 : (8 - (t : Int)).toNat = 8 - t := by omega
  have h1 := Nat.two_pow_pos t
  have h2 : 2 ^ (8 - t) ≤ 2 ^ 8 := Nat.pow_le_pow_right (by decide) (by omega)
  have hd := Nat.div_le_self x (2 ^ t)
  have hm := Nat.mul_le_mul (show x ≤ 255 by omega) h2
  have c1 : ((x : Int) / ((2 ^ t : Nat) : Int)) = ((x / 2 ^ t : Nat) : Int) := by rw [Int.natCast_ediv]
  have c2 : ((x : Int) * ((2 ^ (8 - t) : Nat) : Int)) = ((x * 2 ^ (8 - t) : Nat) : Int) := by rw [Int.natCast_mul]
  have c3 : (((x * 2 ^ (8 - t) : Nat) : Int) % 256).toNat = x * 2 ^ (8 - t) % 256 := by omega
  obtain ⟨q, hq⟩ : ∃ q, x / 2 ^ t = q := ⟨_, rfl⟩
  obtain ⟨m, hm'⟩ : ∃ m, x * 2 ^ (8 - t) = m := ⟨_, rfl⟩
  rw [hq] at c1 hp hd
  rw [hm'] at c2 c3 hp hm
  refine ⟨((2 ^ t : Nat) : Int), ((2 ^ (8 - t) : Nat) : Int), (q : Int), (m : Int), by rw [Int.toNat_natCast], by rw [e8], by omega, c1, c2, by omega, by omega, by omega, by omega, ?_⟩
  rw [Int.toNat_natCast, c3]; exact hp

set_option maxHeartbeats 600000 in
set_option maxRecDepth 100000 in
theorem walk_ok (w : World) (A : Option Addr) (n c : Nat) (xs : List Int) (hA : Rd w A n xs) (k : Nat) (b s : Int) (hn : n < 64) (hax : allB xs 0 255 = true) (hk : k ≤ n)
    (hb0 : 1 ≤ b) (hb : b ≤ 255) (hs0 : 0 ≤ s) (hs : s ≤ 7) :
    Calls Try.prog 4 #[.slice A n c, .int .i64 k, .int .i64 b, .int .i64 s] w fun e w' => e = .returned (.bool true) ∧ Below w.heap.size w w' := by
  have hlx := hA.len
  have hmx := allB_mem.1 hax
  have hcx := crcI_range hmx
  have hgood := crcI_good hmx
  have hmg := mem_good hmx
  obtain ⟨X, hX⟩ : ∃ X, crcI xs = X := ⟨_, rfl⟩
  rw [hX] at hcx hgood hmg
  obtain ⟨hx0, hx1⟩ := hcx
  obtain ⟨P1, P2, D, M, hP1, hP2, hP1p, hD, hM, hD0, hD1, hM0, hM1, hkey⟩ := facts b s hb0 hb hs0 hs
  obtain ⟨Z, hZ⟩ : ∃ Z, xs ++ [X] = Z := ⟨_, rfl⟩
  rw [hZ] at hgood hmg
  have hZl : Z.length = n + 1 := by rw [← hZ]; simp [hlx]
  have HAX := Lib.hid hax
  have HX := Lib.hid hX
  have HP1 := Lib.hid hP1
  have HP2 := Lib.hid hP2
  have HK := Lib.hid hkey
  have HZ := Lib.hid hZ
  have HG := Lib.hid (And.intro hZl (And.intro hmg hgood))
  clear hax hlx hmx hP1 hP2 hkey hgood hmg hZ hZl
  have hne64 : ((n : Int) == 64) = false := by simp; omega
  have hMr : IntKind.i64.wrap (b * P2) = M := by rw [hM]; exact IntWalk.i64_in _ (by omega)
  have hMw : wrap64 (b * P2) = M := by rw [hM]; exact IntWalk.wrap64_in _ (by omega)
  go_enter Try.func4, Try.ntmps4
  go_wp2_with fail
  refine (crcFact_any _).mono ?_
  rintro e w1 ⟨rfl, hB1⟩
  go_wp2_with fail
  refine (sum_ok _ _ _ xs _ (hA.below hB1) (by omega) HAX.out).mono ?_
  rintro e w2 ⟨rfl, rfl⟩
  rw [HX.out]
  clear hX
  have hRd := hA.below hB1
  go_wp2_with fail
  refine (in_yes _ _ _ _ hb0 hb).mono ?_
  rintro e w' ⟨rfl, rfl⟩
  go_wp2_with fail
  refine (in_yes _ _ _ _ hs0 hs).mono ?_
  rintro e w' ⟨rfl, rfl⟩
  go_wp2_with fail
  refine (in_yes _ _ _ _ (by omega) (by omega)).mono ?_
  rintro e w' ⟨rfl, rfl⟩
  have tok1 : True := trivial
  go_wp2_with (first
    | (at_builtin; have _t := tok1; refine wpList_appL rfl _ _ rfl w.heap.size 0 _ [] rfl (Own.nil _ _) A n c xs rfl hRd (by omega) hB1.size ?_; intro A' c1 w3 hown3 hbel3; clear tok1; have hq3 := hbel3 w.heap.size w (Nat.le_refl _) hB1; rw [Nat.zero_add] at hown3 ⊢; rw [List.nil_append] at hown3; clear hbel3 hRd)
    | (at_builtin; refine wpList_app1 rfl _ _ rfl w.heap.size n _ xs rfl (hown3.alloc _) w3.heap.size X rfl (by simp) (by omega) (by have := hq3.size; simp; omega) ?_; intro A2 c2 w4 hown4 hbel4))
  have hq4 := hbel4 w.heap.size w (Nat.le_refl _) (hq3.alloc hq3.size _)
  rw [HZ.out] at hown4
  obtain ⟨g, rfl, hg0, hg1, hcell, hfr⟩ := hown4.at_ (by omega)
  clear hbel4 hown3
  have c1 := hcell k (by omega)
  have f1 := hfr k
  have hzk := getD_byt HG.out.2.1 k
  obtain ⟨z, hz⟩ : ∃ z, Z[k]?.getD 0 = z := ⟨_, rfl⟩
  rw [hz] at c1 hzk
  obtain ⟨hz0, hz1⟩ := hzk
  have HZk := Lib.hid hz
  clear hz
  have hk' : (k : Int) < ((n + 1 : Nat) : Int) := by omega
  go_wp2_with fail
  with_reducible refine (power_any s _ hs0 (by omega)).mono ?_
  rintro e w' ⟨rfl, rfl⟩
  rw [HP1.out]
  go_wp2_with fail
  with_reducible refine (power_any (8 - s) _ (by omega) (by omega)).mono ?_
  rintro e w' ⟨rfl, rfl⟩
  rw [HP2.out]
  go_wp2_with fail
  with_reducible refine (in_yes _ _ _ _ hx0 hx1).mono ?_
  rintro e w' ⟨rfl, rfl⟩
  go_wp2_with fail
  with_reducible refine (xor_any z D _ hz0 (by omega) hD0 (by omega)).mono ?_
  rintro e w' ⟨rfl, rfl⟩
  by_cases hkn : k < n
  · have c2 := hcell (k + 1) (by omega)
    have f2 := hfr (k + 1)
    have hzk2 := getD_byt HG.out.2.1 (k + 1)
    obtain ⟨z2, hz2⟩ : ∃ z2, Z[k + 1]?.getD 0 = z2 := ⟨_, rfl⟩
    rw [hz2] at c2 hzk2
    obtain ⟨hz20, hz21⟩ := hzk2
    have HZk2 := Lib.hid hz2
    clear hz2
    have hk1 : (k : Int) + 1 < ((n + 1 : Nat) : Int) := by omega
    have hR0 : 0 ≤ M % 256 := by omega
    have hR1 : M % 256 ≤ 255 := by omega
    clear hcell hfr
    go_wp2_with fail
    with_reducible refine (xor_any z2 (M % 256) _ hz20 (by omega) hR0 (by omega)).mono ?_
    rintro e w' ⟨rfl, rfl⟩
    go_wp2_with fail
    have hx1' := xorI_255 hz1 hD1
    have hx2' := xorI_255 hz21 hR1
    have hx0' := xorI_nonneg z D
    have hx0'' := xorI_nonneg z2 (M % 256)
    have hown5 := (hown4.set k (xorI z D)).set (k + 1) (xorI z2 (M % 256))
    have hm5 := mem_set (mem_set HG.out.2.1 (k := k) hx0' hx1') (k := k + 1) hx0'' hx2'
    have hRd5 := hown5.rd (by omega) (fun x hx => by have := hm5 x hx; omega)
    have hseen := burst_two HG.out.2.1 HG.out.2.2 (k := k) (by have := HG.out.1; omega) hD0 hD1 hR0 hR1 HK.out
    rw [HZk.out, HZk2.out] at hseen
    have hall5 := allB_mem.2 hm5
    have hfalse : (crcI ((Z.set k (xorI z D)).set (k + 1) (xorI z2 (M % 256))) == 0) = false := by simpa using hseen
    have HA5 := Lib.hid hall5
    have HF5 := Lib.hid hfalse
    clear hall5 hfalse hseen hm5
    have hq5 := (hq4.setCell (p := ⟨g, k, none⟩) hg0 (.int .i64 (xorI z D))).setCell (p := ⟨g, k + 1, none⟩) hg0 (.int .i64 (xorI z2 (M % 256)))
    with_reducible refine (good_ok _ _ _ _ _ hRd5 (by omega) (by omega) HA5.out).mono ?_
    rintro e w' ⟨rfl, rfl⟩
    rw [HF5.out]
    go_wp2
    go_ret
    exact ⟨rfl, hq5⟩
  · obtain rfl : k = n := by omega
    have hlast : decide ((k : Int) + 1 < ((k + 1 : Nat) : Int)) = false := by simp
    have hx1' := xorI_255 hz1 hD1
    have hx0' := xorI_nonneg z D
    clear hcell hfr
    by_cases hDz : D = 0
    · have hbD : (D == 0) = true := by simp [hDz]
      have HDz := Lib.hid hDz
      clear hDz
      have hq5 := hq4.setCell (p := ⟨g, k, none⟩) hg0 (.int .i64 (xorI z D))
      go_wp2
      go_ret
      exact ⟨rfl, hq5⟩
    · have hbD : (D == 0) = false := by simp [hDz]
      have hown5 := hown4.set k (xorI z D)
      have hm5 := mem_set HG.out.2.1 (k := k) hx0' hx1'
      have hRd5 := hown5.rd (by omega) (fun x hx => by have := hm5 x hx; omega)
      have hseen := burst_one HG.out.2.1 HG.out.2.2 (k := k) (by have := HG.out.1; omega) (by omega) hD1
      rw [HZk.out] at hseen
      have hall5 := allB_mem.2 hm5
      have hfalse : (crcI (Z.set k (xorI z D)) == 0) = false := by simpa using hseen
      have HA5 := Lib.hid hall5
      have HF5 := Lib.hid hfalse
      clear hall5 hfalse hseen hm5 hDz
      have hq5 := hq4.setCell (p := ⟨g, k, none⟩) hg0 (.int .i64 (xorI z D))
      go_wp2_with fail
      with_reducible refine (good_ok _ _ _ _ _ hRd5 (by omega) (by omega) HA5.out).mono ?_
      rintro e w' ⟨rfl, rfl⟩
      rw [HF5.out]
      go_wp2
      go_ret
      exact ⟨rfl, hq5⟩

set_option maxHeartbeats 1000000 in
theorem walk (w : World) (A : Option Addr) (n c : Nat) (xs : List Int) (hA : Rd w A n xs) (hc : n ≤ c) (at_ : Int) (hat : -9223372036854775808 ≤ at_ ∧ at_ ≤ 9223372036854775807)
    (b : Int) (hbr : -9223372036854775808 ≤ b ∧ b ≤ 9223372036854775807) (s : Int) (hsr : -9223372036854775808 ≤ s ∧ s ≤ 9223372036854775807) :
    Calls Try.prog 4 #[.slice A n c, .int .i64 at_, .int .i64 b, .int .i64 s] w fun e w' => e = .returned (.bool true) ∧ Below w.heap.size w w' := by
  by_cases hx : bytesE xs 64 = 0
  · obtain ⟨hx1, hx2⟩ := bytesE_zero.1 hx
    rw [hA.len] at hx1
    clear hx
    by_cases h64 : n = 64
    · subst h64
      go_enter Try.func4, Try.ntmps4
      go_wp2_with fail
      refine (crcFact_any _).mono ?_
      rintro e w1 ⟨rfl, hB1⟩
      go_wp2_with fail
      refine (sum_ok _ _ _ xs _ (hA.below hB1) (by omega) hx2).mono ?_
      rintro e w2 ⟨rfl, rfl⟩
      clear hx2
      go_wp2
      go_ret
      exact ⟨rfl, hB1⟩
    · have hne64 : ((n : Int) == 64) = false := by simp; omega
      by_cases hb : 1 ≤ b ∧ b ≤ 255
      · by_cases hs : 0 ≤ s ∧ s ≤ 7
        · by_cases ha : 0 ≤ at_ ∧ at_ ≤ (n : Int)
          · obtain ⟨k, rfl⟩ := Int.eq_ofNat_of_zero_le ha.1
            exact walk_ok w A n c xs hA k b s (by omega) hx2 (by omega) hb.1 hb.2 hs.1 hs.2
          · go_enter Try.func4, Try.ntmps4
            go_wp2_with fail
            refine (crcFact_any _).mono ?_
            rintro e w1 ⟨rfl, hB1⟩
            go_wp2_with fail
            refine (sum_ok _ _ _ xs _ (hA.below hB1) (by omega) hx2).mono ?_
            rintro e w2 ⟨rfl, rfl⟩
            clear hx2
            go_wp2_with fail
            refine (in_yes _ _ _ _ hb.1 hb.2).mono ?_
            rintro e w' ⟨rfl, rfl⟩
            go_wp2_with fail
            refine (in_yes _ _ _ _ hs.1 hs.2).mono ?_
            rintro e w' ⟨rfl, rfl⟩
            go_wp2_with fail
            refine (in_no _ _ _ _ (by omega)).mono ?_
            rintro e w' ⟨rfl, rfl⟩
            go_wp2
            go_ret
            exact ⟨rfl, hB1⟩
        · go_enter Try.func4, Try.ntmps4
          go_wp2_with fail
          refine (crcFact_any _).mono ?_
          rintro e w1 ⟨rfl, hB1⟩
          go_wp2_with fail
          refine (sum_ok _ _ _ xs _ (hA.below hB1) (by omega) hx2).mono ?_
          rintro e w2 ⟨rfl, rfl⟩
          clear hx2
          go_wp2_with fail
          refine (in_yes _ _ _ _ hb.1 hb.2).mono ?_
          rintro e w' ⟨rfl, rfl⟩
          go_wp2_with fail
          refine (in_no _ _ _ _ (by omega)).mono ?_
          rintro e w' ⟨rfl, rfl⟩
          go_wp2
          go_ret
          exact ⟨rfl, hB1⟩
      · go_enter Try.func4, Try.ntmps4
        go_wp2_with fail
        refine (crcFact_any _).mono ?_
        rintro e w1 ⟨rfl, hB1⟩
        go_wp2_with fail
        refine (sum_ok _ _ _ xs _ (hA.below hB1) (by omega) hx2).mono ?_
        rintro e w2 ⟨rfl, rfl⟩
        clear hx2
        go_wp2_with fail
        refine (in_no _ _ _ _ (by omega)).mono ?_
        rintro e w' ⟨rfl, rfl⟩
        go_wp2
        go_ret
        exact ⟨rfl, hB1⟩
  · go_enter Try.func4, Try.ntmps4
    go_wp2_with fail
    refine (crcFact_any _).mono ?_
    rintro e w1 ⟨rfl, hB1⟩
    go_wp2_with fail
    refine (sum_bad _ _ _ xs _ (hA.below hB1) hx).mono ?_
    rintro e w2 ⟨rfl, rfl⟩
    clear hx
    go_wp2
    go_ret
    exact ⟨rfl, hB1⟩

set_option maxRecDepth 100000 in
theorem lifted (os : Os) (started : os.Started) (H : Type) (enc : TypeId × Value → H) :
    ReturnsInHanded {} Try.checked os 4 .any (Rows.crcBurstSpec.pre6 enc Try.prog Try.f4 Rows.crcBurstRow.domain false) (Rows.crcBurstSpec.post enc Try.prog Try.f4 false true false false) := by
  refine returnsInHanded_of_change (C := Try.checked) own started (by kernel_rfl) Try.func4
    (ChangeSpec.witness6 (enc := enc) (C := Try.checked) false ⟨#[], #[.slice none 0 0, .int .i64 0, .int .i64 0, .int .i64 0], []⟩ 8 (by kernel_rfl) (by kernel_rfl) (by kernel_rfl) (by kernel_rfl)) ?_
  intro W base args ds gs before hval0 hW hcnd _
  have hval : ∀ (j : Nat) t v, Try.f4.params[j]? = some t → args[j]? = some v → Value.okWide Try.prog W .any base t v := hval0
  have hW' := hW
  obtain ⟨p, q, hA0, hV, rfl, hfz, hnd⟩ := hW
  have hA : DataW.TrodAll enc Try.prog W 0 (fun _ => true) true Try.f4.params.toList args.toList ds p := hA0
  rw [Try.params4] at hA hval
  obtain ⟨v0, vs0, d0, ds0, p0, q0, hargs, rfl, rfl, h0, r0⟩ := trodAll_cons hA
  obtain ⟨v1, vs1, d1, ds1, p1, q1, rfl, rfl, rfl, h1, r1⟩ := trodAll_cons r0
  obtain ⟨v2, vs2, d2, ds2, p2, q2, rfl, rfl, rfl, h2, r2⟩ := trodAll_cons r1
  obtain ⟨v3, vs3, d3, ds3, p3, q3, rfl, rfl, rfl, h3, r3⟩ := trodAll_cons r2
  obtain ⟨rfl, rfl, rfl⟩ := trodAll_nil r3
  obtain rfl : args = #[v0, v1, v2, v3] := by cases args; simp_all
  obtain ⟨rfl, rfl⟩ := trodVars_none hV
  have k0 := h0
  have lt0 : ∀ x ∈ p0, x.block < W.heap.size := by obtain ⟨m, hm⟩ := k0; exact DataW.trod_lt m _ _ _ hm
  obtain ⟨A0, n0, c0, rfl⟩ := okWide_slice Try.underlying22 (hval 0 22 v0 rfl rfl)
  obtain ⟨xs0, w0, hc0⟩ : ∃ xs, Rd W A0 n0 xs ∧ n0 ≤ c0 := by
    obtain ⟨fuel, hf⟩ := h0
    rcases open_ints Try.underlying22 Try.underlying3 (by kernel_rfl) hf with ⟨hcs, _⟩ | ⟨x, l, c, zs, hcs, _, hl, hm, hz, _, hcell, hwz⟩
    · simp [Value.cells] at hcs
      obtain ⟨rfl, rfl, rfl⟩ := hcs
      exact ⟨[], Rd.nil _ _, Nat.le_refl _⟩
    · simp [Value.cells] at hcs
      obtain ⟨rfl, rfl, rfl⟩ := hcs
      exact ⟨_, rd_of_cells (by simp at hz; omega) hl hm hcell hwz, hl⟩
  have k1 := h1
  have lt1 : ∀ x ∈ p1, x.block < W.heap.size := by obtain ⟨m, hm⟩ := k1; exact DataW.trod_lt m _ _ _ hm
  obtain ⟨a1, rfl, rfl, rfl, w1⟩ := open_int Try.underlying3 (hval 1 3 v1 rfl rfl) h1
  have k2 := h2
  have lt2 : ∀ x ∈ p2, x.block < W.heap.size := by obtain ⟨m, hm⟩ := k2; exact DataW.trod_lt m _ _ _ hm
  obtain ⟨a2, rfl, rfl, rfl, w2⟩ := open_int Try.underlying3 (hval 2 3 v2 rfl rfl) h2
  have k3 := h3
  have lt3 : ∀ x ∈ p3, x.block < W.heap.size := by obtain ⟨m, hm⟩ := k3; exact DataW.trod_lt m _ _ _ hm
  obtain ⟨a3, rfl, rfl, rfl, w3⟩ := open_int Try.underlying3 (hval 3 3 v3 rfl rfl) h3
  clear hA0 hval0
  refine (walk W A0 n0 c0 xs0 w0 hc0 a1 (wf_range w1) a2 (wf_range w2) a3 (wf_range w3)).mono fun e W' ⟨he, bel⟩ => ?_
  subst he
  exact ⟨_, rfl, _, _, _, [], _, [], hW', trodAll_mk1 (shut_bool Try.underlying4 _), (trodAll_cons_mk (Below.trod laidOut (by kernel_rfl) (of_decide_eq_true (by kernel_rfl)) k0 bel lt0) (trodAll_cons_mk (Below.trod laidOut (by kernel_rfl) (of_decide_eq_true (by kernel_rfl)) k1 bel lt1) (trodAll_cons_mk (Below.trod laidOut (by kernel_rfl) (of_decide_eq_true (by kernel_rfl)) k2 bel lt2) (trodAll_cons_mk (Below.trod laidOut (by kernel_rfl) (of_decide_eq_true (by kernel_rfl)) k3 bel lt3) trodAll_mk0)))), rfl, bel.frame _, fun h => by cases h⟩

theorem over : Rows.crcBurstRow.holds Try.pinned (OpenSpec.ofChange Rows.crcBurstSpec) :=
  OpenClaim.holds_of_wide 4 Try.f4 rfl rfl rfl rfl rfl rfl rfl ⟨rfl, rfl, rfl, rfl, rfl⟩ rfl rfl rfl rfl rfl (by kernel_rfl) Try.func4 (by kernel_rfl)
    (of_decide_eq_true (by kernel_rfl)) (by unfold Func.isWrapper; first | (rw [if_pos (by decide +kernel)]; kernel_rfl) | (rw [if_neg (by decide +kernel)]; exact ⟨rfl, rfl⟩))
    (fun os started H enc _ => lifted os started H enc)

theorem proved : Rows.CrcBurstSaid := over
#print axioms proved
end Go.Proofs.Ytfkbbmomanaabaa.crcBurst
