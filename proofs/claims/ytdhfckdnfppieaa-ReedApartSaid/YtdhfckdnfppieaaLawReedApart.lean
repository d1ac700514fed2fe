/- Two that are others differ in more shards than there are beside the data: ReedApart answers true at every two slices of ints and every int. Conditions: none beside the row's own. -/
import Derived.Test.YtdhfckdnfppieaaReedF
import Derived.Test.YtdhfckdnfppieaaReedD
import Derived.Test.YtdhfckdnfppieaaIn
import Derived.Test.YtdhfckdnfppieaaXor
import Derived.Test.YtdhfckdnfppieaaOpen
import Derived.Deep.RegionHeld3
import Derived.Deep.QuietTactic
import Derived.BigQuiet
namespace Go.Proofs.Ytdhfckdnfppieaa.reedApart
open Go Go.ChangeShapes Go.WideShapes Go.ChangeAt Go.RowKit
set_option linter.unusedVariables false
set_option maxRecDepth 20000

set_option maxHeartbeats 8000000 in
theorem walk_ok (w : World) (A : Option Addr) (n c : Nat) (xs : List Int) (hA : Sl w A n c xs) (B : Option Addr) (d : Nat) (ys : List Int) (hB : Sl w B n d ys) (p : Nat) (he1 : makeE xs p = 0) (he2 : makeE ys p = 0) :
    Calls Try.prog 7 #[.slice A n c, .slice B n d, .int .i64 p] w fun e w' => e = .returned (.bool true) ∧ Below w.heap.size w w' := by
  have hlx := hA.1.len
  have hly := hB.1.len
  obtain ⟨a1, a2, a3, a4, a5⟩ := makeE_zero he1
  obtain ⟨b1, b2, b3, b4, b5⟩ := makeE_zero he2
  have hx := allB_mem.1 a3
  have hy := allB_mem.1 b3
  have hlen : xs.length = ys.length := by rw [hlx, hly]
  have hn8 : n ≤ 8 := by omega
  have hp4 : p ≤ 4 := by omega
  have hap : (decide (xs = ys) = true ∧ diffN (shards xs p) (shards ys p) (n + p) = 0) ∨ (decide (xs = ys) = false ∧ p < diffN (shards xs p) (shards ys p) (n + p)) := by
    by_cases e : xs = ys
    · subst e; exact .inl ⟨by simp, diff_self _ _⟩
    · refine .inr ⟨by simpa using e, ?_⟩
      apply Classical.byContradiction
      intro h
      exact e (apart_all (p := p) hlen hx hy (by omega) (by rw [hlx]; omega))
  have HAP := Lib.hid hap
  have HE1 := Lib.hid he1
  have HE2 := Lib.hid he2
  have HX := Lib.hid (And.intro hlx (And.intro hly (And.intro hx hy)))
  have HA0 := Lib.hid hA
  have HB0 := Lib.hid hB
  have hRA := hA.1
  have hRB := hB.1
  have hne : ((n : Int) != (n : Int)) = false := by simp
  have hnp : (((n + p : Nat) : Int) != ((n + p : Nat) : Int)) = false := by simp
  have hnp2 : ((n : Int) + (p : Int) != (n : Int) + (p : Int)) = false := by simp
  clear he1 he2 hA hB hlx hly a1 a2 a3 a4 a5 b1 b2 b3 b4 b5 hx hy hlen hap
  go_enter Try.func7, Try.ntmps7
  go_wp2_with fail
  with_reducible refine (reedFact_any _).mono ?_
  rintro e w1 ⟨rfl, hB⟩
  go_wp2_with fail
  with_reducible refine (make_ok A n c xs p _ (HA0.out.below hB) HE1.out).mono ?_
  rintro e w1x ⟨⟨C1, c1, rfl, hown1⟩, k1⟩
  have hB := hB.trans (k1.mono hB.size)
  go_wp2_with fail
  with_reducible refine (make_ok B n d ys p _ (HB0.out.below hB) HE2.out).mono ?_
  rintro e w2x ⟨⟨C2, c2, rfl, hown2⟩, k2⟩
  have hB := hB.trans (k2.mono hB.size)
  have hs1 := shards_bytes HX.out.2.2.1 p
  have hs2 := shards_bytes HX.out.2.2.2 p
  have hR1 : Rd w2x C1 (n + p) (shards xs p) := (hown1.below k2).rd (by omega) (fun x hx => by have := hs1 x hx; omega)
  have hR2 : Rd w2x C2 (n + p) (shards ys p) := hown2.rd (by omega) (fun x hx => by have := hs2 x hx; omega)
  have hRA2 := hRA.below hB
  have hRB2 := hRB.below hB
  clear k1 k2 hs1 hs2 hown1 hown2
  go_wp2
  go_loopw [12, 13] (fun v i wr => ∃ k : Nat, k ≤ n + p ∧ i = .int .i64 k ∧ v = .int .i64 ((diffN (shards xs p) (shards ys p) k : Nat) : Int) ∧ ∃ q, wr = w2x.drewN q) (fun _ i _ => (n + p) - (intOf i).toNat)
  case atStart => exact ⟨0, Nat.zero_le _, rfl, rfl, 0, rfl⟩
  case round =>
    obtain ⟨k, hk, rfl, rfl, q, rfl⟩ := hrel
    have hdl := diff_le (shards xs p) (shards ys p) k
    by_cases hlt : k < n + p
    · obtain ⟨b1, o1, rfl, hbl1, hc1⟩ := hR1.at_ (by omega)
      obtain ⟨b2, o2, rfl, hbl2, hc2⟩ := hR2.at_ (by omega)
      have g1 := hc1 k hlt
      have g2 := hc2 k hlt
      have hds : diffN (shards xs p) (shards ys p) (k + 1) = diffN (shards xs p) (shards ys p) k + if (shards xs p)[k]?.getD 0 = (shards ys p)[k]?.getD 0 then 0 else 1 := rfl
      obtain ⟨x, hx⟩ : ∃ x, (shards xs p)[k]?.getD 0 = x := ⟨_, rfl⟩
      obtain ⟨y, hy⟩ : ∃ y, (shards ys p)[k]?.getD 0 = y := ⟨_, rfl⟩
      obtain ⟨D, hD⟩ : ∃ D, diffN (shards xs p) (shards ys p) k = D := ⟨_, rfl⟩
      rw [hx, hy, hD] at hds
      rw [hx] at g1
      rw [hy] at g2
      rw [hD] at hdl ⊢
      have HDS := Lib.hid hds
      have hkI : (k : Int) < (n : Int) + (p : Int) := by omega
      clear hc1 hc2 hx hy hD hds
      by_cases hxy : x = y
      · have hb : (x != y) = false := by simp [hxy]
        have HXY := Lib.hid hxy
        clear hxy
        go_wp2
        go_quiet (fail)
        go_wp2
        go_roundw
        case rel => exact ⟨k + 1, by omega, by go_num, by rw [HDS.out, if_pos HXY.out]; go_num, _, rfl⟩
        case measure => simp [intOf]; omega
      · have hb : (x != y) = true := by simp [hxy]
        have HXY := Lib.hid hxy
        clear hxy
        go_wp2
        go_quiet (fail)
        go_wp2
        go_roundw
        case rel => exact ⟨k + 1, by omega, by go_num, by rw [HDS.out, if_neg HXY.out]; go_num, _, rfl⟩
        case measure => simp [intOf]; omega
    · obtain rfl : k = n + p := by omega
      have hkI : ¬ ((n + p : Nat) : Int) < (n : Int) + (p : Int) := by omega
      have hap := HAP.out
      obtain ⟨D, hD⟩ : ∃ D, diffN (shards xs p) (shards ys p) (n + p) = D := ⟨_, rfl⟩
      rw [hD] at hap ⊢
      clear hD hdl HAP
      rcases hap with ⟨hq, rfl⟩ | ⟨hq, hD⟩
      · have HQ := Lib.hid hq
        clear hq
        go_wp2_with fail
        with_reducible refine (ints_any A B n n c d xs ys _ (hRA2.drewN _) (hRB2.drewN _)).mono ?_
        rintro e w' ⟨rfl, q2, rfl⟩
        rw [HQ.out]
        go_wp2
        go_ret
        exact ⟨rfl, below_drewN_of hB _⟩
      · have HQ := Lib.hid hq
        have hDI : (p : Int) < (D : Int) := by omega
        clear hq
        go_wp2_with fail
        with_reducible refine (ints_any A B n n c d xs ys _ (hRA2.drewN _) (hRB2.drewN _)).mono ?_
        rintro e w' ⟨rfl, q2, rfl⟩
        rw [HQ.out]
        go_wp2
        go_ret
        exact ⟨rfl, below_drewN_of hB _⟩

set_option maxHeartbeats 4000000 in
theorem walk (w : World) (A : Option Addr) (n c : Nat) (xs : List Int) (hA : Sl w A n c xs) (B : Option Addr) (m d : Nat) (ys : List Int) (hB : Sl w B m d ys) (more : Int) (hmore : -9223372036854775808 ≤ more ∧ more ≤ 9223372036854775807) :
    Calls Try.prog 7 #[.slice A n c, .slice B m d, .int .i64 more] w fun e w' => e = .returned (.bool true) ∧ Below w.heap.size w w' := by
  have HA0 := Lib.hid hA
  have HB0 := Lib.hid hB
  by_cases he1 : makeE xs more = 0
  · obtain ⟨_, _, _, hm0, hm4⟩ := makeE_zero he1
    obtain ⟨p, rfl⟩ := Int.eq_ofNat_of_zero_le hm0
    have HE1 := Lib.hid he1
    by_cases he2 : makeE ys p = 0
    · have HE2 := Lib.hid he2
      by_cases hnm : n = m
      · subst hnm
        exact walk_ok w A n c xs hA B d ys hB p he1 he2
      · have hne : ((n : Int) != (m : Int)) = true := by simp; omega
        clear he1 he2 hA hB
        go_enter Try.func7, Try.ntmps7
        go_wp2_with fail
        with_reducible refine (reedFact_any _).mono ?_
        rintro e w2 ⟨rfl, hB⟩
        go_wp2_with fail
        with_reducible refine (make_ok A n c xs p _ (HA0.out.below hB) HE1.out).mono ?_
        rintro e w1x ⟨⟨C1, c1, rfl, hown1⟩, k1⟩
        have hB := hB.trans (k1.mono hB.size)
        go_wp2_with fail
        with_reducible refine (make_ok B m d ys p _ (HB0.out.below hB) HE2.out).mono ?_
        rintro e w2x ⟨⟨C2, c2, rfl, hown2⟩, k2⟩
        have hB := hB.trans (k2.mono hB.size)
        go_wp2
        go_ret
        exact ⟨rfl, hB⟩
    · have HE2 := Lib.hid he2
      clear he1 he2 hA hB
      go_enter Try.func7, Try.ntmps7
      go_wp2_with fail
      with_reducible refine (reedFact_any _).mono ?_
      rintro e w3 ⟨rfl, hB⟩
      go_wp2_with fail
      with_reducible refine (make_ok A n c xs p _ (HA0.out.below hB) HE1.out).mono ?_
      rintro e w1x ⟨⟨C1, c1, rfl, hown1⟩, k1⟩
      have hB := hB.trans (k1.mono hB.size)
      go_wp2_with fail
      have hRb2 := (HB0.out.below hB).1
      with_reducible refine (make_bad B m d ys _ _ hRb2 HE2.out).mono ?_
      rintro e w' ⟨rfl, rfl⟩
      go_wp2
      go_ret
      exact ⟨rfl, hB⟩
  · have HE1 := Lib.hid he1
    by_cases he2 : makeE ys more = 0
    · obtain ⟨_, _, _, hm0, hm4⟩ := makeE_zero he2
      obtain ⟨p, rfl⟩ := Int.eq_ofNat_of_zero_le hm0
      have HE2 := Lib.hid he2
      clear he1 he2 hA hB
      go_enter Try.func7, Try.ntmps7
      go_wp2_with fail
      with_reducible refine (reedFact_any _).mono ?_
      rintro e w4 ⟨rfl, hB⟩
      go_wp2_with fail
      have hRb1 := (HA0.out.below hB).1
      with_reducible refine (make_bad A n c xs _ _ hRb1 HE1.out).mono ?_
      rintro e w' ⟨rfl, rfl⟩
      go_wp2_with fail
      with_reducible refine (make_ok B m d ys p _ (HB0.out.below hB) HE2.out).mono ?_
      rintro e w2x ⟨⟨C2, c2, rfl, hown2⟩, k2⟩
      have hB := hB.trans (k2.mono hB.size)
      go_wp2
      go_ret
      exact ⟨rfl, hB⟩
    · have HE2 := Lib.hid he2
      clear he1 he2 hA hB
      go_enter Try.func7, Try.ntmps7
      go_wp2_with fail
      with_reducible refine (reedFact_any _).mono ?_
      rintro e w5 ⟨rfl, hB⟩
      go_wp2_with fail
      have hRb1 := (HA0.out.below hB).1
      with_reducible refine (make_bad A n c xs _ _ hRb1 HE1.out).mono ?_
      rintro e w' ⟨rfl, rfl⟩
      go_wp2_with fail
      have hRb2 := (HB0.out.below hB).1
      with_reducible refine (make_bad B m d ys _ _ hRb2 HE2.out).mono ?_
      rintro e w' ⟨rfl, rfl⟩
      go_wp2
      go_ret
      exact ⟨rfl, hB⟩

set_option maxRecDepth 100000 in
theorem lifted (os : Os) (started : os.Started) (H : Type) (enc : TypeId × Value → H) :
    ReturnsInHanded {} Try.checked os 7 .any (Rows.reedApartSpec.pre6 enc Try.prog Try.f7 Rows.reedApartRow.domain false) (Rows.reedApartSpec.post enc Try.prog Try.f7 false true false false) := by
  refine returnsInHanded_of_change (C := Try.checked) own started (by kernel_rfl) Try.func7
    (ChangeSpec.witness6 (enc := enc) (C := Try.checked) false ⟨#[], #[.slice none 0 0, .slice none 0 0, .int .i64 0], []⟩ 8 (by kernel_rfl) (by kernel_rfl) (by kernel_rfl) (by kernel_rfl)) ?_
  intro W base args ds gs before hval0 hW hcnd _
  have hval : ∀ (j : Nat) t v, Try.f7.params[j]? = some t → args[j]? = some v → Value.okWide Try.prog W .any base t v := hval0
  have hW' := hW
  obtain ⟨p, q, hA0, hV, rfl, hfz, hnd⟩ := hW
  have hA : DataW.TrodAll enc Try.prog W 0 (fun _ => true) true Try.f7.params.toList args.toList ds p := hA0
  rw [Try.params7] at hA hval
  obtain ⟨v0, vs0, d0, ds0, p0, q0, hargs, rfl, rfl, h0, r0⟩ := trodAll_cons hA
  obtain ⟨v1, vs1, d1, ds1, p1, q1, rfl, rfl, rfl, h1, r1⟩ := trodAll_cons r0
  obtain ⟨v2, vs2, d2, ds2, p2, q2, rfl, rfl, rfl, h2, r2⟩ := trodAll_cons r1
  obtain ⟨rfl, rfl, rfl⟩ := trodAll_nil r2
  obtain rfl : args = #[v0, v1, v2] := by cases args; simp_all
  obtain ⟨rfl, rfl⟩ := trodVars_none hV
  have k0 := h0
  have lt0 : ∀ x ∈ p0, x.block < W.heap.size := by obtain ⟨m, hm⟩ := k0; exact DataW.trod_lt m _ _ _ hm
  obtain ⟨A0, n0, c0, rfl⟩ := okWide_slice Try.underlying29 (hval 0 29 v0 rfl rfl)
  obtain ⟨xs0, w0⟩ : ∃ xs, Sl W A0 n0 c0 xs := by
    obtain ⟨fuel, hf⟩ := h0
    rcases open_ints Try.underlying29 Try.underlying3 (by kernel_rfl) hf with ⟨hcs, _⟩ | ⟨x, l, c, zs, hcs, _, hl, hm, hz, _, hcell, hwz⟩
    · simp [Value.cells] at hcs
      obtain ⟨rfl, rfl, rfl⟩ := hcs
      exact ⟨[], Rd.nil _ _, Nat.le_refl _, fun _ => rfl⟩
    · simp [Value.cells] at hcs
      obtain ⟨rfl, rfl, rfl⟩ := hcs
      exact ⟨_, rd_of_cells (by simp at hz; omega) hl hm hcell hwz, hl, fun h => by cases h⟩
  have k1 := h1
  have lt1 : ∀ x ∈ p1, x.block < W.heap.size := by obtain ⟨m, hm⟩ := k1; exact DataW.trod_lt m _ _ _ hm
  obtain ⟨A1, n1, c1, rfl⟩ := okWide_slice Try.underlying29 (hval 1 29 v1 rfl rfl)
  obtain ⟨xs1, w1⟩ : ∃ xs, Sl W A1 n1 c1 xs := by
    obtain ⟨fuel, hf⟩ := h1
    rcases open_ints Try.underlying29 Try.underlying3 (by kernel_rfl) hf with ⟨hcs, _⟩ | ⟨x, l, c, zs, hcs, _, hl, hm, hz, _, hcell, hwz⟩
    · simp [Value.cells] at hcs
      obtain ⟨rfl, rfl, rfl⟩ := hcs
      exact ⟨[], Rd.nil _ _, Nat.le_refl _, fun _ => rfl⟩
    · simp [Value.cells] at hcs
      obtain ⟨rfl, rfl, rfl⟩ := hcs
      exact ⟨_, rd_of_cells (by simp at hz; omega) hl hm hcell hwz, hl, fun h => by cases h⟩
  have k2 := h2
  have lt2 : ∀ x ∈ p2, x.block < W.heap.size := by obtain ⟨m, hm⟩ := k2; exact DataW.trod_lt m _ _ _ hm
  obtain ⟨a2, rfl, rfl, rfl, w2⟩ := open_int Try.underlying3 (hval 2 3 v2 rfl rfl) h2
  clear hA0 hval0
  refine (walk W A0 n0 c0 xs0 w0 A1 n1 c1 xs1 w1 a2 (wf_range w2)).mono fun e W' ⟨he, bel⟩ => ?_
  subst he
  exact ⟨_, rfl, _, _, _, [], _, [], hW', trodAll_mk1 (shut_bool Try.underlying4 _), (trodAll_cons_mk (Below.trod laidOut (by kernel_rfl) (of_decide_eq_true (by kernel_rfl)) k0 bel lt0) (trodAll_cons_mk (Below.trod laidOut (by kernel_rfl) (of_decide_eq_true (by kernel_rfl)) k1 bel lt1) (trodAll_cons_mk (Below.trod laidOut (by kernel_rfl) (of_decide_eq_true (by kernel_rfl)) k2 bel lt2) trodAll_mk0))), rfl, bel.frame _, fun h => by cases h⟩

theorem over : Rows.reedApartRow.holds Try.pinned (OpenSpec.ofChange Rows.reedApartSpec) :=
  OpenClaim.holds_of_wide 7 Try.f7 rfl rfl rfl rfl rfl rfl rfl ⟨rfl, rfl, rfl, rfl, rfl⟩ rfl rfl rfl rfl rfl (by kernel_rfl) Try.func7 (by kernel_rfl)
    (of_decide_eq_true (by kernel_rfl)) (by unfold Func.isWrapper; first | (rw [if_pos (by decide +kernel)]; kernel_rfl) | (rw [if_neg (by decide +kernel)]; exact ⟨rfl, rfl⟩))
    (fun os started H enc _ => lifted os started H enc)

theorem proved : Rows.ReedApartSaid := over
#print axioms proved
end Go.Proofs.Ytdhfckdnfppieaa.reedApart
