/- One shard that is wrong is seen if there is one more than needed: ReedWrong answers true at every slice of ints and all ints; errors.errorType is tied to the program's text. Conditions: none beside the card's own. -/
import Derived.Test.YtdhfckdnfppieaaDoorReedF
import Derived.Test.YtdhfckdnfppieaaDoorReedD
import Derived.Test.YtdhfckdnfppieaaDoorIn
import Derived.Test.YtdhfckdnfppieaaDoorRSet
import Derived.Test.YtdhfckdnfppieaaDoorOpenD
namespace Go.Proofs.YtdhfckdnfppieaaDoor.reedWrong
open Go Go.ChangeShapes Go.WideShapes Go.ChangeAt Go.RowKit
set_option linter.unusedVariables false
set_option maxRecDepth 20000

theorem wrong_post {xs : List Int} {p k B : Nat} {y : Int} {e : Ending} {w' : World} (hx : ∀ x ∈ xs, 0 ≤ x ∧ x ≤ 255) (h256 : xs.length + p ≤ 256) (hp : 1 ≤ p) (hk : k < xs.length + p) (hy : 0 ≤ y ∧ y ≤ 255) (hne : (shards xs p)[k]?.getD 0 ≠ y)
    (h : AgPost ((shards xs p).set k y) xs.length (xs.length + p) B e w') : e = .returned (.tuple #[.slice none 0 0, .iface 53 (.int .i64 6)]) := by
  obtain ⟨hg, i, hi, hb⟩ := wrong_bad hx h256 hp hk hy hne
  rcases h with ⟨h1, _⟩ | ⟨_, _, h3⟩ | ⟨_, h3, _⟩
  · omega
  · exact h3
  · exact absurd hb (h3 i hi)

set_option maxHeartbeats 8000000 in
theorem walk_ok (w : World) (A : Option Addr) (n c : Nat) (xs : List Int) (hA : Sl w A n c xs) (p : Nat) (he : makeE xs p = 0) (k y : Int) (hkr : -9223372036854775808 ≤ k ∧ k ≤ 9223372036854775807) (hyr : -9223372036854775808 ≤ y ∧ y ≤ 9223372036854775807) (hE : ErrT w) :
    Calls Tryd.prog 6 #[.slice A n c, .int .i64 p, .int .i64 k, .int .i64 y] w fun e w' => e = .returned (.bool true) ∧ Below w.heap.size w w' := by
  have hlx := hA.1.len
  obtain ⟨a1, a2, a3, a4, a5⟩ := makeE_zero he
  have hx := allB_mem.1 a3
  have hn8 : n ≤ 8 := by omega
  have hn1 : 1 ≤ n := by omega
  have hp4 : p ≤ 4 := by omega
  have h256 : xs.length + p ≤ 256 := by omega
  have HE := Lib.hid he
  have HET := Lib.hid hE
  have HX := Lib.hid (And.intro hlx (And.intro hx h256))
  have HA0 := Lib.hid hA
  clear he hA hE hlx a1 a2 a3 a4 a5 hx h256
  by_cases hkin : 0 ≤ k ∧ k ≤ (n : Int) + (p : Int) - 1
  · obtain ⟨k0, k1⟩ := hkin
    by_cases hyin : 0 ≤ y ∧ y ≤ 255
    · obtain ⟨y0, y1⟩ := hyin
      obtain ⟨j, rfl⟩ := Int.eq_ofNat_of_zero_le k0
      have hj : j < n + p := by omega
      have hjI : (j : Int) < (n : Int) + (p : Int) := by omega
      have hbyt := shards_bytes HX.out.2.1 p
      have hwp := fun e w' B hp hne => wrong_post (k := j) (y := y) (e := e) (w' := w') (B := B) HX.out.2.1 HX.out.2.2 hp (by rw [HX.out.1]; exact hj) ⟨y0, y1⟩ hne
      rw [HX.out.1] at hwp
      have hget := get_sh HX.out.2.1 (p := p) j
      obtain ⟨x, hxe⟩ : ∃ x, (shards xs p)[j]?.getD 0 = x := ⟨_, rfl⟩
      rw [hxe] at hwp hget
      have HXE := Lib.hid hxe
      have HWP := Lib.hid hwp
      have HBY := Lib.hid hbyt
      clear hxe hwp hbyt
      by_cases hxy : x = y
      · have hb : (x == y) = true := by simp [hxy]
        have HXY := Lib.hid hxy
        clear hxy
        go_enter Tryd.func6, Tryd.ntmps6
        go_wp2_with fail
        with_reducible refine (reedFact_any _).mono ?_
        rintro e w1 ⟨rfl, hB⟩
        go_wp2_with fail
        with_reducible refine (make_ok A n c xs p _ (HA0.out.below hB) HE.out).mono ?_
        rintro e w1x ⟨⟨C1, c1, rfl, hown1⟩, q1⟩
        have hB := hB.trans (q1.mono hB.size)
        have hR1 : Rd w1x C1 (n + p) (shards xs p) := hown1.rd (by omega) (fun x hx => by have := HBY.out x hx; omega)
        obtain ⟨b, off, rfl, hbl, hcc⟩ := hR1.at_ (by omega)
        have g1 := hcc j hj
        rw [HXE.out] at g1
        clear hcc hown1 q1
        go_wp2_with fail
        with_reducible refine (in_yes _ _ _ _ k0 k1).mono ?_
        rintro e w' ⟨rfl, rfl⟩
        go_wp2_with fail
        with_reducible refine (in_yes _ _ _ _ y0 y1).mono ?_
        rintro e w' ⟨rfl, rfl⟩
        go_wp2
        go_ret
        exact ⟨rfl, hB⟩
      · have hb : (x == y) = false := by simp [hxy]
        have HXY := Lib.hid hxy
        clear hxy
        by_cases hp0 : p = 0
        · subst hp0
          have k1z : (j : Int) ≤ (n : Int) - 1 := by omega
          have hmk : ∀ wx, Sl wx A n c xs → Calls Tryd.prog 23 #[.slice A n c, .int .i64 0] wx fun e w' => (∃ C c', e = .returned (.tuple #[.slice C (n + 0) c', .nilIface]) ∧ Own w' wx.heap.size (.slice C (n + 0) c') (n + 0) (shards xs 0)) ∧ Below wx.heap.size wx w' := fun wx h => make_ok A n c xs 0 wx h HE.out
          have HMK := Lib.hid hmk
          clear hmk
          go_enter Tryd.func6, Tryd.ntmps6
          go_wp2_with fail
          with_reducible refine (reedFact_any _).mono ?_
          rintro e w2 ⟨rfl, hB⟩
          go_wp2_with fail
          with_reducible refine (HMK.out _ (HA0.out.below hB)).mono ?_
          rintro e w1x ⟨⟨C1, c1, rfl, hown1⟩, q1⟩
          have hB := hB.trans (q1.mono hB.size)
          have hR1 : Rd w1x C1 (n + 0) (shards xs 0) := hown1.rd (by omega) (fun x hx => by have := HBY.out x hx; omega)
          obtain ⟨b, off, rfl, hbl, hcc⟩ := hR1.at_ (by omega)
          have g1 := hcc j hj
          rw [HXE.out] at g1
          clear hcc hown1 q1
          go_wp2_with fail
          with_reducible refine (in_yes _ _ _ _ k0 k1z).mono ?_
          rintro e w' ⟨rfl, rfl⟩
          go_wp2_with fail
          with_reducible refine (in_yes _ _ _ _ y0 y1).mono ?_
          rintro e w' ⟨rfl, rfl⟩
          go_wp2
          go_ret
          exact ⟨rfl, hB⟩
        · have hp1 : ((p : Int) == 0) = false := by simp; omega
          have hpp : 1 ≤ p := by omega
          go_enter Tryd.func6, Tryd.ntmps6
          go_wp2_with fail
          with_reducible refine (reedFact_any _).mono ?_
          rintro e w3 ⟨rfl, hB⟩
          go_wp2_with fail
          with_reducible refine (make_ok A n c xs p _ (HA0.out.below hB) HE.out).mono ?_
          rintro e w1x ⟨⟨C1, c1, rfl, hown1⟩, q1⟩
          have hB := hB.trans (q1.mono hB.size)
          have hR1 : Rd w1x C1 (n + p) (shards xs p) := hown1.rd (by omega) (fun x hx => by have := HBY.out x hx; omega)
          obtain ⟨b, off, rfl, hbl, hcc⟩ := hR1.at_ (by omega)
          have g1 := hcc j hj
          rw [HXE.out] at g1
          clear hcc hown1 q1
          go_wp2_with fail
          with_reducible refine (in_yes _ _ _ _ k0 k1).mono ?_
          rintro e w' ⟨rfl, rfl⟩
          go_wp2_with fail
          with_reducible refine (in_yes _ _ _ _ y0 y1).mono ?_
          rintro e w' ⟨rfl, rfl⟩
          go_wp2_with fail
          with_reducible refine (rset_any _ (n + p) c1 (shards xs p) _ hR1 j hj (by omega) y).mono ?_
          rintro e w3 ⟨⟨C3, c3, rfl, hown3⟩, k3⟩
          have hby : ∀ z ∈ (shards xs p).set j y, 0 ≤ z ∧ z ≤ 255 := fun z hz => by
            rcases List.mem_or_eq_of_mem_set hz with h | h
            · exact HBY.out z h
            · subst h; exact ⟨y0, y1⟩
          have hR3 : Rd w3 C3 (n + p) ((shards xs p).set j y) := hown3.rd (by omega) (fun x hx => by have := hby x hx; omega)
          have hB3 := hB.trans (k3.mono hB.size)
          have hall : allB ((shards xs p).set j y) (-1) 255 = true := allB_mem.2 fun z hz => by have := hby z hz; omega
          have hag := rag_run C3 (n + p) c3 _ n w3 hR3 (by omega) hn1 hn8 hall (by omega) (by omega)
          have HAG := Lib.hid hag
          clear hby hown3 k3 hall hag
          go_wp2_with fail
          with_reducible refine HAG.out.mono ?_
          rintro e w4 ⟨hp, k4⟩
          obtain rfl := HWP.out _ _ _ hpp HXY.out hp
          have hB4 := hB3.trans (k4.mono hB3.size)
          clear hp k4
          go_wp2_with fail
          with_reducible refine (error_err 6 6 _ (HET.out.below hB4)).mono ?_
          rintro e w5 ⟨rfl, k5⟩
          go_wp2
          go_ret
          exact ⟨rfl, hB4.trans (k5.mono hB4.size)⟩
    · have hno : y < 0 ∨ 255 < y := by omega
      go_enter Tryd.func6, Tryd.ntmps6
      go_wp2_with fail
      with_reducible refine (reedFact_any _).mono ?_
      rintro e w4 ⟨rfl, hB⟩
      go_wp2_with fail
      with_reducible refine (make_ok A n c xs p _ (HA0.out.below hB) HE.out).mono ?_
      rintro e w1x ⟨⟨C1, c1, rfl, hown1⟩, q1⟩
      have hB := hB.trans (q1.mono hB.size)
      go_wp2_with fail
      with_reducible refine (in_yes _ _ _ _ k0 k1).mono ?_
      rintro e w' ⟨rfl, rfl⟩
      go_wp2_with fail
      with_reducible refine (in_no _ _ _ _ hno).mono ?_
      rintro e w' ⟨rfl, rfl⟩
      go_wp2
      go_ret
      exact ⟨rfl, hB⟩
  · have hno : k < 0 ∨ (n : Int) + (p : Int) - 1 < k := by omega
    go_enter Tryd.func6, Tryd.ntmps6
    go_wp2_with fail
    with_reducible refine (reedFact_any _).mono ?_
    rintro e w5 ⟨rfl, hB⟩
    go_wp2_with fail
    with_reducible refine (make_ok A n c xs p _ (HA0.out.below hB) HE.out).mono ?_
    rintro e w1x ⟨⟨C1, c1, rfl, hown1⟩, q1⟩
    have hB := hB.trans (q1.mono hB.size)
    go_wp2_with fail
    with_reducible refine (in_no _ _ _ _ hno).mono ?_
    rintro e w' ⟨rfl, rfl⟩
    go_wp2
    go_ret
    exact ⟨rfl, hB⟩

set_option maxHeartbeats 4000000 in
theorem walk (w : World) (A : Option Addr) (n c : Nat) (xs : List Int) (hA : Sl w A n c xs) (more : Int) (hmore : -9223372036854775808 ≤ more ∧ more ≤ 9223372036854775807) (k : Int) (hkr : -9223372036854775808 ≤ k ∧ k ≤ 9223372036854775807) (y : Int) (hyr : -9223372036854775808 ≤ y ∧ y ≤ 9223372036854775807) (hE : ErrT w) :
    Calls Tryd.prog 6 #[.slice A n c, .int .i64 more, .int .i64 k, .int .i64 y] w fun e w' => e = .returned (.bool true) ∧ Below w.heap.size w w' := by
  by_cases he : makeE xs more = 0
  · obtain ⟨_, _, _, hm0, hm4⟩ := makeE_zero he
    obtain ⟨p, rfl⟩ := Int.eq_ofNat_of_zero_le hm0
    exact walk_ok w A n c xs hA p he k y hkr hyr hE
  · have HE := Lib.hid he
    have HA0 := Lib.hid hA
    clear he hA hE
    go_enter Tryd.func6, Tryd.ntmps6
    go_wp2_with fail
    with_reducible refine (reedFact_any _).mono ?_
    rintro e w6 ⟨rfl, hB⟩
    go_wp2_with fail
    have hRb := (HA0.out.below hB).1
    with_reducible refine (make_bad A n c xs _ _ hRb HE.out).mono ?_
    rintro e w' ⟨rfl, rfl⟩
    go_wp2
    go_ret
    exact ⟨rfl, hB⟩

set_option maxRecDepth 100000 in
theorem lifted (os : Os) (started : os.Started) (H : Type) (enc : TypeId × Value → H) :
    ReturnsInHanded {} Tryd.checked os 6 .any (fun w args => (Rows.reedWrongSpec.pre enc Tryd.prog Tryd.f6 [] false w args ∧ laidMetH Tryd.prog Rows.reedWrongRow.laid w) ∧ sizedMet enc Tryd.prog Tryd.f6 (OpenSpec.ofChange Rows.reedWrongSpec) false w args)
      (Rows.reedWrongSpec.post enc Tryd.prog Tryd.f6 false true false false) := by
  refine returnsInHanded_of_change_and (C := Tryd.checked) (X := fun w _ => laidMetH Tryd.prog Rows.reedWrongRow.laid w) (fun _ _ _ hh h => h.of_heap hh) own started (by kernel_rfl) Tryd.func6
    (ChangeSpec.witness_at (enc := enc) (C := Tryd.checked) (os := os) (X := fun w _ => laidMetH Tryd.prog Rows.reedWrongRow.laid w) false (laidWorld os) #[.slice none 0 0, .int .i64 0, .int .i64 0, .int .i64 0] 8 rfl (by kernel_rfl) (by kernel_rfl) (by kernel_rfl) (by kernel_rfl) (by kernel_rfl) (laidWorld_met os _)) ?_
  intro W base args ds gs before hval0 hW _ _ hL _
  have hval : ∀ (j : Nat) t v, Tryd.f6.params[j]? = some t → args[j]? = some v → Value.okWide Tryd.prog W .any base t v := hval0
  have hW' := hW
  obtain ⟨p, q, hA0, hV, rfl, hfz, hnd⟩ := hW
  have hA : DataW.TrodAll enc Tryd.prog W 0 (fun _ => true) true Tryd.f6.params.toList args.toList ds p := hA0
  rw [Tryd.params6] at hA hval
  obtain ⟨v0, vs0, d0, ds0, p0, q0, hargs, rfl, rfl, h0, r0⟩ := trodAll_cons hA
  obtain ⟨v1, vs1, d1, ds1, p1, q1, rfl, rfl, rfl, h1, r1⟩ := trodAll_cons r0
  obtain ⟨v2, vs2, d2, ds2, p2, q2, rfl, rfl, rfl, h2, r2⟩ := trodAll_cons r1
  obtain ⟨v3, vs3, d3, ds3, p3, q3, rfl, rfl, rfl, h3, r3⟩ := trodAll_cons r2
  obtain ⟨rfl, rfl, rfl⟩ := trodAll_nil r3
  obtain rfl : args = #[v0, v1, v2, v3] := by cases args; simp_all
  obtain ⟨rfl, rfl⟩ := trodVars_none hV
  have k0 := h0
  have lt0 : ∀ x ∈ p0, x.block < W.heap.size := by obtain ⟨m, hm⟩ := k0; exact DataW.trod_lt m _ _ _ hm
  obtain ⟨A0, n0, c0, rfl⟩ := okWide_slice Tryd.underlying31 (hval 0 31 v0 rfl rfl)
  obtain ⟨xs0, w0⟩ : ∃ xs, Sl W A0 n0 c0 xs := by
    obtain ⟨fuel, hf⟩ := h0
    rcases open_ints Tryd.underlying31 Tryd.underlying3 (by kernel_rfl) hf with ⟨hcs, _⟩ | ⟨x, l, c, zs, hcs, _, hl, hm, hz, _, hcell, hwz⟩
    · simp [Value.cells] at hcs
      obtain ⟨rfl, rfl, rfl⟩ := hcs
      exact ⟨[], Rd.nil _ _, Nat.le_refl _, fun _ => rfl⟩
    · simp [Value.cells] at hcs
      obtain ⟨rfl, rfl, rfl⟩ := hcs
      exact ⟨_, rd_of_cells (by simp at hz; omega) hl hm hcell hwz, hl, fun h => by cases h⟩
  have k1 := h1
  have lt1 : ∀ x ∈ p1, x.block < W.heap.size := by obtain ⟨m, hm⟩ := k1; exact DataW.trod_lt m _ _ _ hm
  obtain ⟨a1, rfl, rfl, rfl, w1⟩ := open_int Tryd.underlying3 (hval 1 3 v1 rfl rfl) h1
  have k2 := h2
  have lt2 : ∀ x ∈ p2, x.block < W.heap.size := by obtain ⟨m, hm⟩ := k2; exact DataW.trod_lt m _ _ _ hm
  obtain ⟨a2, rfl, rfl, rfl, w2⟩ := open_int Tryd.underlying3 (hval 2 3 v2 rfl rfl) h2
  have k3 := h3
  have lt3 : ∀ x ∈ p3, x.block < W.heap.size := by obtain ⟨m, hm⟩ := k3; exact DataW.trod_lt m _ _ _ hm
  obtain ⟨a3, rfl, rfl, rfl, w3⟩ := open_int Tryd.underlying3 (hval 3 3 v3 rfl rfl) h3
  clear hA0 hval0
  refine (walk W A0 n0 c0 xs0 w0 a1 (wf_range w1) a2 (wf_range w2) a3 (wf_range w3) (handle_of_laid hL)).mono fun e W' ⟨he, bel⟩ => ?_
  subst he
  exact ⟨_, rfl, _, _, _, [], _, [], hW', trodAll_mk1 (shut_bool Tryd.underlying4 _), (trodAll_cons_mk (Below.trod laidOut (by kernel_rfl) (of_decide_eq_true (by kernel_rfl)) k0 bel lt0) (trodAll_cons_mk (Below.trod laidOut (by kernel_rfl) (of_decide_eq_true (by kernel_rfl)) k1 bel lt1) (trodAll_cons_mk (Below.trod laidOut (by kernel_rfl) (of_decide_eq_true (by kernel_rfl)) k2 bel lt2) (trodAll_cons_mk (Below.trod laidOut (by kernel_rfl) (of_decide_eq_true (by kernel_rfl)) k3 bel lt3) trodAll_mk0)))), rfl, bel.frame _, fun h => by cases h⟩

theorem over : Rows.reedWrongRow.holds Tryd.pinned (OpenSpec.ofChange Rows.reedWrongSpec) :=
  OpenClaim.holds_of_wide 6 Tryd.f6 rfl rfl rfl rfl rfl rfl rfl ⟨rfl, rfl, rfl, rfl, rfl⟩ rfl rfl rfl rfl rfl (by kernel_rfl) Tryd.func6 (by kernel_rfl)
    (of_decide_eq_true (by kernel_rfl)) (by unfold Func.isWrapper; first | (rw [if_pos (by decide +kernel)]; kernel_rfl) | (rw [if_neg (by decide +kernel)]; exact ⟨rfl, rfl⟩))
    (fun os started H enc _ => lifted os started H enc)

theorem card_holds : Rows.ReedWrongCardSaid :=
  Claim7.holds_tied_plain_at .later [] [.handle] true Rows.reedWrongCard.stood.harness Rows.reedWrongCard.stood.looks
    over (fun _ h => by cases h) (by kernel_rfl) (fun _ h => by cases h) reedWrong_row_tie rfl ⟨rfl, rfl⟩ (by kernel_rfl) rfl
    (fun f fn hf hfn => by
      obtain rfl : f = 6 := Option.some.inj ((show Tryd.prog.funcNamed "platterhold/platterholdlaw1.ReedWrong" = some 6 by kernel_rfl).symm.trans hf) |>.symm
      obtain rfl : fn = Tryd.f6 := (Option.some.inj (Tryd.func6.symm.trans hfn)).symm
      exact ⟨by kernel_rfl, fun j t ht => by
        rw [Tryd.params6] at ht
        have hm : t ∈ [31, 3, 3, 3] := by simpa using Array.mem_of_getElem? ht
        have hall : ([31, 3, 3, 3].all fun u => !Tryd.prog.wantsStandIn u) = true := by kernel_rfl
        exact (show Tryd.prog.wantsStandIn t = false by simpa using List.all_eq_true.1 hall t hm)⟩)
    (by kernel_rfl)
theorem proved : Rows.ReedWrongCardSaid := card_holds
#print axioms proved
end Go.Proofs.YtdhfckdnfppieaaDoor.reedWrong
