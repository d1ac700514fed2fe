/- Bytes with their CRC behind them are good, and with no other byte: CrcGood answers true at every slice of ints and every int; errors.errorType is tied to the program's text. Conditions: none beside the card's own. -/
import Derived.Test.YtfkbbmomanaabaaDoorOpenD
import Derived.Test.YtfkbbmomanaabaaDoorCrc
import Derived.Test.YtfkbbmomanaabaaDoorOwnK
import Derived.Test.YtfkbbmomanaabaaDoorCrcB
import Derived.Test.YtfkbbmomanaabaaDoorIn
namespace Go.Proofs.YtfkbbmomanaabaaDoor.crcGood
open Go Go.ChangeShapes Go.WideShapes Go.ChangeAt Go.RowKit
set_option linter.unusedVariables false

theorem mem_app {xs : List Int} (h : ∀ x ∈ xs, 0 ≤ x ∧ x ≤ 255) {b : Int} (h0 : 0 ≤ b) (h1 : b ≤ 255) : ∀ x ∈ xs ++ [b], 0 ≤ x ∧ x ≤ 255 := by
  intro x hx
  rcases List.mem_append.1 hx with hx | hx
  · exact h x hx
  · simp at hx; subst hx; exact ⟨h0, h1⟩
theorem good_iff {xs : List Int} (hx : ∀ x ∈ xs, 0 ≤ x ∧ x ≤ 255) {b : Int} (h0 : 0 ≤ b) (h1 : b ≤ 255) : (crcI (xs ++ [b]) == 0) = (b == crcI xs) := by
  have hr := crcI_range hx
  have hy := xorI_255 hr.2 h1
  have hy0 := xorI_nonneg (crcI xs) b
  have hz := afterN_zero (x := (xorI (crcI xs) b).toNat) (by omega)
  have he := xorI_eq_zero hr.1 h0
  rw [crcI_snoc, Bool.eq_iff_iff, beq_iff_eq, beq_iff_eq]
  unfold afterI
  constructor
  · intro h
    have := hz.1 (by omega)
    exact (he.1 (by omega)).symm
  · intro h
    rw [he.2 h.symm]; rfl

set_option maxHeartbeats 1000000 in
theorem walk (w : World) (A : Option Addr) (n c : Nat) (xs : List Int) (hA : Rd w A n xs) (hc : n ≤ c) (b : Int) (hbr : -9223372036854775808 ≤ b ∧ b ≤ 9223372036854775807) (hE : ErrT w) :
    Calls Tryd.prog 8 #[.slice A n c, .int .i64 b] w fun e w' => e = .returned (.bool true) ∧ Below w.heap.size w w' := by
  have HE := Lib.hid hE
  clear hE
  by_cases hx : bytesE xs 64 = 0
  · obtain ⟨hx1, hx2⟩ := bytesE_zero.1 hx
    have hlx := hA.len
    rw [hlx] at hx1
    clear hx
    have hmx := allB_mem.1 hx2
    have hcx := crcI_range hmx
    have hgood := crcI_good hmx
    obtain ⟨X, hX⟩ : ∃ X, crcI xs = X := ⟨_, rfl⟩
    rw [hX] at hcx hgood
    obtain ⟨hx0, hx1'⟩ := hcx
    have hmg := mem_app hmx hx0 hx1'
    have hzl : (xs ++ [X]).length = n + 1 := by simp [hlx]
    have HAX := Lib.hid hx2
    have HX := Lib.hid hX
    have HG := Lib.hid (And.intro hzl (And.intro hmg hgood))
    have HM := Lib.hid (And.intro hlx hmx)
    clear hx2 hlx hmx hgood hmg hzl
    by_cases h64 : n = 64
    · subst h64
      have hbe : bytesE (xs ++ [X]) 64 = 4 := by unfold bytesE; rw [HG.out.1]; simp
      have HBE := Lib.hid hbe
      clear hbe
      go_enter Tryd.func8, Tryd.ntmps8
      go_wp2_with fail
      with_reducible refine (crcFact_any _).mono ?_
      rintro e w1 ⟨rfl, hB⟩
      go_wp2_with fail
      with_reducible refine (sum_ok _ _ _ xs _ (hA.below hB) (by omega) HAX.out).mono ?_
      rintro e w' ⟨rfl, rfl⟩
      rw [HX.out]
      clear hX
      have hRd := hA.below hB
      have tok1 : True := trivial
      go_wp2_with (first
        | (at_builtin; have _t := tok1; refine wpList_appL rfl _ _ rfl w.heap.size 0 _ [] rfl (Own.nil _ _) A 64 c xs rfl hRd (by omega) hB.size ?_; intro A' c1 w3 hown3 hbel3; clear tok1; have hq3 := hbel3 w.heap.size w (Nat.le_refl _) hB; rw [Nat.zero_add] at hown3 ⊢; rw [List.nil_append] at hown3; clear hbel3 hRd)
        | (at_builtin; refine wpList_app1K rfl _ _ rfl w.heap.size 64 _ xs rfl (hown3.alloc _) w3.heap.size X rfl (by simp) (by omega) (by have := hq3.size; simp; omega) ?_; intro A2 c2 w4 hown4 hown5 hbel4))
      have hq4 := hbel4 w.heap.size w (Nat.le_refl _) (hq3.alloc hq3.size _)
      have hRd4 := hown4.rd (by omega) (fun x hx => by have := HG.out.2.1 x hx; omega)
      with_reducible refine (good_bad _ _ _ _ _ hRd4 (by omega) (by rw [HBE.out]; decide)).mono ?_
      rintro e w' ⟨rfl, rfl⟩
      rw [HBE.out]
      go_wp2_with fail
      with_reducible refine (error_err 4 4 _ (HE.out.below hq4)).mono ?_
      rintro e w5 ⟨rfl, k⟩
      go_wp2
      go_ret
      exact ⟨rfl, hq4.trans (k.mono hq4.size)⟩
    · have hne64 : ((n : Int) == 64) = false := by simp; omega
      by_cases hb : 0 ≤ b ∧ b ≤ 255
      · obtain ⟨hb0, hb1⟩ := hb
        have hmb := mem_app HM.out.2 hb0 hb1
        have hgi := good_iff HM.out.2 hb0 hb1
        rw [hX] at hgi
        obtain ⟨q, hq⟩ : ∃ q, (b == X) = q := ⟨_, rfl⟩
        have hself : (q == q) = true := by cases q <;> rfl
        rw [hq] at hgi
        have HGI := Lib.hid hgi
        have HMB := Lib.hid hmb
        clear hgi hmb
        go_enter Tryd.func8, Tryd.ntmps8
        go_wp2_with fail
        with_reducible refine (crcFact_any _).mono ?_
        rintro e w3 ⟨rfl, hB⟩
        go_wp2_with fail
        with_reducible refine (sum_ok _ _ _ xs _ (hA.below hB) (by omega) HAX.out).mono ?_
        rintro e w' ⟨rfl, rfl⟩
        rw [HX.out]
        clear hX
        have hRd := hA.below hB
        have tok1 : True := trivial
        go_wp2_with (first
          | (at_builtin; have _t := tok1; refine wpList_appL rfl _ _ rfl w.heap.size 0 _ [] rfl (Own.nil _ _) A n c xs rfl hRd (by omega) hB.size ?_; intro A' c1 w3 hown3 hbel3; clear tok1; have hq3 := hbel3 w.heap.size w (Nat.le_refl _) hB; rw [Nat.zero_add] at hown3 ⊢; rw [List.nil_append] at hown3; clear hbel3 hRd)
          | (at_builtin; refine wpList_app1K rfl _ _ rfl w.heap.size n _ xs rfl (hown3.alloc _) w3.heap.size X rfl (by simp) (by omega) (by have := hq3.size; simp; omega) ?_; intro A2 c2 w4 hown4 hown5 hbel4))
        have hq4 := hbel4 w.heap.size w (Nat.le_refl _) (hq3.alloc hq3.size _)
        have hRd4 := hown4.rd (by omega) (fun x hx => by have := HG.out.2.1 x hx; omega)
        with_reducible refine (good_ok _ _ _ _ _ hRd4 (by omega) (by omega) (allB_mem.2 HG.out.2.1)).mono ?_
        rintro e w' ⟨rfl, rfl⟩
        rw [HG.out.2.2]
        go_wp2_with (at_builtin; refine wpList_app1 rfl _ _ rfl w.heap.size n _ xs rfl (hown5.alloc _) w4.heap.size b rfl (by simp) (by omega) (by have := hq4.size; simp; omega) ?_; intro A5 c5 w5 hown6 hbel5)
        have hq5 := hbel5 w.heap.size w (Nat.le_refl _) (hq4.alloc hq4.size _)
        have hRd5 := hown6.rd (by omega) (fun x hx => by have := HMB.out x hx; omega)
        with_reducible refine (good_ok _ _ _ _ _ hRd5 (by omega) (by omega) (allB_mem.2 HMB.out)).mono ?_
        rintro e w' ⟨rfl, rfl⟩
        rw [HGI.out]
        go_wp2
        go_ret
        exact ⟨rfl, hq5⟩
      · have hbe : bytesE (xs ++ [b]) 64 = 1 := by
          have hl : (xs ++ [b]).length = n + 1 := by simp [HM.out.1]
          have hf : allB (xs ++ [b]) 0 255 = false := by
            rw [Bool.eq_false_iff]
            intro h
            exact hb (allB_mem.1 h b (by simp))
          unfold bytesE
          rw [hl, hf]
          simp; omega
        have hmb : ∀ x ∈ xs ++ [b], -9223372036854775808 ≤ x ∧ x ≤ 9223372036854775807 := by
          intro x hx
          rcases List.mem_append.1 hx with hx | hx
          · have := HM.out.2 x hx; omega
          · simp at hx; subst hx; exact hbr
        have HBE := Lib.hid hbe
        have HMB := Lib.hid hmb
        clear hbe hmb
        go_enter Tryd.func8, Tryd.ntmps8
        go_wp2_with fail
        with_reducible refine (crcFact_any _).mono ?_
        rintro e w5 ⟨rfl, hB⟩
        go_wp2_with fail
        with_reducible refine (sum_ok _ _ _ xs _ (hA.below hB) (by omega) HAX.out).mono ?_
        rintro e w' ⟨rfl, rfl⟩
        rw [HX.out]
        clear hX
        have hRd := hA.below hB
        have tok1 : True := trivial
        go_wp2_with (first
          | (at_builtin; have _t := tok1; refine wpList_appL rfl _ _ rfl w.heap.size 0 _ [] rfl (Own.nil _ _) A n c xs rfl hRd (by omega) hB.size ?_; intro A' c1 w3 hown3 hbel3; clear tok1; have hq3 := hbel3 w.heap.size w (Nat.le_refl _) hB; rw [Nat.zero_add] at hown3 ⊢; rw [List.nil_append] at hown3; clear hbel3 hRd)
          | (at_builtin; refine wpList_app1K rfl _ _ rfl w.heap.size n _ xs rfl (hown3.alloc _) w3.heap.size X rfl (by simp) (by omega) (by have := hq3.size; simp; omega) ?_; intro A2 c2 w4 hown4 hown5 hbel4))
        have hq4 := hbel4 w.heap.size w (Nat.le_refl _) (hq3.alloc hq3.size _)
        have hRd4 := hown4.rd (by omega) (fun x hx => by have := HG.out.2.1 x hx; omega)
        with_reducible refine (good_ok _ _ _ _ _ hRd4 (by omega) (by omega) (allB_mem.2 HG.out.2.1)).mono ?_
        rintro e w' ⟨rfl, rfl⟩
        rw [HG.out.2.2]
        go_wp2_with (at_builtin; refine wpList_app1 rfl _ _ rfl w.heap.size n _ xs rfl (hown5.alloc _) w4.heap.size b rfl (by simp) (by omega) (by have := hq4.size; simp; omega) ?_; intro A5 c5 w5 hown6 hbel5)
        have hq5 := hbel5 w.heap.size w (Nat.le_refl _) (hq4.alloc hq4.size _)
        have hRd5 := hown6.rd (by omega) HMB.out
        with_reducible refine (good_bad _ _ _ _ _ hRd5 (by omega) (by rw [HBE.out]; decide)).mono ?_
        rintro e w' ⟨rfl, rfl⟩
        rw [HBE.out]
        go_wp2_with fail
        with_reducible refine (in_no _ _ _ _ (by omega)).mono ?_
        rintro e w' ⟨rfl, rfl⟩
        go_wp2
        go_ret
        exact ⟨rfl, hq5⟩
  · skip
    go_enter Tryd.func8, Tryd.ntmps8
    go_wp2_with fail
    with_reducible refine (crcFact_any _).mono ?_
    rintro e w7 ⟨rfl, hB⟩
    go_wp2_with fail
    with_reducible refine (sum_bad _ _ _ xs _ (hA.below hB) hx).mono ?_
    rintro e w' ⟨rfl, rfl⟩
    clear hx
    go_wp2
    go_ret
    exact ⟨rfl, hB⟩

set_option maxRecDepth 100000 in
theorem lifted (os : Os) (started : os.Started) (H : Type) (enc : TypeId × Value → H) :
    ReturnsInHanded {} Tryd.checked os 8 .any (fun w args => (Rows.crcGoodSpec.pre enc Tryd.prog Tryd.f8 [] false w args ∧ laidMetH Tryd.prog Rows.crcGoodRow.laid w) ∧ sizedMet enc Tryd.prog Tryd.f8 (OpenSpec.ofChange Rows.crcGoodSpec) false w args)
      (Rows.crcGoodSpec.post enc Tryd.prog Tryd.f8 false true false false) := by
  refine returnsInHanded_of_change_and (C := Tryd.checked) (X := fun w _ => laidMetH Tryd.prog Rows.crcGoodRow.laid w) (fun _ _ _ hh h => h.of_heap hh) own started (by kernel_rfl) Tryd.func8
    (ChangeSpec.witness_at (enc := enc) (C := Tryd.checked) (os := os) (X := fun w _ => laidMetH Tryd.prog Rows.crcGoodRow.laid w) false (laidWorld os) #[.slice none 0 0, .int .i64 0] 8 rfl (by kernel_rfl) (by kernel_rfl) (by kernel_rfl) (by kernel_rfl) (by kernel_rfl) (laidWorld_met os _)) ?_
  intro W base args ds gs before hval0 hW _ _ hL _
  have hval : ∀ (j : Nat) t v, Tryd.f8.params[j]? = some t → args[j]? = some v → Value.okWide Tryd.prog W .any base t v := hval0
  have hW' := hW
  obtain ⟨p, q, hA0, hV, rfl, hfz, hnd⟩ := hW
  have hA : DataW.TrodAll enc Tryd.prog W 0 (fun _ => true) true Tryd.f8.params.toList args.toList ds p := hA0
  rw [Tryd.params8] at hA hval
  obtain ⟨v0, vs0, d0, ds0, p0, q0, hargs, rfl, rfl, h0, r0⟩ := trodAll_cons hA
  obtain ⟨v1, vs1, d1, ds1, p1, q1, rfl, rfl, rfl, h1, r1⟩ := trodAll_cons r0
  obtain ⟨rfl, rfl, rfl⟩ := trodAll_nil r1
  obtain rfl : args = #[v0, v1] := by cases args; simp_all
  obtain ⟨rfl, rfl⟩ := trodVars_none hV
  have k0 := h0
  have lt0 : ∀ x ∈ p0, x.block < W.heap.size := by obtain ⟨m, hm⟩ := k0; exact DataW.trod_lt m _ _ _ hm
  obtain ⟨A0, n0, c0, rfl⟩ := okWide_slice Tryd.underlying37 (hval 0 37 v0 rfl rfl)
  obtain ⟨xs0, w0, hc0⟩ : ∃ xs, Rd W A0 n0 xs ∧ n0 ≤ c0 := by
    obtain ⟨fuel, hf⟩ := h0
    rcases open_ints Tryd.underlying37 Tryd.underlying3 (by kernel_rfl) hf with ⟨hcs, _⟩ | ⟨x, l, c, zs, hcs, _, hl, hm, hz, _, hcell, hwz⟩
    · simp [Value.cells] at hcs
      obtain ⟨rfl, rfl, rfl⟩ := hcs
      exact ⟨[], Rd.nil _ _, Nat.le_refl _⟩
    · simp [Value.cells] at hcs
      obtain ⟨rfl, rfl, rfl⟩ := hcs
      exact ⟨_, rd_of_cells (by simp at hz; omega) hl hm hcell hwz, hl⟩
  have k1 := h1
  have lt1 : ∀ x ∈ p1, x.block < W.heap.size := by obtain ⟨m, hm⟩ := k1; exact DataW.trod_lt m _ _ _ hm
  obtain ⟨a1, rfl, rfl, rfl, w1⟩ := open_int Tryd.underlying3 (hval 1 3 v1 rfl rfl) h1
  clear hA0 hval0
  refine (walk W A0 n0 c0 xs0 w0 hc0 a1 (wf_range w1) (handle_of_laid hL)).mono fun e W' ⟨he, bel⟩ => ?_
  subst he
  exact ⟨_, rfl, _, _, _, [], _, [], hW', trodAll_mk1 (shut_bool Tryd.underlying4 _), (trodAll_cons_mk (Below.trod laidOut (by kernel_rfl) (of_decide_eq_true (by kernel_rfl)) k0 bel lt0) (trodAll_cons_mk (Below.trod laidOut (by kernel_rfl) (of_decide_eq_true (by kernel_rfl)) k1 bel lt1) trodAll_mk0)), rfl, bel.frame _, fun h => by cases h⟩

theorem over : Rows.crcGoodRow.holds Tryd.pinned (OpenSpec.ofChange Rows.crcGoodSpec) :=
  OpenClaim.holds_of_wide 8 Tryd.f8 rfl rfl rfl rfl rfl rfl rfl ⟨rfl, rfl, rfl, rfl, rfl⟩ rfl rfl rfl rfl rfl (by kernel_rfl) Tryd.func8 (by kernel_rfl)
    (of_decide_eq_true (by kernel_rfl)) (by unfold Func.isWrapper; first | (rw [if_pos (by decide +kernel)]; kernel_rfl) | (rw [if_neg (by decide +kernel)]; exact ⟨rfl, rfl⟩))
    (fun os started H enc _ => lifted os started H enc)

theorem card_holds : Rows.CrcGoodCardSaid :=
  Claim7.holds_tied_plain_at .later [] [.handle] true Rows.crcGoodCard.stood.harness Rows.crcGoodCard.stood.looks
    over (fun _ h => by cases h) (by kernel_rfl) (fun _ h => by cases h) crcGood_row_tie rfl ⟨rfl, rfl⟩ (by kernel_rfl) rfl
    (fun f fn hf hfn => by
      obtain rfl : f = 8 := Option.some.inj ((show Tryd.prog.funcNamed "platterhold/platterholdlaw1.CrcGood" = some 8 by kernel_rfl).symm.trans hf) |>.symm
      obtain rfl : fn = Tryd.f8 := (Option.some.inj (Tryd.func8.symm.trans hfn)).symm
      exact ⟨by kernel_rfl, fun j t ht => by
        rw [Tryd.params8] at ht
        have hm : t ∈ [37, 3] := by simpa using Array.mem_of_getElem? ht
        have hall : ([37, 3].all fun u => !Tryd.prog.wantsStandIn u) = true := by kernel_rfl
        exact (show Tryd.prog.wantsStandIn t = false by simpa using List.all_eq_true.1 hall t hm)⟩)
    (by kernel_rfl)
theorem proved : Rows.CrcGoodCardSaid := card_holds
#print axioms proved
end Go.Proofs.YtfkbbmomanaabaaDoor.crcGood
