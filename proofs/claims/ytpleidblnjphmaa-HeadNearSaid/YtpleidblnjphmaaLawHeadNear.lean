/- No request that is served later was nearer: HeadNear answers true. -/
import Derived.Test.YtpleidblnjphmaaNearQ
import Derived.Test.YtpleidblnjphmaaNear
import Derived.Test.YtpleidblnjphmaaRNear
import Derived.Test.YtpleidblnjphmaaHeadF
import Derived.Test.YtpleidblnjphmaaOpen
import Derived.Deep.QuietTactic
import Derived.BigQuiet
namespace Go.Proofs.Ytpleidblnjphmaa.headNear
open Go Go.ChangeShapes Go.WideShapes Go.ChangeAt Go.RowKit
set_option linter.unusedVariables false
set_option maxRecDepth 100000

set_option maxHeartbeats 4000000 in
theorem walk (w : World) (a : Int) (ha : -9223372036854775808 ≤ a ∧ a ≤ 9223372036854775807) (A : Option Addr) (n c : Nat) (xs : List Int) (hS : Sl w A n c xs) :
    Calls Try.prog 9 #[.int .i64 a, .slice A n c] w fun e w' => e = .returned (.bool true) ∧ Below w.heap.size w w' := by
  have hA : Rd w A n xs := hS.1
  by_cases hE : headE a xs = 0
  · obtain ⟨h20, htr, hall⟩ := headE_zero hE
    have hl := hA.len
    have hxr := trk_all hall
    have hn20 : n ≤ 20 := by omega
    have a0 := htr.1
    have a1 := htr.2
    have H0 := Lib.hid (And.intro hl (And.intro hxr (And.intro hE htr)))
    clear hE hl hxr hall htr h20 ha
    go_enter Try.func9, Try.ntmps9
    go_wp2_with fail
    with_reducible refine (headFact_any _).mono ?_
    rintro e w1 ⟨rfl, hB1⟩
    have hsw := near_ok A n c xs a w1 (hS.below hB1) H0.out.2.2.1
    have HSW := Lib.hid hsw
    clear hsw
    go_wp2_with fail
    with_reducible refine HSW.out.mono ?_
    rintro e w2 ⟨A', c', rfl, hown, hB2⟩
    have hB := hB1.trans (hB2.mono hB1.size)
    clear HSW hB1 hB2 hS hA
    have hsm : ∀ x ∈ nearL a xs, Trk x := fun x hx => H0.out.2.1 x ((nearL_perm a xs).mem_iff.1 hx)
    have hsl := nearL_length a xs
    rw [H0.out.1] at hsl
    have hrs : Rd w2 A' n (nearL a xs) := hown.rd (by omega) (fun x hx => by have := hsm x hx; unfold Trk at this; omega)
    have hlaw := near_law a xs
    have hF : farI a (nearL a xs) = (farS a (nearL a xs) n).1 := by unfold farI; rw [hsl]
    rw [hF]
    obtain ⟨L, hL⟩ : ∃ L, nearL a xs = L := ⟨_, rfl⟩
    rw [hL] at hrs hsm hsl hlaw ⊢
    rw [H0.out.1] at hlaw
    have HL := Lib.hid (And.intro hsm (And.intro hsl hlaw))
    have hfb := farS_range H0.out.2.2.2 hsm n
    obtain ⟨F, hFF⟩ : ∃ F, (farS a L n).1 = F := ⟨_, rfl⟩
    rw [hFF]
    have HFF := Lib.hid hFF
    clear hown hsm hsl hL hF hlaw hFF hfb
    go_wp2
    go_loopw [9, 10, 11] (fun wa su i wr => ∃ k : Nat, k ≤ n ∧ i = .int .i64 k ∧ wa = .int .i64 (farS a L k).2 ∧ su = .int .i64 (farS a L k).1 ∧ ∃ q, wr = w2.drewN q) (fun _ _ i _ => n - (intOf i).toNat)
    case atStart => exact ⟨0, Nat.zero_le _, rfl, rfl, rfl, 0, rfl⟩
    case round =>
      obtain ⟨k, hk, rfl, rfl, rfl, q, rfl⟩ := hrel
      by_cases hlt : k < n
      · have hkI : (k : Int) < (n : Int) := by omega
        obtain ⟨b, off, rfl, hbl, hcc⟩ := hrs.at_ (by omega)
        have g1 := hcc k hlt
        have ht := trk_get HL.out.1 k
        have hw := farS_at H0.out.2.2.2 HL.out.1 k
        have hsr := farS_range H0.out.2.2.2 HL.out.1 k
        have hst : farS a L (k + 1) = ((farS a L k).1 + absI (farS a L k).2 (L[k]?.getD 0), L[k]?.getD 0) := rfl
        have hlw := fun j => HL.out.2.2 k j
        obtain ⟨t, hte⟩ : ∃ t, L[k]?.getD 0 = t := ⟨_, rfl⟩
        obtain ⟨wa, hwe⟩ : ∃ wa, (farS a L k).2 = wa := ⟨_, rfl⟩
        obtain ⟨su, hse⟩ : ∃ su, (farS a L k).1 = su := ⟨_, rfl⟩
        rw [hte] at g1 ht hst hlw
        rw [hwe] at hw hst hlw ⊢
        rw [hse] at hsr hst ⊢
        rw [absI_comm] at hst
        have hab := fun wx => abs_any t wa wx ht hw
        have har := absI_range ht hw
        obtain ⟨D, hD⟩ : ∃ D, absI t wa = D := ⟨_, rfl⟩
        rw [hD] at hab har hst hlw
        obtain ⟨s0, s1⟩ := hsr
        obtain ⟨d0, d1⟩ := har
        have HAB := Lib.hid hab
        have HST := Lib.hid hst
        have HLW := Lib.hid hlw
        have HW := Lib.hid hw
        have HCC := Lib.hid hcc
        clear hcc hte hwe hse hD hab hst hlw ht hw
        go_wp2
        go_loopw [12] (fun i wr => ∃ j : Nat, k + 1 ≤ j ∧ j ≤ n ∧ i = .int .i64 j ∧ ∃ q, wr = w2.drewN q) (fun i _ => n - (intOf i).toNat)
        case atStart => exact ⟨k + 1, by omega, by omega, by go_num, _, rfl⟩
        case round =>
          obtain ⟨j, hkj, hj, rfl, q2, rfl⟩ := hrel
          by_cases hjl : j < n
          · have hjI : (j : Int) < (n : Int) := by omega
            have g2 := HCC.out j hjl
            have hu := trk_get HL.out.1 j
            have hlj := HLW.out j (by omega) hjl
            obtain ⟨u, hue⟩ : ∃ u, L[j]?.getD 0 = u := ⟨_, rfl⟩
            rw [hue] at g2 hu hlj
            have hab2 := fun wx => abs_any u wa wx hu HW.out
            obtain ⟨E, hEE⟩ : ∃ E, absI u wa = E := ⟨_, rfl⟩
            rw [hEE] at hab2 hlj
            have HAB2 := Lib.hid hab2
            obtain ⟨W, hW⟩ : ∃ W, W = w2.drewN q2 := ⟨_, rfl⟩
            have g1w : W.cell? ⟨b, off + k, none⟩ = some (.int .i64 t) := by rw [hW]; exact g1
            have g2w : W.cell? ⟨b, off + j, none⟩ = some (.int .i64 u) := by rw [hW]; exact g2
            rw [← hW]
            have HWW := Lib.hid hW
            have hq1 : ∀ m, Calls Try.prog 24 #[.int .i64 t, .int .i64 wa] (W.drewN m) fun e w'' => e = .returned (.int .i64 D) ∧ ∃ m', w'' = W.drewN m' := fun m => Calls.quiet_of_same ((HAB.out _).mono fun _ _ h => ⟨h.1, h.2.symm⟩)
            have hq2 : ∀ m, Calls Try.prog 24 #[.int .i64 u, .int .i64 wa] (W.drewN m) fun e w'' => e = .returned (.int .i64 E) ∧ ∃ m', w'' = W.drewN m' := fun m => Calls.quiet_of_same ((HAB2.out _).mono fun _ _ h => ⟨h.1, h.2.symm⟩)
            have HQ := Lib.hid (And.intro hq1 hq2)
            clear hab2 hu hue hEE hW g1 g2 hq1 hq2
            go_wp2
            go_quiet ((go_at_call 24; first | with_reducible exact HQ.out.1 _ | with_reducible exact HQ.out.2 _))
            go_wp2
            go_roundw
            case rel => exact ⟨j + 1, by omega, by omega, by go_num, q2 + nq, by rw [HWW.out, World.drewN_drewN]⟩
            case measure => simp [intOf]; omega
          · obtain rfl : j = n := by omega
            have hjI : ¬ (j : Int) < (j : Int) := by omega
            go_wp2_with fail
            with_reducible refine (HAB.out _).mono ?_
            rintro e w' ⟨rfl, rfl⟩
            go_wp2
            go_roundw
            case rel => exact ⟨k + 1, by omega, by go_num, by rw [HST.out], by rw [HST.out], _, rfl⟩
            case measure => simp [intOf]; omega
      · obtain rfl : k = n := by omega
        have hkI : ¬ (k : Int) < (k : Int) := by omega
        rw [HFF.out]
        have hFe : (F == F) = true := by simp
        go_wp2
        go_ret
        exact ⟨rfl, below_drewN_of hB _⟩
  · have hs := fun wx (h : Rd wx A n xs) => near_bad A n c xs a wx h hE
    obtain ⟨E, hEE⟩ : ∃ E, headE a xs = E := ⟨_, rfl⟩
    rw [hEE] at hs
    have HS := Lib.hid hs
    clear hs hEE hE
    go_enter Try.func9, Try.ntmps9
    go_wp2_with fail
    with_reducible refine (headFact_any _).mono ?_
    rintro e w1 ⟨rfl, hB1⟩
    have hA1 := hA.below hB1
    have H2 := Lib.hid (HS.out w1 hA1)
    clear HS
    go_wp2_with fail
    with_reducible refine H2.out.mono ?_
    rintro e w2 ⟨rfl, rfl⟩
    go_wp2
    go_ret
    exact ⟨rfl, hB1⟩

set_option maxRecDepth 100000 in
theorem lifted (os : Os) (started : os.Started) (H : Type) (enc : TypeId × Value → H) :
    ReturnsInHanded {} Try.checked os 9 .any (Rows.headNearSpec.pre6 enc Try.prog Try.f9 Rows.headNearRow.domain false) (Rows.headNearSpec.post enc Try.prog Try.f9 false true false false) := by
  refine returnsInHanded_of_change (C := Try.checked) own started (by kernel_rfl) Try.func9
    (ChangeSpec.witness6 (enc := enc) (C := Try.checked) false ⟨#[], #[.int .i64 0, .slice none 0 0], []⟩ 8 (by kernel_rfl) (by kernel_rfl) (by kernel_rfl) (by kernel_rfl)) ?_
  intro W base args ds gs before hval0 hW hcnd _
  have hval : ∀ (j : Nat) t v, Try.f9.params[j]? = some t → args[j]? = some v → Value.okWide Try.prog W .any base t v := hval0
  have hW' := hW
  obtain ⟨p, q, hA0, hV, rfl, hfz, hnd⟩ := hW
  have hA : DataW.TrodAll enc Try.prog W 0 (fun _ => true) true Try.f9.params.toList args.toList ds p := hA0
  rw [Try.params9] at hA hval
  obtain ⟨v0, vs0, d0, ds0, p0, q0, hargs, rfl, rfl, h0, r0⟩ := trodAll_cons hA
  obtain ⟨v1, vs1, d1, ds1, p1, q1, rfl, rfl, rfl, h1, r1⟩ := trodAll_cons r0
  obtain ⟨rfl, rfl, rfl⟩ := trodAll_nil r1
  obtain rfl : args = #[v0, v1] := by cases args; simp_all
  obtain ⟨rfl, rfl⟩ := trodVars_none hV
  have k0 := h0
  have lt0 : ∀ x ∈ p0, x.block < W.heap.size := by obtain ⟨m, hm⟩ := k0; exact DataW.trod_lt m _ _ _ hm
  obtain ⟨a0, rfl, rfl, rfl, w0⟩ := open_int Try.underlying3 (hval 0 3 v0 rfl rfl) h0
  have k1 := h1
  have lt1 : ∀ x ∈ p1, x.block < W.heap.size := by obtain ⟨m, hm⟩ := k1; exact DataW.trod_lt m _ _ _ hm
  obtain ⟨A1, n1, c1, rfl⟩ := okWide_slice Try.underlying22 (hval 1 22 v1 rfl rfl)
  obtain ⟨xs1, w1⟩ : ∃ xs, Sl W A1 n1 c1 xs := by
    obtain ⟨fuel, hf⟩ := h1
    rcases open_ints Try.underlying22 Try.underlying3 (by kernel_rfl) hf with ⟨hcs, _⟩ | ⟨x, l, c, zs, hcs, _, hl, hm, hz, _, hcell, hwz⟩
    · simp [Value.cells] at hcs
      obtain ⟨rfl, rfl, rfl⟩ := hcs
      exact ⟨[], Rd.nil _ _, Nat.le_refl _, fun _ => rfl⟩
    · simp [Value.cells] at hcs
      obtain ⟨rfl, rfl, rfl⟩ := hcs
      exact ⟨_, rd_of_cells (by simp at hz; omega) hl hm hcell hwz, hl, fun h => by cases h⟩
  clear hA0 hval0
  refine (walk W a0 (wf_range w0) A1 n1 c1 xs1 w1).mono fun e W' ⟨he, bel⟩ => ?_
  subst he
  exact ⟨_, rfl, _, _, _, [], _, [], hW', trodAll_mk1 (shut_bool Try.underlying4 _), (trodAll_cons_mk (Below.trod laidOut (by kernel_rfl) (of_decide_eq_true (by kernel_rfl)) k0 bel lt0) (trodAll_cons_mk (Below.trod laidOut (by kernel_rfl) (of_decide_eq_true (by kernel_rfl)) k1 bel lt1) trodAll_mk0)), rfl, bel.frame _, fun h => by cases h⟩

theorem over : Rows.headNearRow.holds Try.pinned (OpenSpec.ofChange Rows.headNearSpec) :=
  OpenClaim.holds_of_wide 9 Try.f9 rfl rfl rfl rfl rfl rfl rfl ⟨rfl, rfl, rfl, rfl, rfl⟩ rfl rfl rfl rfl rfl (by kernel_rfl) Try.func9 (by kernel_rfl)
    (of_decide_eq_true (by kernel_rfl)) (by unfold Func.isWrapper; first | (rw [if_pos (by decide +kernel)]; kernel_rfl) | (rw [if_neg (by decide +kernel)]; exact ⟨rfl, rfl⟩))
    (fun os started H enc _ => lifted os started H enc)

theorem proved : Rows.HeadNearSaid := over
#print axioms proved
end Go.Proofs.Ytpleidblnjphmaa.headNear
