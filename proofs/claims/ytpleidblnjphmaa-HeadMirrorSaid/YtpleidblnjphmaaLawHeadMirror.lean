/- In a mirror a sweep is a sweep: HeadMirror answers true. -/
import Derived.Test.YtpleidblnjphmaaSweepP
import Derived.Test.YtpleidblnjphmaaHeadF
import Derived.Test.YtpleidblnjphmaaOpen
import Derived.Deep.QuietTactic
import Derived.BigQuiet
namespace Go.Proofs.Ytpleidblnjphmaa.headMirror
open Go Go.ChangeShapes Go.WideShapes Go.ChangeAt Go.RowKit
set_option linter.unusedVariables false
set_option maxRecDepth 100000

theorem map_snoc {xs : List Int} {k : Nat} (h : k < xs.length) : (xs.take k).map mir ++ [99 - xs[k]?.getD 0] = (xs.take (k + 1)).map mir := by
  rw [← take_snoc h, List.map_append]; rfl

set_option maxHeartbeats 4000000 in
theorem walk (w : World) (a : Int) (ha : -9223372036854775808 ≤ a ∧ a ≤ 9223372036854775807) (up : Bool) (A : Option Addr) (n c : Nat) (xs : List Int) (hA : Rd w A n xs) (hc : n ≤ c) :
    Calls Try.prog 8 #[.int .i64 a, .bool up, .slice A n c] w fun e w' => e = .returned (.bool true) ∧ Below w.heap.size w w' := by
  by_cases hE : headE a xs = 0
  · obtain ⟨h20, htr, hall⟩ := headE_zero hE
    have hl := hA.len
    have hxr := trk_all hall
    have hn20 : n ≤ 20 := by omega
    have a0 := htr.1
    have a1 := htr.2
    have H0 := Lib.hid (And.intro hl (And.intro hxr (And.intro hE htr)))
    clear hE hl hxr hall htr h20 ha
    go_enter Try.func8, Try.ntmps8
    go_wp2_with fail
    with_reducible refine (headFact_any _).mono ?_
    rintro e w1 ⟨rfl, hB1⟩
    have hA1 := hA.below hB1
    have hsw := sweep_ok A n c xs a up w1 hA1 H0.out.2.2.1
    have HSW := Lib.hid hsw
    clear hsw
    go_wp2_with fail
    with_reducible refine HSW.out.mono ?_
    rintro e w2 ⟨A', c', rfl, hown, hB2⟩
    have hB := hB1.trans (hB2.mono hB1.size)
    have hA2 := hA.below hB
    clear HSW hA1 hB1 hB2
    obtain ⟨F, hF⟩ : ∃ F, farI a (sweepL a up xs) = F := ⟨_, rfl⟩
    rw [hF]
    have HF := Lib.hid hF
    clear hF
    go_wp2
    go_loopw [11, 12] (fun v i wr => ∃ k : Nat, ∃ A3 c3, k ≤ n ∧ i = .int .i64 k ∧ v = .slice A3 k c3 ∧ Own wr w2.heap.size v k ((xs.take k).map mir) ∧ Below w2.heap.size w2 wr) (fun _ i _ => n - (intOf i).toNat)
    case atStart => exact ⟨0, none, 0, Nat.zero_le _, rfl, rfl, Own.nil _ _, Below.refl _ _⟩
    case round =>
      obtain ⟨k, A3, c3, hk, rfl, rfl, ho, hBr⟩ := hrel
      by_cases hlt : k < n
      · have hkI : (k : Int) < (n : Int) := by omega
        obtain ⟨b, off, rfl, hbl, hcc⟩ := (hA2.below hBr).at_ (by omega)
        have g1 := hcc k hlt
        have hsn := map_snoc (xs := xs) (k := k) (by rw [H0.out.1]; exact hlt)
        have ht := trk_get H0.out.2.1 k
        obtain ⟨t, hte⟩ : ∃ t, xs[k]?.getD 0 = t := ⟨_, rfl⟩
        rw [hte] at g1 hsn ht
        obtain ⟨t0, t1⟩ := ht
        have HSN := Lib.hid hsn
        have hbs := hBr.size
        clear hcc hte hsn
        go_wp2_with (at_builtin; refine wpList_app1 rfl _ _ rfl w2.heap.size k _ _ rfl (ho.alloc _) wr.heap.size (99 - t) rfl (by simp) (by omega) (by simp; omega) ?_; intro A4 c4 w4 hown4 hbel4)
        go_roundw
        case rel => exact ⟨k + 1, A4, c4, by omega, by go_num, rfl, by rw [← HSN.out]; exact hown4, hbel4 _ _ (Nat.le_refl _) (hBr.alloc hBr.size _)⟩
        case measure => simp [intOf]; omega
      · obtain rfl : k = n := by omega
        have hkI : ¬ (k : Int) < (k : Int) := by omega
        rw [List.take_of_length_le (by rw [H0.out.1]; exact Nat.le_refl _)] at ho
        have hrt : Rd wr A3 k (xs.map mir) := ho.rd (by omega) (fun x hx => by
          obtain ⟨y, hy, rfl⟩ := List.mem_map.1 hx
          have := H0.out.2.1 y hy
          unfold Trk at this; unfold mir; omega)
        have hsw := sweep_ok A3 k c3 (xs.map mir) (99 - a) (!up) wr hrt (headE_mirror H0.out.2.2.1)
        rw [show (99 - a : Int) = mir a from rfl, sweepL_mirror, farI_mirror, HF.out, show mir a = (99 - a : Int) from rfl] at hsw
        have HSW := Lib.hid hsw
        have hs0 : Own wr w1.heap.size (.slice A' k c') k (sweepL a up xs) := hown.below hBr
        clear hsw hrt ho
        go_wp2_with fail
        with_reducible refine HSW.out.mono ?_
        rintro e w5 ⟨A5, c5, rfl, hown5, hB5⟩
        have hs5 := hs0.below hB5
        have hB6 := (hB.trans (hBr.mono hB.size)).trans (hB5.mono (by have := hB.size; have := hBr.size; omega))
        clear HSW hs0
        have hsm : ∀ x ∈ sweepL a up xs, Trk x := fun x hx => H0.out.2.1 x ((sweepL_perm a up xs x).1 hx)
        have hrs : Rd w5 A' k (sweepL a up xs) := hs5.rd (by omega) (fun x hx => by have := hsm x hx; unfold Trk at this; omega)
        have hrm : Rd w5 A5 k ((sweepL a up xs).map mir) := hown5.rd (by omega) (fun x hx => by
          obtain ⟨y, hy, rfl⟩ := List.mem_map.1 hx
          have := hsm y hy
          unfold Trk at this; unfold mir; omega)
        have hsl := sweepL_length a up xs
        rw [H0.out.1] at hsl
        obtain ⟨L, hL⟩ : ∃ L, sweepL a up xs = L := ⟨_, rfl⟩
        rw [hL] at hrs hrm hsm hsl
        have HL := Lib.hid (And.intro hsm hsl)
        clear hs5 hown5 hsm hsl hL HF hown hB hBr hB5 hA2 hA
        have hFF : (F != F) = false := by simp
        have hkk : ((k : Int) != (k : Int)) = false := by simp
        go_wp2
        go_loopw [16] (fun i wr2 => ∃ j : Nat, j ≤ k ∧ i = .int .i64 j ∧ ∃ q, wr2 = w5.drewN q) (fun i _ => k - (intOf i).toNat)
        case atStart => exact ⟨0, Nat.zero_le _, rfl, 0, rfl⟩
        case round =>
          obtain ⟨j, hj, rfl, q, rfl⟩ := hrel
          by_cases hjl : j < k
          · have hjI : (j : Int) < (k : Int) := by omega
            obtain ⟨b, off, rfl, _, hcc⟩ := hrs.at_ (by omega)
            obtain ⟨b2, off2, rfl, _, hcc2⟩ := hrm.at_ (by omega)
            have g1 := hcc j hjl
            have g2 := hcc2 j hjl
            have hg : (L.map mir)[j]?.getD 0 = 99 - L[j]?.getD 0 := by
              rw [List.getElem?_map, List.getElem?_eq_getElem (by rw [HL.out.2]; exact hjl)]; rfl
            have ht := trk_get HL.out.1 j
            rw [hg] at g2
            obtain ⟨t, hte⟩ : ∃ t, L[j]?.getD 0 = t := ⟨_, rfl⟩
            rw [hte] at g1 g2 ht
            obtain ⟨t0, t1⟩ := ht
            have htt : (t != 99 - (99 - t)) = false := by simp; omega
            have htt2 : (99 : Int) - (99 - t) = t := by omega
            clear hcc hcc2 hg hte
            go_wp2
            go_quiet (fail)
            go_wp2
            go_roundw
            case rel => exact ⟨j + 1, by omega, by go_num, _, rfl⟩
            case measure => simp [intOf]; omega
          · obtain rfl : j = k := by omega
            have hjI : ¬ (j : Int) < (j : Int) := by omega
            go_wp2
            go_ret
            exact ⟨rfl, below_drewN_of hB6 _⟩
  · have hs := fun wx (h : Rd wx A n xs) => sweep_bad A n c xs a up wx h hE
    obtain ⟨E, hEE⟩ : ∃ E, headE a xs = E := ⟨_, rfl⟩
    rw [hEE] at hs
    have HS := Lib.hid hs
    clear hs hEE hE
    go_enter Try.func8, Try.ntmps8
    go_wp2_with fail
    with_reducible refine (headFact_any _).mono ?_
    rintro e w1 ⟨rfl, hB1⟩
    have hA1 := hA.below hB1
    have H2 := Lib.hid (HS.out w1 hA1)
    clear HS
    go_wp2_with fail
    with_reducible refine H2.out.mono ?_
    rintro e w2 ⟨rfl, rfl⟩
    go_wp2
    go_ret
    exact ⟨rfl, hB1⟩

set_option maxRecDepth 100000 in
theorem lifted (os : Os) (started : os.Started) (H : Type) (enc : TypeId × Value → H) :
    ReturnsInHanded {} Try.checked os 8 .any (Rows.headMirrorSpec.pre6 enc Try.prog Try.f8 Rows.headMirrorRow.domain false) (Rows.headMirrorSpec.post enc Try.prog Try.f8 false true false false) := by
  refine returnsInHanded_of_change (C := Try.checked) own started (by kernel_rfl) Try.func8
    (ChangeSpec.witness6 (enc := enc) (C := Try.checked) false ⟨#[], #[.int .i64 0, .bool false, .slice none 0 0], []⟩ 8 (by kernel_rfl) (by kernel_rfl) (by kernel_rfl) (by kernel_rfl)) ?_
  intro W base args ds gs before hval0 hW hcnd _
  have hval : ∀ (j : Nat) t v, Try.f8.params[j]? = some t → args[j]? = some v → Value.okWide Try.prog W .any base t v := hval0
  have hW' := hW
  obtain ⟨p, q, hA0, hV, rfl, hfz, hnd⟩ := hW
  have hA : DataW.TrodAll enc Try.prog W 0 (fun _ => true) true Try.f8.params.toList args.toList ds p := hA0
  rw [Try.params8] at hA hval
  obtain ⟨v0, vs0, d0, ds0, p0, q0, hargs, rfl, rfl, h0, r0⟩ := trodAll_cons hA
  obtain ⟨v1, vs1, d1, ds1, p1, q1, rfl, rfl, rfl, h1, r1⟩ := trodAll_cons r0
  obtain ⟨v2, vs2, d2, ds2, p2, q2, rfl, rfl, rfl, h2, r2⟩ := trodAll_cons r1
  obtain ⟨rfl, rfl, rfl⟩ := trodAll_nil r2
  obtain rfl : args = #[v0, v1, v2] := by cases args; simp_all
  obtain ⟨rfl, rfl⟩ := trodVars_none hV
  have k0 := h0
  have lt0 : ∀ x ∈ p0, x.block < W.heap.size := by obtain ⟨m, hm⟩ := k0; exact DataW.trod_lt m _ _ _ hm
  obtain ⟨a0, rfl, rfl, rfl, w0⟩ := open_int Try.underlying3 (hval 0 3 v0 rfl rfl) h0
  have k1 := h1
  have lt1 : ∀ x ∈ p1, x.block < W.heap.size := by obtain ⟨m, hm⟩ := k1; exact DataW.trod_lt m _ _ _ hm
  obtain ⟨a1, rfl, rfl, rfl⟩ := open_bool Try.underlying4 (hval 1 4 v1 rfl rfl) h1
  have k2 := h2
  have lt2 : ∀ x ∈ p2, x.block < W.heap.size := by obtain ⟨m, hm⟩ := k2; exact DataW.trod_lt m _ _ _ hm
  obtain ⟨A2, n2, c2, rfl⟩ := okWide_slice Try.underlying22 (hval 2 22 v2 rfl rfl)
  obtain ⟨xs2, w2, hc2⟩ : ∃ xs, Rd W A2 n2 xs ∧ n2 ≤ c2 := by
    obtain ⟨fuel, hf⟩ := h2
    rcases open_ints Try.underlying22 Try.underlying3 (by kernel_rfl) hf with ⟨hcs, _⟩ | ⟨x, l, c, zs, hcs, _, hl, hm, hz, _, hcell, hwz⟩
    · simp [Value.cells] at hcs
      obtain ⟨rfl, rfl, rfl⟩ := hcs
      exact ⟨[], Rd.nil _ _, Nat.le_refl _⟩
    · simp [Value.cells] at hcs
      obtain ⟨rfl, rfl, rfl⟩ := hcs
      exact ⟨_, rd_of_cells (by simp at hz; omega) hl hm hcell hwz, hl⟩
  clear hA0 hval0
  refine (walk W a0 (wf_range w0) a1 A2 n2 c2 xs2 w2 hc2).mono fun e W' ⟨he, bel⟩ => ?_
  subst he
  exact ⟨_, rfl, _, _, _, [], _, [], hW', trodAll_mk1 (shut_bool Try.underlying4 _), (trodAll_cons_mk (Below.trod laidOut (by kernel_rfl) (of_decide_eq_true (by kernel_rfl)) k0 bel lt0) (trodAll_cons_mk (Below.trod laidOut (by kernel_rfl) (of_decide_eq_true (by kernel_rfl)) k1 bel lt1) (trodAll_cons_mk (Below.trod laidOut (by kernel_rfl) (of_decide_eq_true (by kernel_rfl)) k2 bel lt2) trodAll_mk0))), rfl, bel.frame _, fun h => by cases h⟩

theorem over : Rows.headMirrorRow.holds Try.pinned (OpenSpec.ofChange Rows.headMirrorSpec) :=
  OpenClaim.holds_of_wide 8 Try.f8 rfl rfl rfl rfl rfl rfl rfl ⟨rfl, rfl, rfl, rfl, rfl⟩ rfl rfl rfl rfl rfl (by kernel_rfl) Try.func8 (by kernel_rfl)
    (of_decide_eq_true (by kernel_rfl)) (by unfold Func.isWrapper; first | (rw [if_pos (by decide +kernel)]; kernel_rfl) | (rw [if_neg (by decide +kernel)]; exact ⟨rfl, rfl⟩))
    (fun os started H enc _ => lifted os started H enc)

theorem proved : Rows.HeadMirrorSaid := over
#print axioms proved
end Go.Proofs.Ytpleidblnjphmaa.headMirror
