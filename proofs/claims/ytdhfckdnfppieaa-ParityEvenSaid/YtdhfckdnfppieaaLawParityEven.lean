/- All rows together with the parity row have parity 0, independent of their order: ParityEven answers true at every slice of slices of ints. Conditions: none beside the row's own. -/
import Derived.Test.YtdhfckdnfppieaaParP
namespace Go.Proofs.Ytdhfckdnfppieaa.parityEven
open Go Go.ChangeShapes Go.WideShapes Go.ChangeAt Go.RowKit
set_option linter.unusedVariables false

theorem rev_snoc {rs : List RV} {n j i0 : Nat} (hl : rs.length = n) (h : i0 + 1 + j = n) : rs.reverse.take (j + 1) = rs.reverse.take j ++ [rs[i0]?.getD noRow] := by
  rw [List.take_succ_eq_append_getElem (by rw [List.length_reverse]; omega), List.getElem_reverse, List.getElem?_eq_getElem (by omega)]
  congr 2
  simp only [Option.getD_some]
  congr 1
  omega

set_option maxHeartbeats 4000000 in
set_option maxRecDepth 100000 in
theorem walk_ok (w : World) (A : Option Addr) (n c : Nat) (rs : List RV) (hA : RRows w A n rs) (hc : n ≤ c) (hz : rowsE (dat rs) = 0) :
    Calls Try.prog 9 #[.slice A n c] w fun e w' => e = .returned (.bool true) ∧ Below w.heap.size w w' := by
  obtain ⟨m, hm⟩ : ∃ m, ((dat rs)[0]?.getD []).length = m := ⟨_, rfl⟩
  have h3 := rowsE_zero.1 hz
  have hlen : (dat rs).length = n := by rw [dat_len, hA.len]
  have hby := rows_bytes hz hm
  have h16 := rows_16 hz hm
  have hn0 : 0 < n := by omega
  have hn8 : n ≤ 8 := by omega
  have hP1 := parI_eq (by omega) hby
  obtain ⟨P, hP⟩ : ∃ P, parI (dat rs) = P := ⟨_, rfl⟩
  have hPb : Bytes m P := by rw [← hP]; exact par_bytes (by omega) hby
  have hbr : ∀ r ∈ dat rs.reverse, Bytes m r := by rw [dat_reverse]; intro r hr; exact hby r (List.mem_reverse.1 hr)
  have hlr : (dat rs.reverse).length = n := by rw [dat_reverse, List.length_reverse, hlen]
  have hPr : parI (dat rs.reverse) = P := by rw [parI_eq (by omega) hbr, dat_reverse, parF_reverse, ← hP1, hP]
  have hzr := rowsE_ok (by omega) (by omega) h16 hbr
  have hba : ∀ r ∈ dat rs.reverse ++ [P], Bytes m r := by
    intro r hr
    rcases List.mem_append.1 hr with hr | hr
    · exact hbr r hr
    · simp at hr; subst hr; exact hPb
  have hPa : parI (dat rs.reverse ++ [P]) = zeros m := by
    rw [parI_eq (by simp) hba, parF_snoc, ← parI_eq (by omega) hbr, hPr, zx_self hPb.1]
  have hza : n < 8 → rowsE (dat rs.reverse ++ [P]) = 0 ∧ ((dat rs.reverse ++ [P])[0]?.getD []).length = m := fun h => rowsE_ok (by simp) (by simp; omega) h16 hba
  have HZ := Lib.hid (And.intro hz hm)
  have HP := Lib.hid hP
  have HPB := Lib.hid hPb
  have HPR := Lib.hid (And.intro hPr hzr)
  have HPA := Lib.hid (And.intro hPa hza)
  have hrl := hA.len
  have HL := Lib.hid hrl
  clear hz hm h3 hlen hby hP1 hP hPb hbr hlr hPr hzr hba hPa hza hrl
  go_enter Try.func9, Try.ntmps9
  go_wp2_with fail
  with_reducible refine (parityFact_any _).mono ?_
  rintro e w1 ⟨rfl, hB⟩
  go_wp2_with fail
  with_reducible refine (of_ok _ _ _ rs _ (hA.below hB) hc HZ.out.1 m HZ.out.2).mono ?_
  rintro e wO ⟨⟨C, cm, rfl, hownM0⟩, kO⟩
  have hBO := hB.trans (kO.mono hB.size)
  rw [HP.out] at hownM0
  have hownM := hownM0.mono (B' := w.heap.size) hB.size
  have hAO := hA.below hBO
  clear hownM0 kO
  go_wp2
  go_loopw [6, 7] (fun v i wr => ∃ (j : Nat) (D : Option Addr) (d : Nat), j ≤ n ∧ i = .int .i64 ((n : Int) - 1 - (j : Int)) ∧ v = .slice D j d ∧ OwnR wr wO.heap.size (.slice D j d) j (rs.reverse.take j) ∧ Below wO.heap.size wO wr) (fun _ i _ => (intOf i + 1).toNat)
  case atStart => exact ⟨0, none, 0, Nat.zero_le _, by simp, rfl, OwnR.nil _ _, Below.refl _ _⟩
  case round =>
    obtain ⟨j, D, d, hj, rfl, rfl, hown, hbel⟩ := hrel
    by_cases hlt : j < n
    · obtain ⟨b, off, rfl, hbl, hcc⟩ := hAO.at_ (by omega)
      obtain ⟨i0, hi0⟩ : ∃ i0 : Nat, (n : Int) - 1 - (j : Int) = (i0 : Int) := ⟨n - 1 - j, by omega⟩
      have hi1 : i0 + 1 + j = n := by omega
      have h1 := (hbel.cell (p := ⟨b, off + i0, none⟩) hbl).trans (hcc i0 (by omega))
      have hsn := rev_snoc (j := j) HL.out hi1
      obtain ⟨r, hr⟩ : ∃ r, rs[i0]?.getD noRow = r := ⟨_, rfl⟩
      rw [hr] at h1 hsn
      obtain ⟨A1, n1, c1, x1⟩ := r
      change wr.cell? ⟨b, off + i0, none⟩ = some (.slice A1 n1 c1) at h1
      have HS := Lib.hid hsn
      have hiI : (i0 : Int) < (n : Int) := by omega
      rw [hi0]
      clear hcc hsn hr hi0
      go_wp2_with (at_builtin; refine wpList_app1R rfl _ _ rfl wO.heap.size j _ _ rfl (hown.alloc _) wr.heap.size (A1, n1, c1, x1) rfl (by simp [RV.val]) (by omega) (by have := hbel.size; simp; omega) ?_; intro A2 c2 w4 hown4 hbel4)
      have hq4 := hbel4 wO.heap.size wO (Nat.le_refl _) (hbel.alloc hbel.size _)
      go_roundw
      case rel => exact ⟨j + 1, A2, c2, by omega, congrArg _ (by go_num), rfl, by rw [HS.out]; exact hown4, hq4⟩
      case measure => simp [intOf]
    · obtain rfl : j = n := by omega
      rw [List.take_of_length_le (by rw [List.length_reverse, HL.out]; omega)] at hown
      have hBr := hBO.trans (hbel.mono hBO.size)
      have hsr : ∀ r ∈ rs.reverse, Sl wr r.1 r.2.1 r.2.2.1 r.2.2.2 := fun r hr => (hAO.2.2.1 r (List.mem_reverse.1 hr)).below hbel
      have hRr := hown.rr (by omega) hsr
      have hcd := hown.cap
      have hMr := hownM.below hbel
      have hMb : ∀ x ∈ P, -9223372036854775808 ≤ x ∧ x ≤ 9223372036854775807 := fun x hx => by have := HPB.out.2 x hx; omega
      have HMB := Lib.hid hMb
      have HSR := Lib.hid hsr
      clear hMb hsr
      go_wp2_with fail
      with_reducible refine (of_ok _ _ _ rs.reverse _ hRr hcd HPR.out.2.1 m HPR.out.2.2).mono ?_
      rintro e w2 ⟨⟨C2, c2, rfl, hown2⟩, k2⟩
      rw [HPR.out.1] at hown2
      have hB2 := hBr.trans (k2.mono hBr.size)
      have hM2 := hMr.below k2
      have hT2 := hown.below k2
      go_wp2_with fail
      with_reducible refine (ints_any _ _ _ _ _ _ P P _ (hown2.rd (by omega) HMB.out) (hM2.rd (by omega) HMB.out)).mono ?_
      rintro e w' ⟨rfl, q, rfl⟩
      rw [show decide (P = P) = true from by simp]
      have hBq := below_drewN_of hB2 q
      by_cases hn8' : j = 8
      · subst hn8'
        go_wp2
        go_ret
        exact ⟨rfl, hBq⟩
      · have hne8 : ((j : Int) == 8) = false := by simp; omega
        have hlt8 : j < 8 := by omega
        have hT3 := hT2.drewN q
        have hM3 : Own (w2.drewN q) w.heap.size (.slice C m cm) m P := hM2
        have hw2 : wO.heap.size ≤ (w2.drewN q).heap.size := Nat.le_trans hbel.size k2.size
        have hBk : Below wr.heap.size wr (w2.drewN q) := below_drewN_of k2 q
        obtain ⟨w3, hw3⟩ : ∃ w3, w2.drewN q = w3 := ⟨_, rfl⟩
        rw [hw3] at hT3 hM3 hw2 hBk hBq ⊢
        clear hM2 hT2 hw3 hown2 k2
        go_wp2_with (at_builtin; refine wpList_app1R rfl _ _ rfl wO.heap.size j _ _ rfl (hT3.alloc _) w3.heap.size (C, m, cm, P) rfl (by simp [RV.val]) (by omega) (by simp; omega) ?_; intro A5 c5 w5 hown5 hbel5)
        have hq5 := hbel5 wO.heap.size wO (Nat.le_refl _) ((hbel.trans (hBk.mono hbel.size)).alloc hw2 _)
        have hB5 := hBO.trans (hq5.mono hBO.size)
        have hM5 := (hownM.below hq5).sl (by omega) HMB.out
        have hR5 := hown5.rr (by omega) (fun r hr => by
          rcases List.mem_append.1 hr with hr | hr
          · exact (hAO.2.2.1 r (List.mem_reverse.1 hr)).below hq5
          · simp only [List.mem_singleton] at hr
            subst hr
            exact hM5)
        have hc5 := hown5.cap
        have hdat : dat (rs.reverse ++ [(C, m, cm, P)]) = dat rs.reverse ++ [P] := dat_append _ _
        have HD := Lib.hid hdat
        clear hdat
        with_reducible refine (of_ok _ _ _ _ _ hR5 hc5 (by rw [HD.out]; exact (HPA.out.2 hlt8).1) m (by rw [HD.out]; exact (HPA.out.2 hlt8).2)).mono ?_
        rintro e w6 ⟨⟨C6, c6, rfl, hown6⟩, k6⟩
        rw [HD.out, HPA.out.1] at hown6
        have hB6 := hB5.trans (k6.mono hB5.size)
        have hmm : ((m : Int) != (m : Int)) = false := by simp
        go_wp2
        go_loop [9] (fun i => ∃ k : Nat, k ≤ m ∧ i = .int .i64 k) (fun i => m - (intOf i).toNat)
        case atStart => exact ⟨0, Nat.zero_le _, rfl⟩
        case round =>
          obtain ⟨k, hk, rfl⟩ := hrel
          by_cases hkm : k < m
          · obtain ⟨g, rfl, hg0, hg1, hcell, hfr⟩ := hown6.at_ (by omega)
            have h1 := hcell k hkm
            rw [show (zeros m)[k]?.getD 0 = 0 from by simp [zeros, hkm]] at h1
            clear hcell hfr
            go_wp2
            go_round
            case rel => exact ⟨k + 1, by omega, by go_num⟩
            case measure => simp [intOf]; omega
          · go_wp2
            go_ret
            exact ⟨rfl, hB6⟩

set_option maxHeartbeats 1000000 in
theorem walk (w : World) (A : Option Addr) (n c : Nat) (rs : List RV) (hA : RRows w A n rs) (hc : n ≤ c) :
    Calls Try.prog 9 #[.slice A n c] w fun e w' => e = .returned (.bool true) ∧ Below w.heap.size w w' := by
  by_cases hz : rowsE (dat rs) = 0
  · exact walk_ok w A n c rs hA hc hz
  · have HZ := Lib.hid hz
    clear hz
    go_enter Try.func9, Try.ntmps9
    go_wp2_with fail
    with_reducible refine (parityFact_any _).mono ?_
    rintro e w2 ⟨rfl, hB⟩
    go_wp2_with fail
    with_reducible refine (of_bad _ _ _ rs _ (hA.below hB) HZ.out).mono ?_
    rintro e w' ⟨rfl, rfl⟩
    go_wp2
    go_ret
    exact ⟨rfl, hB⟩

set_option maxRecDepth 100000 in
theorem lifted (os : Os) (started : os.Started) (H : Type) (enc : TypeId × Value → H) :
    ReturnsInHanded {} Try.checked os 9 .any (Rows.parityEvenSpec.pre6 enc Try.prog Try.f9 Rows.parityEvenRow.domain false) (Rows.parityEvenSpec.post enc Try.prog Try.f9 false true false false) := by
  refine returnsInHanded_of_change (C := Try.checked) own started (by kernel_rfl) Try.func9
    (ChangeSpec.witness6 (enc := enc) (C := Try.checked) false ⟨#[], #[.slice none 0 0], []⟩ 8 (by kernel_rfl) (by kernel_rfl) (by kernel_rfl) (by kernel_rfl)) ?_
  intro W base args ds gs before hval0 hW hcnd _
  have hval : ∀ (j : Nat) t v, Try.f9.params[j]? = some t → args[j]? = some v → Value.okWide Try.prog W .any base t v := hval0
  have hW' := hW
  obtain ⟨p, q, hA0, hV, rfl, hfz, hnd⟩ := hW
  have hA : DataW.TrodAll enc Try.prog W 0 (fun _ => true) true Try.f9.params.toList args.toList ds p := hA0
  rw [Try.params9] at hA hval
  obtain ⟨v0, vs0, d0, ds0, p0, q0, hargs, rfl, rfl, h0, r0⟩ := trodAll_cons hA
  obtain ⟨rfl, rfl, rfl⟩ := trodAll_nil r0
  obtain rfl : args = #[v0] := by cases args; simp_all
  obtain ⟨rfl, rfl⟩ := trodVars_none hV
  have k0 := h0
  have lt0 : ∀ x ∈ p0, x.block < W.heap.size := by obtain ⟨m, hm⟩ := k0; exact DataW.trod_lt m _ _ _ hm
  obtain ⟨A0, n0, c0, rfl⟩ := okWide_slice Try.underlying39 (hval 0 39 v0 rfl rfl)
  obtain ⟨rs0, w0, hc0⟩ : ∃ rs, RRows W A0 n0 rs ∧ n0 ≤ c0 := by
    obtain ⟨fuel, hf⟩ := h0
    rcases Go.Deep.open_int_rows Try.underlying39 Try.underlying29 Try.underlying3 (by kernel_rfl) (by kernel_rfl) hf with ⟨hcs, _⟩ | ⟨x, l, c, AA, LL, CC, ZZ, hcs, _, hl, hm, _, hrow⟩
    · simp [Value.cells] at hcs
      obtain ⟨rfl, rfl, rfl⟩ := hcs
      exact ⟨[], rrows_nil _ _, Nat.le_refl _⟩
    · simp [Value.cells] at hcs
      obtain ⟨rfl, rfl, rfl⟩ := hcs
      exact ⟨_, rrows_of_cells hl hm hrow, hl⟩
  clear hA0 hval0
  refine (walk W A0 n0 c0 rs0 w0 hc0).mono fun e W' ⟨he, bel⟩ => ?_
  subst he
  exact ⟨_, rfl, _, _, _, [], _, [], hW', trodAll_mk1 (shut_bool Try.underlying4 _), (trodAll_cons_mk (Below.trod laidOut (by kernel_rfl) (of_decide_eq_true (by kernel_rfl)) k0 bel lt0) trodAll_mk0), rfl, bel.frame _, fun h => by cases h⟩

theorem over : Rows.parityEvenRow.holds Try.pinned (OpenSpec.ofChange Rows.parityEvenSpec) :=
  OpenClaim.holds_of_wide 9 Try.f9 rfl rfl rfl rfl rfl rfl rfl ⟨rfl, rfl, rfl, rfl, rfl⟩ rfl rfl rfl rfl rfl (by kernel_rfl) Try.func9 (by kernel_rfl)
    (of_decide_eq_true (by kernel_rfl)) (by unfold Func.isWrapper; first | (rw [if_pos (by decide +kernel)]; kernel_rfl) | (rw [if_neg (by decide +kernel)]; exact ⟨rfl, rfl⟩))
    (fun os started H enc _ => lifted os started H enc)

theorem proved : Rows.ParityEvenSaid := over
#print axioms proved
end Go.Proofs.Ytdhfckdnfppieaa.parityEven
