/- The parity row can be updated from the old and new contents of one row: ParitySmall answers true at every slice of slices of ints, int, slice of ints. Conditions: none beside the row's own. -/
import Derived.Test.YtdhfckdnfppieaaParSmall
import Derived.Test.YtdhfckdnfppieaaIn
namespace Go.Proofs.Ytdhfckdnfppieaa.paritySmall
open Go Go.ChangeShapes Go.WideShapes Go.ChangeAt Go.RowKit
set_option linter.unusedVariables false

theorem dat_set (rs : List RV) (k : Nat) (r : RV) : dat (rs.set k r) = (dat rs).set k r.2.2.2 := by simp [dat, List.map_set]
theorem parF_set {m : Nat} {l : List (List Int)} {k : Nat} (hk : k < l.length) (hl : ∀ r ∈ l, Bytes m r) {z : List Int} (hz : Bytes m z) :
    parF m (l.set k z) = zx (zx (parF m l) l[k]) z := by
  have hx : Bytes m l[k] := hl _ (List.getElem_mem hk)
  have hD : ∀ r ∈ l.drop (k + 1), Bytes m r := fun r hr => hl r (List.mem_of_mem_drop hr)
  have hlen : (l.take k).length = k := by rw [List.length_take]; omega
  have e1 : l = l.take k ++ l[k] :: l.drop (k + 1) := by
    rw [← List.drop_eq_getElem_cons hk, List.take_append_drop]
  have e2 : l.set k z = l.take k ++ z :: l.drop (k + 1) := by
    conv => lhs; rw [e1]
    rw [List.set_append_right _ _ (by omega), hlen, Nat.sub_self, List.set_cons_zero]
  have p1 : parF m l = zx (parF m (l.take k)) (zx l[k] (parF m (l.drop (k + 1)))) := by
    conv => lhs; rw [e1]
    rw [parF_append _ _ (by intro r hr; rcases List.mem_cons.1 hr with rfl | hr; exact hx; exact hD r hr), parF_cons]
  rw [e2, parF_append _ _ (by intro r hr; rcases List.mem_cons.1 hr with rfl | hr; exact hz; exact hD r hr), parF_cons, p1]
  have hDb := parF_bytes hD
  generalize parF m (l.take k) = T
  generalize parF m (l.drop (k + 1)) = D at *
  rw [zx_assoc T, zx_comm (zx l[k] D) l[k], ← zx_assoc l[k], zx_self hx.1, zx_zeros hDb, zx_assoc, zx_comm D z]
theorem mem_set_self {l : List (List Int)} {k : Nat} (hk : k < l.length) (z : List Int) : z ∈ l.set k z := by
  exact List.mem_iff_getElem.2 ⟨k, by simpa using hk, by simp⟩
theorem three_bad {m : Nat} {P x z : List Int} (hP : Bytes m P) (h : ¬ (bytesE z 16 = 0 ∧ z.length = m)) : rowsE [P, x, z] ≠ 0 := by
  intro h0
  have h1 := (rowsE_zero.1 h0).2.2 z (by simp)
  have h2 : (([P, x, z] : List (List Int))[0]?.getD []).length = m := hP.1
  rw [h2] at h1
  exact h h1
theorem row_bad {l : List (List Int)} {z : List Int} (hz : z ∈ l) (h : bytesE z 16 ≠ 0) : rowsE l ≠ 0 := fun h0 => h ((rowsE_zero.1 h0).2.2 z hz).1

set_option maxHeartbeats 4000000 in
set_option maxRecDepth 100000 in
theorem walk_ok (w : World) (b off n c : Nat) (rs : List RV) (hA : RRows w (some ⟨b, off, none⟩) n rs) (hbl : b < w.heap.size) (hcc : ∀ k, k < n → w.cell? ⟨b, off + k, none⟩ = some ((rs[k]?.getD noRow).val)) (hc : n ≤ c) (k : Nat) (hk : k < n)
    (Z : Option Addr) (l e : Nat) (zs : List Int) (hZs : Sl w Z l e zs) (hz : rowsE (dat rs) = 0) :
    Calls Try.prog 10 #[.slice (some ⟨b, off, none⟩) n c, .int .i64 k, .slice Z l e] w fun e w' => e = .returned (.bool true) ∧ Below w.heap.size w w' := by
  obtain ⟨m, hm⟩ : ∃ m, ((dat rs)[0]?.getD []).length = m := ⟨_, rfl⟩
  have h3 := rowsE_zero.1 hz
  have hlen : (dat rs).length = n := by rw [dat_len, hA.len]
  have hby := rows_bytes hz hm
  have h16 := rows_16 hz hm
  have hn8 : n ≤ 8 := by omega
  have hsk := hA.sl hk
  have hdk := dat_get rs k
  have hck := hcc k hk
  obtain ⟨r, hr⟩ : ∃ r, rs[k]?.getD noRow = r := ⟨_, rfl⟩
  rw [hr] at hsk hdk hck
  obtain ⟨A1, n1, c1, x1⟩ := r
  change w.cell? ⟨b, off + k, none⟩ = some (.slice A1 n1 c1) at hck
  change Sl w A1 n1 c1 x1 at hsk
  change (dat rs)[k]?.getD [] = x1 at hdk
  have hkl : k < (dat rs).length := by omega
  rw [List.getElem?_eq_getElem hkl] at hdk
  change (dat rs)[k] = x1 at hdk
  have hx1 : Bytes m x1 := by rw [← hdk]; exact hby _ (List.getElem_mem _)
  have hn1 : n1 = m := by rw [← hsk.1.len, hx1.1]
  subst hn1
  have hP1 := parI_eq (by omega) hby
  obtain ⟨P, hP⟩ : ∃ P, parI (dat rs) = P := ⟨_, rfl⟩
  have hPb : Bytes n1 P := by rw [← hP]; exact par_bytes (by omega) hby
  have hdn : dat (rs.set k (Z, l, e, zs)) = (dat rs).set k zs := dat_set _ _ _
  have hzl : zs.length = l := hZs.1.len
  have hzP := parF_set (z := zs) hkl hby
  rw [hdk, ← hP1, hP] at hzP
  have hall : Bytes n1 zs → ∀ r ∈ (dat rs).set k zs, Bytes n1 r := by
    intro h r hr'
    rcases List.mem_or_eq_of_mem_set hr' with h' | h'
    · exact hby r h'
    · subst h'; exact h
  have hself := mem_set_self hkl zs
  have hZl := hzl
  have hsl : ((dat rs).set k zs).length = n := by simpa using hlen
  have HZ := Lib.hid (And.intro hz hm)
  have HP := Lib.hid hP
  have HPB := Lib.hid hPb
  have HX1 := Lib.hid hx1
  have HSK := Lib.hid hsk
  have HZS := Lib.hid hZs
  have HDN := Lib.hid hdn
  have HALL := Lib.hid (And.intro hall (And.intro hzP (And.intro hself hsl)))
  have hPr : ∀ x ∈ P, -9223372036854775808 ≤ x ∧ x ≤ 9223372036854775807 := fun x hx => by have := hPb.2 x hx; omega
  have HPR := Lib.hid hPr
  have HCK := Lib.hid hck
  have hrl := hA.len
  have HRL := Lib.hid hrl
  clear hz hm h3 hlen hby hsk hdk hck hr hx1 hP1 hP hPb hdn hzP hall hself hsl hPr hcc hkl hZs hrl
  have k0 : (0 : Int) ≤ (k : Int) := by omega
  have k1 : (k : Int) ≤ (n : Int) - 1 := by omega
  have hkI : (k : Int) < (n : Int) := by omega
  go_enter Try.func10, Try.ntmps10
  go_wp2_with fail
  with_reducible refine (parityFact_any _).mono ?_
  rintro e w1 ⟨rfl, hB⟩
  go_wp2_with fail
  with_reducible refine (of_ok _ _ _ rs _ (hA.below hB) hc HZ.out.1 n1 HZ.out.2).mono ?_
  rintro e wO ⟨⟨C, cm, rfl, hownM0⟩, kO⟩
  have hBO := hB.trans (kO.mono hB.size)
  rw [HP.out] at hownM0
  have hownM := hownM0.mono (B' := w.heap.size) hB.size
  have hAO := hA.below hBO
  clear hownM0 kO
  go_wp2_with fail
  with_reducible refine (in_yes _ _ _ _ k0 k1).mono ?_
  rintro e w' ⟨rfl, rfl⟩
  go_wp2_with (at_builtin; refine wpList_appLR rfl _ _ rfl wO.heap.size 0 _ [] rfl (OwnR.nil _ _) ⟨b, off, none⟩ n c rs rfl hAO (by omega) (Nat.le_refl _) ?_; intro A' c2 w3 hown3 hbel3; have hq3 := hbel3 wO.heap.size wO (Nat.le_refl _) (Below.refl _ _); rw [Nat.zero_add] at hown3 ⊢; rw [List.nil_append] at hown3; obtain ⟨g, rfl, hg0, hg1, hcell3, hfr3⟩ := hown3.at_ (by omega); have cc := hcell3 k hk; have f1 := hfr3 k; clear hbel3 hcell3 hfr3)
  have hown4 := hown3.set k (Z, l, e, zs)
  have hq4 := hq3.setCell (p := ⟨g, k, none⟩) hg0 (.slice Z l e)
  change OwnR (w3.setCell ⟨g, k, none⟩ (.slice Z l e)) wO.heap.size _ n _ at hown4
  obtain ⟨w4, hw4⟩ : ∃ w4, w3.setCell ⟨g, k, none⟩ (.slice Z l e) = w4 := ⟨_, rfl⟩
  rw [hw4] at hown4 hq4 ⊢
  clear hw4 cc f1 hown3 hq3
  have hB4 := hBO.trans (hq4.mono hBO.size)
  have hM4 := hownM.below hq4
  have hSZ4 := HZS.out.below hB4
  have hSK4 := HSK.out.below hB4
  have hSP4 := hM4.sl (by omega) HPR.out
  have hR4 := hown4.rr (by omega) (fun r hr => by
    rcases List.mem_or_eq_of_mem_set hr with h | h
    · exact (hAO.2.2.1 r h).below hq4
    · subst h; exact hSZ4)
  have hc4 := hown4.cap
  have hzl := hZl
  by_cases hlm : l = n1
  · subst hlm
    by_cases hzb : bytesE zs 16 = 0
    · have hzB : Bytes l zs := ⟨hzl, allB_mem.1 (bytesE_zero.1 hzb).2⟩
      obtain ⟨hall, hzP, hself, hsl⟩ := HALL.out
      have hall' := hall hzB
      have hok := rowsE_ok (by omega) (by omega) h16 hall'
      have hpi := parI_eq (by omega) hall'
      rw [hzP hzB] at hpi
      have HO := Lib.hid hok
      have HPI := Lib.hid hpi
      have HZB := Lib.hid hzB
      have hQb := zip_bytes (zip_bytes HPB.out HX1.out) hzB
      obtain ⟨Q, hQ⟩ : ∃ Q, zx (zx P x1) zs = Q := ⟨_, rfl⟩
      have hQr : ∀ x ∈ Q, -9223372036854775808 ≤ x ∧ x ≤ 9223372036854775807 := fun x hx => by rw [← hQ] at hx; have := hQb.2 x hx; omega
      have HQ := Lib.hid hQ
      have HQR := Lib.hid hQr
      clear hzb hzB hall hzP hself hsl hall' hok hpi hQb hQ hQr
      go_wp2_with fail
      with_reducible refine (of_ok _ _ _ _ _ hR4 hc4 (by rw [HDN.out]; exact HO.out.1) l (by rw [HDN.out]; exact HO.out.2)).mono ?_
      rintro e w5 ⟨⟨C5, c5, rfl, hown5⟩, k5⟩
      rw [HDN.out, HPI.out, HQ.out] at hown5
      have hB5 := hB4.trans (k5.mono hB4.size)
      have hl5 := (hB5.cell (p := ⟨b, off + k, none⟩) hbl).trans HCK.out
      go_wp2_with fail
      with_reducible refine (small_ok _ _ _ _ _ _ _ P x1 zs _ (hSP4.below k5) (hSK4.below k5) (hSZ4.below k5) h16 HPB.out HX1.out HZB.out).mono ?_
      rintro e w6 ⟨⟨C6, c6, rfl, hown6⟩, k6⟩
      rw [HQ.out] at hown6
      have hB6 := hB5.trans (k6.mono hB5.size)
      have hneq : ((l : Int) != (l : Int)) = false := by simp
      go_wp2_with fail
      with_reducible refine (ints_any _ _ _ _ _ _ Q Q _ (hown6.rd (by omega) HQR.out) ((hown5.below k6).rd (by omega) HQR.out)).mono ?_
      rintro e w' ⟨rfl, q, rfl⟩
      rw [show decide (Q = Q) = true from by simp]
      go_wp2
      go_ret
      exact ⟨rfl, below_drewN_of hB6 q⟩
    · have h3b := three_bad (x := x1) HPB.out (fun h => hzb h.1)
      have hrb := row_bad (HALL.out.2.2.1) hzb
      have H3 := Lib.hid h3b
      have HRB := Lib.hid hrb
      clear h3b hrb hzb
      go_wp2_with fail
      with_reducible refine (of_bad _ _ _ _ _ hR4 (by rw [HDN.out]; exact HRB.out)).mono ?_
      rintro e w' ⟨rfl, rfl⟩
      have hl5 := (hB4.cell (p := ⟨b, off + k, none⟩) hbl).trans HCK.out
      go_wp2_with fail
      with_reducible refine (small_bad _ _ _ _ _ _ _ _ _ P x1 zs _ hSP4 hSK4 hSZ4 H3.out).mono ?_
      rintro e w6 ⟨rfl, k6⟩
      have hB6 := hB4.trans (k6.mono hB4.size)
      have hneq : ((l : Int) != (l : Int)) = false := by simp
      go_wp2
      go_ret
      exact ⟨rfl, hB6⟩
  · have h3b := three_bad (x := x1) HPB.out (z := zs) (fun h => hlm (by rw [← hzl]; exact h.2))
    have H3 := Lib.hid h3b
    have hneq : ((l : Int) != (n1 : Int)) = true := by simp; omega
    clear h3b
    by_cases hE : rowsE (dat (rs.set k (Z, l, e, zs))) = 0
    · have HE := Lib.hid hE
      clear hE
      go_wp2_with fail
      with_reducible refine (of_ok _ _ _ _ _ hR4 hc4 HE.out _ rfl).mono ?_
      rintro e' w5 ⟨⟨C5, c5, rfl, hown5⟩, k5⟩
      have hB5 := hB4.trans (k5.mono hB4.size)
      have hl5 := (hB5.cell (p := ⟨b, off + k, none⟩) hbl).trans HCK.out
      clear hown5
      go_wp2_with fail
      with_reducible refine (small_bad _ _ _ _ _ _ _ _ _ P x1 zs _ (hSP4.below k5) (hSK4.below k5) (hSZ4.below k5) H3.out).mono ?_
      rintro e' w6 ⟨rfl, k6⟩
      have hB6 := hB5.trans (k6.mono hB5.size)
      go_wp2
      go_ret
      exact ⟨rfl, hB6⟩
    · have HE := Lib.hid hE
      clear hE
      go_wp2_with fail
      with_reducible refine (of_bad _ _ _ _ _ hR4 HE.out).mono ?_
      rintro e' w' ⟨rfl, rfl⟩
      have hl5 := (hB4.cell (p := ⟨b, off + k, none⟩) hbl).trans HCK.out
      go_wp2_with fail
      with_reducible refine (small_bad _ _ _ _ _ _ _ _ _ P x1 zs _ hSP4 hSK4 hSZ4 H3.out).mono ?_
      rintro e' w6 ⟨rfl, k6⟩
      have hB6 := hB4.trans (k6.mono hB4.size)
      go_wp2
      go_ret
      exact ⟨rfl, hB6⟩

set_option maxHeartbeats 1000000 in
theorem walk (w : World) (A : Option Addr) (n c : Nat) (rs : List RV) (hA : RRows w A n rs) (hc : n ≤ c) (k : Int) (hk : -9223372036854775808 ≤ k ∧ k ≤ 9223372036854775807)
    (Z : Option Addr) (l e : Nat) (zs : List Int) (hZs : Sl w Z l e zs) :
    Calls Try.prog 10 #[.slice A n c, .int .i64 k, .slice Z l e] w fun e w' => e = .returned (.bool true) ∧ Below w.heap.size w w' := by
  by_cases hz : rowsE (dat rs) = 0
  · by_cases hin : 0 ≤ k ∧ k ≤ (n : Int) - 1
    · obtain ⟨j, rfl⟩ := Int.eq_ofNat_of_zero_le hin.1
      obtain ⟨b, off, rfl, hbl, hcc⟩ := hA.at_ (by omega)
      exact walk_ok w b off n c rs hA hbl hcc hc j (by omega) Z l e zs hZs hz
    · have HZ := Lib.hid hz
      have hn8 : n ≤ 8 := by have := (rowsE_zero.1 hz).2.1; rw [dat_len, hA.len] at this; exact this
      clear hz
      go_enter Try.func10, Try.ntmps10
      go_wp2_with fail
      with_reducible refine (parityFact_any _).mono ?_
      rintro e w2 ⟨rfl, hB⟩
      go_wp2_with fail
      with_reducible refine (of_ok _ _ _ rs _ (hA.below hB) hc HZ.out _ rfl).mono ?_
      rintro e' wO ⟨⟨C, cm, rfl, hownM0⟩, kO⟩
      have hBO := hB.trans (kO.mono hB.size)
      go_wp2_with fail
      with_reducible refine (in_no _ _ _ _ (by omega)).mono ?_
      rintro e' w' ⟨rfl, rfl⟩
      go_wp2
      go_ret
      exact ⟨rfl, hBO⟩
  · have HZ := Lib.hid hz
    clear hz
    go_enter Try.func10, Try.ntmps10
    go_wp2_with fail
    with_reducible refine (parityFact_any _).mono ?_
    rintro e w3 ⟨rfl, hB⟩
    go_wp2_with fail
    with_reducible refine (of_bad _ _ _ rs _ (hA.below hB) HZ.out).mono ?_
    rintro e w' ⟨rfl, rfl⟩
    go_wp2
    go_ret
    exact ⟨rfl, hB⟩

set_option maxRecDepth 100000 in
theorem lifted (os : Os) (started : os.Started) (H : Type) (enc : TypeId × Value → H) :
    ReturnsInHanded {} Try.checked os 10 .any (Rows.paritySmallSpec.pre6 enc Try.prog Try.f10 Rows.paritySmallRow.domain false) (Rows.paritySmallSpec.post enc Try.prog Try.f10 false true false false) := by
  refine returnsInHanded_of_change (C := Try.checked) own started (by kernel_rfl) Try.func10
    (ChangeSpec.witness6 (enc := enc) (C := Try.checked) false ⟨#[], #[.slice none 0 0, .int .i64 0, .slice none 0 0], []⟩ 8 (by kernel_rfl) (by kernel_rfl) (by kernel_rfl) (by kernel_rfl)) ?_
  intro W base args ds gs before hval0 hW hcnd _
  have hval : ∀ (j : Nat) t v, Try.f10.params[j]? = some t → args[j]? = some v → Value.okWide Try.prog W .any base t v := hval0
  have hW' := hW
  obtain ⟨p, q, hA0, hV, rfl, hfz, hnd⟩ := hW
  have hA : DataW.TrodAll enc Try.prog W 0 (fun _ => true) true Try.f10.params.toList args.toList ds p := hA0
  rw [Try.params10] at hA hval
  obtain ⟨v0, vs0, d0, ds0, p0, q0, hargs, rfl, rfl, h0, r0⟩ := trodAll_cons hA
  obtain ⟨v1, vs1, d1, ds1, p1, q1, rfl, rfl, rfl, h1, r1⟩ := trodAll_cons r0
  obtain ⟨v2, vs2, d2, ds2, p2, q2, rfl, rfl, rfl, h2, r2⟩ := trodAll_cons r1
  obtain ⟨rfl, rfl, rfl⟩ := trodAll_nil r2
  obtain rfl : args = #[v0, v1, v2] := by cases args; simp_all
  obtain ⟨rfl, rfl⟩ := trodVars_none hV
  have k0 := h0
  have lt0 : ∀ x ∈ p0, x.block < W.heap.size := by obtain ⟨m, hm⟩ := k0; exact DataW.trod_lt m _ _ _ hm
  obtain ⟨A0, n0, c0, rfl⟩ := okWide_slice Try.underlying39 (hval 0 39 v0 rfl rfl)
  obtain ⟨rs0, w0, hc0⟩ : ∃ rs, RRows W A0 n0 rs ∧ n0 ≤ c0 := by
    obtain ⟨fuel, hf⟩ := h0
    rcases Go.Deep.open_int_rows Try.underlying39 Try.underlying29 Try.underlying3 (by kernel_rfl) (by kernel_rfl) hf with ⟨hcs, _⟩ | ⟨x, l, c, AA, LL, CC, ZZ, hcs, _, hl, hm, _, hrow⟩
    · simp [Value.cells] at hcs
      obtain ⟨rfl, rfl, rfl⟩ := hcs
      exact ⟨[], rrows_nil _ _, Nat.le_refl _⟩
    · simp [Value.cells] at hcs
      obtain ⟨rfl, rfl, rfl⟩ := hcs
      exact ⟨_, rrows_of_cells hl hm hrow, hl⟩
  have k1 := h1
  have lt1 : ∀ x ∈ p1, x.block < W.heap.size := by obtain ⟨m, hm⟩ := k1; exact DataW.trod_lt m _ _ _ hm
  obtain ⟨a1, rfl, rfl, rfl, w1⟩ := open_int Try.underlying3 (hval 1 3 v1 rfl rfl) h1
  have k2 := h2
  have lt2 : ∀ x ∈ p2, x.block < W.heap.size := by obtain ⟨m, hm⟩ := k2; exact DataW.trod_lt m _ _ _ hm
  obtain ⟨A2, n2, c2, rfl⟩ := okWide_slice Try.underlying29 (hval 2 29 v2 rfl rfl)
  obtain ⟨xs2, w2⟩ : ∃ xs, Sl W A2 n2 c2 xs := by
    obtain ⟨fuel, hf⟩ := h2
    rcases open_ints Try.underlying29 Try.underlying3 (by kernel_rfl) hf with ⟨hcs, _⟩ | ⟨x, l, c, zs, hcs, _, hl, hm, hz, _, hcell, hwz⟩
    · simp [Value.cells] at hcs
      obtain ⟨rfl, rfl, rfl⟩ := hcs
      exact ⟨[], Rd.nil _ _, Nat.le_refl _, fun _ => rfl⟩
    · simp [Value.cells] at hcs
      obtain ⟨rfl, rfl, rfl⟩ := hcs
      exact ⟨_, rd_of_cells (by simp at hz; omega) hl hm hcell hwz, hl, fun h => by cases h⟩
  clear hA0 hval0
  refine (walk W A0 n0 c0 rs0 w0 hc0 a1 (wf_range w1) A2 n2 c2 xs2 w2).mono fun e W' ⟨he, bel⟩ => ?_
  subst he
  exact ⟨_, rfl, _, _, _, [], _, [], hW', trodAll_mk1 (shut_bool Try.underlying4 _), (trodAll_cons_mk (Below.trod laidOut (by kernel_rfl) (of_decide_eq_true (by kernel_rfl)) k0 bel lt0) (trodAll_cons_mk (Below.trod laidOut (by kernel_rfl) (of_decide_eq_true (by kernel_rfl)) k1 bel lt1) (trodAll_cons_mk (Below.trod laidOut (by kernel_rfl) (of_decide_eq_true (by kernel_rfl)) k2 bel lt2) trodAll_mk0))), rfl, bel.frame _, fun h => by cases h⟩

theorem over : Rows.paritySmallRow.holds Try.pinned (OpenSpec.ofChange Rows.paritySmallSpec) :=
  OpenClaim.holds_of_wide 10 Try.f10 rfl rfl rfl rfl rfl rfl rfl ⟨rfl, rfl, rfl, rfl, rfl⟩ rfl rfl rfl rfl rfl (by kernel_rfl) Try.func10 (by kernel_rfl)
    (of_decide_eq_true (by kernel_rfl)) (by unfold Func.isWrapper; first | (rw [if_pos (by decide +kernel)]; kernel_rfl) | (rw [if_neg (by decide +kernel)]; exact ⟨rfl, rfl⟩))
    (fun os started H enc _ => lifted os started H enc)

theorem proved : Rows.ParitySmallSaid := over
#print axioms proved
end Go.Proofs.Ytdhfckdnfppieaa.paritySmall
