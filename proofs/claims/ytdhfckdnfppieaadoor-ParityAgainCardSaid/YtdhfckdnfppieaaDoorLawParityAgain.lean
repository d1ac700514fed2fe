/- A lost row is reconstructed from all others and the parity row, whatever its current contents: ParityAgain answers true at every slice of slices of ints, int, slice of ints; errors.errorType is tied to the program's text. Conditions: none beside the card's own. -/
import Derived.Test.YtdhfckdnfppieaaDoorParAgain
import Derived.Test.YtdhfckdnfppieaaDoorIn
import Derived.Test.YtdhfckdnfppieaaDoorOpenD
import Derived.Test.YtdhfckdnfppieaaDoorRBytes
import Derived.Test.YtdhfckdnfppieaaDoorTold
namespace Go.Proofs.YtdhfckdnfppieaaDoor.parityAgain
open Go Go.ChangeShapes Go.WideShapes Go.ChangeAt Go.RowKit
set_option linter.unusedVariables false

theorem dat_set (rs : List RV) (k : Nat) (r : RV) : dat (rs.set k r) = (dat rs).set k r.2.2.2 := by simp [dat, List.map_set]
theorem againI_set (l : List (List Int)) (P : List Int) (k : Nat) (z : List Int) : againI (l.set k z) P k = againI l P k := by
  unfold againI
  rw [List.eraseIdx_set_eq]
theorem again_row {m : Nat} {l : List (List Int)} {k : Nat} (hk : k < l.length) (hl : ∀ r ∈ l, Bytes m r) : againI l (parF m l) k = l[k] := by
  have hx : Bytes m l[k] := hl _ (List.getElem_mem hk)
  have hQl : ∀ r ∈ l.eraseIdx k, Bytes m r := fun r hr => hl r (List.mem_of_mem_eraseIdx hr)
  have hQ := parF_bytes hQl
  have hP := parF_bytes hl
  have hD : ∀ r ∈ l.drop (k + 1), Bytes m r := fun r hr => hl r (List.mem_of_mem_drop hr)
  have p1 : parF m l = zx (parF m (l.take k)) (zx l[k] (parF m (l.drop (k + 1)))) := by
    conv => lhs; rw [← List.take_append_drop k l, List.drop_eq_getElem_cons hk]
    rw [parF_append _ _ (by intro r hr; rcases List.mem_cons.1 hr with rfl | hr; exact hx; exact hD r hr), parF_cons]
  have p2 : parF m (l.eraseIdx k) = zx (parF m (l.take k)) (parF m (l.drop (k + 1))) := by
    rw [List.eraseIdx_eq_take_drop_succ, parF_append _ _ hD]
  have p3 : parF m l = zx l[k] (parF m (l.eraseIdx k)) := by rw [p1, p2, ← zx_assoc, ← zx_assoc, zx_comm (parF m (l.take k))]
  unfold againI
  have hf := fold_zx (parF m l) (l.eraseIdx k) (zeros m)
  rw [zx_comm, zx_zeros hP] at hf
  rw [hf]
  change zx (parF m l) (parF m (l.eraseIdx k)) = _
  rw [p3, zx_assoc, zx_self hQ.1, zx_comm, zx_zeros hx]

set_option maxHeartbeats 4000000 in
set_option maxRecDepth 100000 in
theorem walk_ok (w : World) (b off n c : Nat) (rs : List RV) (hA : RRows w (some ⟨b, off, none⟩) n rs) (hbl : b < w.heap.size) (hcc : ∀ k, k < n → w.cell? ⟨b, off + k, none⟩ = some ((rs[k]?.getD noRow).val)) (hc : n ≤ c) (k : Nat) (hk : k < n)
    (Z : Option Addr) (l e : Nat) (zs : List Int) (hZs : Sl w Z l e zs) (hz : rowsE (dat rs) = 0) :
    Calls Tryd.prog 7 #[.slice (some ⟨b, off, none⟩) n c, .int .i64 k, .slice Z l e] w fun e w' => e = .returned (.bool true) ∧ Below w.heap.size w w' := by
  obtain ⟨m, hm⟩ : ∃ m, ((dat rs)[0]?.getD []).length = m := ⟨_, rfl⟩
  have h3 := rowsE_zero.1 hz
  have hlen : (dat rs).length = n := by rw [dat_len, hA.len]
  have hby := rows_bytes hz hm
  have h16 := rows_16 hz hm
  have hn8 : n ≤ 8 := by omega
  have hsk := hA.sl hk
  have hdk := dat_get rs k
  have hck := hcc k hk
  obtain ⟨r, hr⟩ : ∃ r, rs[k]?.getD noRow = r := ⟨_, rfl⟩
  rw [hr] at hsk hdk hck
  obtain ⟨A1, n1, c1, x1⟩ := r
  change w.cell? ⟨b, off + k, none⟩ = some (.slice A1 n1 c1) at hck
  change Sl w A1 n1 c1 x1 at hsk
  change (dat rs)[k]?.getD [] = x1 at hdk
  have hkl : k < (dat rs).length := by omega
  rw [List.getElem?_eq_getElem hkl] at hdk
  change (dat rs)[k] = x1 at hdk
  have hx1 : Bytes m x1 := by rw [← hdk]; exact hby _ (List.getElem_mem _)
  have hn1 : m = n1 := by rw [← hsk.1.len, hx1.1]
  subst hn1
  have hP1 := parI_eq (by omega) hby
  have hag := again_row hkl hby
  rw [← hP1, hdk] at hag
  obtain ⟨P, hP⟩ : ∃ P, parI (dat rs) = P := ⟨_, rfl⟩
  rw [hP] at hag
  have hPb : Bytes m P := by rw [← hP]; exact par_bytes (by omega) hby
  have hdn : ∀ l' e', dat (rs.set k (Z, l', e', zs)) = (dat rs).set k zs := fun _ _ => dat_set _ _ _
  have hzl : zs.length = l := hZs.1.len
  have hall : Bytes m zs → rowsE ((dat rs).set k zs) = 0 ∧ (((dat rs).set k zs)[0]?.getD []).length = m := by
    intro h
    refine rowsE_ok (by simp; omega) (by simp; omega) h16 (fun r hr' => ?_)
    rcases List.mem_or_eq_of_mem_set hr' with h' | h'
    · exact hby r h'
    · subst h'; exact h
  have hZl := hzl
  have HZ := Lib.hid (And.intro hz hm)
  have HP := Lib.hid hP
  have HAG := Lib.hid hag
  have HPB := Lib.hid hPb
  have HSK := Lib.hid hsk
  have HZS := Lib.hid hZs
  have HDN := Lib.hid (hdn m e)
  have HALL := Lib.hid hall
  have hPr : ∀ x ∈ P, -9223372036854775808 ≤ x ∧ x ≤ 9223372036854775807 := fun x hx => by have := hPb.2 x hx; omega
  have HPR := Lib.hid hPr
  have hXr : ∀ x ∈ x1, -9223372036854775808 ≤ x ∧ x ≤ 9223372036854775807 := fun x hx => by have := hx1.2 x hx; omega
  have HXR := Lib.hid hXr
  have HCK := Lib.hid hck
  have hrl := hA.len
  have HRL := Lib.hid hrl
  clear hz hm h3 hlen hby hsk hdk hck hr hx1 hP1 hP hPb hdn hag hall hPr hXr hcc hkl hZs hrl hzl
  have k0 : (0 : Int) ≤ (k : Int) := by omega
  have k1 : (k : Int) ≤ (n : Int) - 1 := by omega
  have hkI : (k : Int) < (n : Int) := by omega
  go_enter Tryd.func7, Tryd.ntmps7
  go_wp2_with fail
  with_reducible refine (parityFact_any _).mono ?_
  rintro e w1 ⟨rfl, hB⟩
  go_wp2_with fail
  with_reducible refine (of_ok _ _ _ rs _ (hA.below hB) hc HZ.out.1 m HZ.out.2).mono ?_
  rintro e' wO ⟨⟨C, cm, rfl, hownM0⟩, kO⟩
  have hBO := hB.trans (kO.mono hB.size)
  rw [HP.out] at hownM0
  have hownM := hownM0.mono (B' := w.heap.size) hB.size
  have hAO := hA.below hBO
  clear hownM0 kO
  go_wp2_with fail
  with_reducible refine (in_yes _ _ _ _ k0 k1).mono ?_
  rintro e' w' ⟨rfl, rfl⟩
  by_cases hlm : m = l
  · subst hlm
    have hneq0 : ((m : Int) == (m : Int)) = true := by simp
    obtain ⟨E, hE⟩ : ∃ E, bytesE zs 16 = E := ⟨_, rfl⟩
    by_cases hE0 : E = 0
    · subst hE0
      have HZB := Lib.hid hE
      clear hE
      go_wp2_with (at_builtin; refine wpList_appLR rfl _ _ rfl wO.heap.size 0 _ [] rfl (OwnR.nil _ _) ⟨b, off, none⟩ n c rs rfl hAO (by omega) (Nat.le_refl _) ?_; intro A' c2 w3 hown3 hbel3; have hq3 := hbel3 wO.heap.size wO (Nat.le_refl _) (Below.refl _ _); rw [Nat.zero_add] at hown3 ⊢; rw [List.nil_append] at hown3; obtain ⟨g, rfl, hg0, hg1, hcell3, hfr3⟩ := hown3.at_ (by omega); have cc := hcell3 k hk; have f1 := hfr3 k; clear hbel3 hcell3 hfr3)
      have hrd3 := (HZS.out.below (hBO.trans (hq3.mono hBO.size))).1
      go_wp2_with fail
      with_reducible refine (rbytes_any _ _ _ _ zs _ hrd3).mono ?_
      rintro e' w' ⟨rfl, rfl⟩
      rw [HZB.out]
      clear hrd3
      go_wp2_with fail
      have hown4 := hown3.set k (Z, m, e, zs)
      have hq4 := hq3.setCell (p := ⟨g, k, none⟩) hg0 (.slice Z m e)
      change OwnR (w3.setCell ⟨g, k, none⟩ (.slice Z m e)) wO.heap.size _ n _ at hown4
      obtain ⟨w4, hw4⟩ : ∃ w4, w3.setCell ⟨g, k, none⟩ (.slice Z m e) = w4 := ⟨_, rfl⟩
      rw [hw4] at hown4 hq4 ⊢
      clear hw4 cc f1 hown3 hq3
      have hB4 := hBO.trans (hq4.mono hBO.size)
      have hM4 := hownM.below hq4
      have hSZ4 := HZS.out.below hB4
      have hSP4 := hM4.sl (by omega) HPR.out
      have hR4 := hown4.rr (by omega) (fun r hr => by
        rcases List.mem_or_eq_of_mem_set hr with h | h
        · exact (hAO.2.2.1 r h).below hq4
        · subst h; exact hSZ4)
      have hzB : Bytes m zs := ⟨hZl, allB_mem.1 (bytesE_zero.1 HZB.out).2⟩
      have hrs : rowsE (dat (rs.set k (Z, m, e, zs))) = 0 ∧ ((dat (rs.set k (Z, m, e, zs)))[0]?.getD []).length = m ∧ againI (dat (rs.set k (Z, m, e, zs))) P k = x1 := by
        rw [HDN.out]
        have ho := HALL.out hzB
        exact ⟨ho.1, ho.2, by rw [← HAG.out]; exact againI_set _ _ _ _⟩
      have HRS := Lib.hid hrs
      clear hrs hzB

      have hneq : ((m : Int) != (m : Int)) = false := by simp
      go_wp2_with fail
      with_reducible refine (again_ok _ n _ _ _ m cm P k _ hR4 hSP4 hk (HRS.out.1) (HRS.out.2.1) HPB.out).mono ?_
      rintro e' w5 ⟨⟨C5, c5, rfl, hown5⟩, k5⟩
      rw [HRS.out.2.2] at hown5
      have hB5 := hB4.trans (k5.mono hB4.size)
      have hl5 := (hB5.cell (p := ⟨b, off + k, none⟩) hbl).trans HCK.out
      have hx5 := (HSK.out.below hB5).1
      have hr5 := hown5.rd (by omega) HXR.out
      clear hown5
      go_wp2_with fail
      with_reducible refine (ints_any _ _ _ _ _ _ x1 x1 _ hr5 hx5).mono ?_
      rintro e' w' ⟨rfl, q, rfl⟩
      rw [show decide (x1 = x1) = true from by simp]
      go_wp2
      go_ret
      exact ⟨rfl, below_drewN_of hB5 q⟩
    · have hEn : (E == 0) = false := by simpa using hE0
      have HZB := Lib.hid hE
      clear hE hE0
      go_wp2_with (at_builtin; refine wpList_appLR rfl _ _ rfl wO.heap.size 0 _ [] rfl (OwnR.nil _ _) ⟨b, off, none⟩ n c rs rfl hAO (by omega) (Nat.le_refl _) ?_; intro A' c2 w3 hown3 hbel3; have hq3 := hbel3 wO.heap.size wO (Nat.le_refl _) (Below.refl _ _); rw [Nat.zero_add] at hown3 ⊢; rw [List.nil_append] at hown3; obtain ⟨g, rfl, hg0, hg1, hcell3, hfr3⟩ := hown3.at_ (by omega); have cc := hcell3 k hk; have f1 := hfr3 k; clear hbel3 hcell3 hfr3)
      have hrd3 := (HZS.out.below (hBO.trans (hq3.mono hBO.size))).1
      go_wp2_with fail
      with_reducible refine (rbytes_any _ _ _ _ zs _ hrd3).mono ?_
      rintro e' w' ⟨rfl, rfl⟩
      rw [HZB.out]
      clear hrd3
      obtain ⟨w4, hw4⟩ : ∃ w4, w3 = w4 := ⟨_, rfl⟩
      have hown4 := hown3
      have hq4 := hq3
      rw [hw4] at hown4 hq4 ⊢
      clear hw4 cc f1 hown3 hq3
      have hB4 := hBO.trans (hq4.mono hBO.size)
      have hM4 := hownM.below hq4
      have hSP4 := hM4.sl (by omega) HPR.out
      have hR4 := hown4.rr (by omega) (fun r hr => (hAO.2.2.1 r hr).below hq4)
      have hrs : rowsE (dat rs) = 0 ∧ ((dat rs)[0]?.getD []).length = m ∧ againI (dat rs) P k = x1 := ⟨HZ.out.1, HZ.out.2, HAG.out⟩
      have HRS := Lib.hid hrs
      clear hrs

      have hneq : ((m : Int) != (m : Int)) = false := by simp
      go_wp2_with fail
      with_reducible refine (again_ok _ n _ _ _ m cm P k _ hR4 hSP4 hk (HRS.out.1) (HRS.out.2.1) HPB.out).mono ?_
      rintro e' w5 ⟨⟨C5, c5, rfl, hown5⟩, k5⟩
      rw [HRS.out.2.2] at hown5
      have hB5 := hB4.trans (k5.mono hB4.size)
      have hl5 := (hB5.cell (p := ⟨b, off + k, none⟩) hbl).trans HCK.out
      have hx5 := (HSK.out.below hB5).1
      have hr5 := hown5.rd (by omega) HXR.out
      clear hown5
      go_wp2_with fail
      with_reducible refine (ints_any _ _ _ _ _ _ x1 x1 _ hr5 hx5).mono ?_
      rintro e' w' ⟨rfl, q, rfl⟩
      rw [show decide (x1 = x1) = true from by simp]
      go_wp2
      go_ret
      exact ⟨rfl, below_drewN_of hB5 q⟩
  · have hneq0 : ((l : Int) == (m : Int)) = false := by simp; omega
    go_wp2_with (at_builtin; refine wpList_appLR rfl _ _ rfl wO.heap.size 0 _ [] rfl (OwnR.nil _ _) ⟨b, off, none⟩ n c rs rfl hAO (by omega) (Nat.le_refl _) ?_; intro A' c2 w3 hown3 hbel3; have hq3 := hbel3 wO.heap.size wO (Nat.le_refl _) (Below.refl _ _); rw [Nat.zero_add] at hown3 ⊢; rw [List.nil_append] at hown3; obtain ⟨g, rfl, hg0, hg1, hcell3, hfr3⟩ := hown3.at_ (by omega); have cc := hcell3 k hk; have f1 := hfr3 k; clear hbel3 hcell3 hfr3)
    obtain ⟨w4, hw4⟩ : ∃ w4, w3 = w4 := ⟨_, rfl⟩
    have hown4 := hown3
    have hq4 := hq3
    rw [hw4] at hown4 hq4 ⊢
    clear hw4 cc f1 hown3 hq3
    have hB4 := hBO.trans (hq4.mono hBO.size)
    have hM4 := hownM.below hq4
    have hSP4 := hM4.sl (by omega) HPR.out
    have hR4 := hown4.rr (by omega) (fun r hr => (hAO.2.2.1 r hr).below hq4)
    have hrs : rowsE (dat rs) = 0 ∧ ((dat rs)[0]?.getD []).length = m ∧ againI (dat rs) P k = x1 := ⟨HZ.out.1, HZ.out.2, HAG.out⟩
    have HRS := Lib.hid hrs
    clear hrs

    have hneq : ((m : Int) != (m : Int)) = false := by simp
    go_wp2_with fail
    with_reducible refine (again_ok _ n _ _ _ m cm P k _ hR4 hSP4 hk (HRS.out.1) (HRS.out.2.1) HPB.out).mono ?_
    rintro e' w5 ⟨⟨C5, c5, rfl, hown5⟩, k5⟩
    rw [HRS.out.2.2] at hown5
    have hB5 := hB4.trans (k5.mono hB4.size)
    have hl5 := (hB5.cell (p := ⟨b, off + k, none⟩) hbl).trans HCK.out
    have hx5 := (HSK.out.below hB5).1
    have hr5 := hown5.rd (by omega) HXR.out
    clear hown5
    go_wp2_with fail
    with_reducible refine (ints_any _ _ _ _ _ _ x1 x1 _ hr5 hx5).mono ?_
    rintro e' w' ⟨rfl, q, rfl⟩
    rw [show decide (x1 = x1) = true from by simp]
    go_wp2
    go_ret
    exact ⟨rfl, below_drewN_of hB5 q⟩

set_option maxHeartbeats 1000000 in
theorem walk_no (w : World) (A : Option Addr) (n c : Nat) (rs : List RV) (hA : RRows w A n rs) (hc : n ≤ c) (k : Int) (hkb : -9223372036854775808 ≤ k ∧ k ≤ 9223372036854775807) (hk : k < 0 ∨ (n : Int) - 1 < k)
    (Z : Option Addr) (l e : Nat) (hz : rowsE (dat rs) = 0) (hE : ErrT w) :
    Calls Tryd.prog 7 #[.slice A n c, .int .i64 k, .slice Z l e] w fun e w' => e = .returned (.bool true) ∧ Below w.heap.size w w' := by
  obtain ⟨m, hm⟩ : ∃ m, ((dat rs)[0]?.getD []).length = m := ⟨_, rfl⟩
  have h3 := rowsE_zero.1 hz
  have hlen : (dat rs).length = n := by rw [dat_len, hA.len]
  have hby := rows_bytes hz hm
  have h16 := rows_16 hz hm
  have hn8 : n ≤ 8 := by omega
  have hn0 : 0 < n := by omega
  obtain ⟨P, hP⟩ : ∃ P, parI (dat rs) = P := ⟨_, rfl⟩
  have hPb : Bytes m P := by rw [← hP]; exact par_bytes (by omega) hby
  have hag : againE (dat rs) P k = 1 := by
    unfold againE
    rw [if_neg (by simpa using hz), if_neg (by simp; exact bytesE_zero.2 ⟨by have := hPb.1; omega, allB_mem.2 hPb.2⟩), if_neg (by simp; rw [hPb.1]; exact hm.symm), hlen, if_pos hk]
  have hPr : ∀ x ∈ P, -9223372036854775808 ≤ x ∧ x ≤ 9223372036854775807 := fun x hx => by have := hPb.2 x hx; omega
  have HPR := Lib.hid hPr
  have HAG := Lib.hid hag
  have HZ := Lib.hid (And.intro hz hm)
  have HP := Lib.hid hP
  have HE := Lib.hid hE
  clear hz hm h3 hlen hby hP hPb hag hPr hE
  go_enter Tryd.func7, Tryd.ntmps7
  go_wp2_with fail
  with_reducible refine (parityFact_any _).mono ?_
  rintro e w2 ⟨rfl, hB⟩
  go_wp2_with fail
  with_reducible refine (of_ok _ _ _ rs _ (hA.below hB) hc HZ.out.1 m HZ.out.2).mono ?_
  rintro e' wO ⟨⟨C, cm, rfl, hownM0⟩, kO⟩
  have hBO := hB.trans (kO.mono hB.size)
  rw [HP.out] at hownM0
  have hAO := hA.below hBO
  have hR := hownM0.rd (by omega) HPR.out
  have HEO := Lib.hid (HE.out.below hBO)
  clear hownM0 kO HE
  go_wp2_with fail
  with_reducible refine (in_no _ _ _ _ hk).mono ?_
  rintro e' w' ⟨rfl, rfl⟩
  go_wp2_with fail
  with_reducible refine (again_bad _ _ _ rs _ _ _ P k _ hAO hR hkb (by rw [HAG.out]; decide)).mono ?_
  rintro e' w' ⟨rfl, rfl⟩
  rw [HAG.out]
  go_wp2_with fail
  with_reducible refine (error_err 1 1 _ HEO.out).mono ?_
  rintro e' w5 ⟨rfl, k5⟩
  go_wp2
  go_ret
  exact ⟨rfl, hBO.trans (k5.mono hBO.size)⟩

theorem walk (w : World) (A : Option Addr) (n c : Nat) (rs : List RV) (hA : RRows w A n rs) (hc : n ≤ c) (k : Int) (hkb : -9223372036854775808 ≤ k ∧ k ≤ 9223372036854775807) (Z : Option Addr) (l e : Nat) (zs : List Int) (hZs : Sl w Z l e zs) (hE : ErrT w) :
    Calls Tryd.prog 7 #[.slice A n c, .int .i64 k, .slice Z l e] w fun e w' => e = .returned (.bool true) ∧ Below w.heap.size w w' := by
  by_cases hz : rowsE (dat rs) = 0
  · by_cases hk : k < 0 ∨ (n : Int) - 1 < k
    · exact walk_no w A n c rs hA hc k hkb hk Z l e hz hE
    · obtain ⟨kn, rfl⟩ : ∃ kn : Nat, k = kn := ⟨k.toNat, by omega⟩
      have hkn : kn < n := by omega
      obtain ⟨b, off, rfl, hbl, hcc⟩ := hA.at_ (by omega)
      exact walk_ok w b off n c rs hA hbl hcc hc kn hkn Z l e zs hZs hz
  · have HZ := Lib.hid hz
    clear hz hE
    go_enter Tryd.func7, Tryd.ntmps7
    go_wp2_with fail
    with_reducible refine (parityFact_any _).mono ?_
    rintro e w3 ⟨rfl, hB⟩
    go_wp2_with fail
    with_reducible refine (of_bad _ _ _ rs _ (hA.below hB) HZ.out).mono ?_
    rintro e' w' ⟨rfl, rfl⟩
    go_wp2
    go_ret
    exact ⟨rfl, hB⟩

set_option maxRecDepth 100000 in
theorem lifted (os : Os) (started : os.Started) (H : Type) (enc : TypeId × Value → H) :
    ReturnsInHanded {} Tryd.checked os 7 .any (fun w args => (Rows.parityAgainSpec.pre enc Tryd.prog Tryd.f7 [] false w args ∧ laidMetH Tryd.prog Rows.parityAgainRow.laid w) ∧ sizedMet enc Tryd.prog Tryd.f7 (OpenSpec.ofChange Rows.parityAgainSpec) false w args)
      (Rows.parityAgainSpec.post enc Tryd.prog Tryd.f7 false true false false) := by
  refine returnsInHanded_of_change_and (C := Tryd.checked) (X := fun w _ => laidMetH Tryd.prog Rows.parityAgainRow.laid w) (fun _ _ _ hh h => h.of_heap hh) own started (by kernel_rfl) Tryd.func7
    (ChangeSpec.witness_at (enc := enc) (C := Tryd.checked) (os := os) (X := fun w _ => laidMetH Tryd.prog Rows.parityAgainRow.laid w) false (laidWorld os) #[.slice none 0 0, .int .i64 0, .slice none 0 0] 8 rfl (by kernel_rfl) (by kernel_rfl) (by kernel_rfl) (by kernel_rfl) (by kernel_rfl) (laidWorld_met os _)) ?_
  intro W base args ds gs before hval0 hW _ _ hL _
  have hval : ∀ (j : Nat) t v, Tryd.f7.params[j]? = some t → args[j]? = some v → Value.okWide Tryd.prog W .any base t v := hval0
  have hW' := hW
  obtain ⟨p, q, hA0, hV, rfl, hfz, hnd⟩ := hW
  have hA : DataW.TrodAll enc Tryd.prog W 0 (fun _ => true) true Tryd.f7.params.toList args.toList ds p := hA0
  rw [Tryd.params7] at hA hval
  obtain ⟨v0, vs0, d0, ds0, p0, q0, hargs, rfl, rfl, h0, r0⟩ := trodAll_cons hA
  obtain ⟨v1, vs1, d1, ds1, p1, q1, rfl, rfl, rfl, h1, r1⟩ := trodAll_cons r0
  obtain ⟨v2, vs2, d2, ds2, p2, q2, rfl, rfl, rfl, h2, r2⟩ := trodAll_cons r1
  obtain ⟨rfl, rfl, rfl⟩ := trodAll_nil r2
  obtain rfl : args = #[v0, v1, v2] := by cases args; simp_all
  obtain ⟨rfl, rfl⟩ := trodVars_none hV
  have k0 := h0
  have lt0 : ∀ x ∈ p0, x.block < W.heap.size := by obtain ⟨m, hm⟩ := k0; exact DataW.trod_lt m _ _ _ hm
  obtain ⟨A0, n0, c0, rfl⟩ := okWide_slice Tryd.underlying43 (hval 0 43 v0 rfl rfl)
  obtain ⟨rs0, w0, hc0⟩ : ∃ rs, RRows W A0 n0 rs ∧ n0 ≤ c0 := by
    obtain ⟨fuel, hf⟩ := h0
    rcases Go.Deep.open_int_rows Tryd.underlying43 Tryd.underlying31 Tryd.underlying3 (by kernel_rfl) (by kernel_rfl) hf with ⟨hcs, _⟩ | ⟨x, l, c, AA, LL, CC, ZZ, hcs, _, hl, hm, _, hrow⟩
    · simp [Value.cells] at hcs
      obtain ⟨rfl, rfl, rfl⟩ := hcs
      exact ⟨[], rrows_nil _ _, Nat.le_refl _⟩
    · simp [Value.cells] at hcs
      obtain ⟨rfl, rfl, rfl⟩ := hcs
      exact ⟨_, rrows_of_cells hl hm hrow, hl⟩
  have k1 := h1
  have lt1 : ∀ x ∈ p1, x.block < W.heap.size := by obtain ⟨m, hm⟩ := k1; exact DataW.trod_lt m _ _ _ hm
  obtain ⟨a1, rfl, rfl, rfl, w1⟩ := open_int Tryd.underlying3 (hval 1 3 v1 rfl rfl) h1
  have k2 := h2
  have lt2 : ∀ x ∈ p2, x.block < W.heap.size := by obtain ⟨m, hm⟩ := k2; exact DataW.trod_lt m _ _ _ hm
  obtain ⟨A2, n2, c2, rfl⟩ := okWide_slice Tryd.underlying31 (hval 2 31 v2 rfl rfl)
  obtain ⟨xs2, w2⟩ : ∃ xs, Sl W A2 n2 c2 xs := by
    obtain ⟨fuel, hf⟩ := h2
    rcases open_ints Tryd.underlying31 Tryd.underlying3 (by kernel_rfl) hf with ⟨hcs, _⟩ | ⟨x, l, c, zs, hcs, _, hl, hm, hz, _, hcell, hwz⟩
    · simp [Value.cells] at hcs
      obtain ⟨rfl, rfl, rfl⟩ := hcs
      exact ⟨[], Rd.nil _ _, Nat.le_refl _, fun _ => rfl⟩
    · simp [Value.cells] at hcs
      obtain ⟨rfl, rfl, rfl⟩ := hcs
      exact ⟨_, rd_of_cells (by simp at hz; omega) hl hm hcell hwz, hl, fun h => by cases h⟩
  clear hA0 hval0
  refine (walk W A0 n0 c0 rs0 w0 hc0 a1 (wf_range w1) A2 n2 c2 xs2 w2 (handle_of_laid hL)).mono fun e W' ⟨he, bel⟩ => ?_
  subst he
  exact ⟨_, rfl, _, _, _, [], _, [], hW', trodAll_mk1 (shut_bool Tryd.underlying4 _), (trodAll_cons_mk (Below.trod laidOut (by kernel_rfl) (of_decide_eq_true (by kernel_rfl)) k0 bel lt0) (trodAll_cons_mk (Below.trod laidOut (by kernel_rfl) (of_decide_eq_true (by kernel_rfl)) k1 bel lt1) (trodAll_cons_mk (Below.trod laidOut (by kernel_rfl) (of_decide_eq_true (by kernel_rfl)) k2 bel lt2) trodAll_mk0))), rfl, bel.frame _, fun h => by cases h⟩

theorem over : Rows.parityAgainRow.holds Tryd.pinned (OpenSpec.ofChange Rows.parityAgainSpec) :=
  OpenClaim.holds_of_wide 7 Tryd.f7 rfl rfl rfl rfl rfl rfl rfl ⟨rfl, rfl, rfl, rfl, rfl⟩ rfl rfl rfl rfl rfl (by kernel_rfl) Tryd.func7 (by kernel_rfl)
    (of_decide_eq_true (by kernel_rfl)) (by unfold Func.isWrapper; first | (rw [if_pos (by decide +kernel)]; kernel_rfl) | (rw [if_neg (by decide +kernel)]; exact ⟨rfl, rfl⟩))
    (fun os started H enc _ => lifted os started H enc)

theorem card_holds : Rows.ParityAgainCardSaid :=
  Claim7.holds_tied_plain_at .later [] [.handle] true Rows.parityAgainCard.stood.harness Rows.parityAgainCard.stood.looks
    over (fun _ h => by cases h) (by kernel_rfl) (fun _ h => by cases h) parityAgain_row_tie rfl ⟨rfl, rfl⟩ (by kernel_rfl) rfl
    (fun f fn hf hfn => by
      obtain rfl : f = 7 := Option.some.inj ((show Tryd.prog.funcNamed "platterhold/platterholdlaw1.ParityAgain" = some 7 by kernel_rfl).symm.trans hf) |>.symm
      obtain rfl : fn = Tryd.f7 := (Option.some.inj (Tryd.func7.symm.trans hfn)).symm
      exact ⟨by kernel_rfl, fun j t ht => by
        rw [Tryd.params7] at ht
        have hm : t ∈ [43, 3, 31] := by simpa using Array.mem_of_getElem? ht
        have hall : ([43, 3, 31].all fun u => !Tryd.prog.wantsStandIn u) = true := by kernel_rfl
        exact (show Tryd.prog.wantsStandIn t = false by simpa using List.all_eq_true.1 hall t hm)⟩)
    (by kernel_rfl)
theorem proved : Rows.ParityAgainCardSaid := card_holds
#print axioms proved
end Go.Proofs.YtdhfckdnfppieaaDoor.parityAgain
