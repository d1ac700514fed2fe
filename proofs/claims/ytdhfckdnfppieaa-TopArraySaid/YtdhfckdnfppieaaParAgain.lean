/- parity.Again by its contracts. -/
import Derived.Test.YtdhfckdnfppieaaParP
namespace Go.Proofs.Ytdhfckdnfppieaa
open Go Go.RowKit
set_option maxRecDepth 20000
set_option linter.unusedVariables false

/-- What Again says. -/
def againE (l : List (List Int)) (more : List Int) (k : Int) : Int :=
  if rowsE l ≠ 0 then rowsE l else if bytesE more 16 ≠ 0 then bytesE more 16 else if more.length ≠ (l[0]?.getD []).length then 3 else if k < 0 ∨ (l.length : Int) - 1 < k then 1 else 0
def againI (l : List (List Int)) (more : List Int) (k : Nat) : List Int := (l.eraseIdx k).foldl zx more

theorem first_cell {w : World} {A : Option Addr} {n : Nat} {rs : List RV} (hA : RRows w A n rs) (hn : 0 < n) :
    ∃ b off A0 n0 c0, A = some ⟨b, off, none⟩ ∧ b < w.heap.size ∧ w.cell? ⟨b, off, none⟩ = some (.slice A0 n0 c0) ∧ ((dat rs)[0]?.getD []).length = n0 := by
  obtain ⟨b, off, rfl, hbl, hcc⟩ := hA.at_ hn
  have h0 := hcc 0 hn
  have hs := hA.sl (k := 0) hn
  have hd := dat_get rs 0
  obtain ⟨r0, hr0⟩ : ∃ r, rs[0]?.getD noRow = r := ⟨_, rfl⟩
  rw [hr0] at h0 hs hd
  obtain ⟨A0, n0, c0, x0⟩ := r0
  exact ⟨b, off, A0, n0, c0, rfl, hbl, h0, by rw [hd]; exact hs.1.len⟩

set_option maxHeartbeats 2000000 in
theorem again_bad (A : Option Addr) (n c : Nat) (rs : List RV) (B : Option Addr) (l d : Nat) (ys : List Int) (k : Int) (w : World) (hA : RRows w A n rs) (hB : Rd w B l ys)
    (hk : -9223372036854775808 ≤ k ∧ k ≤ 9223372036854775807) (h : againE (dat rs) ys k ≠ 0) :
    Calls Try.prog 28 #[.slice A n c, .slice B l d, .int .i64 k] w fun e w' => e = .returned (.tuple #[.slice none 0 0, .iface 47 (.int .i64 (againE (dat rs) ys k))]) ∧ w = w' := by
  obtain ⟨E, hE⟩ : ∃ E, againE (dat rs) ys k = E := ⟨_, rfl⟩
  rw [hE] at h ⊢
  have hE' := hE
  unfold againE at hE'
  have hly := hB.len
  have hld : (dat rs).length = n := by rw [dat_len, hA.len]
  by_cases h1 : rowsE (dat rs) = 0
  · rw [if_neg (by simpa using h1)] at hE'
    have hz := rowsE_zero.1 h1
    have hn8 : n ≤ 8 := by omega
    have hn0 : 0 < n := by omega
    obtain ⟨b, off, A0, n0, c0, rfl, hbl, h0, hl0⟩ := first_cell hA (by omega)
    have H1 := Lib.hid h1
    by_cases h2 : bytesE ys 16 = 0
    · rw [if_neg (by simpa using h2)] at hE'
      obtain ⟨h3, h4⟩ := bytesE_zero.1 h2
      rw [hly] at h3
      have H4 := Lib.hid h4
      by_cases h5 : l = n0
      · rw [hly, hl0, if_neg (by simpa using h5), hld] at hE'
        have h6 : k < 0 ∨ (n : Int) - 1 < k := by
          by_cases hq : k < 0 ∨ (n : Int) - 1 < k
          · exact hq
          · rw [if_neg hq] at hE'
            exact absurd hE'.symm h
        rw [if_pos h6] at hE'
        subst hE'
        subst h5
        have hne : ((l : Int) != (l : Int)) = false := by simp
        clear hz hE h h1 h2 h4 hl0 hly hld
        go_enter Try.func28, Try.ntmps28
        go_wp2_with fail
        with_reducible refine (check_any _ _ _ rs _ hA).mono ?_
        rintro e w' ⟨rfl, rfl⟩
        rw [H1.out, errV_zero]
        go_wp2_with fail
        with_reducible refine (bytes_ok _ _ _ _ ys _ hB h3 H4.out).mono ?_
        rintro e w' ⟨rfl, rfl⟩
        go_wp2_with fail
        with_reducible refine (within_no _ _ _ _ h6).mono ?_
        rintro e w' ⟨rfl, rfl⟩
        go_wp2
        go_ret2
        exact ⟨rfl, rfl⟩
      · rw [hly, hl0, if_pos h5] at hE'
        subst hE'
        have hne : ((l : Int) != (n0 : Int)) = true := by simp; omega
        clear hz hE h h1 h2 h4 hl0 hly hld
        go_enter Try.func28, Try.ntmps28
        go_wp2_with fail
        with_reducible refine (check_any _ _ _ rs _ hA).mono ?_
        rintro e w' ⟨rfl, rfl⟩
        rw [H1.out, errV_zero]
        go_wp2_with fail
        with_reducible refine (bytes_ok _ _ _ _ ys _ hB h3 H4.out).mono ?_
        rintro e w' ⟨rfl, rfl⟩
        go_wp2
        go_ret2
        exact ⟨rfl, rfl⟩
    · rw [if_pos h2] at hE'
      have H2 := Lib.hid h2
      have HE := Lib.hid hE'
      clear hz hE hE' h h1 h2 hl0 hly hld
      go_enter Try.func28, Try.ntmps28
      go_wp2_with fail
      with_reducible refine (check_any _ _ _ rs _ hA).mono ?_
      rintro e w' ⟨rfl, rfl⟩
      rw [H1.out, errV_zero]
      go_wp2_with fail
      with_reducible refine (bytes_bad _ _ _ _ ys _ hB H2.out).mono ?_
      rintro e w' ⟨rfl, rfl⟩
      rw [HE.out]
      go_wp2
      go_ret2
      exact ⟨rfl, rfl⟩
  · rw [if_pos h1] at hE'
    have H1 := Lib.hid h1
    have HE := Lib.hid hE'
    clear hE hE' h h1 hly hld
    go_enter Try.func28, Try.ntmps28
    go_wp2_with fail
    with_reducible refine (check_any _ _ _ rs _ hA).mono ?_
    rintro e w' ⟨rfl, rfl⟩
    rw [errV_ne H1.out, HE.out]
    go_wp2
    go_ret2
    exact ⟨rfl, rfl⟩

/-- The first j rows but row k, taken to 'more'. -/
def agN (l : List (List Int)) (more : List Int) (k j : Nat) : List Int := ((l.take j).eraseIdx k).foldl zx more
theorem agN_zero (l : List (List Int)) (more : List Int) (k : Nat) : agN l more k 0 = more := by simp [agN]
theorem agN_all (l : List (List Int)) (more : List Int) (k : Nat) : agN l more k l.length = againI l more k := by unfold agN againI; rw [List.take_of_length_le (Nat.le_refl _)]
theorem agN_at {l : List (List Int)} (more : List Int) {k : Nat} (hk : k < l.length) : agN l more k (k + 1) = agN l more k k := by
  unfold agN
  have hl : (l.take k).length = k := by rw [List.length_take]; omega
  rw [List.take_succ_eq_append_getElem hk, List.eraseIdx_append_of_length_le (by omega), hl, Nat.sub_self, List.eraseIdx_of_length_le (by omega : (l.take k).length ≤ k)]
  simp
theorem agN_step {l : List (List Int)} (more : List Int) {k j : Nat} (hj : j < l.length) (hne : j ≠ k) : agN l more k (j + 1) = zx (agN l more k j) l[j] := by
  unfold agN
  have hl : (l.take j).length = j := by rw [List.length_take]; omega
  rw [List.take_succ_eq_append_getElem hj]
  rcases Nat.lt_or_ge k j with h | h
  · rw [List.eraseIdx_append_of_lt_length (by omega), List.foldl_append]; rfl
  · rw [List.eraseIdx_append_of_length_le (by omega), hl, List.eraseIdx_of_length_le (by simp; omega), List.eraseIdx_of_length_le (by omega : (l.take j).length ≤ k), List.foldl_append]; rfl
theorem agN_bytes {m : Nat} {l : List (List Int)} {more : List Int} (hm : Bytes m more) (h : ∀ r ∈ l, Bytes m r) (k j : Nat) : Bytes m (agN l more k j) :=
  fold_bytes hm (fun r hr => h r (List.mem_of_mem_take (List.mem_of_mem_eraseIdx hr)))

set_option maxHeartbeats 4000000 in
theorem again_ok (A : Option Addr) (n c : Nat) (rs : List RV) (B : Option Addr) (m d : Nat) (ys : List Int) (k : Nat) (w : World) (hA : RRows w A n rs) (hB : Sl w B m d ys) (hk : k < n)
    (h : rowsE (dat rs) = 0) (hm : ((dat rs)[0]?.getD []).length = m) (hy : Bytes m ys) :
    Calls Try.prog 28 #[.slice A n c, .slice B m d, .int .i64 k] w fun e w' => (∃ C c', e = .returned (.tuple #[.slice C m c', .nilIface]) ∧ Own w' w.heap.size (.slice C m c') m (againI (dat rs) ys k)) ∧ Below w.heap.size w w' := by
  have hld : (dat rs).length = n := by rw [dat_len, hA.len]
  have hz := rowsE_zero.1 h
  have hn8 : n ≤ 8 := by omega
  have hn0 : 0 < n := by omega
  have hby := rows_bytes h hm
  have h16 := rows_16 h hm
  obtain ⟨b, off, A0, n0, c0, rfl, hbl, h0, hl0⟩ := first_cell hA (by omega)
  obtain rfl : m = n0 := by omega
  have H1 := Lib.hid h
  have H3 := Lib.hid hy
  have H4 := Lib.hid (allB_mem.2 hy.2)
  have HB := Lib.hid (And.intro hld hby)
  have hlt0 : (k : Int) ≤ (n : Int) - 1 := by omega
  have hk0 : (0 : Int) ≤ (k : Int) := by omega
  have hyl := hy.1
  have hBr := hB.1
  have hmI : (m : Int) ≤ 16 := by omega
  have hne : ((m : Int) != (m : Int)) = false := by simp
  clear hz h hm hy hl0 hld hby
  go_enter Try.func28, Try.ntmps28
  go_wp2_with fail
  with_reducible refine (check_any _ _ _ rs _ hA).mono ?_
  rintro e w' ⟨rfl, rfl⟩
  rw [H1.out, errV_zero]
  go_wp2_with fail
  with_reducible refine (bytes_ok _ _ _ _ ys _ hBr hmI H4.out).mono ?_
  rintro e w' ⟨rfl, rfl⟩
  go_wp2_with fail
  with_reducible refine (within_yes _ _ _ _ hk0 hlt0).mono ?_
  rintro e w' ⟨rfl, rfl⟩
  go_wp2_with fail
  with_reducible refine (clone_any B m d ys _ hB (by omega)).mono ?_
  rintro e w1 ⟨⟨C, c1, rfl, hown1⟩, hB1⟩
  go_wp2
  go_loopw [10, 42] (fun v i wr => ∃ (j : Nat) (C : Option Addr) (c' : Nat), j ≤ n ∧ i = .int .i64 j ∧ v = .slice C m c' ∧ Own wr w.heap.size (.slice C m c') m (agN (dat rs) ys k j) ∧ Below w.heap.size w wr) (fun _ i _ => n - (intOf i).toNat)
  case atStart => exact ⟨0, C, c1, Nat.zero_le _, rfl, rfl, by rw [agN_zero]; exact hown1, hB1⟩
  case round =>
    obtain ⟨j, C, c', hj, rfl, rfl, hown, hbel⟩ := hrel
    by_cases hlt : j < n
    · obtain ⟨b', off', he, hbl', hcc'⟩ := hA.at_ hn0
      injection he with he
      injection he with e1 e2
      subst e1; subst e2
      have h1 := (hbel.cell (p := ⟨b, off + j, none⟩) hbl).trans (hcc' j hlt)
      have hs1 := hA.sl hlt
      have hg := dat_get rs j
      obtain ⟨r, hr⟩ : ∃ r, rs[j]?.getD noRow = r := ⟨_, rfl⟩
      rw [hr] at h1 hs1 hg
      obtain ⟨A1, n1, c1', x1⟩ := r
      change wr.cell? ⟨b, off + j, none⟩ = some (.slice A1 n1 c1') at h1
      change Sl w A1 n1 c1' x1 at hs1
      change (dat rs)[j]?.getD [] = x1 at hg
      have hjl : j < (dat rs).length := by rw [HB.out.1]; exact hlt
      rw [List.getElem?_eq_getElem hjl] at hg
      change (dat rs)[j] = x1 at hg
      have hx1 : Bytes m x1 := by rw [← hg]; exact HB.out.2 _ (List.getElem_mem _)
      have hn1 : n1 = m := by rw [← hs1.1.len, hx1.1]
      subst hn1
      have hkI : (j : Int) < (n : Int) := by omega
      by_cases hjk : j = k
      · subst hjk
        have hst := agN_at ys hjl
        rw [← hst] at hown
        have hne2 : ((j : Int) != (j : Int)) = false := by simp
        clear hcc' hr hg hs1 hst hjl hx1 h0
        go_wp2
        go_roundw
        case rel => exact ⟨j + 1, C, c', by omega, by go_num, rfl, hown, hbel⟩
        case measure => simp [intOf]; omega
      · have hst := agN_step (k := k) ys hjl hjk
        rw [hg] at hst
        have hpb := agN_bytes H3.out HB.out.2 k j
        obtain ⟨P, hP⟩ : ∃ P, agN (dat rs) ys k j = P := ⟨_, rfl⟩
        rw [hP] at hown hpb hst
        have hsl : Sl wr C n1 c' P := hown.sl (by omega) (fun x hx => by have := hpb.2 x hx; omega)
        have hR1 : Rd wr A1 n1 x1 := hs1.1.below hbel
        have hne2 : ((j : Int) != (k : Int)) = true := by simp; omega
        have HSL := Lib.hid hsl
        have HR1 := Lib.hid hR1
        have HST := Lib.hid hst
        have HPB := Lib.hid hpb.2
        have HX1 := Lib.hid hx1.2
        clear hcc' hr hg hs1 hP hpb hst hsl hR1 hx1 hjl h0
        go_wp2_with fail
        with_reducible refine (pxor_any C n1 c' P A1 c1' x1 _ HSL.out HR1.out (by omega) HPB.out HX1.out).mono ?_
        rintro e w2 ⟨⟨C2, c2, rfl, hown2⟩, k2⟩
        have hB2 := hbel.trans (k2.mono hbel.size)
        have hO2 := hown2.mono (B' := w.heap.size) hbel.size
        go_wp2
        go_roundw
        case rel => exact ⟨j + 1, C2, c2, by omega, by go_num, rfl, by rw [HST.out]; exact hO2, hB2⟩
        case measure => simp [intOf]; omega
    · have hkn : j = n := by omega
      have hall := agN_all (dat rs) ys k
      rw [HB.out.1, ← hkn] at hall
      rw [hall] at hown
      have hkI : ¬ (j : Int) < (n : Int) := by omega
      clear hall hkn
      go_wp2
      go_ret2
      exact ⟨⟨_, _, rfl, hown⟩, hbel⟩
end Go.Proofs.Ytdhfckdnfppieaa
