/- The functions of package parity return what the document specifies: ParitySays answers true at every slice of slices of ints, slice of ints, int, slice of ints; errors.errorType is tied to the program's text. Conditions: none beside the card's own. -/
import Derived.Test.YtdhfckdnfppieaaDoorParAgain
import Derived.Test.YtdhfckdnfppieaaDoorParSmall
import Derived.Test.YtdhfckdnfppieaaDoorRPar
import Derived.Test.YtdhfckdnfppieaaDoorIn
import Derived.Test.YtdhfckdnfppieaaDoorOpenD
import Derived.Test.YtdhfckdnfppieaaDoorTold
namespace Go.Proofs.YtdhfckdnfppieaaDoor.paritySays
open Go Go.ChangeShapes Go.WideShapes Go.ChangeAt Go.RowKit
set_option linter.unusedVariables false

theorem OwnR.lit (w : World) (B : Nat) (hB : B ≤ w.heap.size) (r : RV) : OwnR (w.alloc (.cells #[r.val] 31)) B (.slice (some ⟨w.heap.size, 0, none⟩) 1 1) 1 [r] :=
  ⟨rfl, .inr ⟨w.heap.size, 1, #[r.val], rfl, hB, heap_alloc_new w _, Nat.le_refl _, by unfold maxLen; omega, rfl, rfl⟩⟩
/-- more, and the first j rows but row k. -/
def allN (b : RV) (rs : List RV) (k j : Nat) : List RV := b :: (rs.take j).eraseIdx k
theorem allN_at {b : RV} {rs : List RV} {k : Nat} (hk : k < rs.length) : allN b rs k (k + 1) = allN b rs k k := by
  unfold allN
  have hl : (rs.take k).length = k := by rw [List.length_take]; omega
  rw [List.take_succ_eq_append_getElem hk, List.eraseIdx_append_of_length_le (by omega), hl, Nat.sub_self, List.eraseIdx_of_length_le (by omega : (rs.take k).length ≤ k)]
  simp
theorem allN_step {b : RV} {rs : List RV} {k j : Nat} (hj : j < rs.length) (hne : j ≠ k) : allN b rs k (j + 1) = allN b rs k j ++ [rs[j]?.getD noRow] := by
  unfold allN
  have hl : (rs.take j).length = j := by rw [List.length_take]; omega
  have hg : rs[j]?.getD noRow = rs[j] := by rw [List.getElem?_eq_getElem hj]; rfl
  rw [List.take_succ_eq_append_getElem hj, hg]
  rcases Nat.lt_or_ge k j with h | h
  · rw [List.eraseIdx_append_of_lt_length (by omega)]; rfl
  · rw [List.eraseIdx_append_of_length_le (by omega), hl, List.eraseIdx_of_length_le (by simp; omega), List.eraseIdx_of_length_le (by omega : (rs.take j).length ≤ k)]; rfl
theorem allN_dat (b : RV) (rs : List RV) (k : Nat) : dat (allN b rs k rs.length) = b.2.2.2 :: (dat rs).eraseIdx k := by
  unfold allN dat
  rw [List.take_of_length_le (Nat.le_refl _), List.map_cons, List.eraseIdx_eq_take_drop_succ, List.eraseIdx_eq_take_drop_succ, List.map_append, List.map_take, List.map_drop]
theorem allN_mem {b : RV} {rs : List RV} {k j : Nat} {r : RV} (h : r ∈ allN b rs k j) : r = b ∨ r ∈ rs := by
  unfold allN at h
  rcases List.mem_cons.1 h with h | h
  · exact .inl h
  · exact .inr (List.mem_of_mem_take (List.mem_of_mem_eraseIdx h))
theorem allN_len (b : RV) (rs : List RV) (k j : Nat) : (allN b rs k j).length ≤ j + 1 := by
  unfold allN
  have := List.length_eraseIdx_le (rs.take j) k
  rw [List.length_cons]; rw [List.length_take] at this; omega
theorem three_ok {m : Nat} {ys xs zs : List Int} (h : rowsE [ys, xs, zs] = 0) (hm : ys.length = m) : m ≤ 16 ∧ Bytes m ys ∧ Bytes m xs ∧ Bytes m zs := by
  have hb := rows_bytes h (show (([ys, xs, zs] : List (List Int))[0]?.getD []).length = m from hm)
  exact ⟨rows_16 h hm, hb ys (by simp), hb xs (by simp), hb zs (by simp)⟩
theorem ints_bel (A B : Option Addr) (n m ca cb : Nat) (xs ys : List Int) (w : World) (hA : Rd w A n xs) (hB : Rd w B m ys) :
    Calls Tryd.prog 24 #[.slice A n ca, .slice B m cb] w fun e w' => e = .returned (.bool (decide (xs = ys))) ∧ Below w.heap.size w w' :=
  (ints_any A B n m ca cb xs ys w hA hB).mono (by rintro e w' ⟨rfl, q, rfl⟩; exact ⟨rfl, below_drewN_of (Below.refl _ _) q⟩)
theorem rrows_bel (A : Option Addr) (n c : Nat) (rs : List RV) (w : World) (hA : RRows w A n rs) :
    Calls Tryd.prog 32 #[.slice A n c] w fun e w' => e = .returned (.int .i64 (rowsE (dat rs))) ∧ Below w.heap.size w w' :=
  (rrows_any A n c rs w hA).mono (by rintro e w' ⟨rfl, q, rfl⟩; exact ⟨rfl, below_drewN_of (Below.refl _ _) q⟩)
theorem byte_big {m : Nat} {xs : List Int} (h : Bytes m xs) : ∀ x ∈ xs, -9223372036854775808 ≤ x ∧ x ≤ 9223372036854775807 := fun x hx => by have := h.2 x hx; omega

set_option maxHeartbeats 4000000 in
set_option maxRecDepth 100000 in
theorem F1z_ok (w : World) (A : Option Addr) (n c : Nat) (rs : List RV) (hA : RRows w A n rs) (hc : n ≤ c) (B : Option Addr) (m d : Nat) (ys : List Int) (hM : Sl w B m d ys) (k : Int) (hk : -9223372036854775808 ≤ k ∧ k ≤ 9223372036854775807) (Z : Option Addr) (l e : Nat) (zs : List Int) (hI : Sl w Z l e zs) (hE : ErrT w) (hz : n = 0) (F : Int) (hF : rowsE (dat rs) = F) (hF0 : F ≠ 0) (hT : rowsE [ys, [], zs] = 0) :
    Calls Tryd.prog 8 #[.slice A n c, .slice B m d, .int .i64 k, .slice Z l e] w fun e w' => e = .returned (.bool true) ∧ Below w.heap.size w w' := by
  have HE := Lib.hid hE
  have HI := Lib.hid hI
  subst hz
  have hW : Sl w none 0 0 [] := ⟨Rd.nil _ _, Nat.le_refl _, fun _ => rfl⟩
  have hlym := hM.1.len
  have hlz := hI.1.len
  have hlw := hW.1.len
  have h3 := three_ok hT hlym
  have hl1 := h3.2.2.1.1
  have hl2 := h3.2.2.2.1
  obtain rfl : l = m := by omega
  obtain rfl : l = 0 := by simp at hl1; omega
  have h3b : ∀ r ∈ dat [(B, 0, d, ys), (none, 0, 0, []), (Z, 0, e, zs)], Bytes 0 r := by
    intro r hr
    have hr' : r = ys ∨ r = [] ∨ r = zs := by simpa [dat] using hr
    rcases hr' with rfl | rfl | rfl
    · exact h3.2.1
    · exact h3.2.2.1
    · exact h3.2.2.2
  have H3 := Lib.hid (And.intro h3.1 (And.intro h3.2.1 (And.intro h3.2.2.1 (And.intro h3.2.2.2 h3b))))
  have hQ1 : Bytes 0 (zx (zx ys []) zs) := zip_bytes (zip_bytes h3.2.1 h3.2.2.1) h3.2.2.2
  have HQ := Lib.hid (And.intro hQ1 (show Bytes 0 (parI (dat [(B, 0, d, ys), (none, 0, 0, []), (Z, 0, e, zs)])) from hQ1))
  clear h3 hl1 hl2 h3b hQ1
  have HT := Lib.hid hT
  have HW := Lib.hid hW
  have HM := Lib.hid hM
  have HF := Lib.hid hF
  have HF0 := Lib.hid hF0
  have hFs : (F == F) = true := by simp
  have hFb : (F == 0) = false := by simpa using hF0
  have HAE := Lib.hid (show againE (dat rs) ys k = F by unfold againE; rw [hF, if_pos hF0])
  have HAE0 := Lib.hid hF0
  clear hF hF0
  clear hlym hlz hlw hW hT hI hE
  go_enter Tryd.func8, Tryd.ntmps8
  have hB : Below w.heap.size w w := Below.refl _ _
  go_wp2_with fail
  with_reducible refine (rrows_bel _ _ _ rs _ hA).mono ?_
  rintro e' w0 ⟨rfl, k0⟩
  rw [HF.out]
  have hB := k0
  have hAq := hA.below hB
  go_wp2_with fail
  with_reducible refine (check_any _ _ _ rs _ hAq).mono ?_
  rintro e w' ⟨rfl, rfl⟩
  rw [HF.out, errV_ne HF0.out]
  go_wp2_with fail
  with_reducible refine (error_err F F _ (HE.out.below hB)).mono ?_
  rintro e' wt ⟨rfl, kt⟩
  have hB := hB.trans (kt.mono hB.size)
  clear kt
  have hA1 := hA.below hB
  go_wp2_with fail
  with_reducible refine (of_bad _ _ _ rs _ hA1 (by rw [HF.out]; exact HF0.out)).mono ?_
  rintro e' w' ⟨rfl, rfl⟩
  rw [HF.out]
  go_wp2_with fail
  with_reducible refine (error_err F F _ (HE.out.below hB)).mono ?_
  rintro e' wt ⟨rfl, kt⟩
  have hB := hB.trans (kt.mono hB.size)
  clear kt
  go_wp2_with fail
  with_reducible refine (ints_bel _ _ _ _ _ _ _ _ _ (Rd.nil _ _) (Rd.nil _ _)).mono ?_
  rintro e' wq ⟨rfl, kq⟩
  rw [show decide (([] : List Int) = []) = true from rfl]
  have hB := hB.trans (kq.mono hB.size)
  have hA2 := hA.below hB
  have hM2 := (HM.out.below hB).1
  go_wp2_with fail
  with_reducible refine (again_bad _ _ _ rs _ _ _ ys k _ hA2 hM2 hk (by rw [HAE.out]; exact HAE0.out)).mono ?_
  rintro e' w' ⟨rfl, rfl⟩
  rw [HAE.out]
  clear hA2 hM2
  go_wp2_with fail
  with_reducible refine (error_err F F _ (HE.out.below hB)).mono ?_
  rintro e' wt ⟨rfl, kt⟩
  have hB := hB.trans (kt.mono hB.size)
  clear kt
  go_wp2_with fail
  with_reducible refine (ints_bel _ _ _ _ _ _ _ _ _ (Rd.nil _ _) (Rd.nil _ _)).mono ?_
  rintro e' wq ⟨rfl, kq⟩
  rw [show decide (([] : List Int) = []) = true from rfl]
  have hB := hB.trans (kq.mono hB.size)
  have hMx := HM.out.below hB
  have hWx := HW.out.below hB
  have hIx := HI.out.below hB
  have hR3 := Lib.hid (three_rows hMx hWx hIx)
  have hq3 := hB.alloc hB.size (.cells #[.slice B 0 d, .slice none 0 0, .slice Z 0 e] 31)
  go_wp2_with fail
  with_reducible refine (rrows_bel _ 3 3 _ _ hR3.out).mono ?_
  rintro e' w3 ⟨rfl, k3⟩
  have hq3 := hq3.trans (k3.mono hq3.size)
  have hR3 := Lib.hid (hR3.out.below k3)
  rw [show rowsE (dat [(B, 0, d, ys), (none, 0, 0, []), (Z, 0, e, zs)]) = _ from HT.out]
  go_wp2_with fail
  with_reducible refine (rparity_any _ 3 3 _ _ hR3.out (by omega) (by omega) 0 H3.out.1 H3.out.2.2.2.2).mono ?_
  rintro e' wp ⟨⟨Cp, cp, rfl, hownp⟩, kp⟩
  have hBp := hq3.trans (kp.mono hq3.size)
  have hMp := HM.out.below hBp
  have hWp := HW.out.below hBp
  have hIp := HI.out.below hBp
  clear hMx hWx hIx hq3
  go_wp2_with fail
  with_reducible refine (small_ok _ _ _ _ _ _ _ ys [] zs _ hMp hWp hIp H3.out.1 H3.out.2.1 H3.out.2.2.1 H3.out.2.2.2.1).mono ?_
  rintro e' ws ⟨⟨Cs, cs, rfl, howns⟩, ks⟩
  have hB := hBp.trans (ks.mono hBp.size)
  have hrp := (hownp.below ks).rd (by have := H3.out.1; omega) (byte_big HQ.out.2)
  have hrs := howns.rd (by have := H3.out.1; omega) (byte_big HQ.out.1)
  clear hownp howns hMp hWp hIp
  go_wp2_with fail
  with_reducible refine (error_nil _ _).mono ?_
  rintro e w' ⟨rfl, rfl⟩
  go_wp2_with fail
  with_reducible refine (ints_bel _ _ _ _ _ _ _ _ _ hrs hrp).mono ?_
  rintro e' wq ⟨rfl, kq⟩
  rw [show decide (zx (zx ys []) zs = parI (dat [(B, 0, d, ys), (none, 0, 0, []), (Z, 0, e, zs)])) = true from decide_eq_true rfl]
  have hB := hB.trans (kq.mono hB.size)
  go_wp2
  go_ret
  exact ⟨rfl, hB⟩

set_option maxHeartbeats 4000000 in
set_option maxRecDepth 100000 in
theorem F1z_bad (w : World) (A : Option Addr) (n c : Nat) (rs : List RV) (hA : RRows w A n rs) (hc : n ≤ c) (B : Option Addr) (m d : Nat) (ys : List Int) (hM : Sl w B m d ys) (k : Int) (hk : -9223372036854775808 ≤ k ∧ k ≤ 9223372036854775807) (Z : Option Addr) (l e : Nat) (zs : List Int) (hI : Sl w Z l e zs) (hE : ErrT w) (hz : n = 0) (F : Int) (hF : rowsE (dat rs) = F) (hF0 : F ≠ 0) (G : Int) (hT : rowsE [ys, [], zs] = G) (hG : G ≠ 0) :
    Calls Tryd.prog 8 #[.slice A n c, .slice B m d, .int .i64 k, .slice Z l e] w fun e w' => e = .returned (.bool true) ∧ Below w.heap.size w w' := by
  have HE := Lib.hid hE
  have HI := Lib.hid hI
  subst hz
  have hW : Sl w none 0 0 [] := ⟨Rd.nil _ _, Nat.le_refl _, fun _ => rfl⟩
  have hlym := hM.1.len
  have hlz := hI.1.len
  have hlw := hW.1.len
  have HG := Lib.hid hG
  have hGs : (G == G) = true := by simp
  have hGb : (G == 0) = false := by simpa using hG
  have HT := Lib.hid hT
  have HW := Lib.hid hW
  have HM := Lib.hid hM
  have HF := Lib.hid hF
  have HF0 := Lib.hid hF0
  have hFs : (F == F) = true := by simp
  have hFb : (F == 0) = false := by simpa using hF0
  have HAE := Lib.hid (show againE (dat rs) ys k = F by unfold againE; rw [hF, if_pos hF0])
  have HAE0 := Lib.hid hF0
  clear hF hF0
  clear hlym hlz hlw hW hT hI hE hG
  go_enter Tryd.func8, Tryd.ntmps8
  have hB : Below w.heap.size w w := Below.refl _ _
  go_wp2_with fail
  with_reducible refine (rrows_bel _ _ _ rs _ hA).mono ?_
  rintro e' w0 ⟨rfl, k0⟩
  rw [HF.out]
  have hB := k0
  have hAq := hA.below hB
  go_wp2_with fail
  with_reducible refine (check_any _ _ _ rs _ hAq).mono ?_
  rintro e w' ⟨rfl, rfl⟩
  rw [HF.out, errV_ne HF0.out]
  go_wp2_with fail
  with_reducible refine (error_err F F _ (HE.out.below hB)).mono ?_
  rintro e' wt ⟨rfl, kt⟩
  have hB := hB.trans (kt.mono hB.size)
  clear kt
  have hA1 := hA.below hB
  go_wp2_with fail
  with_reducible refine (of_bad _ _ _ rs _ hA1 (by rw [HF.out]; exact HF0.out)).mono ?_
  rintro e' w' ⟨rfl, rfl⟩
  rw [HF.out]
  go_wp2_with fail
  with_reducible refine (error_err F F _ (HE.out.below hB)).mono ?_
  rintro e' wt ⟨rfl, kt⟩
  have hB := hB.trans (kt.mono hB.size)
  clear kt
  go_wp2_with fail
  with_reducible refine (ints_bel _ _ _ _ _ _ _ _ _ (Rd.nil _ _) (Rd.nil _ _)).mono ?_
  rintro e' wq ⟨rfl, kq⟩
  rw [show decide (([] : List Int) = []) = true from rfl]
  have hB := hB.trans (kq.mono hB.size)
  have hA2 := hA.below hB
  have hM2 := (HM.out.below hB).1
  go_wp2_with fail
  with_reducible refine (again_bad _ _ _ rs _ _ _ ys k _ hA2 hM2 hk (by rw [HAE.out]; exact HAE0.out)).mono ?_
  rintro e' w' ⟨rfl, rfl⟩
  rw [HAE.out]
  clear hA2 hM2
  go_wp2_with fail
  with_reducible refine (error_err F F _ (HE.out.below hB)).mono ?_
  rintro e' wt ⟨rfl, kt⟩
  have hB := hB.trans (kt.mono hB.size)
  clear kt
  go_wp2_with fail
  with_reducible refine (ints_bel _ _ _ _ _ _ _ _ _ (Rd.nil _ _) (Rd.nil _ _)).mono ?_
  rintro e' wq ⟨rfl, kq⟩
  rw [show decide (([] : List Int) = []) = true from rfl]
  have hB := hB.trans (kq.mono hB.size)
  have hMx := HM.out.below hB
  have hWx := HW.out.below hB
  have hIx := HI.out.below hB
  have hR3 := Lib.hid (three_rows hMx hWx hIx)
  have hq3 := hB.alloc hB.size (.cells #[.slice B m d, .slice none 0 0, .slice Z l e] 31)
  go_wp2_with fail
  with_reducible refine (rrows_bel _ 3 3 _ _ hR3.out).mono ?_
  rintro e' w3 ⟨rfl, k3⟩
  have hq3 := hq3.trans (k3.mono hq3.size)
  have hR3 := Lib.hid (hR3.out.below k3)
  rw [show rowsE (dat [(B, m, d, ys), (none, 0, 0, []), (Z, l, e, zs)]) = _ from HT.out]
  have hMq := HM.out.below hq3
  have hWq := HW.out.below hq3
  have hIq := HI.out.below hq3
  clear hMx hWx hIx
  go_wp2_with fail
  with_reducible refine (small_bad _ _ _ _ _ _ _ _ _ ys [] zs _ hMq hWq hIq (by rw [HT.out]; exact HG.out)).mono ?_
  rintro e' ws ⟨rfl, ks⟩
  have hB := hq3.trans (ks.mono hq3.size)
  rw [HT.out]
  go_wp2_with fail
  with_reducible refine (error_err G G _ (HE.out.below hB)).mono ?_
  rintro e' wt ⟨rfl, kt⟩
  have hB := hB.trans (kt.mono hB.size)
  go_wp2_with fail
  with_reducible refine (ints_bel _ _ _ _ _ _ _ _ _ (Rd.nil _ _) (Rd.nil _ _)).mono ?_
  rintro e' wq ⟨rfl, kq⟩
  rw [show decide (([] : List Int) = []) = true from rfl]
  have hB := hB.trans (kq.mono hB.size)
  go_wp2
  go_ret
  exact ⟨rfl, hB⟩

set_option maxHeartbeats 4000000 in
set_option maxRecDepth 100000 in
theorem F1_ok (w : World) (A : Option Addr) (n c : Nat) (rs : List RV) (hA : RRows w A n rs) (hc : n ≤ c) (B : Option Addr) (m d : Nat) (ys : List Int) (hM : Sl w B m d ys) (k : Int) (hk : -9223372036854775808 ≤ k ∧ k ≤ 9223372036854775807) (Z : Option Addr) (l e : Nat) (zs : List Int) (hI : Sl w Z l e zs) (hE : ErrT w) (b off : Nat) (hAe : A = some ⟨b, off, none⟩) (hbl : b < w.heap.size) (HCC : Hid (∀ k, k < n → w.cell? ⟨b, off + k, none⟩ = some ((rs[k]?.getD noRow).val))) (A0 : Option Addr) (n0 c0 : Nat) (x0 : List Int) (h0 : w.cell? ⟨b, off, none⟩ = some (.slice A0 n0 c0)) (hs0 : Sl w A0 n0 c0 x0) (hn0 : 0 < n) (F : Int) (hF : rowsE (dat rs) = F) (hF0 : F ≠ 0) (hT : rowsE [ys, x0, zs] = 0) :
    Calls Tryd.prog 8 #[.slice A n c, .slice B m d, .int .i64 k, .slice Z l e] w fun e w' => e = .returned (.bool true) ∧ Below w.heap.size w w' := by
  have HE := Lib.hid hE
  have HI := Lib.hid hI
  subst hAe
  have hW := hs0
  have hlym := hM.1.len
  have hlz := hI.1.len
  have hlw := hW.1.len
  have h3 := three_ok hT hlym
  have hl1 := h3.2.2.1.1
  have hl2 := h3.2.2.2.1
  obtain rfl : l = m := by omega
  obtain rfl : n0 = l := by omega
  have h3b : ∀ r ∈ dat [(B, n0, d, ys), (A0, n0, c0, x0), (Z, n0, e, zs)], Bytes n0 r := by
    intro r hr
    have hr' : r = ys ∨ r = x0 ∨ r = zs := by simpa [dat] using hr
    rcases hr' with rfl | rfl | rfl
    · exact h3.2.1
    · exact h3.2.2.1
    · exact h3.2.2.2
  have H3 := Lib.hid (And.intro h3.1 (And.intro h3.2.1 (And.intro h3.2.2.1 (And.intro h3.2.2.2 h3b))))
  have hQ1 : Bytes n0 (zx (zx ys x0) zs) := zip_bytes (zip_bytes h3.2.1 h3.2.2.1) h3.2.2.2
  have HQ := Lib.hid (And.intro hQ1 (show Bytes n0 (parI (dat [(B, n0, d, ys), (A0, n0, c0, x0), (Z, n0, e, zs)])) from hQ1))
  clear h3 hl1 hl2 h3b hQ1
  have HT := Lib.hid hT
  have HW := Lib.hid hW
  have HM := Lib.hid hM
  have HF := Lib.hid hF
  have HF0 := Lib.hid hF0
  have hFs : (F == F) = true := by simp
  have hFb : (F == 0) = false := by simpa using hF0
  have HAE := Lib.hid (show againE (dat rs) ys k = F by unfold againE; rw [hF, if_pos hF0])
  have HAE0 := Lib.hid hF0
  clear hF hF0
  clear hlym hlz hlw hW hT hI hE hs0
  go_enter Tryd.func8, Tryd.ntmps8
  have hB : Below w.heap.size w w := Below.refl _ _
  go_wp2_with fail
  with_reducible refine (rrows_bel _ _ _ rs _ hA).mono ?_
  rintro e' w0 ⟨rfl, k0⟩
  rw [HF.out]
  have hB := k0
  have hAq := hA.below hB
  go_wp2_with fail
  with_reducible refine (check_any _ _ _ rs _ hAq).mono ?_
  rintro e w' ⟨rfl, rfl⟩
  rw [HF.out, errV_ne HF0.out]
  go_wp2_with fail
  with_reducible refine (error_err F F _ (HE.out.below hB)).mono ?_
  rintro e' wt ⟨rfl, kt⟩
  have hB := hB.trans (kt.mono hB.size)
  clear kt
  have hA1 := hA.below hB
  go_wp2_with fail
  with_reducible refine (of_bad _ _ _ rs _ hA1 (by rw [HF.out]; exact HF0.out)).mono ?_
  rintro e' w' ⟨rfl, rfl⟩
  rw [HF.out]
  go_wp2_with fail
  with_reducible refine (error_err F F _ (HE.out.below hB)).mono ?_
  rintro e' wt ⟨rfl, kt⟩
  have hB := hB.trans (kt.mono hB.size)
  clear kt
  go_wp2_with fail
  with_reducible refine (ints_bel _ _ _ _ _ _ _ _ _ (Rd.nil _ _) (Rd.nil _ _)).mono ?_
  rintro e' wq ⟨rfl, kq⟩
  rw [show decide (([] : List Int) = []) = true from rfl]
  have hB := hB.trans (kq.mono hB.size)
  have hA2 := hA.below hB
  have hM2 := (HM.out.below hB).1
  go_wp2_with fail
  with_reducible refine (again_bad _ _ _ rs _ _ _ ys k _ hA2 hM2 hk (by rw [HAE.out]; exact HAE0.out)).mono ?_
  rintro e' w' ⟨rfl, rfl⟩
  rw [HAE.out]
  clear hA2 hM2
  go_wp2_with fail
  with_reducible refine (error_err F F _ (HE.out.below hB)).mono ?_
  rintro e' wt ⟨rfl, kt⟩
  have hB := hB.trans (kt.mono hB.size)
  clear kt
  go_wp2_with fail
  with_reducible refine (ints_bel _ _ _ _ _ _ _ _ _ (Rd.nil _ _) (Rd.nil _ _)).mono ?_
  rintro e' wq ⟨rfl, kq⟩
  rw [show decide (([] : List Int) = []) = true from rfl]
  have hB := hB.trans (kq.mono hB.size)
  have h0X := (hB.cell (p := ⟨b, off, none⟩) hbl).trans h0
  have hMx := HM.out.below hB
  have hWx := HW.out.below hB
  have hIx := HI.out.below hB
  have hR3 := Lib.hid (three_rows hMx hWx hIx)
  have hq3 := hB.alloc hB.size (.cells #[.slice B n0 d, .slice A0 n0 c0, .slice Z n0 e] 31)
  go_wp2_with fail
  with_reducible refine (rrows_bel _ 3 3 _ _ hR3.out).mono ?_
  rintro e' w3 ⟨rfl, k3⟩
  have hq3 := hq3.trans (k3.mono hq3.size)
  have hR3 := Lib.hid (hR3.out.below k3)
  rw [show rowsE (dat [(B, n0, d, ys), (A0, n0, c0, x0), (Z, n0, e, zs)]) = _ from HT.out]
  go_wp2_with fail
  with_reducible refine (rparity_any _ 3 3 _ _ hR3.out (by omega) (by omega) n0 H3.out.1 H3.out.2.2.2.2).mono ?_
  rintro e' wp ⟨⟨Cp, cp, rfl, hownp⟩, kp⟩
  have hBp := hq3.trans (kp.mono hq3.size)
  have hMp := HM.out.below hBp
  have hWp := HW.out.below hBp
  have hIp := HI.out.below hBp
  clear hMx hWx hIx hq3
  go_wp2_with fail
  with_reducible refine (small_ok _ _ _ _ _ _ _ ys x0 zs _ hMp hWp hIp H3.out.1 H3.out.2.1 H3.out.2.2.1 H3.out.2.2.2.1).mono ?_
  rintro e' ws ⟨⟨Cs, cs, rfl, howns⟩, ks⟩
  have hB := hBp.trans (ks.mono hBp.size)
  have hrp := (hownp.below ks).rd (by have := H3.out.1; omega) (byte_big HQ.out.2)
  have hrs := howns.rd (by have := H3.out.1; omega) (byte_big HQ.out.1)
  clear hownp howns hMp hWp hIp
  go_wp2_with fail
  with_reducible refine (error_nil _ _).mono ?_
  rintro e w' ⟨rfl, rfl⟩
  go_wp2_with fail
  with_reducible refine (ints_bel _ _ _ _ _ _ _ _ _ hrs hrp).mono ?_
  rintro e' wq ⟨rfl, kq⟩
  rw [show decide (zx (zx ys x0) zs = parI (dat [(B, n0, d, ys), (A0, n0, c0, x0), (Z, n0, e, zs)])) = true from decide_eq_true rfl]
  have hB := hB.trans (kq.mono hB.size)
  go_wp2
  go_ret
  exact ⟨rfl, hB⟩

set_option maxHeartbeats 4000000 in
set_option maxRecDepth 100000 in
theorem F1_bad (w : World) (A : Option Addr) (n c : Nat) (rs : List RV) (hA : RRows w A n rs) (hc : n ≤ c) (B : Option Addr) (m d : Nat) (ys : List Int) (hM : Sl w B m d ys) (k : Int) (hk : -9223372036854775808 ≤ k ∧ k ≤ 9223372036854775807) (Z : Option Addr) (l e : Nat) (zs : List Int) (hI : Sl w Z l e zs) (hE : ErrT w) (b off : Nat) (hAe : A = some ⟨b, off, none⟩) (hbl : b < w.heap.size) (HCC : Hid (∀ k, k < n → w.cell? ⟨b, off + k, none⟩ = some ((rs[k]?.getD noRow).val))) (A0 : Option Addr) (n0 c0 : Nat) (x0 : List Int) (h0 : w.cell? ⟨b, off, none⟩ = some (.slice A0 n0 c0)) (hs0 : Sl w A0 n0 c0 x0) (hn0 : 0 < n) (F : Int) (hF : rowsE (dat rs) = F) (hF0 : F ≠ 0) (G : Int) (hT : rowsE [ys, x0, zs] = G) (hG : G ≠ 0) :
    Calls Tryd.prog 8 #[.slice A n c, .slice B m d, .int .i64 k, .slice Z l e] w fun e w' => e = .returned (.bool true) ∧ Below w.heap.size w w' := by
  have HE := Lib.hid hE
  have HI := Lib.hid hI
  subst hAe
  have hW := hs0
  have hlym := hM.1.len
  have hlz := hI.1.len
  have hlw := hW.1.len
  have HG := Lib.hid hG
  have hGs : (G == G) = true := by simp
  have hGb : (G == 0) = false := by simpa using hG
  have HT := Lib.hid hT
  have HW := Lib.hid hW
  have HM := Lib.hid hM
  have HF := Lib.hid hF
  have HF0 := Lib.hid hF0
  have hFs : (F == F) = true := by simp
  have hFb : (F == 0) = false := by simpa using hF0
  have HAE := Lib.hid (show againE (dat rs) ys k = F by unfold againE; rw [hF, if_pos hF0])
  have HAE0 := Lib.hid hF0
  clear hF hF0
  clear hlym hlz hlw hW hT hI hE hs0 hG
  go_enter Tryd.func8, Tryd.ntmps8
  have hB : Below w.heap.size w w := Below.refl _ _
  go_wp2_with fail
  with_reducible refine (rrows_bel _ _ _ rs _ hA).mono ?_
  rintro e' w0 ⟨rfl, k0⟩
  rw [HF.out]
  have hB := k0
  have hAq := hA.below hB
  go_wp2_with fail
  with_reducible refine (check_any _ _ _ rs _ hAq).mono ?_
  rintro e w' ⟨rfl, rfl⟩
  rw [HF.out, errV_ne HF0.out]
  go_wp2_with fail
  with_reducible refine (error_err F F _ (HE.out.below hB)).mono ?_
  rintro e' wt ⟨rfl, kt⟩
  have hB := hB.trans (kt.mono hB.size)
  clear kt
  have hA1 := hA.below hB
  go_wp2_with fail
  with_reducible refine (of_bad _ _ _ rs _ hA1 (by rw [HF.out]; exact HF0.out)).mono ?_
  rintro e' w' ⟨rfl, rfl⟩
  rw [HF.out]
  go_wp2_with fail
  with_reducible refine (error_err F F _ (HE.out.below hB)).mono ?_
  rintro e' wt ⟨rfl, kt⟩
  have hB := hB.trans (kt.mono hB.size)
  clear kt
  go_wp2_with fail
  with_reducible refine (ints_bel _ _ _ _ _ _ _ _ _ (Rd.nil _ _) (Rd.nil _ _)).mono ?_
  rintro e' wq ⟨rfl, kq⟩
  rw [show decide (([] : List Int) = []) = true from rfl]
  have hB := hB.trans (kq.mono hB.size)
  have hA2 := hA.below hB
  have hM2 := (HM.out.below hB).1
  go_wp2_with fail
  with_reducible refine (again_bad _ _ _ rs _ _ _ ys k _ hA2 hM2 hk (by rw [HAE.out]; exact HAE0.out)).mono ?_
  rintro e' w' ⟨rfl, rfl⟩
  rw [HAE.out]
  clear hA2 hM2
  go_wp2_with fail
  with_reducible refine (error_err F F _ (HE.out.below hB)).mono ?_
  rintro e' wt ⟨rfl, kt⟩
  have hB := hB.trans (kt.mono hB.size)
  clear kt
  go_wp2_with fail
  with_reducible refine (ints_bel _ _ _ _ _ _ _ _ _ (Rd.nil _ _) (Rd.nil _ _)).mono ?_
  rintro e' wq ⟨rfl, kq⟩
  rw [show decide (([] : List Int) = []) = true from rfl]
  have hB := hB.trans (kq.mono hB.size)
  have h0X := (hB.cell (p := ⟨b, off, none⟩) hbl).trans h0
  have hMx := HM.out.below hB
  have hWx := HW.out.below hB
  have hIx := HI.out.below hB
  have hR3 := Lib.hid (three_rows hMx hWx hIx)
  have hq3 := hB.alloc hB.size (.cells #[.slice B m d, .slice A0 n0 c0, .slice Z l e] 31)
  go_wp2_with fail
  with_reducible refine (rrows_bel _ 3 3 _ _ hR3.out).mono ?_
  rintro e' w3 ⟨rfl, k3⟩
  have hq3 := hq3.trans (k3.mono hq3.size)
  have hR3 := Lib.hid (hR3.out.below k3)
  rw [show rowsE (dat [(B, m, d, ys), (A0, n0, c0, x0), (Z, l, e, zs)]) = _ from HT.out]
  have hMq := HM.out.below hq3
  have hWq := HW.out.below hq3
  have hIq := HI.out.below hq3
  clear hMx hWx hIx
  go_wp2_with fail
  with_reducible refine (small_bad _ _ _ _ _ _ _ _ _ ys x0 zs _ hMq hWq hIq (by rw [HT.out]; exact HG.out)).mono ?_
  rintro e' ws ⟨rfl, ks⟩
  have hB := hq3.trans (ks.mono hq3.size)
  rw [HT.out]
  go_wp2_with fail
  with_reducible refine (error_err G G _ (HE.out.below hB)).mono ?_
  rintro e' wt ⟨rfl, kt⟩
  have hB := hB.trans (kt.mono hB.size)
  go_wp2_with fail
  with_reducible refine (ints_bel _ _ _ _ _ _ _ _ _ (Rd.nil _ _) (Rd.nil _ _)).mono ?_
  rintro e' wq ⟨rfl, kq⟩
  rw [show decide (([] : List Int) = []) = true from rfl]
  have hB := hB.trans (kq.mono hB.size)
  go_wp2
  go_ret
  exact ⟨rfl, hB⟩

set_option maxHeartbeats 4000000 in
set_option maxRecDepth 100000 in
theorem F2a_ok (w : World) (A : Option Addr) (n c : Nat) (rs : List RV) (hA : RRows w A n rs) (hc : n ≤ c) (B : Option Addr) (m d : Nat) (ys : List Int) (hM : Sl w B m d ys) (k : Int) (hk : -9223372036854775808 ≤ k ∧ k ≤ 9223372036854775807) (Z : Option Addr) (l e : Nat) (zs : List Int) (hI : Sl w Z l e zs) (hE : ErrT w) (b off : Nat) (hAe : A = some ⟨b, off, none⟩) (hbl : b < w.heap.size) (HCC : Hid (∀ k, k < n → w.cell? ⟨b, off + k, none⟩ = some ((rs[k]?.getD noRow).val))) (A0 : Option Addr) (n0 c0 : Nat) (x0 : List Int) (h0 : w.cell? ⟨b, off, none⟩ = some (.slice A0 n0 c0)) (hs0 : Sl w A0 n0 c0 x0) (hn0 : 0 < n) (hF : rowsE (dat rs) = 0) (hx0 : (dat rs)[0]?.getD [] = x0) (Y : Int) (hY : bytesE ys 16 = Y) (hY0 : Y ≠ 0) (hT : rowsE [ys, x0, zs] = 0) :
    Calls Tryd.prog 8 #[.slice A n c, .slice B m d, .int .i64 k, .slice Z l e] w fun e w' => e = .returned (.bool true) ∧ Below w.heap.size w w' := by
  have HE := Lib.hid hE
  have HI := Lib.hid hI
  subst hAe
  have hW := hs0
  have hlym := hM.1.len
  have hlz := hI.1.len
  have hlw := hW.1.len
  have h3 := three_ok hT hlym
  have hl1 := h3.2.2.1.1
  have hl2 := h3.2.2.2.1
  obtain rfl : l = m := by omega
  obtain rfl : n0 = l := by omega
  have h3b : ∀ r ∈ dat [(B, n0, d, ys), (A0, n0, c0, x0), (Z, n0, e, zs)], Bytes n0 r := by
    intro r hr
    have hr' : r = ys ∨ r = x0 ∨ r = zs := by simpa [dat] using hr
    rcases hr' with rfl | rfl | rfl
    · exact h3.2.1
    · exact h3.2.2.1
    · exact h3.2.2.2
  have H3 := Lib.hid (And.intro h3.1 (And.intro h3.2.1 (And.intro h3.2.2.1 (And.intro h3.2.2.2 h3b))))
  have hQ1 : Bytes n0 (zx (zx ys x0) zs) := zip_bytes (zip_bytes h3.2.1 h3.2.2.1) h3.2.2.2
  have HQ := Lib.hid (And.intro hQ1 (show Bytes n0 (parI (dat [(B, n0, d, ys), (A0, n0, c0, x0), (Z, n0, e, zs)])) from hQ1))
  clear h3 hl1 hl2 h3b hQ1
  have HT := Lib.hid hT
  have HW := Lib.hid hW
  have HM := Lib.hid hM
  have hldr : (dat rs).length = n := by rw [dat_len, hA.len]
  have hrz := rowsE_zero.1 hF
  have hn8 : n ≤ 8 := by omega
  have hm0 : ((dat rs)[0]?.getD []).length = n0 := by rw [hx0]; exact hlw
  have hby := rows_bytes hF hm0
  have h16 := rows_16 hF hm0
  have hpb := par_bytes (by omega) hby
  have HP := Lib.hid (And.intro h16 (And.intro hby (And.intro hm0 (And.intro hpb (And.intro hA.len True.intro)))))
  have HF := Lib.hid hF
  have HY := Lib.hid hY
  have HAE := Lib.hid (show againE (dat rs) ys k = Y by unfold againE; rw [hF, if_neg (by simp), hY, if_pos hY0])
  have HAE0 := Lib.hid hY0
  have hYs : (Y == Y) = true := by simp
  have hYb : (Y == 0) = false := by simpa using hY0
  clear hY0
  clear hldr hrz hm0 hby hpb hF hY hx0 h16
  clear hlym hlz hlw hW hT hI hE hs0
  go_enter Tryd.func8, Tryd.ntmps8
  have hB : Below w.heap.size w w := Below.refl _ _
  go_wp2_with fail
  with_reducible refine (rrows_bel _ _ _ rs _ hA).mono ?_
  rintro e' w0 ⟨rfl, k0⟩
  rw [HF.out]
  have hB := k0
  have hAq := hA.below hB
  go_wp2_with fail
  with_reducible refine (check_any _ _ _ rs _ hAq).mono ?_
  rintro e w' ⟨rfl, rfl⟩
  rw [HF.out, errV_zero]
  go_wp2_with fail
  with_reducible refine (error_nil _ _).mono ?_
  rintro e w' ⟨rfl, rfl⟩
  go_wp2_with fail
  with_reducible refine (rparity_any _ _ _ rs _ hAq hn0 (by omega) n0 HP.out.1 HP.out.2.1).mono ?_
  rintro e' w1 ⟨⟨C1, c1, rfl, hown1⟩, k1⟩
  have hB := hB.trans (k1.mono hB.size)
  have hA1 := hA.below hB
  go_wp2_with fail
  with_reducible refine (of_ok _ _ _ rs _ hA1 hc HF.out n0 HP.out.2.2.1).mono ?_
  rintro e' w2 ⟨⟨C2, c2, rfl, hown2⟩, k2⟩
  have hB := hB.trans (k2.mono hB.size)
  have hr1 := (hown1.below k2).rd (by have := HP.out.1; omega) (byte_big HP.out.2.2.2.1)
  have hr2 := hown2.rd (by have := HP.out.1; omega) (byte_big HP.out.2.2.2.1)
  clear hown1 hown2 hA1 k2
  go_wp2_with fail
  with_reducible refine (error_nil _ _).mono ?_
  rintro e w' ⟨rfl, rfl⟩
  go_wp2_with fail
  with_reducible refine (ints_bel _ _ _ _ _ _ _ _ _ hr2 hr1).mono ?_
  rintro e' wq ⟨rfl, kq⟩
  rw [show decide (parI (dat rs) = parI (dat rs)) = true from by simp]
  have hB := hB.trans (kq.mono hB.size)
  clear hr1 hr2
  have hMb := (HM.out.below hB).1
  have h0V := (hB.cell (p := ⟨b, off, none⟩) hbl).trans h0
  go_wp2_with fail
  with_reducible refine (rbytes_any _ _ _ _ ys _ hMb).mono ?_
  rintro e w' ⟨rfl, rfl⟩
  rw [HY.out]
  clear hMb
  have hA2 := hA.below hB
  have hM2 := (HM.out.below hB).1
  go_wp2_with fail
  with_reducible refine (again_bad _ _ _ rs _ _ _ ys k _ hA2 hM2 hk (by rw [HAE.out]; exact HAE0.out)).mono ?_
  rintro e' w' ⟨rfl, rfl⟩
  rw [HAE.out]
  clear hA2 hM2
  go_wp2_with fail
  with_reducible refine (error_err Y Y _ (HE.out.below hB)).mono ?_
  rintro e' wt ⟨rfl, kt⟩
  have hB := hB.trans (kt.mono hB.size)
  clear kt
  go_wp2_with fail
  with_reducible refine (ints_bel _ _ _ _ _ _ _ _ _ (Rd.nil _ _) (Rd.nil _ _)).mono ?_
  rintro e' wq ⟨rfl, kq⟩
  rw [show decide (([] : List Int) = []) = true from rfl]
  have hB := hB.trans (kq.mono hB.size)
  have h0X := (hB.cell (p := ⟨b, off, none⟩) hbl).trans h0
  have hMx := HM.out.below hB
  have hWx := HW.out.below hB
  have hIx := HI.out.below hB
  have hR3 := Lib.hid (three_rows hMx hWx hIx)
  have hq3 := hB.alloc hB.size (.cells #[.slice B n0 d, .slice A0 n0 c0, .slice Z n0 e] 31)
  go_wp2_with fail
  with_reducible refine (rrows_bel _ 3 3 _ _ hR3.out).mono ?_
  rintro e' w3 ⟨rfl, k3⟩
  have hq3 := hq3.trans (k3.mono hq3.size)
  have hR3 := Lib.hid (hR3.out.below k3)
  rw [show rowsE (dat [(B, n0, d, ys), (A0, n0, c0, x0), (Z, n0, e, zs)]) = _ from HT.out]
  go_wp2_with fail
  with_reducible refine (rparity_any _ 3 3 _ _ hR3.out (by omega) (by omega) n0 H3.out.1 H3.out.2.2.2.2).mono ?_
  rintro e' wp ⟨⟨Cp, cp, rfl, hownp⟩, kp⟩
  have hBp := hq3.trans (kp.mono hq3.size)
  have hMp := HM.out.below hBp
  have hWp := HW.out.below hBp
  have hIp := HI.out.below hBp
  clear hMx hWx hIx hq3
  go_wp2_with fail
  with_reducible refine (small_ok _ _ _ _ _ _ _ ys x0 zs _ hMp hWp hIp H3.out.1 H3.out.2.1 H3.out.2.2.1 H3.out.2.2.2.1).mono ?_
  rintro e' ws ⟨⟨Cs, cs, rfl, howns⟩, ks⟩
  have hB := hBp.trans (ks.mono hBp.size)
  have hrp := (hownp.below ks).rd (by have := H3.out.1; omega) (byte_big HQ.out.2)
  have hrs := howns.rd (by have := H3.out.1; omega) (byte_big HQ.out.1)
  clear hownp howns hMp hWp hIp
  go_wp2_with fail
  with_reducible refine (error_nil _ _).mono ?_
  rintro e w' ⟨rfl, rfl⟩
  go_wp2_with fail
  with_reducible refine (ints_bel _ _ _ _ _ _ _ _ _ hrs hrp).mono ?_
  rintro e' wq ⟨rfl, kq⟩
  rw [show decide (zx (zx ys x0) zs = parI (dat [(B, n0, d, ys), (A0, n0, c0, x0), (Z, n0, e, zs)])) = true from decide_eq_true rfl]
  have hB := hB.trans (kq.mono hB.size)
  go_wp2
  go_ret
  exact ⟨rfl, hB⟩

set_option maxHeartbeats 4000000 in
set_option maxRecDepth 100000 in
theorem F2a_bad (w : World) (A : Option Addr) (n c : Nat) (rs : List RV) (hA : RRows w A n rs) (hc : n ≤ c) (B : Option Addr) (m d : Nat) (ys : List Int) (hM : Sl w B m d ys) (k : Int) (hk : -9223372036854775808 ≤ k ∧ k ≤ 9223372036854775807) (Z : Option Addr) (l e : Nat) (zs : List Int) (hI : Sl w Z l e zs) (hE : ErrT w) (b off : Nat) (hAe : A = some ⟨b, off, none⟩) (hbl : b < w.heap.size) (HCC : Hid (∀ k, k < n → w.cell? ⟨b, off + k, none⟩ = some ((rs[k]?.getD noRow).val))) (A0 : Option Addr) (n0 c0 : Nat) (x0 : List Int) (h0 : w.cell? ⟨b, off, none⟩ = some (.slice A0 n0 c0)) (hs0 : Sl w A0 n0 c0 x0) (hn0 : 0 < n) (hF : rowsE (dat rs) = 0) (hx0 : (dat rs)[0]?.getD [] = x0) (Y : Int) (hY : bytesE ys 16 = Y) (hY0 : Y ≠ 0) (G : Int) (hT : rowsE [ys, x0, zs] = G) (hG : G ≠ 0) :
    Calls Tryd.prog 8 #[.slice A n c, .slice B m d, .int .i64 k, .slice Z l e] w fun e w' => e = .returned (.bool true) ∧ Below w.heap.size w w' := by
  have HE := Lib.hid hE
  have HI := Lib.hid hI
  subst hAe
  have hW := hs0
  have hlym := hM.1.len
  have hlz := hI.1.len
  have hlw := hW.1.len
  have HG := Lib.hid hG
  have hGs : (G == G) = true := by simp
  have hGb : (G == 0) = false := by simpa using hG
  have HT := Lib.hid hT
  have HW := Lib.hid hW
  have HM := Lib.hid hM
  have hldr : (dat rs).length = n := by rw [dat_len, hA.len]
  have hrz := rowsE_zero.1 hF
  have hn8 : n ≤ 8 := by omega
  have hm0 : ((dat rs)[0]?.getD []).length = n0 := by rw [hx0]; exact hlw
  have hby := rows_bytes hF hm0
  have h16 := rows_16 hF hm0
  have hpb := par_bytes (by omega) hby
  have HP := Lib.hid (And.intro h16 (And.intro hby (And.intro hm0 (And.intro hpb (And.intro hA.len True.intro)))))
  have HF := Lib.hid hF
  have HY := Lib.hid hY
  have HAE := Lib.hid (show againE (dat rs) ys k = Y by unfold againE; rw [hF, if_neg (by simp), hY, if_pos hY0])
  have HAE0 := Lib.hid hY0
  have hYs : (Y == Y) = true := by simp
  have hYb : (Y == 0) = false := by simpa using hY0
  clear hY0
  clear hldr hrz hm0 hby hpb hF hY hx0 h16
  clear hlym hlz hlw hW hT hI hE hs0 hG
  go_enter Tryd.func8, Tryd.ntmps8
  have hB : Below w.heap.size w w := Below.refl _ _
  go_wp2_with fail
  with_reducible refine (rrows_bel _ _ _ rs _ hA).mono ?_
  rintro e' w0 ⟨rfl, k0⟩
  rw [HF.out]
  have hB := k0
  have hAq := hA.below hB
  go_wp2_with fail
  with_reducible refine (check_any _ _ _ rs _ hAq).mono ?_
  rintro e w' ⟨rfl, rfl⟩
  rw [HF.out, errV_zero]
  go_wp2_with fail
  with_reducible refine (error_nil _ _).mono ?_
  rintro e w' ⟨rfl, rfl⟩
  go_wp2_with fail
  with_reducible refine (rparity_any _ _ _ rs _ hAq hn0 (by omega) n0 HP.out.1 HP.out.2.1).mono ?_
  rintro e' w1 ⟨⟨C1, c1, rfl, hown1⟩, k1⟩
  have hB := hB.trans (k1.mono hB.size)
  have hA1 := hA.below hB
  go_wp2_with fail
  with_reducible refine (of_ok _ _ _ rs _ hA1 hc HF.out n0 HP.out.2.2.1).mono ?_
  rintro e' w2 ⟨⟨C2, c2, rfl, hown2⟩, k2⟩
  have hB := hB.trans (k2.mono hB.size)
  have hr1 := (hown1.below k2).rd (by have := HP.out.1; omega) (byte_big HP.out.2.2.2.1)
  have hr2 := hown2.rd (by have := HP.out.1; omega) (byte_big HP.out.2.2.2.1)
  clear hown1 hown2 hA1 k2
  go_wp2_with fail
  with_reducible refine (error_nil _ _).mono ?_
  rintro e w' ⟨rfl, rfl⟩
  go_wp2_with fail
  with_reducible refine (ints_bel _ _ _ _ _ _ _ _ _ hr2 hr1).mono ?_
  rintro e' wq ⟨rfl, kq⟩
  rw [show decide (parI (dat rs) = parI (dat rs)) = true from by simp]
  have hB := hB.trans (kq.mono hB.size)
  clear hr1 hr2
  have hMb := (HM.out.below hB).1
  have h0V := (hB.cell (p := ⟨b, off, none⟩) hbl).trans h0
  go_wp2_with fail
  with_reducible refine (rbytes_any _ _ _ _ ys _ hMb).mono ?_
  rintro e w' ⟨rfl, rfl⟩
  rw [HY.out]
  clear hMb
  have hA2 := hA.below hB
  have hM2 := (HM.out.below hB).1
  go_wp2_with fail
  with_reducible refine (again_bad _ _ _ rs _ _ _ ys k _ hA2 hM2 hk (by rw [HAE.out]; exact HAE0.out)).mono ?_
  rintro e' w' ⟨rfl, rfl⟩
  rw [HAE.out]
  clear hA2 hM2
  go_wp2_with fail
  with_reducible refine (error_err Y Y _ (HE.out.below hB)).mono ?_
  rintro e' wt ⟨rfl, kt⟩
  have hB := hB.trans (kt.mono hB.size)
  clear kt
  go_wp2_with fail
  with_reducible refine (ints_bel _ _ _ _ _ _ _ _ _ (Rd.nil _ _) (Rd.nil _ _)).mono ?_
  rintro e' wq ⟨rfl, kq⟩
  rw [show decide (([] : List Int) = []) = true from rfl]
  have hB := hB.trans (kq.mono hB.size)
  have h0X := (hB.cell (p := ⟨b, off, none⟩) hbl).trans h0
  have hMx := HM.out.below hB
  have hWx := HW.out.below hB
  have hIx := HI.out.below hB
  have hR3 := Lib.hid (three_rows hMx hWx hIx)
  have hq3 := hB.alloc hB.size (.cells #[.slice B m d, .slice A0 n0 c0, .slice Z l e] 31)
  go_wp2_with fail
  with_reducible refine (rrows_bel _ 3 3 _ _ hR3.out).mono ?_
  rintro e' w3 ⟨rfl, k3⟩
  have hq3 := hq3.trans (k3.mono hq3.size)
  have hR3 := Lib.hid (hR3.out.below k3)
  rw [show rowsE (dat [(B, m, d, ys), (A0, n0, c0, x0), (Z, l, e, zs)]) = _ from HT.out]
  have hMq := HM.out.below hq3
  have hWq := HW.out.below hq3
  have hIq := HI.out.below hq3
  clear hMx hWx hIx
  go_wp2_with fail
  with_reducible refine (small_bad _ _ _ _ _ _ _ _ _ ys x0 zs _ hMq hWq hIq (by rw [HT.out]; exact HG.out)).mono ?_
  rintro e' ws ⟨rfl, ks⟩
  have hB := hq3.trans (ks.mono hq3.size)
  rw [HT.out]
  go_wp2_with fail
  with_reducible refine (error_err G G _ (HE.out.below hB)).mono ?_
  rintro e' wt ⟨rfl, kt⟩
  have hB := hB.trans (kt.mono hB.size)
  go_wp2_with fail
  with_reducible refine (ints_bel _ _ _ _ _ _ _ _ _ (Rd.nil _ _) (Rd.nil _ _)).mono ?_
  rintro e' wq ⟨rfl, kq⟩
  rw [show decide (([] : List Int) = []) = true from rfl]
  have hB := hB.trans (kq.mono hB.size)
  go_wp2
  go_ret
  exact ⟨rfl, hB⟩

set_option maxHeartbeats 4000000 in
set_option maxRecDepth 100000 in
theorem F2b_bad (w : World) (A : Option Addr) (n c : Nat) (rs : List RV) (hA : RRows w A n rs) (hc : n ≤ c) (B : Option Addr) (m d : Nat) (ys : List Int) (hM : Sl w B m d ys) (k : Int) (hk : -9223372036854775808 ≤ k ∧ k ≤ 9223372036854775807) (Z : Option Addr) (l e : Nat) (zs : List Int) (hI : Sl w Z l e zs) (hE : ErrT w) (b off : Nat) (hAe : A = some ⟨b, off, none⟩) (hbl : b < w.heap.size) (HCC : Hid (∀ k, k < n → w.cell? ⟨b, off + k, none⟩ = some ((rs[k]?.getD noRow).val))) (A0 : Option Addr) (n0 c0 : Nat) (x0 : List Int) (h0 : w.cell? ⟨b, off, none⟩ = some (.slice A0 n0 c0)) (hs0 : Sl w A0 n0 c0 x0) (hn0 : 0 < n) (hF : rowsE (dat rs) = 0) (hx0 : (dat rs)[0]?.getD [] = x0) (hY : bytesE ys 16 = 0) (hmn : m ≠ n0) (G : Int) (hT : rowsE [ys, x0, zs] = G) (hG : G ≠ 0) :
    Calls Tryd.prog 8 #[.slice A n c, .slice B m d, .int .i64 k, .slice Z l e] w fun e w' => e = .returned (.bool true) ∧ Below w.heap.size w w' := by
  have HE := Lib.hid hE
  have HI := Lib.hid hI
  subst hAe
  have hW := hs0
  have hlym := hM.1.len
  have hlz := hI.1.len
  have hlw := hW.1.len
  have HG := Lib.hid hG
  have hGs : (G == G) = true := by simp
  have hGb : (G == 0) = false := by simpa using hG
  have HT := Lib.hid hT
  have HW := Lib.hid hW
  have HM := Lib.hid hM
  have hldr : (dat rs).length = n := by rw [dat_len, hA.len]
  have hrz := rowsE_zero.1 hF
  have hn8 : n ≤ 8 := by omega
  have hm0 : ((dat rs)[0]?.getD []).length = n0 := by rw [hx0]; exact hlw
  have hby := rows_bytes hF hm0
  have h16 := rows_16 hF hm0
  have hpb := par_bytes (by omega) hby
  have HP := Lib.hid (And.intro h16 (And.intro hby (And.intro hm0 (And.intro hpb (And.intro hA.len True.intro)))))
  have HF := Lib.hid hF
  have HY := Lib.hid hY
  have HAE := Lib.hid (show againE (dat rs) ys k = 3 by unfold againE; rw [hF, if_neg (by simp), hY, if_neg (by simp), hm0, hlym, if_pos hmn])
  have HAE0 := Lib.hid (show (3 : Int) ≠ 0 by decide)
  have hneq : ((m : Int) != (n0 : Int)) = true := by simp; omega
  clear hldr hrz hm0 hby hpb hF hY hx0 h16
  clear hlym hlz hlw hW hT hI hE hs0 hG
  go_enter Tryd.func8, Tryd.ntmps8
  have hB : Below w.heap.size w w := Below.refl _ _
  go_wp2_with fail
  with_reducible refine (rrows_bel _ _ _ rs _ hA).mono ?_
  rintro e' w0 ⟨rfl, k0⟩
  rw [HF.out]
  have hB := k0
  have hAq := hA.below hB
  go_wp2_with fail
  with_reducible refine (check_any _ _ _ rs _ hAq).mono ?_
  rintro e w' ⟨rfl, rfl⟩
  rw [HF.out, errV_zero]
  go_wp2_with fail
  with_reducible refine (error_nil _ _).mono ?_
  rintro e w' ⟨rfl, rfl⟩
  go_wp2_with fail
  with_reducible refine (rparity_any _ _ _ rs _ hAq hn0 (by omega) n0 HP.out.1 HP.out.2.1).mono ?_
  rintro e' w1 ⟨⟨C1, c1, rfl, hown1⟩, k1⟩
  have hB := hB.trans (k1.mono hB.size)
  have hA1 := hA.below hB
  go_wp2_with fail
  with_reducible refine (of_ok _ _ _ rs _ hA1 hc HF.out n0 HP.out.2.2.1).mono ?_
  rintro e' w2 ⟨⟨C2, c2, rfl, hown2⟩, k2⟩
  have hB := hB.trans (k2.mono hB.size)
  have hr1 := (hown1.below k2).rd (by have := HP.out.1; omega) (byte_big HP.out.2.2.2.1)
  have hr2 := hown2.rd (by have := HP.out.1; omega) (byte_big HP.out.2.2.2.1)
  clear hown1 hown2 hA1 k2
  go_wp2_with fail
  with_reducible refine (error_nil _ _).mono ?_
  rintro e w' ⟨rfl, rfl⟩
  go_wp2_with fail
  with_reducible refine (ints_bel _ _ _ _ _ _ _ _ _ hr2 hr1).mono ?_
  rintro e' wq ⟨rfl, kq⟩
  rw [show decide (parI (dat rs) = parI (dat rs)) = true from by simp]
  have hB := hB.trans (kq.mono hB.size)
  clear hr1 hr2
  have hMb := (HM.out.below hB).1
  have h0V := (hB.cell (p := ⟨b, off, none⟩) hbl).trans h0
  go_wp2_with fail
  with_reducible refine (rbytes_any _ _ _ _ ys _ hMb).mono ?_
  rintro e w' ⟨rfl, rfl⟩
  rw [HY.out]
  clear hMb
  have hA2 := hA.below hB
  have hM2 := (HM.out.below hB).1
  go_wp2_with fail
  with_reducible refine (again_bad _ _ _ rs _ _ _ ys k _ hA2 hM2 hk (by rw [HAE.out]; exact HAE0.out)).mono ?_
  rintro e' w' ⟨rfl, rfl⟩
  rw [HAE.out]
  clear hA2 hM2
  go_wp2_with fail
  with_reducible refine (error_err 3 3 _ (HE.out.below hB)).mono ?_
  rintro e' wt ⟨rfl, kt⟩
  have hB := hB.trans (kt.mono hB.size)
  clear kt
  go_wp2_with fail
  with_reducible refine (ints_bel _ _ _ _ _ _ _ _ _ (Rd.nil _ _) (Rd.nil _ _)).mono ?_
  rintro e' wq ⟨rfl, kq⟩
  rw [show decide (([] : List Int) = []) = true from rfl]
  have hB := hB.trans (kq.mono hB.size)
  have h0X := (hB.cell (p := ⟨b, off, none⟩) hbl).trans h0
  have hMx := HM.out.below hB
  have hWx := HW.out.below hB
  have hIx := HI.out.below hB
  have hR3 := Lib.hid (three_rows hMx hWx hIx)
  have hq3 := hB.alloc hB.size (.cells #[.slice B m d, .slice A0 n0 c0, .slice Z l e] 31)
  go_wp2_with fail
  with_reducible refine (rrows_bel _ 3 3 _ _ hR3.out).mono ?_
  rintro e' w3 ⟨rfl, k3⟩
  have hq3 := hq3.trans (k3.mono hq3.size)
  have hR3 := Lib.hid (hR3.out.below k3)
  rw [show rowsE (dat [(B, m, d, ys), (A0, n0, c0, x0), (Z, l, e, zs)]) = _ from HT.out]
  have hMq := HM.out.below hq3
  have hWq := HW.out.below hq3
  have hIq := HI.out.below hq3
  clear hMx hWx hIx
  go_wp2_with fail
  with_reducible refine (small_bad _ _ _ _ _ _ _ _ _ ys x0 zs _ hMq hWq hIq (by rw [HT.out]; exact HG.out)).mono ?_
  rintro e' ws ⟨rfl, ks⟩
  have hB := hq3.trans (ks.mono hq3.size)
  rw [HT.out]
  go_wp2_with fail
  with_reducible refine (error_err G G _ (HE.out.below hB)).mono ?_
  rintro e' wt ⟨rfl, kt⟩
  have hB := hB.trans (kt.mono hB.size)
  go_wp2_with fail
  with_reducible refine (ints_bel _ _ _ _ _ _ _ _ _ (Rd.nil _ _) (Rd.nil _ _)).mono ?_
  rintro e' wq ⟨rfl, kq⟩
  rw [show decide (([] : List Int) = []) = true from rfl]
  have hB := hB.trans (kq.mono hB.size)
  go_wp2
  go_ret
  exact ⟨rfl, hB⟩

set_option maxHeartbeats 4000000 in
set_option maxRecDepth 100000 in
theorem F2c_ok (w : World) (A : Option Addr) (n c : Nat) (rs : List RV) (hA : RRows w A n rs) (hc : n ≤ c) (B : Option Addr) (m d : Nat) (ys : List Int) (hM : Sl w B m d ys) (k : Int) (hk : -9223372036854775808 ≤ k ∧ k ≤ 9223372036854775807) (Z : Option Addr) (l e : Nat) (zs : List Int) (hI : Sl w Z l e zs) (hE : ErrT w) (b off : Nat) (hAe : A = some ⟨b, off, none⟩) (hbl : b < w.heap.size) (HCC : Hid (∀ k, k < n → w.cell? ⟨b, off + k, none⟩ = some ((rs[k]?.getD noRow).val))) (A0 : Option Addr) (n0 c0 : Nat) (x0 : List Int) (h0 : w.cell? ⟨b, off, none⟩ = some (.slice A0 n0 c0)) (hs0 : Sl w A0 n0 c0 x0) (hn0 : 0 < n) (hF : rowsE (dat rs) = 0) (hx0 : (dat rs)[0]?.getD [] = x0) (hY : bytesE ys 16 = 0) (hmn : m = n0) (hkk : k < 0 ∨ (n : Int) - 1 < k) (hT : rowsE [ys, x0, zs] = 0) :
    Calls Tryd.prog 8 #[.slice A n c, .slice B m d, .int .i64 k, .slice Z l e] w fun e w' => e = .returned (.bool true) ∧ Below w.heap.size w w' := by
  have HE := Lib.hid hE
  have HI := Lib.hid hI
  subst hAe
  have hW := hs0
  have hlym := hM.1.len
  have hlz := hI.1.len
  have hlw := hW.1.len
  have h3 := three_ok hT hlym
  have hl1 := h3.2.2.1.1
  have hl2 := h3.2.2.2.1
  obtain rfl : l = m := by omega
  obtain rfl : n0 = l := by omega
  have h3b : ∀ r ∈ dat [(B, n0, d, ys), (A0, n0, c0, x0), (Z, n0, e, zs)], Bytes n0 r := by
    intro r hr
    have hr' : r = ys ∨ r = x0 ∨ r = zs := by simpa [dat] using hr
    rcases hr' with rfl | rfl | rfl
    · exact h3.2.1
    · exact h3.2.2.1
    · exact h3.2.2.2
  have H3 := Lib.hid (And.intro h3.1 (And.intro h3.2.1 (And.intro h3.2.2.1 (And.intro h3.2.2.2 h3b))))
  have hQ1 : Bytes n0 (zx (zx ys x0) zs) := zip_bytes (zip_bytes h3.2.1 h3.2.2.1) h3.2.2.2
  have HQ := Lib.hid (And.intro hQ1 (show Bytes n0 (parI (dat [(B, n0, d, ys), (A0, n0, c0, x0), (Z, n0, e, zs)])) from hQ1))
  clear h3 hl1 hl2 h3b hQ1
  have HT := Lib.hid hT
  have HW := Lib.hid hW
  have HM := Lib.hid hM
  have hldr : (dat rs).length = n := by rw [dat_len, hA.len]
  have hrz := rowsE_zero.1 hF
  have hn8 : n ≤ 8 := by omega
  have hm0 : ((dat rs)[0]?.getD []).length = n0 := by rw [hx0]; exact hlw
  have hby := rows_bytes hF hm0
  have h16 := rows_16 hF hm0
  have hpb := par_bytes (by omega) hby
  have HP := Lib.hid (And.intro h16 (And.intro hby (And.intro hm0 (And.intro hpb (And.intro hA.len True.intro)))))
  have HF := Lib.hid hF
  have HY := Lib.hid hY
  have hneq : ((n0 : Int) != (n0 : Int)) = false := by simp
  have HAE := Lib.hid (show againE (dat rs) ys k = 1 by unfold againE; rw [hF, if_neg (by simp), hY, if_neg (by simp), hm0, hlym, if_neg (by simp), hldr, if_pos hkk])
  have HAE0 := Lib.hid (show (1 : Int) ≠ 0 by decide)
  clear hldr hrz hm0 hby hpb hF hY hx0 h16
  clear hlym hlz hlw hW hT hI hE hs0
  clear hmn
  go_enter Tryd.func8, Tryd.ntmps8
  have hB : Below w.heap.size w w := Below.refl _ _
  go_wp2_with fail
  with_reducible refine (rrows_bel _ _ _ rs _ hA).mono ?_
  rintro e' w0 ⟨rfl, k0⟩
  rw [HF.out]
  have hB := k0
  have hAq := hA.below hB
  go_wp2_with fail
  with_reducible refine (check_any _ _ _ rs _ hAq).mono ?_
  rintro e w' ⟨rfl, rfl⟩
  rw [HF.out, errV_zero]
  go_wp2_with fail
  with_reducible refine (error_nil _ _).mono ?_
  rintro e w' ⟨rfl, rfl⟩
  go_wp2_with fail
  with_reducible refine (rparity_any _ _ _ rs _ hAq hn0 (by omega) n0 HP.out.1 HP.out.2.1).mono ?_
  rintro e' w1 ⟨⟨C1, c1, rfl, hown1⟩, k1⟩
  have hB := hB.trans (k1.mono hB.size)
  have hA1 := hA.below hB
  go_wp2_with fail
  with_reducible refine (of_ok _ _ _ rs _ hA1 hc HF.out n0 HP.out.2.2.1).mono ?_
  rintro e' w2 ⟨⟨C2, c2, rfl, hown2⟩, k2⟩
  have hB := hB.trans (k2.mono hB.size)
  have hr1 := (hown1.below k2).rd (by have := HP.out.1; omega) (byte_big HP.out.2.2.2.1)
  have hr2 := hown2.rd (by have := HP.out.1; omega) (byte_big HP.out.2.2.2.1)
  clear hown1 hown2 hA1 k2
  go_wp2_with fail
  with_reducible refine (error_nil _ _).mono ?_
  rintro e w' ⟨rfl, rfl⟩
  go_wp2_with fail
  with_reducible refine (ints_bel _ _ _ _ _ _ _ _ _ hr2 hr1).mono ?_
  rintro e' wq ⟨rfl, kq⟩
  rw [show decide (parI (dat rs) = parI (dat rs)) = true from by simp]
  have hB := hB.trans (kq.mono hB.size)
  clear hr1 hr2
  have hMb := (HM.out.below hB).1
  have h0V := (hB.cell (p := ⟨b, off, none⟩) hbl).trans h0
  go_wp2_with fail
  with_reducible refine (rbytes_any _ _ _ _ ys _ hMb).mono ?_
  rintro e w' ⟨rfl, rfl⟩
  rw [HY.out]
  clear hMb
  go_wp2_with fail
  with_reducible refine (in_no _ _ _ _ hkk).mono ?_
  rintro e' w' ⟨rfl, rfl⟩
  have hA2 := hA.below hB
  have hM2 := (HM.out.below hB).1
  go_wp2_with fail
  with_reducible refine (again_bad _ _ _ rs _ _ _ ys k _ hA2 hM2 hk (by rw [HAE.out]; exact HAE0.out)).mono ?_
  rintro e' w' ⟨rfl, rfl⟩
  rw [HAE.out]
  clear hA2 hM2
  go_wp2_with fail
  with_reducible refine (error_err 1 1 _ (HE.out.below hB)).mono ?_
  rintro e' wt ⟨rfl, kt⟩
  have hB := hB.trans (kt.mono hB.size)
  clear kt
  go_wp2_with fail
  with_reducible refine (ints_bel _ _ _ _ _ _ _ _ _ (Rd.nil _ _) (Rd.nil _ _)).mono ?_
  rintro e' wq ⟨rfl, kq⟩
  rw [show decide (([] : List Int) = []) = true from rfl]
  have hB := hB.trans (kq.mono hB.size)
  have h0X := (hB.cell (p := ⟨b, off, none⟩) hbl).trans h0
  have hMx := HM.out.below hB
  have hWx := HW.out.below hB
  have hIx := HI.out.below hB
  have hR3 := Lib.hid (three_rows hMx hWx hIx)
  have hq3 := hB.alloc hB.size (.cells #[.slice B n0 d, .slice A0 n0 c0, .slice Z n0 e] 31)
  go_wp2_with fail
  with_reducible refine (rrows_bel _ 3 3 _ _ hR3.out).mono ?_
  rintro e' w3 ⟨rfl, k3⟩
  have hq3 := hq3.trans (k3.mono hq3.size)
  have hR3 := Lib.hid (hR3.out.below k3)
  rw [show rowsE (dat [(B, n0, d, ys), (A0, n0, c0, x0), (Z, n0, e, zs)]) = _ from HT.out]
  go_wp2_with fail
  with_reducible refine (rparity_any _ 3 3 _ _ hR3.out (by omega) (by omega) n0 H3.out.1 H3.out.2.2.2.2).mono ?_
  rintro e' wp ⟨⟨Cp, cp, rfl, hownp⟩, kp⟩
  have hBp := hq3.trans (kp.mono hq3.size)
  have hMp := HM.out.below hBp
  have hWp := HW.out.below hBp
  have hIp := HI.out.below hBp
  clear hMx hWx hIx hq3
  go_wp2_with fail
  with_reducible refine (small_ok _ _ _ _ _ _ _ ys x0 zs _ hMp hWp hIp H3.out.1 H3.out.2.1 H3.out.2.2.1 H3.out.2.2.2.1).mono ?_
  rintro e' ws ⟨⟨Cs, cs, rfl, howns⟩, ks⟩
  have hB := hBp.trans (ks.mono hBp.size)
  have hrp := (hownp.below ks).rd (by have := H3.out.1; omega) (byte_big HQ.out.2)
  have hrs := howns.rd (by have := H3.out.1; omega) (byte_big HQ.out.1)
  clear hownp howns hMp hWp hIp
  go_wp2_with fail
  with_reducible refine (error_nil _ _).mono ?_
  rintro e w' ⟨rfl, rfl⟩
  go_wp2_with fail
  with_reducible refine (ints_bel _ _ _ _ _ _ _ _ _ hrs hrp).mono ?_
  rintro e' wq ⟨rfl, kq⟩
  rw [show decide (zx (zx ys x0) zs = parI (dat [(B, n0, d, ys), (A0, n0, c0, x0), (Z, n0, e, zs)])) = true from decide_eq_true rfl]
  have hB := hB.trans (kq.mono hB.size)
  go_wp2
  go_ret
  exact ⟨rfl, hB⟩

set_option maxHeartbeats 4000000 in
set_option maxRecDepth 100000 in
theorem F2c_bad (w : World) (A : Option Addr) (n c : Nat) (rs : List RV) (hA : RRows w A n rs) (hc : n ≤ c) (B : Option Addr) (m d : Nat) (ys : List Int) (hM : Sl w B m d ys) (k : Int) (hk : -9223372036854775808 ≤ k ∧ k ≤ 9223372036854775807) (Z : Option Addr) (l e : Nat) (zs : List Int) (hI : Sl w Z l e zs) (hE : ErrT w) (b off : Nat) (hAe : A = some ⟨b, off, none⟩) (hbl : b < w.heap.size) (HCC : Hid (∀ k, k < n → w.cell? ⟨b, off + k, none⟩ = some ((rs[k]?.getD noRow).val))) (A0 : Option Addr) (n0 c0 : Nat) (x0 : List Int) (h0 : w.cell? ⟨b, off, none⟩ = some (.slice A0 n0 c0)) (hs0 : Sl w A0 n0 c0 x0) (hn0 : 0 < n) (hF : rowsE (dat rs) = 0) (hx0 : (dat rs)[0]?.getD [] = x0) (hY : bytesE ys 16 = 0) (hmn : m = n0) (hkk : k < 0 ∨ (n : Int) - 1 < k) (G : Int) (hT : rowsE [ys, x0, zs] = G) (hG : G ≠ 0) :
    Calls Tryd.prog 8 #[.slice A n c, .slice B m d, .int .i64 k, .slice Z l e] w fun e w' => e = .returned (.bool true) ∧ Below w.heap.size w w' := by
  have HE := Lib.hid hE
  have HI := Lib.hid hI
  subst hAe
  have hW := hs0
  have hlym := hM.1.len
  have hlz := hI.1.len
  have hlw := hW.1.len
  have HG := Lib.hid hG
  have hGs : (G == G) = true := by simp
  have hGb : (G == 0) = false := by simpa using hG
  have HT := Lib.hid hT
  have HW := Lib.hid hW
  have HM := Lib.hid hM
  have hldr : (dat rs).length = n := by rw [dat_len, hA.len]
  have hrz := rowsE_zero.1 hF
  have hn8 : n ≤ 8 := by omega
  have hm0 : ((dat rs)[0]?.getD []).length = n0 := by rw [hx0]; exact hlw
  have hby := rows_bytes hF hm0
  have h16 := rows_16 hF hm0
  have hpb := par_bytes (by omega) hby
  have HP := Lib.hid (And.intro h16 (And.intro hby (And.intro hm0 (And.intro hpb (And.intro hA.len True.intro)))))
  have HF := Lib.hid hF
  have HY := Lib.hid hY
  subst hmn
  have hneq : ((m : Int) != (m : Int)) = false := by simp
  have HAE := Lib.hid (show againE (dat rs) ys k = 1 by unfold againE; rw [hF, if_neg (by simp), hY, if_neg (by simp), hm0, hlym, if_neg (by simp), hldr, if_pos hkk])
  have HAE0 := Lib.hid (show (1 : Int) ≠ 0 by decide)
  clear hldr hrz hm0 hby hpb hF hY hx0 h16
  clear hlym hlz hlw hW hT hI hE hs0 hG
  go_enter Tryd.func8, Tryd.ntmps8
  have hB : Below w.heap.size w w := Below.refl _ _
  go_wp2_with fail
  with_reducible refine (rrows_bel _ _ _ rs _ hA).mono ?_
  rintro e' w0 ⟨rfl, k0⟩
  rw [HF.out]
  have hB := k0
  have hAq := hA.below hB
  go_wp2_with fail
  with_reducible refine (check_any _ _ _ rs _ hAq).mono ?_
  rintro e w' ⟨rfl, rfl⟩
  rw [HF.out, errV_zero]
  go_wp2_with fail
  with_reducible refine (error_nil _ _).mono ?_
  rintro e w' ⟨rfl, rfl⟩
  go_wp2_with fail
  with_reducible refine (rparity_any _ _ _ rs _ hAq hn0 (by omega) m HP.out.1 HP.out.2.1).mono ?_
  rintro e' w1 ⟨⟨C1, c1, rfl, hown1⟩, k1⟩
  have hB := hB.trans (k1.mono hB.size)
  have hA1 := hA.below hB
  go_wp2_with fail
  with_reducible refine (of_ok _ _ _ rs _ hA1 hc HF.out m HP.out.2.2.1).mono ?_
  rintro e' w2 ⟨⟨C2, c2, rfl, hown2⟩, k2⟩
  have hB := hB.trans (k2.mono hB.size)
  have hr1 := (hown1.below k2).rd (by have := HP.out.1; omega) (byte_big HP.out.2.2.2.1)
  have hr2 := hown2.rd (by have := HP.out.1; omega) (byte_big HP.out.2.2.2.1)
  clear hown1 hown2 hA1 k2
  go_wp2_with fail
  with_reducible refine (error_nil _ _).mono ?_
  rintro e w' ⟨rfl, rfl⟩
  go_wp2_with fail
  with_reducible refine (ints_bel _ _ _ _ _ _ _ _ _ hr2 hr1).mono ?_
  rintro e' wq ⟨rfl, kq⟩
  rw [show decide (parI (dat rs) = parI (dat rs)) = true from by simp]
  have hB := hB.trans (kq.mono hB.size)
  clear hr1 hr2
  have hMb := (HM.out.below hB).1
  have h0V := (hB.cell (p := ⟨b, off, none⟩) hbl).trans h0
  go_wp2_with fail
  with_reducible refine (rbytes_any _ _ _ _ ys _ hMb).mono ?_
  rintro e w' ⟨rfl, rfl⟩
  rw [HY.out]
  clear hMb
  go_wp2_with fail
  with_reducible refine (in_no _ _ _ _ hkk).mono ?_
  rintro e' w' ⟨rfl, rfl⟩
  have hA2 := hA.below hB
  have hM2 := (HM.out.below hB).1
  go_wp2_with fail
  with_reducible refine (again_bad _ _ _ rs _ _ _ ys k _ hA2 hM2 hk (by rw [HAE.out]; exact HAE0.out)).mono ?_
  rintro e' w' ⟨rfl, rfl⟩
  rw [HAE.out]
  clear hA2 hM2
  go_wp2_with fail
  with_reducible refine (error_err 1 1 _ (HE.out.below hB)).mono ?_
  rintro e' wt ⟨rfl, kt⟩
  have hB := hB.trans (kt.mono hB.size)
  clear kt
  go_wp2_with fail
  with_reducible refine (ints_bel _ _ _ _ _ _ _ _ _ (Rd.nil _ _) (Rd.nil _ _)).mono ?_
  rintro e' wq ⟨rfl, kq⟩
  rw [show decide (([] : List Int) = []) = true from rfl]
  have hB := hB.trans (kq.mono hB.size)
  have h0X := (hB.cell (p := ⟨b, off, none⟩) hbl).trans h0
  have hMx := HM.out.below hB
  have hWx := HW.out.below hB
  have hIx := HI.out.below hB
  have hR3 := Lib.hid (three_rows hMx hWx hIx)
  have hq3 := hB.alloc hB.size (.cells #[.slice B m d, .slice A0 m c0, .slice Z l e] 31)
  go_wp2_with fail
  with_reducible refine (rrows_bel _ 3 3 _ _ hR3.out).mono ?_
  rintro e' w3 ⟨rfl, k3⟩
  have hq3 := hq3.trans (k3.mono hq3.size)
  have hR3 := Lib.hid (hR3.out.below k3)
  rw [show rowsE (dat [(B, m, d, ys), (A0, m, c0, x0), (Z, l, e, zs)]) = _ from HT.out]
  have hMq := HM.out.below hq3
  have hWq := HW.out.below hq3
  have hIq := HI.out.below hq3
  clear hMx hWx hIx
  go_wp2_with fail
  with_reducible refine (small_bad _ _ _ _ _ _ _ _ _ ys x0 zs _ hMq hWq hIq (by rw [HT.out]; exact HG.out)).mono ?_
  rintro e' ws ⟨rfl, ks⟩
  have hB := hq3.trans (ks.mono hq3.size)
  rw [HT.out]
  go_wp2_with fail
  with_reducible refine (error_err G G _ (HE.out.below hB)).mono ?_
  rintro e' wt ⟨rfl, kt⟩
  have hB := hB.trans (kt.mono hB.size)
  go_wp2_with fail
  with_reducible refine (ints_bel _ _ _ _ _ _ _ _ _ (Rd.nil _ _) (Rd.nil _ _)).mono ?_
  rintro e' wq ⟨rfl, kq⟩
  rw [show decide (([] : List Int) = []) = true from rfl]
  have hB := hB.trans (kq.mono hB.size)
  go_wp2
  go_ret
  exact ⟨rfl, hB⟩

set_option maxHeartbeats 4000000 in
set_option maxRecDepth 100000 in
theorem F3_ok (w : World) (A : Option Addr) (n c : Nat) (rs : List RV) (hA : RRows w A n rs) (hc : n ≤ c) (B : Option Addr) (m d : Nat) (ys : List Int) (hM : Sl w B m d ys) (k : Int) (hk : -9223372036854775808 ≤ k ∧ k ≤ 9223372036854775807) (Z : Option Addr) (l e : Nat) (zs : List Int) (hI : Sl w Z l e zs) (hE : ErrT w) (b off : Nat) (hAe : A = some ⟨b, off, none⟩) (hbl : b < w.heap.size) (HCC : Hid (∀ k, k < n → w.cell? ⟨b, off + k, none⟩ = some ((rs[k]?.getD noRow).val))) (A0 : Option Addr) (n0 c0 : Nat) (x0 : List Int) (h0 : w.cell? ⟨b, off, none⟩ = some (.slice A0 n0 c0)) (hs0 : Sl w A0 n0 c0 x0) (hn0 : 0 < n) (hF : rowsE (dat rs) = 0) (hx0 : (dat rs)[0]?.getD [] = x0) (hY : bytesE ys 16 = 0) (hmn : m = n0) (kn : Nat) (hkn : kn < n) (hke : k = kn) (hT : rowsE [ys, x0, zs] = 0) :
    Calls Tryd.prog 8 #[.slice A n c, .slice B m d, .int .i64 k, .slice Z l e] w fun e w' => e = .returned (.bool true) ∧ Below w.heap.size w w' := by
  have HE := Lib.hid hE
  have HI := Lib.hid hI
  subst hAe
  have hW := hs0
  have hlym := hM.1.len
  have hlz := hI.1.len
  have hlw := hW.1.len
  have h3 := three_ok hT hlym
  have hl1 := h3.2.2.1.1
  have hl2 := h3.2.2.2.1
  obtain rfl : l = m := by omega
  obtain rfl : n0 = l := by omega
  have h3b : ∀ r ∈ dat [(B, n0, d, ys), (A0, n0, c0, x0), (Z, n0, e, zs)], Bytes n0 r := by
    intro r hr
    have hr' : r = ys ∨ r = x0 ∨ r = zs := by simpa [dat] using hr
    rcases hr' with rfl | rfl | rfl
    · exact h3.2.1
    · exact h3.2.2.1
    · exact h3.2.2.2
  have H3 := Lib.hid (And.intro h3.1 (And.intro h3.2.1 (And.intro h3.2.2.1 (And.intro h3.2.2.2 h3b))))
  have hQ1 : Bytes n0 (zx (zx ys x0) zs) := zip_bytes (zip_bytes h3.2.1 h3.2.2.1) h3.2.2.2
  have HQ := Lib.hid (And.intro hQ1 (show Bytes n0 (parI (dat [(B, n0, d, ys), (A0, n0, c0, x0), (Z, n0, e, zs)])) from hQ1))
  clear h3 hl1 hl2 h3b hQ1
  have HT := Lib.hid hT
  have HW := Lib.hid hW
  have HM := Lib.hid hM
  have hldr : (dat rs).length = n := by rw [dat_len, hA.len]
  have hrz := rowsE_zero.1 hF
  have hn8 : n ≤ 8 := by omega
  have hm0 : ((dat rs)[0]?.getD []).length = n0 := by rw [hx0]; exact hlw
  have hby := rows_bytes hF hm0
  have h16 := rows_16 hF hm0
  have hpb := par_bytes (by omega) hby
  have HP := Lib.hid (And.intro h16 (And.intro hby (And.intro hm0 (And.intro hpb (And.intro hA.len True.intro)))))
  have HF := Lib.hid hF
  have HY := Lib.hid hY
  have hneq : ((n0 : Int) != (n0 : Int)) = false := by simp
  subst hke
  have hk0 : (0 : Int) ≤ (kn : Int) := by omega
  have hk1 : (kn : Int) ≤ (n : Int) - 1 := by omega
  have hyb : Bytes n0 ys := ⟨hlym, allB_mem.1 (bytesE_zero.1 hY).2⟩
  have HYB := Lib.hid hyb
  have HAG := Lib.hid (show Bytes n0 (againI (dat rs) ys kn) from fold_bytes hyb (fun r hr => hby r (List.mem_of_mem_eraseIdx hr)))
  clear hyb
  clear hldr hrz hm0 hby hpb hF hY hx0 h16
  clear hlym hlz hlw hW hT hI hE hs0
  clear hmn
  go_enter Tryd.func8, Tryd.ntmps8
  have hB : Below w.heap.size w w := Below.refl _ _
  go_wp2_with fail
  with_reducible refine (rrows_bel _ _ _ rs _ hA).mono ?_
  rintro e' w0 ⟨rfl, k0⟩
  rw [HF.out]
  have hB := k0
  have hAq := hA.below hB
  go_wp2_with fail
  with_reducible refine (check_any _ _ _ rs _ hAq).mono ?_
  rintro e w' ⟨rfl, rfl⟩
  rw [HF.out, errV_zero]
  go_wp2_with fail
  with_reducible refine (error_nil _ _).mono ?_
  rintro e w' ⟨rfl, rfl⟩
  go_wp2_with fail
  with_reducible refine (rparity_any _ _ _ rs _ hAq hn0 (by omega) n0 HP.out.1 HP.out.2.1).mono ?_
  rintro e' w1 ⟨⟨C1, c1, rfl, hown1⟩, k1⟩
  have hB := hB.trans (k1.mono hB.size)
  have hA1 := hA.below hB
  go_wp2_with fail
  with_reducible refine (of_ok _ _ _ rs _ hA1 hc HF.out n0 HP.out.2.2.1).mono ?_
  rintro e' w2 ⟨⟨C2, c2, rfl, hown2⟩, k2⟩
  have hB := hB.trans (k2.mono hB.size)
  have hr1 := (hown1.below k2).rd (by have := HP.out.1; omega) (byte_big HP.out.2.2.2.1)
  have hr2 := hown2.rd (by have := HP.out.1; omega) (byte_big HP.out.2.2.2.1)
  clear hown1 hown2 hA1 k2
  go_wp2_with fail
  with_reducible refine (error_nil _ _).mono ?_
  rintro e w' ⟨rfl, rfl⟩
  go_wp2_with fail
  with_reducible refine (ints_bel _ _ _ _ _ _ _ _ _ hr2 hr1).mono ?_
  rintro e' wq ⟨rfl, kq⟩
  rw [show decide (parI (dat rs) = parI (dat rs)) = true from by simp]
  have hB := hB.trans (kq.mono hB.size)
  clear hr1 hr2
  have hMb := (HM.out.below hB).1
  have h0V := (hB.cell (p := ⟨b, off, none⟩) hbl).trans h0
  go_wp2_with fail
  with_reducible refine (rbytes_any _ _ _ _ ys _ hMb).mono ?_
  rintro e w' ⟨rfl, rfl⟩
  rw [HY.out]
  clear hMb
  go_wp2_with fail
  with_reducible refine (in_yes _ _ _ _ hk0 hk1).mono ?_
  rintro e' w' ⟨rfl, rfl⟩
  go_wp2
  have hwlit := OwnR.lit _ w.heap.size hB.size (B, n0, d, ys)
  have hBl := hB.alloc hB.size (.cells #[.slice B n0 d] 31)
  change OwnR (World.alloc _ (.cells #[.slice B n0 d] 31)) _ _ _ _ at hwlit
  go_loopw [15, 16] (fun v i wr => ∃ (j x : Nat) (C : Option Addr) (c' : Nat), j ≤ n ∧ i = .int .i64 j ∧ v = .slice C x c' ∧ OwnR wr w.heap.size (.slice C x c') x (allN (B, n0, d, ys) rs kn j) ∧ Below w.heap.size w wr) (fun _ i _ => n - (intOf i).toNat)
  case atStart => exact ⟨0, 1, _, 1, Nat.zero_le _, rfl, rfl, hwlit, hBl⟩
  case round =>
    obtain ⟨j, x, C, c', hj, rfl, rfl, hown, hbel⟩ := hrel
    have hxl := hown.len
    have hxm := allN_len (B, n0, d, ys) rs kn j
    have hcap := hown.cap
    by_cases hlt : j < n
    · have hjr : j < rs.length := by rw [HP.out.2.2.2.2.1]; exact hlt
      have hjI : (j : Int) < (n : Int) := by omega
      have h1 := (hbel.cell (p := ⟨b, off + j, none⟩) hbl).trans (HCC.out j hlt)
      by_cases hjk : j = kn
      · subst hjk
        have hst := allN_at (b := (B, n0, d, ys)) hjr
        rw [← hst] at hown
        have hne2 : ((j : Int) != (j : Int)) = false := by simp
        clear hst hxl hxm h1
        go_wp2
        go_roundw
        case rel => exact ⟨j + 1, x, C, c', by omega, by go_num, rfl, hown, hbel⟩
        case measure => simp [intOf]; omega
      · have hst := allN_step (b := (B, n0, d, ys)) hjr hjk
        have hne2 : ((j : Int) != (kn : Int)) = true := by simp; omega
        obtain ⟨r, hr⟩ : ∃ r, rs[j]?.getD noRow = r := ⟨_, rfl⟩
        rw [hr] at h1 hst
        obtain ⟨A1, n1, c1', x1⟩ := r
        change wr.cell? ⟨b, off + j, none⟩ = some (.slice A1 n1 c1') at h1
        have HST := Lib.hid hst
        clear hst hr
        go_wp2_with (at_builtin; refine wpList_app1R rfl _ _ rfl w.heap.size x _ _ rfl (hown.alloc _) wr.heap.size (A1, n1, c1', x1) rfl (by simp [RV.val]) (by omega) (by have := hbel.size; simp; omega) ?_; intro A2 c2 w4 hown4 hbel4)
        have hq4 := hbel4 w.heap.size w (Nat.le_refl _) (hbel.alloc hbel.size _)
        go_roundw
        case rel => exact ⟨j + 1, x + 1, A2, c2, by omega, by go_num, rfl, by rw [HST.out]; exact hown4, hq4⟩
        case measure => simp [intOf]; omega
    · obtain rfl : j = n := by omega
      have hdat := allN_dat (B, n0, d, ys) rs kn
      rw [HP.out.2.2.2.2.1] at hdat
      have hx0 : 0 < x := by rw [← hxl]; unfold allN; simp
      have hrr := hown.rr (by omega) (fun r hr => by
              rcases allN_mem hr with h | h
              · subst h; exact HM.out.below hbel
              · exact (hA.2.2.1 r h).below hbel)
      have hbb : ∀ r ∈ dat (allN (B, n0, d, ys) rs kn j), Bytes n0 r := by
              rw [hdat]
              intro r hr
              rcases List.mem_cons.1 hr with h | h
              · subst h; exact HYB.out
              · exact HP.out.2.1 r (List.mem_of_mem_eraseIdx h)
      have hpar : parI (dat (allN (B, n0, d, ys) rs kn j)) = againI (dat rs) ys kn := by rw [hdat]; rfl
      have hx16 : x ≤ 16 := by omega
      have HBB := Lib.hid hbb
      have HPAR := Lib.hid hpar
      have hjI : ¬ (j : Int) < (j : Int) := by omega
      clear hdat hbb hpar hown hxl h0V
      have hB := hbel
      go_wp2_with fail
      with_reducible refine (rparity_any _ _ _ _ _ hrr hx0 (by omega) n0 HP.out.1 HBB.out).mono ?_
      rintro e' w3 ⟨⟨C3, c3, rfl, hown3⟩, k3⟩
      rw [HPAR.out] at hown3
      have hB := hB.trans (k3.mono hB.size)
      have hA3 := hA.below hB
      have hM3 := HM.out.below hB
      go_wp2_with fail
      with_reducible refine (again_ok _ _ _ rs _ _ _ ys kn _ hA3 hM3 hkn HF.out HP.out.2.2.1 HYB.out).mono ?_
      rintro e' w5 ⟨⟨C5, c5, rfl, hown5⟩, k5⟩
      have hB := hB.trans (k5.mono hB.size)
      have hr3 := (hown3.below k5).rd (by have := HP.out.1; omega) (byte_big HAG.out)
      have hr5 := hown5.rd (by have := HP.out.1; omega) (byte_big HAG.out)
      clear hown3 hown5 hA3 hM3 k5 k3 hrr
      go_wp2_with fail
      with_reducible refine (error_nil _ _).mono ?_
      rintro e w' ⟨rfl, rfl⟩
      go_wp2_with fail
      with_reducible refine (ints_bel _ _ _ _ _ _ _ _ _ hr5 hr3).mono ?_
      rintro e' wq ⟨rfl, kq⟩
      rw [show decide (againI (dat rs) ys kn = againI (dat rs) ys kn) = true from by simp]
      have hB := hB.trans (kq.mono hB.size)
      have h0X := (hB.cell (p := ⟨b, off, none⟩) hbl).trans h0
      clear hr3 hr5
      have hMx := HM.out.below hB
      have hWx := HW.out.below hB
      have hIx := HI.out.below hB
      have hR3 := Lib.hid (three_rows hMx hWx hIx)
      have hq3 := hB.alloc hB.size (.cells #[.slice B n0 d, .slice A0 n0 c0, .slice Z n0 e] 31)
      go_wp2_with fail
      with_reducible refine (rrows_bel _ 3 3 _ _ hR3.out).mono ?_
      rintro e' w3 ⟨rfl, k3⟩
      have hq3 := hq3.trans (k3.mono hq3.size)
      have hR3 := Lib.hid (hR3.out.below k3)
      rw [show rowsE (dat [(B, n0, d, ys), (A0, n0, c0, x0), (Z, n0, e, zs)]) = _ from HT.out]
      go_wp2_with fail
      with_reducible refine (rparity_any _ 3 3 _ _ hR3.out (by omega) (by omega) n0 H3.out.1 H3.out.2.2.2.2).mono ?_
      rintro e' wp ⟨⟨Cp, cp, rfl, hownp⟩, kp⟩
      have hBp := hq3.trans (kp.mono hq3.size)
      have hMp := HM.out.below hBp
      have hWp := HW.out.below hBp
      have hIp := HI.out.below hBp
      clear hMx hWx hIx hq3
      go_wp2_with fail
      with_reducible refine (small_ok _ _ _ _ _ _ _ ys x0 zs _ hMp hWp hIp H3.out.1 H3.out.2.1 H3.out.2.2.1 H3.out.2.2.2.1).mono ?_
      rintro e' ws ⟨⟨Cs, cs, rfl, howns⟩, ks⟩
      have hB := hBp.trans (ks.mono hBp.size)
      have hrp := (hownp.below ks).rd (by have := H3.out.1; omega) (byte_big HQ.out.2)
      have hrs := howns.rd (by have := H3.out.1; omega) (byte_big HQ.out.1)
      clear hownp howns hMp hWp hIp
      go_wp2_with fail
      with_reducible refine (error_nil _ _).mono ?_
      rintro e w' ⟨rfl, rfl⟩
      go_wp2_with fail
      with_reducible refine (ints_bel _ _ _ _ _ _ _ _ _ hrs hrp).mono ?_
      rintro e' wq ⟨rfl, kq⟩
      rw [show decide (zx (zx ys x0) zs = parI (dat [(B, n0, d, ys), (A0, n0, c0, x0), (Z, n0, e, zs)])) = true from decide_eq_true rfl]
      have hB := hB.trans (kq.mono hB.size)
      go_wp2
      go_ret
      exact ⟨rfl, hB⟩

set_option maxHeartbeats 4000000 in
set_option maxRecDepth 100000 in
theorem F3_bad (w : World) (A : Option Addr) (n c : Nat) (rs : List RV) (hA : RRows w A n rs) (hc : n ≤ c) (B : Option Addr) (m d : Nat) (ys : List Int) (hM : Sl w B m d ys) (k : Int) (hk : -9223372036854775808 ≤ k ∧ k ≤ 9223372036854775807) (Z : Option Addr) (l e : Nat) (zs : List Int) (hI : Sl w Z l e zs) (hE : ErrT w) (b off : Nat) (hAe : A = some ⟨b, off, none⟩) (hbl : b < w.heap.size) (HCC : Hid (∀ k, k < n → w.cell? ⟨b, off + k, none⟩ = some ((rs[k]?.getD noRow).val))) (A0 : Option Addr) (n0 c0 : Nat) (x0 : List Int) (h0 : w.cell? ⟨b, off, none⟩ = some (.slice A0 n0 c0)) (hs0 : Sl w A0 n0 c0 x0) (hn0 : 0 < n) (hF : rowsE (dat rs) = 0) (hx0 : (dat rs)[0]?.getD [] = x0) (hY : bytesE ys 16 = 0) (hmn : m = n0) (kn : Nat) (hkn : kn < n) (hke : k = kn) (G : Int) (hT : rowsE [ys, x0, zs] = G) (hG : G ≠ 0) :
    Calls Tryd.prog 8 #[.slice A n c, .slice B m d, .int .i64 k, .slice Z l e] w fun e w' => e = .returned (.bool true) ∧ Below w.heap.size w w' := by
  have HE := Lib.hid hE
  have HI := Lib.hid hI
  subst hAe
  have hW := hs0
  have hlym := hM.1.len
  have hlz := hI.1.len
  have hlw := hW.1.len
  have HG := Lib.hid hG
  have hGs : (G == G) = true := by simp
  have hGb : (G == 0) = false := by simpa using hG
  have HT := Lib.hid hT
  have HW := Lib.hid hW
  have HM := Lib.hid hM
  have hldr : (dat rs).length = n := by rw [dat_len, hA.len]
  have hrz := rowsE_zero.1 hF
  have hn8 : n ≤ 8 := by omega
  have hm0 : ((dat rs)[0]?.getD []).length = n0 := by rw [hx0]; exact hlw
  have hby := rows_bytes hF hm0
  have h16 := rows_16 hF hm0
  have hpb := par_bytes (by omega) hby
  have HP := Lib.hid (And.intro h16 (And.intro hby (And.intro hm0 (And.intro hpb (And.intro hA.len True.intro)))))
  have HF := Lib.hid hF
  have HY := Lib.hid hY
  subst hmn
  have hneq : ((m : Int) != (m : Int)) = false := by simp
  subst hke
  have hk0 : (0 : Int) ≤ (kn : Int) := by omega
  have hk1 : (kn : Int) ≤ (n : Int) - 1 := by omega
  have hyb : Bytes m ys := ⟨hlym, allB_mem.1 (bytesE_zero.1 hY).2⟩
  have HYB := Lib.hid hyb
  have HAG := Lib.hid (show Bytes m (againI (dat rs) ys kn) from fold_bytes hyb (fun r hr => hby r (List.mem_of_mem_eraseIdx hr)))
  clear hyb
  clear hldr hrz hm0 hby hpb hF hY hx0 h16
  clear hlym hlz hlw hW hT hI hE hs0 hG
  go_enter Tryd.func8, Tryd.ntmps8
  have hB : Below w.heap.size w w := Below.refl _ _
  go_wp2_with fail
  with_reducible refine (rrows_bel _ _ _ rs _ hA).mono ?_
  rintro e' w0 ⟨rfl, k0⟩
  rw [HF.out]
  have hB := k0
  have hAq := hA.below hB
  go_wp2_with fail
  with_reducible refine (check_any _ _ _ rs _ hAq).mono ?_
  rintro e w' ⟨rfl, rfl⟩
  rw [HF.out, errV_zero]
  go_wp2_with fail
  with_reducible refine (error_nil _ _).mono ?_
  rintro e w' ⟨rfl, rfl⟩
  go_wp2_with fail
  with_reducible refine (rparity_any _ _ _ rs _ hAq hn0 (by omega) m HP.out.1 HP.out.2.1).mono ?_
  rintro e' w1 ⟨⟨C1, c1, rfl, hown1⟩, k1⟩
  have hB := hB.trans (k1.mono hB.size)
  have hA1 := hA.below hB
  go_wp2_with fail
  with_reducible refine (of_ok _ _ _ rs _ hA1 hc HF.out m HP.out.2.2.1).mono ?_
  rintro e' w2 ⟨⟨C2, c2, rfl, hown2⟩, k2⟩
  have hB := hB.trans (k2.mono hB.size)
  have hr1 := (hown1.below k2).rd (by have := HP.out.1; omega) (byte_big HP.out.2.2.2.1)
  have hr2 := hown2.rd (by have := HP.out.1; omega) (byte_big HP.out.2.2.2.1)
  clear hown1 hown2 hA1 k2
  go_wp2_with fail
  with_reducible refine (error_nil _ _).mono ?_
  rintro e w' ⟨rfl, rfl⟩
  go_wp2_with fail
  with_reducible refine (ints_bel _ _ _ _ _ _ _ _ _ hr2 hr1).mono ?_
  rintro e' wq ⟨rfl, kq⟩
  rw [show decide (parI (dat rs) = parI (dat rs)) = true from by simp]
  have hB := hB.trans (kq.mono hB.size)
  clear hr1 hr2
  have hMb := (HM.out.below hB).1
  have h0V := (hB.cell (p := ⟨b, off, none⟩) hbl).trans h0
  go_wp2_with fail
  with_reducible refine (rbytes_any _ _ _ _ ys _ hMb).mono ?_
  rintro e w' ⟨rfl, rfl⟩
  rw [HY.out]
  clear hMb
  go_wp2_with fail
  with_reducible refine (in_yes _ _ _ _ hk0 hk1).mono ?_
  rintro e' w' ⟨rfl, rfl⟩
  go_wp2
  have hwlit := OwnR.lit _ w.heap.size hB.size (B, m, d, ys)
  have hBl := hB.alloc hB.size (.cells #[.slice B m d] 31)
  change OwnR (World.alloc _ (.cells #[.slice B m d] 31)) _ _ _ _ at hwlit
  go_loopw [15, 16] (fun v i wr => ∃ (j x : Nat) (C : Option Addr) (c' : Nat), j ≤ n ∧ i = .int .i64 j ∧ v = .slice C x c' ∧ OwnR wr w.heap.size (.slice C x c') x (allN (B, m, d, ys) rs kn j) ∧ Below w.heap.size w wr) (fun _ i _ => n - (intOf i).toNat)
  case atStart => exact ⟨0, 1, _, 1, Nat.zero_le _, rfl, rfl, hwlit, hBl⟩
  case round =>
    obtain ⟨j, x, C, c', hj, rfl, rfl, hown, hbel⟩ := hrel
    have hxl := hown.len
    have hxm := allN_len (B, m, d, ys) rs kn j
    have hcap := hown.cap
    by_cases hlt : j < n
    · have hjr : j < rs.length := by rw [HP.out.2.2.2.2.1]; exact hlt
      have hjI : (j : Int) < (n : Int) := by omega
      have h1 := (hbel.cell (p := ⟨b, off + j, none⟩) hbl).trans (HCC.out j hlt)
      by_cases hjk : j = kn
      · subst hjk
        have hst := allN_at (b := (B, m, d, ys)) hjr
        rw [← hst] at hown
        have hne2 : ((j : Int) != (j : Int)) = false := by simp
        clear hst hxl hxm h1
        go_wp2
        go_roundw
        case rel => exact ⟨j + 1, x, C, c', by omega, by go_num, rfl, hown, hbel⟩
        case measure => simp [intOf]; omega
      · have hst := allN_step (b := (B, m, d, ys)) hjr hjk
        have hne2 : ((j : Int) != (kn : Int)) = true := by simp; omega
        obtain ⟨r, hr⟩ : ∃ r, rs[j]?.getD noRow = r := ⟨_, rfl⟩
        rw [hr] at h1 hst
        obtain ⟨A1, n1, c1', x1⟩ := r
        change wr.cell? ⟨b, off + j, none⟩ = some (.slice A1 n1 c1') at h1
        have HST := Lib.hid hst
        clear hst hr
        go_wp2_with (at_builtin; refine wpList_app1R rfl _ _ rfl w.heap.size x _ _ rfl (hown.alloc _) wr.heap.size (A1, n1, c1', x1) rfl (by simp [RV.val]) (by omega) (by have := hbel.size; simp; omega) ?_; intro A2 c2 w4 hown4 hbel4)
        have hq4 := hbel4 w.heap.size w (Nat.le_refl _) (hbel.alloc hbel.size _)
        go_roundw
        case rel => exact ⟨j + 1, x + 1, A2, c2, by omega, by go_num, rfl, by rw [HST.out]; exact hown4, hq4⟩
        case measure => simp [intOf]; omega
    · obtain rfl : j = n := by omega
      have hdat := allN_dat (B, m, d, ys) rs kn
      rw [HP.out.2.2.2.2.1] at hdat
      have hx0 : 0 < x := by rw [← hxl]; unfold allN; simp
      have hrr := hown.rr (by omega) (fun r hr => by
              rcases allN_mem hr with h | h
              · subst h; exact HM.out.below hbel
              · exact (hA.2.2.1 r h).below hbel)
      have hbb : ∀ r ∈ dat (allN (B, m, d, ys) rs kn j), Bytes m r := by
              rw [hdat]
              intro r hr
              rcases List.mem_cons.1 hr with h | h
              · subst h; exact HYB.out
              · exact HP.out.2.1 r (List.mem_of_mem_eraseIdx h)
      have hpar : parI (dat (allN (B, m, d, ys) rs kn j)) = againI (dat rs) ys kn := by rw [hdat]; rfl
      have hx16 : x ≤ 16 := by omega
      have HBB := Lib.hid hbb
      have HPAR := Lib.hid hpar
      have hjI : ¬ (j : Int) < (j : Int) := by omega
      clear hdat hbb hpar hown hxl h0V
      have hB := hbel
      go_wp2_with fail
      with_reducible refine (rparity_any _ _ _ _ _ hrr hx0 (by omega) m HP.out.1 HBB.out).mono ?_
      rintro e' w3 ⟨⟨C3, c3, rfl, hown3⟩, k3⟩
      rw [HPAR.out] at hown3
      have hB := hB.trans (k3.mono hB.size)
      have hA3 := hA.below hB
      have hM3 := HM.out.below hB
      go_wp2_with fail
      with_reducible refine (again_ok _ _ _ rs _ _ _ ys kn _ hA3 hM3 hkn HF.out HP.out.2.2.1 HYB.out).mono ?_
      rintro e' w5 ⟨⟨C5, c5, rfl, hown5⟩, k5⟩
      have hB := hB.trans (k5.mono hB.size)
      have hr3 := (hown3.below k5).rd (by have := HP.out.1; omega) (byte_big HAG.out)
      have hr5 := hown5.rd (by have := HP.out.1; omega) (byte_big HAG.out)
      clear hown3 hown5 hA3 hM3 k5 k3 hrr
      go_wp2_with fail
      with_reducible refine (error_nil _ _).mono ?_
      rintro e w' ⟨rfl, rfl⟩
      go_wp2_with fail
      with_reducible refine (ints_bel _ _ _ _ _ _ _ _ _ hr5 hr3).mono ?_
      rintro e' wq ⟨rfl, kq⟩
      rw [show decide (againI (dat rs) ys kn = againI (dat rs) ys kn) = true from by simp]
      have hB := hB.trans (kq.mono hB.size)
      have h0X := (hB.cell (p := ⟨b, off, none⟩) hbl).trans h0
      clear hr3 hr5
      have hMx := HM.out.below hB
      have hWx := HW.out.below hB
      have hIx := HI.out.below hB
      have hR3 := Lib.hid (three_rows hMx hWx hIx)
      have hq3 := hB.alloc hB.size (.cells #[.slice B m d, .slice A0 m c0, .slice Z l e] 31)
      go_wp2_with fail
      with_reducible refine (rrows_bel _ 3 3 _ _ hR3.out).mono ?_
      rintro e' w3 ⟨rfl, k3⟩
      have hq3 := hq3.trans (k3.mono hq3.size)
      have hR3 := Lib.hid (hR3.out.below k3)
      rw [show rowsE (dat [(B, m, d, ys), (A0, m, c0, x0), (Z, l, e, zs)]) = _ from HT.out]
      have hMq := HM.out.below hq3
      have hWq := HW.out.below hq3
      have hIq := HI.out.below hq3
      clear hMx hWx hIx
      go_wp2_with fail
      with_reducible refine (small_bad _ _ _ _ _ _ _ _ _ ys x0 zs _ hMq hWq hIq (by rw [HT.out]; exact HG.out)).mono ?_
      rintro e' ws ⟨rfl, ks⟩
      have hB := hq3.trans (ks.mono hq3.size)
      rw [HT.out]
      go_wp2_with fail
      with_reducible refine (error_err G G _ (HE.out.below hB)).mono ?_
      rintro e' wt ⟨rfl, kt⟩
      have hB := hB.trans (kt.mono hB.size)
      go_wp2_with fail
      with_reducible refine (ints_bel _ _ _ _ _ _ _ _ _ (Rd.nil _ _) (Rd.nil _ _)).mono ?_
      rintro e' wq ⟨rfl, kq⟩
      rw [show decide (([] : List Int) = []) = true from rfl]
      have hB := hB.trans (kq.mono hB.size)
      go_wp2
      go_ret
      exact ⟨rfl, hB⟩

theorem walk (w : World) (A : Option Addr) (n c : Nat) (rs : List RV) (hA : RRows w A n rs) (hc : n ≤ c) (B : Option Addr) (m d : Nat) (ys : List Int) (hM : Sl w B m d ys) (k : Int) (hk : -9223372036854775808 ≤ k ∧ k ≤ 9223372036854775807) (Z : Option Addr) (l e : Nat) (zs : List Int) (hI : Sl w Z l e zs) (hE : ErrT w) :
    Calls Tryd.prog 8 #[.slice A n c, .slice B m d, .int .i64 k, .slice Z l e] w fun e w' => e = .returned (.bool true) ∧ Below w.heap.size w w' := by
  by_cases hz : n = 0
  · obtain ⟨F, hF⟩ : ∃ F, rowsE (dat rs) = F := ⟨_, rfl⟩
    have hF0 : F ≠ 0 := by rw [← hF]; intro h; have := (rowsE_zero.1 h).1; rw [dat_len, hA.len] at this; omega
    by_cases hT : rowsE [ys, [], zs] = 0
    · exact F1z_ok w A n c rs hA hc B m d ys hM k hk Z l e zs hI hE hz F hF hF0 hT
    · exact F1z_bad w A n c rs hA hc B m d ys hM k hk Z l e zs hI hE hz F hF hF0 _ rfl hT
  · have hn0 : 0 < n := by omega
    obtain ⟨b, off, hAe, hbl, hcc⟩ := hA.at_ hn0
    have hs0 := hA.sl (k := 0) hn0
    have hd := dat_get rs 0
    have h0 := hcc 0 hn0
    obtain ⟨r0, hr0⟩ : ∃ r, rs[0]?.getD noRow = r := ⟨_, rfl⟩
    rw [hr0] at hs0 hd h0
    obtain ⟨A0, n0, c0, x0⟩ := r0
    change Sl w A0 n0 c0 x0 at hs0
    change (dat rs)[0]?.getD [] = x0 at hd
    change w.cell? ⟨b, off, none⟩ = some (.slice A0 n0 c0) at h0
    by_cases hF : rowsE (dat rs) = 0
    · by_cases hY : bytesE ys 16 = 0
      · by_cases hmn : m = n0
        · by_cases hkk : k < 0 ∨ (n : Int) - 1 < k
          · by_cases hT : rowsE [ys, x0, zs] = 0
            · exact F2c_ok w A n c rs hA hc B m d ys hM k hk Z l e zs hI hE b off hAe hbl (Lib.hid hcc) A0 n0 c0 x0 h0 hs0 hn0 hF hd hY hmn hkk hT
            · exact F2c_bad w A n c rs hA hc B m d ys hM k hk Z l e zs hI hE b off hAe hbl (Lib.hid hcc) A0 n0 c0 x0 h0 hs0 hn0 hF hd hY hmn hkk _ rfl hT
          · obtain ⟨kn, hke⟩ : ∃ kn : Nat, k = kn := ⟨k.toNat, by omega⟩
            by_cases hT : rowsE [ys, x0, zs] = 0
            · exact F3_ok w A n c rs hA hc B m d ys hM k hk Z l e zs hI hE b off hAe hbl (Lib.hid hcc) A0 n0 c0 x0 h0 hs0 hn0 hF hd hY hmn kn (by omega) hke hT
            · exact F3_bad w A n c rs hA hc B m d ys hM k hk Z l e zs hI hE b off hAe hbl (Lib.hid hcc) A0 n0 c0 x0 h0 hs0 hn0 hF hd hY hmn kn (by omega) hke _ rfl hT
        · have hT : rowsE [ys, x0, zs] ≠ 0 := fun h => hmn (by
            have h1 := (three_ok h hM.1.len).2.2.1.1
            rw [← h1]; exact hs0.1.len)
          exact F2b_bad w A n c rs hA hc B m d ys hM k hk Z l e zs hI hE b off hAe hbl (Lib.hid hcc) A0 n0 c0 x0 h0 hs0 hn0 hF hd hY hmn _ rfl hT
      · by_cases hT : rowsE [ys, x0, zs] = 0
        · exact F2a_ok w A n c rs hA hc B m d ys hM k hk Z l e zs hI hE b off hAe hbl (Lib.hid hcc) A0 n0 c0 x0 h0 hs0 hn0 hF hd _ rfl hY hT
        · exact F2a_bad w A n c rs hA hc B m d ys hM k hk Z l e zs hI hE b off hAe hbl (Lib.hid hcc) A0 n0 c0 x0 h0 hs0 hn0 hF hd _ rfl hY _ rfl hT
    · by_cases hT : rowsE [ys, x0, zs] = 0
      · exact F1_ok w A n c rs hA hc B m d ys hM k hk Z l e zs hI hE b off hAe hbl (Lib.hid hcc) A0 n0 c0 x0 h0 hs0 hn0 _ rfl hF hT
      · exact F1_bad w A n c rs hA hc B m d ys hM k hk Z l e zs hI hE b off hAe hbl (Lib.hid hcc) A0 n0 c0 x0 h0 hs0 hn0 _ rfl hF _ rfl hT

set_option maxRecDepth 100000 in
theorem lifted (os : Os) (started : os.Started) (H : Type) (enc : TypeId × Value → H) :
    ReturnsInHanded {} Tryd.checked os 8 .any (fun w args => (Rows.paritySaysSpec.pre enc Tryd.prog Tryd.f8 [] false w args ∧ laidMetH Tryd.prog Rows.paritySaysRow.laid w) ∧ sizedMet enc Tryd.prog Tryd.f8 (OpenSpec.ofChange Rows.paritySaysSpec) false w args)
      (Rows.paritySaysSpec.post enc Tryd.prog Tryd.f8 false true false false) := by
  refine returnsInHanded_of_change_and (C := Tryd.checked) (X := fun w _ => laidMetH Tryd.prog Rows.paritySaysRow.laid w) (fun _ _ _ hh h => h.of_heap hh) own started (by kernel_rfl) Tryd.func8
    (ChangeSpec.witness_at (enc := enc) (C := Tryd.checked) (os := os) (X := fun w _ => laidMetH Tryd.prog Rows.paritySaysRow.laid w) false (laidWorld os) #[.slice none 0 0, .slice none 0 0, .int .i64 0, .slice none 0 0] 8 rfl (by kernel_rfl) (by kernel_rfl) (by kernel_rfl) (by kernel_rfl) (by kernel_rfl) (laidWorld_met os _)) ?_
  intro W base args ds gs before hval0 hW _ _ hL _
  have hval : ∀ (j : Nat) t v, Tryd.f8.params[j]? = some t → args[j]? = some v → Value.okWide Tryd.prog W .any base t v := hval0
  have hW' := hW
  obtain ⟨p, q, hA0, hV, rfl, hfz, hnd⟩ := hW
  have hA : DataW.TrodAll enc Tryd.prog W 0 (fun _ => true) true Tryd.f8.params.toList args.toList ds p := hA0
  rw [Tryd.params8] at hA hval
  obtain ⟨v0, vs0, d0, ds0, p0, q0, hargs, rfl, rfl, h0, r0⟩ := trodAll_cons hA
  obtain ⟨v1, vs1, d1, ds1, p1, q1, rfl, rfl, rfl, h1, r1⟩ := trodAll_cons r0
  obtain ⟨v2, vs2, d2, ds2, p2, q2, rfl, rfl, rfl, h2, r2⟩ := trodAll_cons r1
  obtain ⟨v3, vs3, d3, ds3, p3, q3, rfl, rfl, rfl, h3, r3⟩ := trodAll_cons r2
  obtain ⟨rfl, rfl, rfl⟩ := trodAll_nil r3
  obtain rfl : args = #[v0, v1, v2, v3] := by cases args; simp_all
  obtain ⟨rfl, rfl⟩ := trodVars_none hV
  have k0 := h0
  have lt0 : ∀ x ∈ p0, x.block < W.heap.size := by obtain ⟨m, hm⟩ := k0; exact DataW.trod_lt m _ _ _ hm
  obtain ⟨A0, n0, c0, rfl⟩ := okWide_slice Tryd.underlying43 (hval 0 43 v0 rfl rfl)
  obtain ⟨rs0, w0, hc0⟩ : ∃ rs, RRows W A0 n0 rs ∧ n0 ≤ c0 := by
    obtain ⟨fuel, hf⟩ := h0
    rcases Go.Deep.open_int_rows Tryd.underlying43 Tryd.underlying31 Tryd.underlying3 (by kernel_rfl) (by kernel_rfl) hf with ⟨hcs, _⟩ | ⟨x, l, c, AA, LL, CC, ZZ, hcs, _, hl, hm, _, hrow⟩
    · simp [Value.cells] at hcs
      obtain ⟨rfl, rfl, rfl⟩ := hcs
      exact ⟨[], rrows_nil _ _, Nat.le_refl _⟩
    · simp [Value.cells] at hcs
      obtain ⟨rfl, rfl, rfl⟩ := hcs
      exact ⟨_, rrows_of_cells hl hm hrow, hl⟩
  have k1 := h1
  have lt1 : ∀ x ∈ p1, x.block < W.heap.size := by obtain ⟨m, hm⟩ := k1; exact DataW.trod_lt m _ _ _ hm
  obtain ⟨A1, n1, c1, rfl⟩ := okWide_slice Tryd.underlying31 (hval 1 31 v1 rfl rfl)
  obtain ⟨xs1, w1⟩ : ∃ xs, Sl W A1 n1 c1 xs := by
    obtain ⟨fuel, hf⟩ := h1
    rcases open_ints Tryd.underlying31 Tryd.underlying3 (by kernel_rfl) hf with ⟨hcs, _⟩ | ⟨x, l, c, zs, hcs, _, hl, hm, hz, _, hcell, hwz⟩
    · simp [Value.cells] at hcs
      obtain ⟨rfl, rfl, rfl⟩ := hcs
      exact ⟨[], Rd.nil _ _, Nat.le_refl _, fun _ => rfl⟩
    · simp [Value.cells] at hcs
      obtain ⟨rfl, rfl, rfl⟩ := hcs
      exact ⟨_, rd_of_cells (by simp at hz; omega) hl hm hcell hwz, hl, fun h => by cases h⟩
  have k2 := h2
  have lt2 : ∀ x ∈ p2, x.block < W.heap.size := by obtain ⟨m, hm⟩ := k2; exact DataW.trod_lt m _ _ _ hm
  obtain ⟨a2, rfl, rfl, rfl, w2⟩ := open_int Tryd.underlying3 (hval 2 3 v2 rfl rfl) h2
  have k3 := h3
  have lt3 : ∀ x ∈ p3, x.block < W.heap.size := by obtain ⟨m, hm⟩ := k3; exact DataW.trod_lt m _ _ _ hm
  obtain ⟨A3, n3, c3, rfl⟩ := okWide_slice Tryd.underlying31 (hval 3 31 v3 rfl rfl)
  obtain ⟨xs3, w3⟩ : ∃ xs, Sl W A3 n3 c3 xs := by
    obtain ⟨fuel, hf⟩ := h3
    rcases open_ints Tryd.underlying31 Tryd.underlying3 (by kernel_rfl) hf with ⟨hcs, _⟩ | ⟨x, l, c, zs, hcs, _, hl, hm, hz, _, hcell, hwz⟩
    · simp [Value.cells] at hcs
      obtain ⟨rfl, rfl, rfl⟩ := hcs
      exact ⟨[], Rd.nil _ _, Nat.le_refl _, fun _ => rfl⟩
    · simp [Value.cells] at hcs
      obtain ⟨rfl, rfl, rfl⟩ := hcs
      exact ⟨_, rd_of_cells (by simp at hz; omega) hl hm hcell hwz, hl, fun h => by cases h⟩
  clear hA0 hval0
  refine (walk W A0 n0 c0 rs0 w0 hc0 A1 n1 c1 xs1 w1 a2 (wf_range w2) A3 n3 c3 xs3 w3 (handle_of_laid hL)).mono fun e W' ⟨he, bel⟩ => ?_
  subst he
  exact ⟨_, rfl, _, _, _, [], _, [], hW', trodAll_mk1 (shut_bool Tryd.underlying4 _), (trodAll_cons_mk (Below.trod laidOut (by kernel_rfl) (of_decide_eq_true (by kernel_rfl)) k0 bel lt0) (trodAll_cons_mk (Below.trod laidOut (by kernel_rfl) (of_decide_eq_true (by kernel_rfl)) k1 bel lt1) (trodAll_cons_mk (Below.trod laidOut (by kernel_rfl) (of_decide_eq_true (by kernel_rfl)) k2 bel lt2) (trodAll_cons_mk (Below.trod laidOut (by kernel_rfl) (of_decide_eq_true (by kernel_rfl)) k3 bel lt3) trodAll_mk0)))), rfl, bel.frame _, fun h => by cases h⟩

theorem over : Rows.paritySaysRow.holds Tryd.pinned (OpenSpec.ofChange Rows.paritySaysSpec) :=
  OpenClaim.holds_of_wide 8 Tryd.f8 rfl rfl rfl rfl rfl rfl rfl ⟨rfl, rfl, rfl, rfl, rfl⟩ rfl rfl rfl rfl rfl (by kernel_rfl) Tryd.func8 (by kernel_rfl)
    (of_decide_eq_true (by kernel_rfl)) (by unfold Func.isWrapper; first | (rw [if_pos (by decide +kernel)]; kernel_rfl) | (rw [if_neg (by decide +kernel)]; exact ⟨rfl, rfl⟩))
    (fun os started H enc _ => lifted os started H enc)

theorem card_holds : Rows.ParitySaysCardSaid :=
  Claim7.holds_tied_plain_at .later [] [.handle] true Rows.paritySaysCard.stood.harness Rows.paritySaysCard.stood.looks
    over (fun _ h => by cases h) (by kernel_rfl) (fun _ h => by cases h) paritySays_row_tie rfl ⟨rfl, rfl⟩ (by kernel_rfl) rfl
    (fun f fn hf hfn => by
      obtain rfl : f = 8 := Option.some.inj ((show Tryd.prog.funcNamed "platterhold/platterholdlaw1.ParitySays" = some 8 by kernel_rfl).symm.trans hf) |>.symm
      obtain rfl : fn = Tryd.f8 := (Option.some.inj (Tryd.func8.symm.trans hfn)).symm
      exact ⟨by kernel_rfl, fun j t ht => by
        rw [Tryd.params8] at ht
        have hm : t ∈ [43, 31, 3, 31] := by simpa using Array.mem_of_getElem? ht
        have hall : ([43, 31, 3, 31].all fun u => !Tryd.prog.wantsStandIn u) = true := by kernel_rfl
        exact (show Tryd.prog.wantsStandIn t = false by simpa using List.all_eq_true.1 hall t hm)⟩)
    (by kernel_rfl)
theorem proved : Rows.ParitySaysCardSaid := card_holds
#print axioms proved
end Go.Proofs.YtdhfckdnfppieaaDoor.paritySays
