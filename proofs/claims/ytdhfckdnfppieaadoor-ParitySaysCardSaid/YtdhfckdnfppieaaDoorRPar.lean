/- The reference's Rows and Parity by their contracts. -/
import Derived.Test.YtdhfckdnfppieaaDoorRParP
import Derived.Test.YtdhfckdnfppieaaDoorRBytes
import Derived.Test.YtdhfckdnfppieaaDoorParAgain
import Derived.Deep.QuietTactic
import Derived.BigQuiet
namespace Go.Proofs.YtdhfckdnfppieaaDoor
open Go Go.RowKit
set_option maxRecDepth 20000
set_option linter.unusedVariables false

set_option maxHeartbeats 2000000 in
theorem rrows_any (A : Option Addr) (n c : Nat) (rs : List RV) (w : World) (hA : RRows w A n rs) :
    Calls Tryd.prog 32 #[.slice A n c] w fun e w' => e = .returned (.int .i64 (rowsE (dat rs))) ∧ ∃ q, w' = w.drewN q := by
  have hlen : (dat rs).length = n := by rw [dat_len, hA.len]
  have hmx := hA.max
  by_cases h0 : n = 0
  · subst h0
    have he : rowsE (dat rs) = 5 := by unfold rowsE; rw [if_pos hlen]
    rw [he]
    clear he hlen
    go_enter Tryd.func32, Tryd.ntmps32
    go_wp2
    go_ret
    exact ⟨rfl, 0, rfl⟩
  · have hn0 : ((n : Int) == 0) = false := by simp; omega
    by_cases h8 : 8 < n
    · have he : rowsE (dat rs) = 4 := by unfold rowsE; rw [if_neg (by omega), if_pos (by omega)]
      rw [he]
      clear he hlen
      go_enter Tryd.func32, Tryd.ntmps32
      go_wp2
      go_ret
      exact ⟨rfl, 0, rfl⟩
    · obtain ⟨b, off, rfl, hbl, hcc⟩ := hA.at_ (by omega)
      have hc0 := hcc 0 (by omega)
      have HCC := Lib.hid hcc
      clear hcc
      have hs0 := hA.sl (k := 0) (by omega)
      obtain ⟨r0, hr0⟩ : ∃ r, rs[0]?.getD noRow = r := ⟨_, rfl⟩
      rw [hr0, Nat.add_zero] at hc0
      obtain ⟨A0, n0, c0, x0⟩ := r0
      change w.cell? ⟨b, off, none⟩ = some (.slice A0 n0 c0) at hc0
      rw [hr0] at hs0
      have hl0 : x0.length = n0 := hs0.1.len
      have he : rowsE (dat rs) = rowsLoop n0 (dat rs) := by
        unfold rowsE
        rw [if_neg (by omega), if_neg (by omega), dat_get, hr0, hl0]
      rw [he]
      obtain ⟨E, hE⟩ : ∃ E, rowsLoop n0 (dat rs) = E := ⟨_, rfl⟩
      rw [hE]
      have HE := Lib.hid (And.intro hE hlen)
      clear he hE hr0 hl0 hlen
      go_enter Tryd.func32, Tryd.ntmps32
      go_wp2
      go_loopw [3] (fun i wr => ∃ k : Nat, k ≤ n ∧ i = .int .i64 k ∧ rowsLoop n0 ((dat rs).drop k) = E ∧ ∃ q, wr = w.drewN q) (fun i _ => n - (intOf i).toNat)
      case atStart => exact ⟨0, Nat.zero_le _, rfl, by rw [List.drop_zero]; exact HE.out.1, 0, rfl⟩
      case round =>
        obtain ⟨k, hk, rfl, hke, q, rfl⟩ := hrel
        by_cases hlt : k < n
        · have h1 := HCC.out k hlt
          have hs := hA.sl hlt
          have hd : (dat rs).drop k = (rs[k]?.getD noRow).2.2.2 :: (dat rs).drop (k + 1) := by
            rw [List.drop_eq_getElem_cons (by rw [HE.out.2]; exact hlt), ← dat_get, List.getElem?_eq_getElem (by rw [HE.out.2]; exact hlt)]; rfl
          rw [hd, rowsLoop] at hke
          obtain ⟨r, hr⟩ : ∃ r, rs[k]?.getD noRow = r := ⟨_, rfl⟩
          rw [hr] at h1 hs hke
          obtain ⟨A1, n1, c1, x1⟩ := r
          change w.cell? ⟨b, off + k, none⟩ = some (.slice A1 n1 c1) at h1
          have hl1 : x1.length = n1 := hs.1.len
          have hR : Rd (w.drewN q) A1 n1 x1 := hs.1.below (below_drewN_of (Below.refl _ _) q)
          change (if bytesE x1 16 ≠ 0 then bytesE x1 16 else if x1.length ≠ n0 then 3 else rowsLoop n0 (List.drop (k + 1) (dat rs))) = E at hke
          rw [hl1] at hke
          have HR := Lib.hid hR
          have hkI : (k : Int) < (n : Int) := by omega
          obtain ⟨F, hF⟩ : ∃ F, bytesE x1 16 = F := ⟨_, rfl⟩
          rw [hF] at hke
          have HF := Lib.hid hF
          clear hd hr hs hR hF
          by_cases hbe : F = 0
          · subst hbe
            rw [if_neg (by simp)] at hke
            by_cases hln : n1 = n0
            · subst hln
              rw [if_neg (by simp)] at hke
              have HK := Lib.hid hke
              clear hke
              have hne : ((n1 : Int) != (n1 : Int)) = false := by simp
              go_wp2_with fail
              with_reducible refine (rbytes_any _ _ _ _ x1 _ HR.out).mono ?_
              rintro e w' ⟨rfl, rfl⟩
              rw [HF.out]
              go_wp2
              go_quiet (fail)
              go_wp2
              go_roundw
              case rel => exact ⟨k + 1, by omega, by go_num, HK.out, _, rfl⟩
              case measure => simp [intOf]; omega
            · rw [if_pos hln] at hke
              subst hke
              have hne : ((n1 : Int) != (n0 : Int)) = true := by simp; omega
              go_wp2_with fail
              with_reducible refine (rbytes_any _ _ _ _ x1 _ HR.out).mono ?_
              rintro e w' ⟨rfl, rfl⟩
              rw [HF.out]
              go_wp2
              go_quiet (fail)
              go_wp2
              go_ret
              exact ⟨rfl, _, World.drewN_drewN _ _ _⟩
          · rw [if_pos hbe] at hke
            subst hke
            have hne : (F != 0) = true := by simpa using hbe
            go_wp2_with fail
            with_reducible refine (rbytes_any _ _ _ _ x1 _ HR.out).mono ?_
            rintro e w' ⟨rfl, rfl⟩
            rw [HF.out]
            go_wp2
            go_ret
            exact ⟨rfl, _, rfl⟩
        · obtain rfl : k = n := by omega
          have hE0 : E = 0 := by
            rw [← hke, List.drop_of_length_le (by rw [HE.out.2]; omega)]; rfl
          subst hE0
          clear hke
          go_wp2
          go_ret
          exact ⟨rfl, _, rfl⟩

set_option maxHeartbeats 4000000 in
theorem rparity_any (A : Option Addr) (n c : Nat) (rs : List RV) (w : World) (hA : RRows w A n rs) (hn0 : 0 < n) (hn : n ≤ 16) (m : Nat) (hm : m ≤ 16) (hb : ∀ r ∈ dat rs, Bytes m r) :
    Calls Tryd.prog 34 #[.slice A n c] w fun e w' => (∃ C c', e = .returned (.slice C m c') ∧ Own w' w.heap.size (.slice C m c') m (parI (dat rs))) ∧ Below w.heap.size w w' := by
  have hlen : (dat rs).length = n := by rw [dat_len, hA.len]
  obtain ⟨b, off, A0, n0, c0, rfl, hbl, h0, hl0⟩ := first_cell hA hn0
  have hn0m : m = n0 := by
    rw [← hl0, List.getElem?_eq_getElem (by omega)]
    exact (hb _ (List.getElem_mem (show 0 < (dat rs).length by omega))).1.symm
  subst hn0m
  obtain ⟨b', off', he, _, hcc⟩ := hA.at_ hn0
  injection he with he
  injection he with e1 e2
  subst e1; subst e2
  have hpb := par_bytes (by omega) hb
  have HP := Lib.hid (And.intro hlen (And.intro hb (And.intro hcc hpb)))
  clear hlen hb hcc hl0 hpb
  go_enter Tryd.func34, Tryd.ntmps34
  go_wp2
  go_loopw [3, 4] (fun v i wr => ∃ (k : Nat) (C : Option Addr) (c' : Nat), k ≤ m ∧ i = .int .i64 k ∧ v = .slice C k c' ∧ Own wr w.heap.size (.slice C k c') k ((parI (dat rs)).take k) ∧ Below w.heap.size w wr) (fun _ i _ => m - (intOf i).toNat)
  case atStart => exact ⟨0, none, 0, Nat.zero_le _, rfl, rfl, by rw [List.take_zero]; exact Own.nil _ _, Below.refl _ _⟩
  case round =>
    obtain ⟨k, C, c', hk, rfl, rfl, hown, hbel⟩ := hrel
    have hc0 := (hbel.cell (p := ⟨b, off, none⟩) hbl).trans h0
    by_cases hlt : k < m
    · have hkI : (k : Int) < (m : Int) := by omega
      go_wp2
      go_loop [5, 6] (fun s p => ∃ t : Nat, t ≤ 8 ∧ s = .int .i64 ((colX (dat rs) k % 2 ^ t : Nat) : Int) ∧ p = .int .i64 ((2 ^ t : Nat) : Int)) (fun _ p => 256 - (intOf p).toNat)
      case atStart => exact ⟨0, by omega, by rw [Nat.pow_zero, Nat.mod_one]; rfl, rfl⟩
      case round =>
        obtain ⟨t, ht, rfl, rfl⟩ := hrel
        by_cases ht8 : t < 8
        · have hbit := colX_bit (dat rs) k t
          have hml : (2 : Nat) ^ (t + 1) = 2 * 2 ^ t := by rw [Nat.pow_succ]; omega
          have hp1 : 1 ≤ 2 ^ t := Nat.one_le_two_pow
          have hp2 : 2 ^ t ≤ 2 ^ 7 := Nat.pow_le_pow_right (by decide) (by omega)
          have hcl : colX (dat rs) k % 2 ^ t ≤ 255 := by have := Nat.mod_lt (colX (dat rs) k) (show 0 < 2 ^ t by omega); omega
          rw [hml] at hbit
          obtain ⟨P, hP⟩ : ∃ P, 2 ^ t = P := ⟨_, rfl⟩
          have hml2 : 2 ^ (t + 1) = 2 * P := by rw [← hP, hml]
          rw [hP] at hbit hp1 hp2 hcl ⊢
          obtain ⟨S, hS⟩ : ∃ S, colX (dat rs) k % P = S := ⟨_, rfl⟩
          rw [hS] at hbit hcl ⊢
          have HB := Lib.hid (And.intro hbit hml2)
          clear hbit hml hml2 hS hP
          go_wp2
          go_loop [7, 8] (fun a i => ∃ j : Nat, j ≤ n ∧ i = .int .i64 j ∧ a = .int .i64 ((manyN ((col (dat rs) k).take j) P : Nat) : Int)) (fun _ i => n - (intOf i).toNat)
          case atStart => exact ⟨0, Nat.zero_le _, rfl, rfl⟩
          case round =>
            obtain ⟨j, hj, rfl, rfl⟩ := hrel
            have hmj := many_le ((col (dat rs) k).take j) P
            rw [List.length_take] at hmj
            by_cases hjn : j < n
            · have h1 := (hbel.cell (p := ⟨b, off + j, none⟩) hbl).trans (HP.out.2.2.1 j hjn)
              have hs1 := hA.sl hjn
              have hg := dat_get rs j
              obtain ⟨r, hr⟩ : ∃ r, rs[j]?.getD noRow = r := ⟨_, rfl⟩
              rw [hr] at h1 hs1 hg
              obtain ⟨A1, n1, c1', x1⟩ := r
              change wr.cell? ⟨b, off + j, none⟩ = some (.slice A1 n1 c1') at h1
              change Sl w A1 n1 c1' x1 at hs1
              change (dat rs)[j]?.getD [] = x1 at hg
              have hjl : j < (dat rs).length := by rw [HP.out.1]; exact hjn
              have hx1 : Bytes m x1 := by
                rw [List.getElem?_eq_getElem hjl] at hg
                change (dat rs)[j] = x1 at hg
                rw [← hg]; exact HP.out.2.1 _ (List.getElem_mem _)
              have hn1 : n1 = m := by rw [← hs1.1.len, hx1.1]
              subst hn1
              have hsn := col_snoc (k := k) hjl
              rw [hg] at hsn
              have hms := many_snoc ((col (dat rs) k).take j) (x1[k]?.getD 0).toNat P
              rw [← hsn] at hms
              obtain ⟨b1, off1, rfl, hbl1, hcc1⟩ := hs1.1.at_ (by omega)
              have h2 := (hbel.cell (p := ⟨b1, off1 + k, none⟩) hbl1).trans (hcc1 k hlt)
              have hv : 0 ≤ x1[k]?.getD 0 ∧ x1[k]?.getD 0 ≤ 255 := by rw [List.getElem?_eq_getElem (by rw [hx1.1]; exact hlt)]; exact hx1.2 _ (List.getElem_mem _)
              obtain ⟨x, hxe⟩ : ∃ x : Nat, x1[k]?.getD 0 = (x : Int) := ⟨(x1[k]?.getD 0).toNat, by omega⟩
              rw [hxe] at h2 hms hv
              rw [show ((x : Int)).toNat = x from by omega] at hms
              have hx255 : x ≤ 255 := by omega
              have hdx : x / P ≤ 255 := Nat.le_trans (Nat.div_le_self _ _) hx255
              have hP0 : (0 : Int) < (P : Int) := by omega
              have hdI : ((x : Int) / (P : Int)) = ((x / P : Nat) : Int) := by simp
              obtain ⟨M, hM⟩ : ∃ M, manyN ((col (dat rs) k).take j) P = M := ⟨_, rfl⟩
              rw [hM] at hms hmj ⊢
              have HM := Lib.hid hms
              have hjI : (j : Int) < (n : Int) := by omega
              have hdx1 : (0 : Int) ≤ (x : Int) / (P : Int) ∧ (x : Int) / (P : Int) ≤ 255 := ⟨Int.ediv_nonneg (by omega) (by omega), Int.le_trans (Int.ediv_le_self _ (by omega)) (by omega)⟩
              obtain ⟨hdx2, hdx3⟩ := hdx1
              have HD := Lib.hid hdI
              clear hr hs1 hg hjl hx1 hsn hms hcc1 hxe hv hM hdI
              go_wp2
              go_round
              case rel =>
                refine ⟨j + 1, by omega, by go_num, ?_⟩
                rw [HM.out]
                have := HD.out
                congr 1
              case measure => simp [intOf]; omega
            · obtain rfl : j = n := by omega
              rw [List.take_of_length_le (by rw [col_len, HP.out.1]; omega)] at hmj ⊢
              obtain ⟨M, hM⟩ : ∃ M, manyN (col (dat rs) k) P = M := ⟨_, rfl⟩
              rw [hM] at hmj ⊢
              have hB := HB.out
              rw [hM] at hB
              obtain ⟨hbit, hml2⟩ := hB
              have HB2 := Lib.hid (And.intro hbit hml2)
              have hjI : ¬ (j : Int) < (j : Int) := by omega
              clear hbit hml2 hM
              rcases (by omega : (M : Int) % 2 = 0 ∨ (M : Int) % 2 = 1) with hM2 | hM2
              · go_wp2
                go_round
                case rel =>
                  refine ⟨t + 1, by omega, ?_, ?_⟩
                  · have h := HB2.out
                    have : M % 2 = 0 := by omega
                    rw [h.2, h.1, this, Nat.mul_zero, Nat.add_zero]
                  · rw [HB2.out.2]; go_num
                case measure => simp [intOf]; omega
              · go_wp2
                go_round
                case rel =>
                  refine ⟨t + 1, by omega, ?_, ?_⟩
                  · have h := HB2.out
                    have : M % 2 = 1 := by omega
                    rw [h.2, h.1, this, Nat.mul_one]
                    go_num
                  · rw [HB2.out.2]; go_num
                case measure => simp [intOf]; omega
        · obtain rfl : t = 8 := by omega
          have hpc := par_col (l := dat rs) (by rw [HP.out.1]; exact hn0) HP.out.2.1 hlt
          have hlt8 := colX_lt (l := dat rs) (by rw [HP.out.1]; exact hn0) HP.out.2.1 hlt
          have hsn := take_snocP (xs := parI (dat rs)) (k := k) (by rw [HP.out.2.2.2.1]; exact hlt)
          rw [hpc] at hsn
          rw [show colX (dat rs) k % 2 ^ 8 = colX (dat rs) k from Nat.mod_eq_of_lt (by simpa using hlt8), show ((2 ^ 8 : Nat) : Int) = 256 from rfl]
          obtain ⟨X, hX⟩ : ∃ X, colX (dat rs) k = X := ⟨_, rfl⟩
          rw [hX] at hsn hlt8 ⊢
          have HS := Lib.hid hsn
          clear hpc hsn hX
          go_wp2_with (at_builtin; refine wpList_app1 rfl _ _ rfl w.heap.size k _ _ rfl (hown.alloc _) wr.heap.size X rfl (by simp) (by omega) (by have := hbel.size; simp; omega) ?_; intro A2 c2 w4 hown4 hbel4)
          have hq4 := hbel4 w.heap.size w (Nat.le_refl _) (hbel.alloc hbel.size _)
          go_roundw
          case rel => exact ⟨k + 1, A2, c2, by omega, by go_num, rfl, by rw [HS.out]; exact hown4, hq4⟩
          case measure => simp [intOf]; omega
    · obtain rfl : k = m := by omega
      rw [List.take_of_length_le (by rw [HP.out.2.2.2.1]; omega)] at hown
      have hkI : ¬ (k : Int) < (k : Int) := by omega
      go_wp2
      go_ret
      exact ⟨⟨_, _, rfl, hown⟩, hbel⟩
end Go.Proofs.YtdhfckdnfppieaaDoor
