/- reed.through by its contract. -/
import Derived.Test.YtdhfckdnfppieaaReedP
import Derived.Test.YtdhfckdnfppieaaOwn
import Derived.Deep.RegionHeld3
namespace Go.Proofs.Ytdhfckdnfppieaa
open Go Go.RowKit
set_option maxRecDepth 20000
set_option linter.unusedVariables false

theorem get_byte {xs : List Int} (h : ∀ x ∈ xs, 0 ≤ x ∧ x ≤ 255) (k : Nat) : Byte (xs[k]?.getD 0) := by
  by_cases hk : k < xs.length
  · rw [List.getElem?_eq_getElem hk]; exact h _ (List.getElem_mem hk)
  · rw [List.getElem?_eq_none (by omega)]; exact ⟨by decide, by decide⟩
theorem get_neI {xs : List Int} (h : ∀ x ∈ xs, 0 ≤ x ∧ x ≤ 255) (hd : xs.Nodup) {i j : Nat} (hi : i < xs.length) (hj : j < xs.length) (hne : j ≠ i) : xorI (xs[i]?.getD 0) (xs[j]?.getD 0) ≠ 0 := by
  have h1 := get_ne (nts_nodup h hd) (i := i) (j := j) (by rw [nts_len]; exact hi) (by rw [nts_len]; exact hj) (fun e => hne e.symm)
  rw [nts_get, nts_get] at h1
  unfold xorI
  intro e
  exact h1 (xor_eq_zero.1 (by omega))
theorem xor_byte {x y : Int} (hx : Byte x) (hy : Byte y) : Byte (xorI x y) := ⟨xorI_nonneg _ _, xorI_255 hx.2 hy.2⟩
theorem bits_byte {x y : Int} (hx : Byte x) (hy : Byte y) : bits .xor .i64 x y = xorI x y := bits_xorI hx.1 (by have := hx.2; omega) hy.1 (by have := hy.2; omega)

set_option maxHeartbeats 4000000 in
theorem through_any (A : Option Addr) (n c : Nat) (xs : List Int) (B : Option Addr) (d : Nat) (ys : List Int) (a : Int) (w : World) (hA : Rd w A n xs) (hB : Rd w B n ys) (hn : n ≤ 12)
    (hx : ∀ x ∈ xs, 0 ≤ x ∧ x ≤ 255) (hy : ∀ y ∈ ys, 0 ≤ y ∧ y ≤ 255) (hd : xs.Nodup) (ha : Byte a) :
    Calls Try.prog 38 #[.slice A n c, .slice B n d, .int .i64 a] w fun e w' => e = .returned (.int .i64 (thrI xs ys a n)) ∧ Below w.heap.size w w' := by
  have hlx := hA.len
  have HX := Lib.hid (And.intro hlx (And.intro hx (And.intro hy hd)))
  clear hlx hx hy hd
  have HA := Lib.hid ha
  clear ha
  go_enter Try.func38, Try.ntmps38
  go_wp2
  go_loopw [7, 15] (fun o i wr => ∃ k : Nat, k ≤ n ∧ i = .int .i64 k ∧ o = .int .i64 (thrI xs ys a k) ∧ Below w.heap.size w wr) (fun _ i _ => n - (intOf i).toNat)
  case atStart => exact ⟨0, Nat.zero_le _, rfl, rfl, Below.refl _ _⟩
  case round =>
    obtain ⟨k, hk, rfl, rfl, hbel⟩ := hrel
    by_cases hlt : k < n
    · obtain ⟨b', off', rfl, hbl', hcc'⟩ := hB.at_ (by omega)
      obtain ⟨b, off, rfl, hbl, hcc⟩ := hA.at_ (by omega)
      have h1 := (hbel.cell (p := ⟨b', off' + k, none⟩) hbl').trans (hcc' k hlt)
      have hyb := get_byte HX.out.2.2.1 k
      have hst : thrI xs ys a (k + 1) = xorI (thrI xs ys a k) (termI xs k a (ys[k]?.getD 0) n) := by
        rw [← HX.out.1]; rfl
      have hob := thrI_byte (xs := xs) (a := a) HX.out.2.2.1 k
      obtain ⟨y, hye⟩ : ∃ y, ys[k]?.getD 0 = y := ⟨_, rfl⟩
      obtain ⟨O, hO⟩ : ∃ O, thrI xs ys a k = O := ⟨_, rfl⟩
      rw [hye] at h1 hyb hst
      rw [hO] at hst hob ⊢
      have HC := Lib.hid hcc
      have HY := Lib.hid hyb
      have HS := Lib.hid hst
      have HO := Lib.hid hob
      have hkI : (k : Int) < (n : Int) := by omega
      clear hcc hcc' hye hyb hst hob hO
      go_wp2
      go_loopw [9, 24] (fun t j wq => ∃ m : Nat, m ≤ n ∧ j = .int .i64 m ∧ t = .int .i64 (termI xs k a y m) ∧ Below w.heap.size w wq) (fun _ j _ => n - (intOf j).toNat)
      case atStart => exact ⟨0, Nat.zero_le _, rfl, rfl, hbel⟩
      case round =>
        obtain ⟨m, hm, rfl, rfl, hbel2⟩ := hrel
        have htb := termI_byte (xs := xs) (i := k) (a := a) HY.out m
        by_cases hlm : m < n
        · have hmI : (m : Int) < (n : Int) := by omega
          have hts : termI xs k a y (m + 1) = stepI xs k a (termI xs k a y m) m := rfl
          obtain ⟨T, hT⟩ : ∃ T, termI xs k a y m = T := ⟨_, rfl⟩
          rw [hT] at hts htb ⊢
          by_cases hmk : m = k
          · subst hmk
            unfold stepI at hts
            rw [if_pos rfl] at hts
            have HTS := Lib.hid hts
            have hne2 : ((m : Int) != (m : Int)) = false := by simp
            clear hts htb hT
            go_wp2
            go_roundw
            case rel => exact ⟨m + 1, by omega, by go_num, by rw [HTS.out], hbel2⟩
            case measure => simp [intOf]; omega
          · unfold stepI at hts
            rw [if_neg hmk] at hts
            have hne2 : ((m : Int) != (k : Int)) = true := by simp; omega
            have g1 := (hbel2.cell (p := ⟨b, off + k, none⟩) hbl).trans (HC.out k hlt)
            have g2 := (hbel2.cell (p := ⟨b, off + m, none⟩) hbl).trans (HC.out m hlm)
            have x1 := get_byte HX.out.2.1 k
            have x2 := get_byte HX.out.2.1 m
            have x3 := get_neI HX.out.2.1 HX.out.2.2.2 (i := k) (j := m) (by rw [HX.out.1]; exact hlt) (by rw [HX.out.1]; exact hlm) hmk
            obtain ⟨xk, hxk⟩ : ∃ x, xs[k]?.getD 0 = x := ⟨_, rfl⟩
            obtain ⟨xm, hxm⟩ : ∃ x, xs[m]?.getD 0 = x := ⟨_, rfl⟩
            rw [hxk] at g1 x1 x3 hts
            rw [hxm] at g2 x2 x3 hts
            have b1 := bits_byte HA.out x2
            have b2 := bits_byte x1 x2
            have y1 := xor_byte HA.out x2
            have y2 := xor_byte x1 x2
            obtain ⟨u, hu⟩ : ∃ u, xorI a xm = u := ⟨_, rfl⟩
            obtain ⟨v, hv⟩ : ∃ v, xorI xk xm = v := ⟨_, rfl⟩
            rw [hu] at b1 y1 hts
            rw [hv] at b2 y2 x3 hts
            have hmt : Byte (mulI T u) := ⟨mulI_nonneg _ _, mulI_le htb.2⟩
            have hmu := fun wx => Mul_ok T u wx htb y1
            obtain ⟨M, hM⟩ : ∃ M, mulI T u = M := ⟨_, rfl⟩
            rw [hM] at hmt hts hmu
            have hdi := fun wx => Div_ok M v wx hmt y2 x3
            have HTS := Lib.hid hts
            have HMU := Lib.hid hmu
            have HDI := Lib.hid hdi
            clear hts htb hT x1 x2 x3 y1 y2 hxk hxm hu hv hmt hmu hM hdi
            go_wp2_with fail
            with_reducible refine (HMU.out _).mono ?_
            rintro e w2 ⟨rfl, k2⟩
            have hB2 := hbel2.trans (k2.mono hbel2.size)
            replace g1 := (k2.cell (p := ⟨b, off + k, none⟩) (Nat.lt_of_lt_of_le hbl hbel2.size)).trans g1
            replace g2 := (k2.cell (p := ⟨b, off + m, none⟩) (Nat.lt_of_lt_of_le hbl hbel2.size)).trans g2
            clear k2
            go_wp2_with fail
            go_region_held3 (fun w' => w'.cell? ⟨b, off + k, none⟩ = some (.int .i64 xk) ∧ w'.cell? ⟨b, off + m, none⟩ = some (.int .i64 xm) ∧ Below w.heap.size w w')
              (first | exact ⟨g1, g2, hB2.drew⟩ | exact hS3 | fail)
              (first
                | (go_at_call 30; (with_reducible refine (HDI.out _).mono ?_); rintro e w3 ⟨rfl, k3⟩; obtain ⟨s1, s2, s3⟩ := ‹_ ∧ _ ∧ Below _ _ _›; have hS3 : w3.cell? ⟨b, off + k, none⟩ = some (.int .i64 xk) ∧ w3.cell? ⟨b, off + m, none⟩ = some (.int .i64 xm) ∧ Below w.heap.size w w3 := ⟨(k3.cell (p := ⟨b, off + k, none⟩) (Nat.lt_of_lt_of_le hbl s3.size)).trans s1, (k3.cell (p := ⟨b, off + m, none⟩) (Nat.lt_of_lt_of_le hbl s3.size)).trans s2, s3.trans (k3.mono s3.size)⟩)
                | fail)
            go_wp2
            go_roundw
            case rel => exact ⟨m + 1, by omega, by go_num, by rw [HTS.out], hS3.2.2⟩
            case measure => simp [intOf]; omega
        · obtain rfl : m = n := by omega
          have hmI : ¬ (m : Int) < (m : Int) := by omega
          have hb := bits_byte HO.out htb
          obtain ⟨T, hT⟩ : ∃ T, termI xs k a y m = T := ⟨_, rfl⟩
          rw [hT] at hb htb ⊢
          have HT := Lib.hid hT
          clear htb hT
          go_wp2
          go_roundw
          case rel => exact ⟨k + 1, by omega, by go_num, by rw [HS.out, HT.out], hbel2⟩
          case measure => simp [intOf]; omega
    · obtain rfl : k = n := by omega
      have hkI : ¬ (k : Int) < (k : Int) := by omega
      go_wp2
      go_ret
      exact ⟨rfl, hbel⟩
end Go.Proofs.Ytdhfckdnfppieaa
