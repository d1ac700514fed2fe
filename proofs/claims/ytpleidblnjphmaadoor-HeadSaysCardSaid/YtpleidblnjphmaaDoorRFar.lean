/- The reference's Far and Near. -/
import Derived.Test.YtpleidblnjphmaaDoorNearP
import Derived.Test.YtpleidblnjphmaaDoorRRis
namespace Go.Proofs.YtpleidblnjphmaaDoor
open Go Go.RowKit
set_option maxRecDepth 20000
set_option linter.unusedVariables false

set_option maxHeartbeats 2000000 in
theorem far_any (A : Option Addr) (n c : Nat) (xs : List Int) (a : Int) (w : World) (hA : Rd w A n xs) (hn : n ≤ 20) (ha : Trk a ∨ n = 0) (hx : ∀ x ∈ xs, Trk x) :
    Calls Tryd.prog 24 #[.int .i64 a, .slice A n c] w fun e w' => e = .returned (.int .i64 (farI a xs)) ∧ w = w' := by
  have hl := hA.len
  have HX := Lib.hid (And.intro hl (And.intro ha hx))
  clear hl ha hx
  go_enter Tryd.func24, Tryd.ntmps24
  go_wp2
  go_loop [0, 5, 6] (fun p s i => ∃ k : Nat, k ≤ n ∧ i = .int .i64 k ∧ s = .int .i64 (farS a xs k).1 ∧ p = .int .i64 (farS a xs k).2) (fun _ _ i => n - (intOf i).toNat)
  case atStart => exact ⟨0, Nat.zero_le _, rfl, rfl, rfl⟩
  case round =>
    obtain ⟨k, hk, rfl, rfl, rfl⟩ := hrel
    by_cases hlt : k < n
    · have hkI : (k : Int) < (n : Int) := by omega
      obtain ⟨b, off, rfl, hbl, hcc⟩ := hA.at_ (by omega)
      have g1 := hcc k hlt
      have hat : Trk a := HX.out.2.1.resolve_right (by omega)
      have hb := farS_range hat HX.out.2.2 k
      have hp := farS_at hat HX.out.2.2 k
      have ht := trk_get HX.out.2.2 k
      have hs : farS a xs (k + 1) = ((farS a xs k).1 + absI (farS a xs k).2 (xs[k]?.getD 0), xs[k]?.getD 0) := rfl
      obtain ⟨S, hS⟩ : ∃ S, (farS a xs k).1 = S := ⟨_, rfl⟩
      obtain ⟨P, hP⟩ : ∃ P, (farS a xs k).2 = P := ⟨_, rfl⟩
      obtain ⟨x, hxe⟩ : ∃ x, xs[k]?.getD 0 = x := ⟨_, rfl⟩
      rw [hS, hP, hxe] at hs
      rw [hS] at hb ⊢
      rw [hP] at hp ⊢
      rw [hxe] at g1 ht
      have hab := absI_range hp ht
      have hap := fun wx => abs_any P x wx hp ht
      obtain ⟨D, hD⟩ : ∃ D, absI P x = D := ⟨_, rfl⟩
      rw [hD] at hs hab hap
      obtain ⟨b0, b1⟩ := hb
      obtain ⟨d0, d1⟩ := hab
      have HS := Lib.hid hs
      have HAP := Lib.hid hap
      clear hcc hs hap hS hP hxe hD hp ht
      go_wp2_with fail
      with_reducible refine (HAP.out _).mono ?_
      rintro e w' ⟨rfl, rfl⟩
      go_wp2
      go_round
      case rel => exact ⟨k + 1, by omega, by go_num, by rw [HS.out], by rw [HS.out]⟩
      case measure => simp [intOf]; omega
    · obtain rfl : k = n := by omega
      have hkI : ¬ (k : Int) < (k : Int) := by omega
      go_wp2
      go_ret
      exact ⟨ret_int (by unfold farI; rw [HX.out.1]), rfl⟩

set_option maxHeartbeats 4000000 in
theorem rnear_any (A : Option Addr) (n c : Nat) (xs : List Int) (a : Int) (w : World) (hA : Rd w A n xs) (hn : n ≤ 20) (ha : Trk a) (hx : ∀ x ∈ xs, Trk x) :
    Calls Tryd.prog 20 #[.int .i64 a, .slice A n c] w fun e w' =>
      (∃ A' c', e = .returned (.slice A' n c') ∧ Own w' w.heap.size (.slice A' n c') n (nearL a xs)) ∧ Below w.heap.size w w' := by
  have hl := hA.len
  have HX := Lib.hid (And.intro hl (And.intro hx ha))
  clear hl hx ha
  go_enter Tryd.func20, Tryd.ntmps20
  go_wp2
  go_loopw [0, 1, 5] (fun av l out wr => ∃ k : Nat, ∃ A3 c3, k ≤ n ∧ av = .int .i64 (nst a xs k).2.1 ∧ out = .slice A3 k c3 ∧ Own wr w.heap.size out k (nst a xs k).1 ∧ Hl w wr out l (n - k) (nst a xs k).2.2 ∧ Below w.heap.size w wr) (fun _ l _ _ => lenOf l)
  case atStart => exact ⟨0, none, 0, Nat.zero_le _, rfl, rfl, Own.nil _ _, ⟨A, c, rfl, Or.inl hA⟩, Below.refl _ _⟩
  case round =>
    obtain ⟨k, A3, c3, hk, rfl, rfl, ho, hL, hBr⟩ := hrel
    obtain ⟨-, hnow, hym⟩ := nst_trk HX.out.2.2 HX.out.2.1 k (by rw [HX.out.1]; exact hk)
    obtain ⟨A4, c4, rfl, hr⟩ := hL.rd hBr (by omega) hym
    by_cases hlt : k < n
    · have hkI : (0 : Int) < ((n - k : Nat) : Int) := by omega
      obtain ⟨m, hm⟩ : ∃ m, n - k = m := ⟨_, rfl⟩
      have hs : nst a xs (k + 1) = ((nst a xs k).1 ++ [bestI (nst a xs k).2.1 (nst a xs k).2.2], bestI (nst a xs k).2.1 (nst a xs k).2.2, (nst a xs k).2.2.erase (bestI (nst a xs k).2.1 (nst a xs k).2.2)) := rfl
      obtain ⟨⟨D, now, ys⟩, hD⟩ : ∃ s, nst a xs k = s := ⟨_, rfl⟩
      rw [hD] at ho hs hL hr hym hnow ⊢
      dsimp only at ho hs hL hr hym hnow ⊢
      rw [hm] at hkI hL hr ⊢
      have hm0 : 0 < m := by omega
      have hyl := hr.len
      obtain ⟨b, off, rfl, hbl, hcc⟩ := hr.at_ (by omega)
      have g0 : wr.cell? ⟨b, off, none⟩ = some (.int .i64 (ys[0]?.getD 0)) := hcc 0 (by omega)
      have HCC := Lib.hid hcc
      have HS := Lib.hid hs
      have HY := Lib.hid (And.intro hyl (And.intro hym hnow))
      have HO := Lib.hid (And.intro ho hL)
      clear hcc hs hD hyl hym ho hL hnow
      go_wp2
      go_loopw [6, 7] (fun v i w2 => ∃ j : Nat, j ≤ m ∧ i = .int .i64 j ∧ v = .int .i64 (bestF now (ys[0]?.getD 0) (ys.take j)) ∧ w2 = wr) (fun _ i _ => m - (intOf i).toNat)
      case atStart => exact ⟨0, Nat.zero_le _, rfl, rfl, rfl⟩
      case round =>
        obtain ⟨j, hj, rfl, rfl, rfl⟩ := hrel
        clear g0
        by_cases hjl : j < m
        · have hjI : (j : Int) < (m : Int) := by omega
          have g1 := HCC.out j hjl
          have hsn := take_snoc (xs := ys) (k := j) (by rw [HY.out.1]; exact hjl)
          have hmi := bestF_snoc now (ys[0]?.getD 0) (ys[j]?.getD 0) (ys.take j)
          rw [hsn] at hmi
          have ht := trk_get HY.out.2.1 j
          have hMt : Trk (bestF now (ys[0]?.getD 0) (ys.take j)) := by
            rcases bestF_mem now (ys.take j) (ys[0]?.getD 0) with e | e
            · rw [e]; exact trk_get HY.out.2.1 0
            · exact HY.out.2.1 _ (List.mem_of_mem_take e)
          obtain ⟨t, hte⟩ : ∃ t, ys[j]?.getD 0 = t := ⟨_, rfl⟩
          obtain ⟨M, hM⟩ : ∃ M, bestF now (ys[0]?.getD 0) (ys.take j) = M := ⟨_, rfl⟩
          rw [hte] at g1 hmi ht
          rw [hM] at hmi hMt ⊢
          have h1 := fun wx => abs_any t now wx ht HY.out.2.2
          have h2 := fun wx => abs_any M now wx hMt HY.out.2.2
          have hnr : nearer now t M ↔ absI t now < absI M now ∨ (absI t now = absI M now ∧ t < M) := Iff.rfl
          obtain ⟨d1, hd1⟩ : ∃ d, absI t now = d := ⟨_, rfl⟩
          obtain ⟨d2, hd2⟩ : ∃ d, absI M now = d := ⟨_, rfl⟩
          rw [hd1] at h1 hnr
          rw [hd2] at h2 hnr
          have HMI := Lib.hid hmi
          have HAB := Lib.hid (And.intro h1 h2)
          have HNR := Lib.hid hnr
          clear hmi hte hM hsn h1 h2 hnr hd1 hd2 ht hMt
          go_wp2_with fail
          with_reducible refine (HAB.out.1 _).mono ?_
          rintro e w' ⟨rfl, rfl⟩
          go_wp2_with fail
          with_reducible refine (HAB.out.2 _).mono ?_
          rintro e w' ⟨rfl, rfl⟩
          by_cases hd : d1 < d2
          · have hn1 : nearer now t M := HNR.out.2 (Or.inl hd)
            go_wp2
            go_roundw
            case rel => exact ⟨j + 1, by omega, by go_num, by rw [HMI.out, if_pos hn1], trivial⟩
            case measure => simp [intOf]; omega
          · by_cases he : d1 = d2
            · subst he
              have hee : (d1 == d1) = true := by simp
              by_cases htm : t < M
              · have hn1 : nearer now t M := HNR.out.2 (Or.inr ⟨rfl, htm⟩)
                go_wp2
                go_roundw
                case rel => exact ⟨j + 1, by omega, by go_num, by rw [HMI.out, if_pos hn1], trivial⟩
                case measure => simp [intOf]; omega
              · have hn1 : ¬ nearer now t M := fun h => by rcases HNR.out.1 h with h | h <;> omega
                go_wp2
                go_roundw
                case rel => exact ⟨j + 1, by omega, by go_num, by rw [HMI.out, if_neg hn1], trivial⟩
                case measure => simp [intOf]; omega
            · have hee : (d1 == d2) = false := by simp; omega
              have hn1 : ¬ nearer now t M := fun h => by rcases HNR.out.1 h with h | h <;> omega
              go_wp2
              go_roundw
              case rel => exact ⟨j + 1, by omega, by go_num, by rw [HMI.out, if_neg hn1], trivial⟩
              case measure => simp [intOf]; omega
        · obtain rfl : j = m := by omega
          have hjI : ¬ (j : Int) < (j : Int) := by omega
          rw [List.take_of_length_le (by rw [HY.out.1]; exact Nat.le_refl _)]
          rw [show bestF now (ys[0]?.getD 0) ys = bestI now ys from rfl]
          obtain ⟨x, hxe⟩ : ∃ x, bestI now ys = x := ⟨_, rfl⟩
          rw [hxe] at HS ⊢
          have hbs := hBr.size
          have hxm : x ∈ ys := by
            rw [← hxe]
            exact bestI_mem (fun h => by have := HY.out.1; rw [h] at this; simp at this; omega)
          clear hxe
          go_wp2_with (at_builtin; refine wpList_app1B rfl _ _ rfl w.heap.size k _ _ rfl (HO.out.1.alloc _) wr.heap.size x rfl (by simp) (by omega) (by simp; omega) ?_; intro A5 c5 w5 hown5 hg5 h5)
          have hB5 : Below w.heap.size w w5 := (hBr.alloc hBr.size _).grown hg5 (by simp; omega) (fun q e => (World.ownsRow.lt HO.out.1 q e).1)
          have hr5 : Rd w5 (some ⟨b, off, none⟩) j ys := HO.out.2.app hB5 hg5 (by omega) HY.out.2.1
          have hwo := without_any (some ⟨b, off, none⟩) j c4 ys x w5 hr5 (by omega)
          have HWO := Lib.hid hwo
          clear hwo
          with_reducible refine HWO.out.mono ?_
          rintro e w6 ⟨⟨A6, m6, c6, rfl, hown6⟩, hB6⟩
          have hml := hown6.len
          rw [List.length_erase_of_mem hxm, HY.out.1] at hml
          obtain rfl : m6 = n - (k + 1) := by omega
          have hl6 : Hl w w6 (.slice A5 (k + 1) c5) (.slice A6 (n - (k + 1)) c6) (n - (k + 1)) (ys.erase x) := ⟨A6, c6, rfl, Or.inr ⟨own_mono hown6 hB5.size, (apt_fresh hown5 hown6 (Nat.le_refl _)).swap⟩⟩
          have HL6 := Lib.hid (And.intro hl6 (And.intro (hown5.below hB6) (hB5.trans (hB6.mono hB5.size))))
          clear hl6 hml hown6 hB6 hB5 hr5 hown5 hg5 h5 HWO
          go_wp2
          go_roundw
          case rel => exact ⟨k + 1, A5, c5, by omega, by rw [HS.out], rfl, by rw [HS.out]; exact HL6.out.2.1, by rw [HS.out]; exact HL6.out.1, HL6.out.2.2⟩
          case measure => simp [lenOf]; omega
    · obtain rfl : k = n := by omega
      have hkI : ¬ (0 : Int) < ((k - k : Nat) : Int) := by omega
      go_wp2
      go_ret
      exact ⟨⟨_, _, rfl, by unfold nearL; rw [HX.out.1]; exact ho⟩, hBr⟩
end Go.Proofs.YtpleidblnjphmaaDoor
