/- The reference's Sweep. -/
import Derived.Test.YtpleidblnjphmaaDoorRRis
namespace Go.Proofs.YtpleidblnjphmaaDoor
open Go Go.RowKit
set_option maxRecDepth 20000
set_option linter.unusedVariables false

/-- Two lists of the call's own and the sorted one. -/
def SwJ (w : World) (S : List Int) (n : Nat) (vs : Value) (wr : World) (u : Value) (p : Nat) (U : List Int) (v : Value) (q : Nat) (V : List Int) : Prop :=
  Own wr w.heap.size u p U ∧ Own wr w.heap.size v q V ∧ Own wr w.heap.size vs n S ∧ Apt u v ∧ Apt u vs ∧ Apt v vs ∧ Below w.heap.size w wr
theorem SwJ.swap {w wr : World} {S : List Int} {n p q : Nat} {vs u v : Value} {U V : List Int} (h : SwJ w S n vs wr u p U v q V) : SwJ w S n vs wr v q V u p U :=
  ⟨h.2.1, h.1, h.2.2.1, h.2.2.2.1.swap, h.2.2.2.2.2.1, h.2.2.2.2.1, h.2.2.2.2.2.2⟩
theorem SwJ.app {w wr w3 : World} {S : List Int} {n p q : Nat} {vs u v u' : Value} {U V : List Int} {t : Int} {o : Obj} (h : SwJ w S n vs wr u p U v q V)
    (hown3 : Own w3 w.heap.size u' (p + 1) (U ++ [t])) (hg3 : (wr.alloc o).grownBy w3 u.ownBlock) (h5 : u'.ownBlock = u.ownBlock ∨ u'.ownBlock = some (wr.alloc o).heap.size) :
    SwJ w S n vs w3 u' (p + 1) (U ++ [t]) v q V := by
  obtain ⟨h1, h2, h3, h4, h6, h7, hB⟩ := h
  refine ⟨hown3, apt_keep (h2.alloc o) h4 hg3, apt_keep (h3.alloc o) h6 hg3, apt_new (h2.alloc o) h4 h5, apt_new (h3.alloc o) h6 h5, h7, ?_⟩
  exact (hB.alloc hB.size o).grown hg3 (by have := hB.size; simp; omega) (fun q e => (World.ownsRow.lt h1 q e).1)
theorem low_dropT {a : Int} {up : Bool} {S : List Int} {j : Nat} (h : j < S.length) (hl : isLow a up (S[j]?.getD 0) = true) : (lowL a up (S.drop j)).reverse = (lowL a up (S.drop (j + 1))).reverse ++ [S[j]?.getD 0] := by
  rw [List.getElem?_eq_getElem h] at hl ⊢
  rw [List.drop_eq_getElem_cons h]
  simp only [Option.getD_some] at hl ⊢
  unfold lowL
  rw [List.filter_cons_of_pos (by simpa using hl), List.reverse_cons]
theorem low_dropF {a : Int} {up : Bool} {S : List Int} {j : Nat} (h : j < S.length) (hl : isLow a up (S[j]?.getD 0) = false) : (lowL a up (S.drop j)).reverse = (lowL a up (S.drop (j + 1))).reverse := by
  rw [List.getElem?_eq_getElem h] at hl
  rw [List.drop_eq_getElem_cons h]
  simp only [Option.getD_some] at hl
  unfold lowL
  rw [List.filter_cons_of_neg (by simpa using hl)]

set_option maxHeartbeats 8000000 in
theorem rsweep_any (A : Option Addr) (n c : Nat) (xs : List Int) (a : Int) (up : Bool) (w : World) (hA : Rd w A n xs) (hn : n ≤ 20) (hx : ∀ x ∈ xs, Trk x) :
    Calls Tryd.prog 21 #[.int .i64 a, .bool up, .slice A n c] w fun e w' =>
      (∃ A' c', e = .returned (.slice A' n c') ∧ Own w' w.heap.size (.slice A' n c') n (sweepL a up xs)) ∧ Below w.heap.size w w' := by
  have hsl : (risingL xs).length = n := by rw [risingL_length]; exact hA.len
  have hst : ∀ x ∈ risingL xs, Trk x := fun x h => hx x ((risingL_perm xs).mem_iff.1 h)
  have hri := rising_any A n c xs w hA hn hx
  have hsw : ∀ u, sweepL a u xs = if u then highL a u (risingL xs) ++ (lowL a u (risingL xs)).reverse else (lowL a u (risingL xs)).reverse ++ highL a u (risingL xs) := fun u => by rw [risingL_sortL]; rfl
  obtain ⟨S, hS⟩ : ∃ S, risingL xs = S := ⟨_, rfl⟩
  rw [hS] at hsl hst hri hsw
  have HS := Lib.hid (And.intro hsl (And.intro hst hsw))
  have HRI := Lib.hid hri
  clear hsl hst hri hsw hS hA hx
  cases up
  · have hsw : sweepL a false xs = (lowL a false S).reverse ++ highL a false S := (HS.out.2.2 false).trans rfl
    rw [hsw]
    have HSW := Lib.hid hsw
    clear hsw
    go_enter Tryd.func21, Tryd.ntmps21
    go_wp2_with fail
    with_reducible refine HRI.out.mono ?_
    rintro e w1 ⟨⟨A5, c5, rfl, hown5⟩, hB5⟩
    have hJ : SwJ w S n (.slice A5 n c5) w1 (.slice none 0 0) 0 [] (.slice none 0 0) 0 [] := ⟨Own.nil _ _, Own.nil _ _, hown5, fun g h => by simp [Value.ownBlock] at h, fun g h => by simp [Value.ownBlock] at h, fun g h => by simp [Value.ownBlock] at h, hB5⟩
    have HJ := Lib.hid hJ
    clear hJ hown5 hB5
    go_wp2
    go_loopw [7, 8, 10] (fun u v i wr => ∃ k p q : Nat, ∃ A1 c1 A2 c2, k ≤ n ∧ p ≤ 0 ∧ q ≤ k ∧ i = .int .i64 k ∧ u = .slice A1 p c1 ∧ v = .slice A2 q c2 ∧ SwJ w S n (.slice A5 n c5) wr u p [] v q (highL a false (S.take k))) (fun _ _ i _ => n - (intOf i).toNat)
    case atStart => exact ⟨0, 0, 0, none, 0, none, 0, Nat.zero_le _, Nat.le_refl _, Nat.le_refl _, rfl, rfl, rfl, HJ.out⟩
    case round =>
      obtain ⟨k, p, q, A1, c1, A2, c2, hk, hp, hq, rfl, rfl, rfl, hJ⟩ := hrel
      clear HJ
      have HJ := Lib.hid hJ
      obtain ⟨hu, hv, hvs, -, -, -, hB⟩ := hJ
      have hbs := hB.size
      by_cases hlt : k < n
      · have hkI : (k : Int) < (n : Int) := by omega
        obtain ⟨g, rfl, -, -, hcell, -⟩ := hvs.at_ (by omega)
        have g1 := hcell k hlt
        have hsn := take_snoc (xs := S) (k := k) (by rw [HS.out.1]; exact hlt)
        obtain ⟨t, hte⟩ : ∃ t, S[k]?.getD 0 = t := ⟨_, rfl⟩
        rw [hte] at g1 hsn
        have HSN := Lib.hid hsn
        clear hcell hsn hte hvs hB
        by_cases hta : t > a
        · have hL : isLow a false t = false := by simp [isLow]; omega
          have hh := (high_snoc hL (L := S.take k)).2
          rw [HSN.out] at hh
          have HHH := Lib.hid hh
          clear hh hL
          go_wp2_with (at_builtin; refine wpList_app1B rfl _ _ rfl w.heap.size q _ _ rfl (hv.alloc _) wr.heap.size t rfl (by simp) (by omega) (by simp; omega) ?_; intro A3 c3 w3 hown3 hg3 h5)
          go_roundw
          case rel => exact ⟨k + 1, p, q + 1, A1, c1, A3, c3, by omega, hp, by omega, by go_num, rfl, rfl, by rw [HHH.out]; exact (HJ.out.swap.app hown3 hg3 h5).swap⟩
          case measure => simp [intOf] <;> omega
        · have hL : isLow a false t = true := by simp [isLow]; omega
          have hh := (low_snoc hL (L := S.take k)).2
          rw [HSN.out] at hh
          have HHH := Lib.hid hh
          clear hh hL
          go_wp2
          go_roundw
          case rel => exact ⟨k + 1, p, q, A1, c1, A2, c2, by omega, by omega, by omega, by go_num, rfl, rfl, by rw [HHH.out]; exact HJ.out⟩
          case measure => simp [intOf] <;> omega
      · obtain rfl : k = n := by omega
        have hkI : ¬ (k : Int) < (k : Int) := by omega
        have hJ0 := HJ.out
        rw [List.take_of_length_le (by rw [HS.out.1]; exact Nat.le_refl _)] at hJ0
        have HJ0 := Lib.hid hJ0
        have hz : p = 0 := by omega
        clear hJ0 HJ hu hv hvs hB
        subst hz
        go_wp2
        go_loopw [7, 8, 11] (fun u v i wr => ∃ j p q : Nat, ∃ A1 c1 A2 c2, j ≤ k ∧ p + j ≤ k ∧ q ≤ k ∧ i = .int .i64 ((j : Int) - 1) ∧ u = .slice A1 p c1 ∧ v = .slice A2 q c2 ∧ SwJ w S k (.slice A5 k c5) wr u p (lowL a false (S.drop j)).reverse v q (highL a false S)) (fun _ _ i _ => (intOf i + 1).toNat)
        case atStart => exact ⟨k, 0, q, A1, c1, A2, c2, Nat.le_refl _, by omega, hq, rfl, rfl, rfl, by rw [List.drop_of_length_le (by rw [HS.out.1]; exact Nat.le_refl _)]; exact HJ0.out⟩
        case round =>
          obtain ⟨j, p, q, A1, c1, A2, c2, hj, hp2, hq2, rfl, rfl, rfl, hJ⟩ := hrel
          clear HJ0
          have HJ := Lib.hid hJ
          obtain ⟨hu, hv, hvs, -, -, -, hB⟩ := hJ
          have hbs := hB.size
          by_cases hj0 : j = 0
          · subst hj0
            have hjI : ¬ ((0 : Nat) : Int) - 1 ≥ 0 := by omega
            have hm1 : ((0 : Nat) : Int) - 1 = -1 := by omega
            rw [List.drop_zero] at hu
            have hvr : Rd wr A2 q (highL a false S) := hv.rd (by omega) (fun x hx => by
              have h1 : x ∈ S := by simp [highL] at hx; exact hx.1
              have := HS.out.2.1 x h1
              unfold Trk at this; omega)
            have hpq : p + q = k := by have := low_high a false S; have h1 := hu.len; have h2 := hv.len; rw [HS.out.1] at this; simp at h1 h2; omega
            rw [hm1]
            go_wp2_with (at_builtin; refine wpList_appL rfl _ _ rfl w.heap.size p _ _ rfl hu A2 q c2 _ rfl hvr (by omega) hB.size ?_; intro A' c3 w6 hown6 hbel6)
            have hq6 := hbel6 w.heap.size w (Nat.le_refl _) hB
            rw [hpq] at hown6
            go_ret
            exact ⟨⟨_, _, rfl, hown6⟩, hq6⟩
          · obtain ⟨i, rfl⟩ : ∃ i, j = i + 1 := ⟨j - 1, by omega⟩
            have e1 : ((i + 1 : Nat) : Int) - 1 = (i : Int) := by omega
            rw [e1]
            have hik : i < k := by omega
            have hiI : (i : Int) < (k : Int) := by omega
            obtain ⟨g, rfl, -, -, hcell, -⟩ := hvs.at_ (by omega)
            have g1 := hcell i hik
            have hdT := low_dropT (a := a) (up := false) (S := S) (j := i) (by rw [HS.out.1]; exact hik)
            have hdF := low_dropF (a := a) (up := false) (S := S) (j := i) (by rw [HS.out.1]; exact hik)
            obtain ⟨t, hte⟩ : ∃ t, S[i]?.getD 0 = t := ⟨_, rfl⟩
            rw [hte] at g1 hdT hdF
            have HD := Lib.hid (And.intro hdT hdF)
            clear hcell hdT hdF hte hvs hB e1
            by_cases hta : t ≤ a
            · have hL : isLow a false t = true := by simp [isLow]; omega
              have hh := HD.out.1 hL
              have HHH := Lib.hid hh
              clear hh hL HD
              go_wp2_with (at_builtin; refine wpList_app1B rfl _ _ rfl w.heap.size p _ _ rfl (hu.alloc _) wr.heap.size t rfl (by simp) (by omega) (by simp; omega) ?_; intro A3 c3 w3 hown3 hg3 h5)
              go_roundw
              case rel => exact ⟨i, p + 1, q, A3, c3, A2, c2, by omega, by omega, by omega, by go_num, rfl, rfl, by rw [HHH.out]; exact HJ.out.app hown3 hg3 h5⟩
              case measure => simp [intOf] <;> omega
            · have hL : isLow a false t = false := by simp [isLow]; omega
              have hh := HD.out.2 hL
              have HHH := Lib.hid hh
              clear hh hL HD
              go_wp2
              go_roundw
              case rel => exact ⟨i, p, q, A1, c1, A2, c2, by omega, by omega, by omega, by go_num, rfl, rfl, by rw [HHH.out]; exact HJ.out⟩
              case measure => simp [intOf] <;> omega
  · have hsw : sweepL a true xs = highL a true S ++ (lowL a true S).reverse := (HS.out.2.2 true).trans rfl
    rw [hsw]
    have HSW := Lib.hid hsw
    clear hsw
    go_enter Tryd.func21, Tryd.ntmps21
    go_wp2_with fail
    with_reducible refine HRI.out.mono ?_
    rintro e w1 ⟨⟨A5, c5, rfl, hown5⟩, hB5⟩
    have hJ : SwJ w S n (.slice A5 n c5) w1 (.slice none 0 0) 0 [] (.slice none 0 0) 0 [] := ⟨Own.nil _ _, Own.nil _ _, hown5, fun g h => by simp [Value.ownBlock] at h, fun g h => by simp [Value.ownBlock] at h, fun g h => by simp [Value.ownBlock] at h, hB5⟩
    have HJ := Lib.hid hJ
    clear hJ hown5 hB5
    go_wp2
    go_loopw [7, 8, 10] (fun u v i wr => ∃ k p q : Nat, ∃ A1 c1 A2 c2, k ≤ n ∧ p ≤ k ∧ q ≤ 0 ∧ i = .int .i64 k ∧ u = .slice A1 p c1 ∧ v = .slice A2 q c2 ∧ SwJ w S n (.slice A5 n c5) wr u p (highL a true (S.take k)) v q []) (fun _ _ i _ => n - (intOf i).toNat)
    case atStart => exact ⟨0, 0, 0, none, 0, none, 0, Nat.zero_le _, Nat.le_refl _, Nat.le_refl _, rfl, rfl, rfl, HJ.out⟩
    case round =>
      obtain ⟨k, p, q, A1, c1, A2, c2, hk, hp, hq, rfl, rfl, rfl, hJ⟩ := hrel
      clear HJ
      have HJ := Lib.hid hJ
      obtain ⟨hu, hv, hvs, -, -, -, hB⟩ := hJ
      have hbs := hB.size
      by_cases hlt : k < n
      · have hkI : (k : Int) < (n : Int) := by omega
        obtain ⟨g, rfl, -, -, hcell, -⟩ := hvs.at_ (by omega)
        have g1 := hcell k hlt
        have hsn := take_snoc (xs := S) (k := k) (by rw [HS.out.1]; exact hlt)
        obtain ⟨t, hte⟩ : ∃ t, S[k]?.getD 0 = t := ⟨_, rfl⟩
        rw [hte] at g1 hsn
        have HSN := Lib.hid hsn
        clear hcell hsn hte hvs hB
        by_cases hta : t ≥ a
        · have hL : isLow a true t = false := by simp [isLow]; omega
          have hh := (high_snoc hL (L := S.take k)).2
          rw [HSN.out] at hh
          have HHH := Lib.hid hh
          clear hh hL
          go_wp2_with (at_builtin; refine wpList_app1B rfl _ _ rfl w.heap.size p _ _ rfl (hu.alloc _) wr.heap.size t rfl (by simp) (by omega) (by simp; omega) ?_; intro A3 c3 w3 hown3 hg3 h5)
          go_roundw
          case rel => exact ⟨k + 1, p + 1, q, A3, c3, A2, c2, by omega, by omega, hq, by go_num, rfl, rfl, by rw [HHH.out]; exact HJ.out.app hown3 hg3 h5⟩
          case measure => simp [intOf] <;> omega
        · have hL : isLow a true t = true := by simp [isLow]; omega
          have hh := (low_snoc hL (L := S.take k)).2
          rw [HSN.out] at hh
          have HHH := Lib.hid hh
          clear hh hL
          go_wp2
          go_roundw
          case rel => exact ⟨k + 1, p, q, A1, c1, A2, c2, by omega, by omega, by omega, by go_num, rfl, rfl, by rw [HHH.out]; exact HJ.out⟩
          case measure => simp [intOf] <;> omega
      · obtain rfl : k = n := by omega
        have hkI : ¬ (k : Int) < (k : Int) := by omega
        have hJ0 := HJ.out
        rw [List.take_of_length_le (by rw [HS.out.1]; exact Nat.le_refl _)] at hJ0
        have HJ0 := Lib.hid hJ0
        have hz : q = 0 := by omega
        clear hJ0 HJ hu hv hvs hB
        subst hz
        go_wp2
        go_loopw [7, 8, 11] (fun u v i wr => ∃ j p q : Nat, ∃ A1 c1 A2 c2, j ≤ k ∧ p ≤ k ∧ q + j ≤ k ∧ i = .int .i64 ((j : Int) - 1) ∧ u = .slice A1 p c1 ∧ v = .slice A2 q c2 ∧ SwJ w S k (.slice A5 k c5) wr u p (highL a true S) v q (lowL a true (S.drop j)).reverse) (fun _ _ i _ => (intOf i + 1).toNat)
        case atStart => exact ⟨k, p, 0, A1, c1, A2, c2, Nat.le_refl _, hp, by omega, rfl, rfl, rfl, by rw [List.drop_of_length_le (by rw [HS.out.1]; exact Nat.le_refl _)]; exact HJ0.out⟩
        case round =>
          obtain ⟨j, p, q, A1, c1, A2, c2, hj, hp2, hq2, rfl, rfl, rfl, hJ⟩ := hrel
          clear HJ0
          have HJ := Lib.hid hJ
          obtain ⟨hu, hv, hvs, -, -, -, hB⟩ := hJ
          have hbs := hB.size
          by_cases hj0 : j = 0
          · subst hj0
            have hjI : ¬ ((0 : Nat) : Int) - 1 ≥ 0 := by omega
            have hm1 : ((0 : Nat) : Int) - 1 = -1 := by omega
            rw [List.drop_zero] at hv
            have hvr : Rd wr A2 q (lowL a true S).reverse := hv.rd (by omega) (fun x hx => by
              have h1 : x ∈ S := by simp [lowL] at hx; exact hx.1
              have := HS.out.2.1 x h1
              unfold Trk at this; omega)
            have hpq : p + q = k := by have := low_high a true S; have h1 := hu.len; have h2 := hv.len; rw [HS.out.1] at this; simp at h1 h2; omega
            rw [hm1]
            go_wp2_with (at_builtin; refine wpList_appL rfl _ _ rfl w.heap.size p _ _ rfl hu A2 q c2 _ rfl hvr (by omega) hB.size ?_; intro A' c3 w6 hown6 hbel6)
            have hq6 := hbel6 w.heap.size w (Nat.le_refl _) hB
            rw [hpq] at hown6
            go_ret
            exact ⟨⟨_, _, rfl, hown6⟩, hq6⟩
          · obtain ⟨i, rfl⟩ : ∃ i, j = i + 1 := ⟨j - 1, by omega⟩
            have e1 : ((i + 1 : Nat) : Int) - 1 = (i : Int) := by omega
            rw [e1]
            have hik : i < k := by omega
            have hiI : (i : Int) < (k : Int) := by omega
            obtain ⟨g, rfl, -, -, hcell, -⟩ := hvs.at_ (by omega)
            have g1 := hcell i hik
            have hdT := low_dropT (a := a) (up := true) (S := S) (j := i) (by rw [HS.out.1]; exact hik)
            have hdF := low_dropF (a := a) (up := true) (S := S) (j := i) (by rw [HS.out.1]; exact hik)
            obtain ⟨t, hte⟩ : ∃ t, S[i]?.getD 0 = t := ⟨_, rfl⟩
            rw [hte] at g1 hdT hdF
            have HD := Lib.hid (And.intro hdT hdF)
            clear hcell hdT hdF hte hvs hB e1
            by_cases hta : t < a
            · have hL : isLow a true t = true := by simp [isLow]; omega
              have hh := HD.out.1 hL
              have HHH := Lib.hid hh
              clear hh hL HD
              go_wp2_with (at_builtin; refine wpList_app1B rfl _ _ rfl w.heap.size q _ _ rfl (hv.alloc _) wr.heap.size t rfl (by simp) (by omega) (by simp; omega) ?_; intro A3 c3 w3 hown3 hg3 h5)
              go_roundw
              case rel => exact ⟨i, p, q + 1, A1, c1, A3, c3, by omega, by omega, by omega, by go_num, rfl, rfl, by rw [HHH.out]; exact (HJ.out.swap.app hown3 hg3 h5).swap⟩
              case measure => simp [intOf] <;> omega
            · have hL : isLow a true t = false := by simp [isLow]; omega
              have hh := HD.out.2 hL
              have HHH := Lib.hid hh
              clear hh hL HD
              go_wp2
              go_roundw
              case rel => exact ⟨i, p, q, A1, c1, A2, c2, by omega, by omega, by omega, by go_num, rfl, rfl, by rw [HHH.out]; exact HJ.out⟩
              case measure => simp [intOf] <;> omega
end Go.Proofs.YtpleidblnjphmaaDoor
