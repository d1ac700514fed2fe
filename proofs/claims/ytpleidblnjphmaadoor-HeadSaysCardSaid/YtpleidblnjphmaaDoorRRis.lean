/- The reference's Rising. -/
import Derived.Test.YtpleidblnjphmaaDoorRNear
namespace Go.Proofs.YtpleidblnjphmaaDoor
open Go Go.RowKit
set_option maxRecDepth 20000
set_option linter.unusedVariables false

/-- A list that the walk reads: the argument itself, or a slice of the call's own apart from u. -/
def Hl (w wr : World) (u v : Value) (m : Nat) (ys : List Int) : Prop := ∃ A c, v = .slice A m c ∧ (Rd w A m ys ∨ (Own wr w.heap.size v m ys ∧ Apt u v))
theorem Hl.rd {w wr : World} {u v : Value} {m : Nat} {ys : List Int} (h : Hl w wr u v m ys) (hB : Below w.heap.size w wr) (hm : m ≤ 1000) (hy : ∀ x ∈ ys, Trk x) : ∃ A c, v = .slice A m c ∧ Rd wr A m ys := by
  obtain ⟨A, c, rfl, h | ⟨h, _⟩⟩ := h
  · exact ⟨A, c, rfl, h.below hB⟩
  · exact ⟨A, c, rfl, h.rd (by omega) (fun x hx => by have := hy x hx; unfold Trk at this; omega)⟩
theorem Hl.app {w wr w4 : World} {u : Value} {A : Option Addr} {m c : Nat} {ys : List Int} {o : Obj} (h : Hl w wr u (.slice A m c) m ys) (hB4 : Below w.heap.size w w4) (hg : (wr.alloc o).grownBy w4 u.ownBlock) (hm : m ≤ 1000) (hy : ∀ x ∈ ys, Trk x) : Rd w4 A m ys := by
  obtain ⟨A2, c2, e, h | ⟨h, h2⟩⟩ := h
  · injection e with e1 e2 e3
    subst e1
    exact h.below hB4
  · exact (apt_keep (h.alloc o) h2 hg).rd (by omega) (fun x hx => by have := hy x hx; unfold Trk at this; omega)

set_option maxHeartbeats 2000000 in
theorem rising_any (A : Option Addr) (n c : Nat) (xs : List Int) (w : World) (hA : Rd w A n xs) (hn : n ≤ 20) (hx : ∀ x ∈ xs, Trk x) :
    Calls Tryd.prog 39 #[.slice A n c] w fun e w' =>
      (∃ A' c', e = .returned (.slice A' n c') ∧ Own w' w.heap.size (.slice A' n c') n (risingL xs)) ∧ Below w.heap.size w w' := by
  have hl := hA.len
  have HX := Lib.hid (And.intro hl hx)
  clear hl hx
  go_enter Tryd.func39, Tryd.ntmps39
  go_wp2
  go_loopw [0, 3] (fun l out wr => ∃ k : Nat, ∃ A3 c3, k ≤ n ∧ out = .slice A3 k c3 ∧ Own wr w.heap.size out k (rst xs k).1 ∧ Hl w wr out l (n - k) (rst xs k).2 ∧ Below w.heap.size w wr) (fun l _ _ => lenOf l)
  case atStart => exact ⟨0, none, 0, Nat.zero_le _, rfl, Own.nil _ _, ⟨A, c, rfl, Or.inl hA⟩, Below.refl _ _⟩
  case round =>
    obtain ⟨k, A3, c3, hk, rfl, ho, hL, hBr⟩ := hrel
    have hym : ∀ x ∈ (rst xs k).2, Trk x := fun x hx => HX.out.2 x (rst_mem xs k (by rw [HX.out.1]; exact hk) (Or.inr hx))
    obtain ⟨A4, c4, rfl, hr⟩ := hL.rd hBr (by omega) hym
    by_cases hlt : k < n
    · have hkI : (0 : Int) < ((n - k : Nat) : Int) := by omega
      obtain ⟨m, hm⟩ : ∃ m, n - k = m := ⟨_, rfl⟩
      have hs : rst xs (k + 1) = ((rst xs k).1 ++ [leastI (rst xs k).2], (rst xs k).2.erase (leastI (rst xs k).2)) := rfl
      obtain ⟨D, hD⟩ : ∃ D, (rst xs k).1 = D := ⟨_, rfl⟩
      obtain ⟨ys, hY⟩ : ∃ ys, (rst xs k).2 = ys := ⟨_, rfl⟩
      rw [hD] at ho hs
      rw [hY] at hL hr hym hs
      rw [hm] at hkI hL hr ⊢
      have hyl := hr.len
      obtain ⟨b, off, rfl, hbl, hcc⟩ := hr.at_ (by omega)
      have g0 : wr.cell? ⟨b, off, none⟩ = some (.int .i64 (ys[0]?.getD 0)) := hcc 0 (by omega)
      have HCC := Lib.hid hcc
      have HS := Lib.hid hs
      have HY := Lib.hid (And.intro hyl hym)
      have HO := Lib.hid (And.intro ho hL)
      clear hcc hs hD hY hyl hym ho hL
      go_wp2
      go_loopw [4, 5] (fun v i w2 => ∃ j : Nat, j ≤ m ∧ i = .int .i64 j ∧ v = .int .i64 (minF (ys[0]?.getD 0) (ys.take j)) ∧ w2 = wr) (fun _ i _ => m - (intOf i).toNat)
      case atStart => exact ⟨0, Nat.zero_le _, rfl, rfl, rfl⟩
      case round =>
        obtain ⟨j, hj, rfl, rfl, rfl⟩ := hrel
        clear g0
        by_cases hjl : j < m
        · have hjI : (j : Int) < (m : Int) := by omega
          have g1 := HCC.out j hjl
          have hsn := take_snoc (xs := ys) (k := j) (by rw [HY.out.1]; exact hjl)
          have hmi := minF_snoc (ys[0]?.getD 0) (ys[j]?.getD 0) (ys.take j)
          rw [hsn] at hmi
          obtain ⟨t, hte⟩ : ∃ t, ys[j]?.getD 0 = t := ⟨_, rfl⟩
          obtain ⟨M, hM⟩ : ∃ M, minF (ys[0]?.getD 0) (ys.take j) = M := ⟨_, rfl⟩
          rw [hte] at g1 hmi
          rw [hM] at hmi ⊢
          have HMI := Lib.hid hmi
          clear hmi hte hM hsn
          by_cases htm : t < M
          · go_wp2
            go_roundw
            case rel => exact ⟨j + 1, by omega, by go_num, by rw [HMI.out, if_pos htm], trivial⟩
            case measure => simp [intOf]; omega
          · go_wp2
            go_roundw
            case rel => exact ⟨j + 1, by omega, by go_num, by rw [HMI.out, if_neg htm], trivial⟩
            case measure => simp [intOf]; omega
        · obtain rfl : j = m := by omega
          have hjI : ¬ (j : Int) < (j : Int) := by omega
          rw [List.take_of_length_le (by rw [HY.out.1]; exact Nat.le_refl _)]
          rw [show minF (ys[0]?.getD 0) ys = leastI ys from rfl]
          obtain ⟨x, hxe⟩ : ∃ x, leastI ys = x := ⟨_, rfl⟩
          rw [hxe] at HS ⊢
          have hbs := hBr.size
          have hxm : x ∈ ys := by
            rw [← hxe]
            exact leastI_mem (fun h => by have := HY.out.1; rw [h] at this; simp at this; omega)
          clear hxe
          go_wp2_with (at_builtin; refine wpList_app1B rfl _ _ rfl w.heap.size k _ _ rfl (HO.out.1.alloc _) wr.heap.size x rfl (by simp) (by omega) (by simp; omega) ?_; intro A5 c5 w5 hown5 hg5 h5)
          have hB5 : Below w.heap.size w w5 := (hBr.alloc hBr.size _).grown hg5 (by simp; omega) (fun q e => (World.ownsRow.lt HO.out.1 q e).1)
          have hr5 : Rd w5 (some ⟨b, off, none⟩) j ys := HO.out.2.app hB5 hg5 (by omega) HY.out.2
          have hwo := without_any (some ⟨b, off, none⟩) j c4 ys x w5 hr5 (by omega)
          have HWO := Lib.hid hwo
          clear hwo
          with_reducible refine HWO.out.mono ?_
          rintro e w6 ⟨⟨A6, m6, c6, rfl, hown6⟩, hB6⟩
          have hml := hown6.len
          rw [List.length_erase_of_mem hxm, HY.out.1] at hml
          obtain rfl : m6 = n - (k + 1) := by omega
          have hl6 : Hl w w6 (.slice A5 (k + 1) c5) (.slice A6 (n - (k + 1)) c6) (n - (k + 1)) (ys.erase x) := ⟨A6, c6, rfl, Or.inr ⟨own_mono hown6 hB5.size, (apt_fresh hown5 hown6 (Nat.le_refl _)).swap⟩⟩
          have HL6 := Lib.hid (And.intro hl6 (And.intro (hown5.below hB6) (hB5.trans (hB6.mono hB5.size))))
          clear hl6 hml hown6 hB6 hB5 hr5 hown5 hg5 h5 HWO
          go_wp2
          go_roundw
          case rel => exact ⟨k + 1, A5, c5, by omega, rfl, by rw [HS.out]; exact HL6.out.2.1, by rw [HS.out]; exact HL6.out.1, HL6.out.2.2⟩
          case measure => simp [lenOf]; omega
    · obtain rfl : k = n := by omega
      have hkI : ¬ (0 : Int) < ((k - k : Nat) : Int) := by omega
      go_wp2
      go_ret
      exact ⟨⟨_, _, rfl, by unfold risingL; rw [HX.out.1]; exact ho⟩, hBr⟩
end Go.Proofs.YtpleidblnjphmaaDoor
