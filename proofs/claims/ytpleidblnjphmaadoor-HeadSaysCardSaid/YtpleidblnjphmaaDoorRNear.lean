/- The reference's Abs, Without and Rising. -/
import Derived.Test.YtpleidblnjphmaaDoorRisP
import Derived.Test.YtpleidblnjphmaaDoorSweep
import Derived.Deep.QuietTactic
import Derived.BigQuiet
namespace Go.Proofs.YtpleidblnjphmaaDoor
open Go Go.RowKit
set_option maxRecDepth 20000
set_option linter.unusedVariables false

def lenOf : Value → Nat
  | .slice _ n _ => n
  | _ => 0
theorem abs_any (x y : Int) (w : World) (hx : Trk x) (hy : Trk y) :
    Calls Tryd.prog 37 #[.int .i64 x, .int .i64 y] w fun e w' => e = .returned (.int .i64 (absI x y)) ∧ w = w' := by
  obtain ⟨x0, x1⟩ := hx
  obtain ⟨y0, y1⟩ := hy
  by_cases h : x > y
  · have ha : absI x y = x - y := by unfold absI; rw [if_neg (by omega)]
    have HA := Lib.hid ha
    clear ha
    go_enter Tryd.func37, Tryd.ntmps37
    go_wp2
    go_ret
    exact ⟨ret_int HA.out.symm, rfl⟩
  · have ha : absI x y = y - x := by unfold absI; rw [if_pos (by omega)]
    have HA := Lib.hid ha
    clear ha
    go_enter Tryd.func37, Tryd.ntmps37
    go_wp2
    go_ret
    exact ⟨ret_int HA.out.symm, rfl⟩
set_option maxHeartbeats 2000000 in
theorem without_any (A : Option Addr) (n c : Nat) (xs : List Int) (x : Int) (w : World) (hA : Rd w A n xs) (hn : n ≤ 100) :
    Calls Tryd.prog 38 #[.slice A n c, .int .i64 x] w fun e w' =>
      (∃ A' m c', e = .returned (.slice A' m c') ∧ Own w' w.heap.size (.slice A' m c') m (xs.erase x)) ∧ Below w.heap.size w w' := by
  have hl := hA.len
  go_enter Tryd.func38, Tryd.ntmps38
  go_wp2
  go_loopw [5, 6, 7] (fun v g i wr => ∃ k : Nat, ∃ A3 m c3, k ≤ n ∧ m ≤ k ∧ i = .int .i64 k ∧ v = .slice A3 m c3 ∧ Own wr w.heap.size v m ((xs.take k).erase x) ∧ g = .bool (decide (x ∈ xs.take k)) ∧ Below w.heap.size w wr) (fun _ _ i _ => n - (intOf i).toNat)
  case atStart => exact ⟨0, none, 0, 0, Nat.zero_le _, Nat.le_refl _, rfl, rfl, Own.nil _ _, rfl, Below.refl _ _⟩
  case round =>
    obtain ⟨k, A3, m, c3, hk, hmk, rfl, rfl, ho, rfl, hBr⟩ := hrel
    by_cases hlt : k < n
    · have hkI : (k : Int) < (n : Int) := by omega
      obtain ⟨b, off, rfl, hbl, hcc⟩ := (hA.below hBr).at_ (by omega)
      have g1 := hcc k hlt
      have hsn := take_snoc (xs := xs) (k := k) (by omega)
      obtain ⟨t, hte⟩ : ∃ t, xs[k]?.getD 0 = t := ⟨_, rfl⟩
      rw [hte] at g1 hsn
      have hbs := hBr.size
      have HSN := Lib.hid hsn
      clear hcc hte hsn
      by_cases htx : t = x
      · subst htx
        have htt : (t == t) = true := by simp
        by_cases hg : t ∈ xs.take k
        · have hd : decide (t ∈ xs.take k) = true := decide_eq_true hg
          have he := erase_gone hg
          rw [HSN.out] at he
          have hmem : t ∈ xs.take (k + 1) := by rw [← HSN.out]; exact List.mem_append_left _ hg
          have HE := Lib.hid (And.intro he hmem)
          rw [hd]
          clear hd hg he hmem
          go_wp2_with (at_builtin; refine wpList_app1 rfl _ _ rfl w.heap.size m _ _ rfl (ho.alloc _) wr.heap.size t rfl (by simp) (by omega) (by simp; omega) ?_; intro A4 c4 w4 hown4 hbel4)
          go_roundw
          case rel => exact ⟨k + 1, A4, m + 1, c4, by omega, by omega, by go_num, rfl, by rw [HE.out.1]; exact hown4, by rw [decide_eq_true HE.out.2], hbel4 _ _ (Nat.le_refl _) (hBr.alloc hBr.size _)⟩
          case measure => simp [intOf]; omega
        · have hd : decide (t ∈ xs.take k) = false := decide_eq_false hg
          have he := erase_first hg
          rw [HSN.out] at he
          have hmem : t ∈ xs.take (k + 1) := by rw [← HSN.out]; simp
          have HE := Lib.hid (And.intro he hmem)
          rw [hd]
          clear hd hg he hmem
          go_wp2
          go_roundw
          case rel => exact ⟨k + 1, A3, m, c3, by omega, by omega, by go_num, rfl, by rw [HE.out.1]; exact ho, by rw [decide_eq_true HE.out.2], hBr⟩
          case measure => simp [intOf]; omega
      · have htt : (t == x) = false := by simp [htx]
        have he := erase_ne htx (xs.take k)
        have hmem : (x ∈ xs.take (k + 1)) ↔ x ∈ xs.take k := by
          rw [← HSN.out, List.mem_append, List.mem_singleton]
          exact ⟨fun h => h.elim id fun h => absurd h.symm htx, Or.inl⟩
        rw [HSN.out] at he
        have hdd : decide (x ∈ xs.take (k + 1)) = decide (x ∈ xs.take k) := decide_eq_decide.2 hmem
        have HE := Lib.hid (And.intro he hdd)
        obtain ⟨G, hG⟩ : ∃ G, decide (x ∈ xs.take k) = G := ⟨_, rfl⟩
        rw [hG] at HE
        rw [hG]
        clear he hdd hmem hG
        go_wp2_with (at_builtin; refine wpList_app1 rfl _ _ rfl w.heap.size m _ _ rfl (ho.alloc _) wr.heap.size t rfl (by simp) (by omega) (by simp; omega) ?_; intro A4 c4 w4 hown4 hbel4)
        go_roundw
        case rel => exact ⟨k + 1, A4, m + 1, c4, by omega, by omega, by go_num, rfl, by rw [HE.out.1]; exact hown4, by rw [HE.out.2], hbel4 _ _ (Nat.le_refl _) (hBr.alloc hBr.size _)⟩
        case measure => simp [intOf]; omega
    · obtain rfl : k = n := by omega
      have hkI : ¬ (k : Int) < (k : Int) := by omega
      rw [List.take_of_length_le (by omega)] at ho
      go_wp2
      go_ret
      exact ⟨⟨_, _, _, rfl, ho⟩, hBr⟩
end Go.Proofs.YtpleidblnjphmaaDoor
