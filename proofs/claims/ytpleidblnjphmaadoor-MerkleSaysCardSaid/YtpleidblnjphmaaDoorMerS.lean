/- E.Sides by its contract (the head of XMer4, for a seat without merkleFact). -/
import Derived.Test.YtpleidblnjphmaaDoorMer3
import Derived.Laws.StructEq
namespace Go.Proofs.YtpleidblnjphmaaDoor
open Go Go.RowKit
set_option maxRecDepth 20000
set_option linter.unusedVariables false

theorem sv_get {l : List (Bool × Int)} {k : Nat} (h : k < l.length) : (l.map sv)[k]?.getD noVV = sv l[k] := by rw [List.getElem?_map, List.getElem?_eq_getElem h]; rfl
theorem neq_side (a b : Bool) (s t : Int) (W : World) : (binOp .neq 32 (.agg #[.bool a, .int .i64 s]) (.agg #[.bool b, .int .i64 t])).run Tryd.prog W = .ok (.bool (decide ((a, s) ≠ (b, t)))) W := by
  rw [run_neq_struct, run_equalIn_agg W 9999 32 _ _ (by kernel_rfl) (by kernel_rfl)]
  by_cases h1 : a = b
  · by_cases h2 : s = t
    · simp [go_sem, h1, h2]
    · simp [go_sem, h1, h2]
  · simp [go_sem, h1]

set_option maxHeartbeats 1000000 in
theorem sides_any (A B : Option Addr) (n m ca cb : Nat) (xs ys : List (Bool × Int)) (w : World) (hA : RdP w A n (xs.map sv)) (hB : RdP w B m (ys.map sv)) :
    Calls Tryd.prog 17 #[.slice A n ca, .slice B m cb] w fun e w' => e = .returned (.bool (decide (xs = ys))) ∧ Below w.heap.size w w' := by
  have hx : xs.length = n := by have := hA.len; simpa using this
  have hy : ys.length = m := by have := hB.len; simpa using this
  by_cases hnm : n = m
  · subst hnm
    have hm := hA.max
    have HX := Lib.hid (And.intro hx hy)
    clear hx hy
    have hne : ((n : Int) != (n : Int)) = false := by simp
    go_enter Tryd.func17, Tryd.ntmps17
    go_wp2
    go_loopw [5] (fun i wr => ∃ k : Nat, k ≤ n ∧ i = .int .i64 k ∧ (xs.take k = ys.take k) ∧ ∃ q, wr = w.drewN q) (fun i _ => n - (intOf i).toNat)
    case atStart => exact ⟨0, Nat.zero_le _, rfl, rfl, 0, rfl⟩
    case round =>
      obtain ⟨k, hk, rfl, hall, q, rfl⟩ := hrel
      have HALL := Lib.hid hall
      clear hall
      by_cases hlt : k < n
      · obtain ⟨b, off, rfl, _, hc⟩ := hA.at_ (by omega)
        obtain ⟨b', off', rfl, _, hc'⟩ := hB.at_ (by omega)
        obtain ⟨h1, h2⟩ := hc k hlt
        obtain ⟨h3, h4⟩ := hc' k hlt
        have hkx : k < xs.length := by rw [HX.out.1]; exact hlt
        have hky : k < ys.length := by rw [HX.out.2]; exact hlt
        rw [sv_get hkx] at h1 h2
        rw [sv_get hky] at h3 h4
        have hsx : xs.take (k + 1) = xs.take k ++ [xs[k]] := List.take_succ_eq_append_getElem hkx
        have hsy : ys.take (k + 1) = ys.take k ++ [ys[k]] := List.take_succ_eq_append_getElem hky
        have hbad : xs[k] ≠ ys[k] → xs ≠ ys := fun h e => h (by subst e; rfl)
        obtain ⟨p, hp⟩ : ∃ p, xs[k] = p := ⟨_, rfl⟩
        obtain ⟨r, hr⟩ : ∃ r, ys[k] = r := ⟨_, rfl⟩
        rw [hp] at h1 h2 hsx hbad
        rw [hr] at h3 h4 hsy hbad
        obtain ⟨pb, ps⟩ := p
        obtain ⟨rb, rs⟩ := r
        change w.cell? ⟨b, off + k * 2, none⟩ = some (.bool pb) at h1
        change w.cell? ⟨b, off + k * 2 + 1, none⟩ = some (.int .i64 ps) at h2
        change w.cell? ⟨b', off' + k * 2, none⟩ = some (.bool rb) at h3
        change w.cell? ⟨b', off' + k * 2 + 1, none⟩ = some (.int .i64 rs) at h4
        have HS := Lib.hid (And.intro hsx hsy)
        have HBAD := Lib.hid hbad
        have hns := fun W => neq_side pb rb ps rs W
        clear hc hc' hsx hsy hbad hp hr hkx hky
        have hlt' : (k : Int) < (n : Int) := by omega
        by_cases heq : (pb, ps) = (rb, rs)
        · have hd : decide ((pb, ps) ≠ (rb, rs)) = false := by simp [heq]
          have HEQ := Lib.hid heq
          rw [hd] at hns
          clear heq hd
          go_wp2
          go_quiet (fail)
          go_wp2
          go_roundw
          case rel => exact ⟨k + 1, by omega, by go_num, by rw [HS.out.1, HS.out.2, HALL.out, HEQ.out], _, rfl⟩
          case measure => simp [intOf]; omega
        · have hd : decide ((pb, ps) ≠ (rb, rs)) = true := decide_eq_true heq
          have hdec : decide (xs = ys) = false := by
            rw [decide_eq_false_iff_not]
            exact HBAD.out heq
          have HD := Lib.hid hdec
          rw [hd] at hns
          clear hdec heq hd
          go_wp2
          go_quiet (fail)
          go_wp2
          go_ret
          exact ⟨ret_bool HD.out.symm, by rw [World.drewN_drewN]; exact below_drewN_of (Below.refl _ _) _⟩
      · have hkn : k = n := by omega
        have hfin : decide (xs = ys) = true := by
          have := HALL.out
          rw [List.take_of_length_le (by rw [HX.out.1]; omega), List.take_of_length_le (by rw [HX.out.2]; omega)] at this
          simpa using this
        have HD := Lib.hid hfin
        clear hfin hkn
        go_wp2
        go_ret
        exact ⟨ret_bool HD.out.symm, below_drewN_of (Below.refl _ _) _⟩
  · have hne : ((n : Int) != (m : Int)) = true := by simp; omega
    have hdec : decide (xs = ys) = false := by
      rw [decide_eq_false_iff_not]
      intro e
      exact hnm (by rw [← hx, ← hy, e])
    have HD := Lib.hid hdec
    clear hdec hx hy
    go_enter Tryd.func17, Tryd.ntmps17
    go_wp2
    go_ret
    exact ⟨ret_bool HD.out.symm, Below.refl _ _⟩

end Go.Proofs.YtpleidblnjphmaaDoor
