/- E.Sides, and the closed fact of the merkle laws. -/
import Derived.Test.YtpleidblnjphmaaMer3
import Derived.Laws.StructEq
namespace Go.Proofs.Ytpleidblnjphmaa
open Go Go.RowKit
set_option maxRecDepth 20000
set_option linter.unusedVariables false

theorem sv_get {l : List (Bool × Int)} {k : Nat} (h : k < l.length) : (l.map sv)[k]?.getD noVV = sv l[k] := by rw [List.getElem?_map, List.getElem?_eq_getElem h]; rfl
theorem neq_side (a b : Bool) (s t : Int) (W : World) : (binOp .neq 39 (.agg #[.bool a, .int .i64 s]) (.agg #[.bool b, .int .i64 t])).run Try.prog W = .ok (.bool (decide ((a, s) ≠ (b, t)))) W := by
  rw [run_neq_struct, run_equalIn_agg W 9999 39 _ _ (by kernel_rfl) (by kernel_rfl)]
  by_cases h1 : a = b
  · by_cases h2 : s = t
    · simp [go_sem, h1, h2]
    · simp [go_sem, h1, h2]
  · simp [go_sem, h1]

set_option maxHeartbeats 1000000 in
theorem sides_any (A B : Option Addr) (n m ca cb : Nat) (xs ys : List (Bool × Int)) (w : World) (hA : RdP w A n (xs.map sv)) (hB : RdP w B m (ys.map sv)) :
    Calls Try.prog 31 #[.slice A n ca, .slice B m cb] w fun e w' => e = .returned (.bool (decide (xs = ys))) ∧ Below w.heap.size w w' := by
  have hx : xs.length = n := by have := hA.len; simpa using this
  have hy : ys.length = m := by have := hB.len; simpa using this
  by_cases hnm : n = m
  · subst hnm
    have hm := hA.max
    have HX := Lib.hid (And.intro hx hy)
    clear hx hy
    have hne : ((n : Int) != (n : Int)) = false := by simp
    go_enter Try.func31, Try.ntmps31
    go_wp2
    go_loopw [5] (fun i wr => ∃ k : Nat, k ≤ n ∧ i = .int .i64 k ∧ (xs.take k = ys.take k) ∧ ∃ q, wr = w.drewN q) (fun i _ => n - (intOf i).toNat)
    case atStart => exact ⟨0, Nat.zero_le _, rfl, rfl, 0, rfl⟩
    case round =>
      obtain ⟨k, hk, rfl, hall, q, rfl⟩ := hrel
      have HALL := Lib.hid hall
      clear hall
      by_cases hlt : k < n
      · obtain ⟨b, off, rfl, _, hc⟩ := hA.at_ (by omega)
        obtain ⟨b', off', rfl, _, hc'⟩ := hB.at_ (by omega)
        obtain ⟨h1, h2⟩ := hc k hlt
        obtain ⟨h3, h4⟩ := hc' k hlt
        have hkx : k < xs.length := by rw [HX.out.1]; exact hlt
        have hky : k < ys.length := by rw [HX.out.2]; exact hlt
        rw [sv_get hkx] at h1 h2
        rw [sv_get hky] at h3 h4
        have hsx : xs.take (k + 1) = xs.take k ++ [xs[k]] := List.take_succ_eq_append_getElem hkx
        have hsy : ys.take (k + 1) = ys.take k ++ [ys[k]] := List.take_succ_eq_append_getElem hky
        have hbad : xs[k] ≠ ys[k] → xs ≠ ys := fun h e => h (by subst e; rfl)
        obtain ⟨p, hp⟩ : ∃ p, xs[k] = p := ⟨_, rfl⟩
        obtain ⟨r, hr⟩ : ∃ r, ys[k] = r := ⟨_, rfl⟩
        rw [hp] at h1 h2 hsx hbad
        rw [hr] at h3 h4 hsy hbad
        obtain ⟨pb, ps⟩ := p
        obtain ⟨rb, rs⟩ := r
        change w.cell? ⟨b, off + k * 2, none⟩ = some (.bool pb) at h1
        change w.cell? ⟨b, off + k * 2 + 1, none⟩ = some (.int .i64 ps) at h2
        change w.cell? ⟨b', off' + k * 2, none⟩ = some (.bool rb) at h3
        change w.cell? ⟨b', off' + k * 2 + 1, none⟩ = some (.int .i64 rs) at h4
        have HS := Lib.hid (And.intro hsx hsy)
        have HBAD := Lib.hid hbad
        have hns := fun W => neq_side pb rb ps rs W
        clear hc hc' hsx hsy hbad hp hr hkx hky
        have hlt' : (k : Int) < (n : Int) := by omega
        by_cases heq : (pb, ps) = (rb, rs)
        · have hd : decide ((pb, ps) ≠ (rb, rs)) = false := by simp [heq]
          have HEQ := Lib.hid heq
          rw [hd] at hns
          clear heq hd
          go_wp2
          go_quiet (fail)
          go_wp2
          go_roundw
          case rel => exact ⟨k + 1, by omega, by go_num, by rw [HS.out.1, HS.out.2, HALL.out, HEQ.out], _, rfl⟩
          case measure => simp [intOf]; omega
        · have hd : decide ((pb, ps) ≠ (rb, rs)) = true := decide_eq_true heq
          have hdec : decide (xs = ys) = false := by
            rw [decide_eq_false_iff_not]
            exact HBAD.out heq
          have HD := Lib.hid hdec
          rw [hd] at hns
          clear hdec heq hd
          go_wp2
          go_quiet (fail)
          go_wp2
          go_ret
          exact ⟨ret_bool HD.out.symm, by rw [World.drewN_drewN]; exact below_drewN_of (Below.refl _ _) _⟩
      · have hkn : k = n := by omega
        have hfin : decide (xs = ys) = true := by
          have := HALL.out
          rw [List.take_of_length_le (by rw [HX.out.1]; omega), List.take_of_length_le (by rw [HX.out.2]; omega)] at this
          simpa using this
        have HD := Lib.hid hfin
        clear hfin hkn
        go_wp2
        go_ret
        exact ⟨ret_bool HD.out.symm, below_drewN_of (Below.refl _ _) _⟩
  · have hne : ((n : Int) != (m : Int)) = true := by simp; omega
    have hdec : decide (xs = ys) = false := by
      rw [decide_eq_false_iff_not]
      intro e
      exact hnm (by rw [← hx, ← hy, e])
    have HD := Lib.hid hdec
    clear hdec hx hy
    go_enter Try.func31, Try.ntmps31
    go_wp2
    go_ret
    exact ⟨ret_bool HD.out.symm, Below.refl _ _⟩

theorem two_rd (w : World) : Rd (w.alloc (.cells #[.int .i64 1, .int .i64 2] 3)) (some ⟨w.heap.size, 0, none⟩) 2 [1, 2] :=
  Rd.new rfl (by decide) (by simp) (by simp) (fun k hk => by
    rcases (by omega : k = 0 ∨ k = 1) with rfl | rfl <;> simp)
theorem one_side (w : World) : RdP (w.alloc (.cells #[.bool true, .int .i64 10] 39)) (some ⟨w.heap.size, 0, none⟩) 1 ([(true, 10)].map sv) := by
  refine ⟨rfl, by decide, fun _ => ⟨w.heap.size, 0, rfl, by simp, fun k hk => ?_⟩⟩
  obtain rfl : k = 0 := by omega
  simp [sv]

set_option maxHeartbeats 1000000 in
theorem merkleFact_any (w : World) : Calls Try.prog 12 #[] w fun e w' => e = .returned (.bool true) ∧ Below w.heap.size w w' := by
  have h2 := Lib.hid (two_rd w)
  have hr : rootF 16 [1, 2] = 1290 := by decide
  have hw : wayF 16 [1, 2] 1 = [(true, 10)] := by decide
  have HR := Lib.hid hr
  have HW := Lib.hid hw
  clear hr hw
  have hB := (Below.refl w.heap.size w).alloc (Nat.le_refl _) (.cells #[.int .i64 1, .int .i64 2] 3)
  go_enter Try.func12, Try.ntmps12
  go_wp2_with fail
  with_reducible refine (mroot_ok _ 2 2 [1, 2] _ h2.out (Nat.le_refl _) (by decide) (by decide) (by decide)).mono ?_
  rintro e w1 ⟨rfl, k1⟩
  rw [HR.out]
  have hB1 := hB.trans (k1.mono hB.size)
  have hB1' := hB1.alloc hB1.size (.cells #[.int .i64 1, .int .i64 2] 3)
  have h3 := Lib.hid (two_rd w1)
  have h1I : ((1 : Nat) : Int) = 1 := rfl
  have hway := mway_ok _ 2 2 [1, 2] 1 _ h3.out (Nat.le_refl _) (by decide) (by decide) (by decide) (by decide)
  rw [HW.out, h1I] at hway
  have HWAY := Lib.hid hway
  clear hway h1I
  go_wp2_with fail
  refine HWAY.out.mono ?_
  rintro e w2 ⟨⟨C, m, c', rfl, hm, hown⟩, k2⟩
  clear HWAY
  obtain rfl : m = 1 := by have := hown.len; simpa using this.symm
  have hB2 := hB1'.trans (k2.mono hB1'.size)
  have hP := (hown.rd (by decide)).alloc (.cells #[.bool true, .int .i64 10] 39)
  have hQ := one_side w2
  have hB2' := hB2.alloc hB2.size (.cells #[.bool true, .int .i64 10] 39)
  clear hown
  go_wp2_with fail
  with_reducible refine (sides_any _ _ _ _ _ _ _ _ _ hP hQ).mono ?_
  rintro e w3 ⟨rfl, k3⟩
  rw [show decide (([(true, 10)] : List (Bool × Int)) = [(true, 10)]) = true from by decide]
  have hB3 := hB2'.trans (k3.mono hB2'.size)
  go_wp2
  go_ret
  exact ⟨rfl, hB3⟩
end Go.Proofs.Ytpleidblnjphmaa
