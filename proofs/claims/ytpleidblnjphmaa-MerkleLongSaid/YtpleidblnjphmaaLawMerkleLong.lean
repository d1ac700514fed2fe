/- The length of a proof is at most the rounded-up binary logarithm of the number of values: MerkleLong answers true at every slice of ints, int. Conditions: none beside the row's own. -/
import Derived.Test.YtpleidblnjphmaaMer4
namespace Go.Proofs.Ytpleidblnjphmaa.merkleLong
open Go Go.ChangeShapes Go.WideShapes Go.ChangeAt Go.RowKit
set_option linter.unusedVariables false

set_option maxHeartbeats 2000000 in
theorem walk_ok (w : World) (A : Option Addr) (n c : Nat) (xs : List Int) (hA : Rd w A n xs) (hc : n ≤ c) (i : Nat) (hi : i < n) (h1 : 1 ≤ n) (h16 : n ≤ 16) (h : allB xs 0 1000 = true) :
    Calls Try.prog 3 #[.slice A n c, .int .i64 i] w fun e w' => e = .returned (.bool true) ∧ Below w.heap.size w w' := by
  have hl := hA.len
  have hlong := fun t (ht : n ≤ 2 ^ t) => way_long 16 xs i t (by omega) (by omega) (by omega) (by omega)
  have hpos := fun (h2 : 2 ≤ n) => way_pos (f := 16) (l := xs) (i := i) (by omega) (by omega)
  have HH := Lib.hid (And.intro h (And.intro hlong hpos))
  clear h hlong hpos
  go_enter Try.func3, Try.ntmps3
  go_wp2_with fail
  with_reducible refine (merkleFact_any _).mono ?_
  rintro e w1 ⟨rfl, hB⟩
  go_wp2_with fail
  with_reducible refine (mway_ok _ _ _ xs i _ (hA.below hB) hc h1 h16 HH.out.1 hi).mono ?_
  rintro e w2 ⟨⟨C, m, c', rfl, hm, hown⟩, k2⟩
  have hB2 := hB.trans (k2.mono hB.size)
  have hml : (wayF 16 xs i).length = m := by have := hown.len; simpa using this
  have HML := Lib.hid hml
  clear hown k2 hml
  go_wp2
  go_loop [8, 9] (fun a p => ∃ t : Nat, t ≤ 4 ∧ a = .int .i64 t ∧ p = .int .i64 ((2 ^ t : Nat) : Int)) (fun _ p => 32 - (intOf p).toNat)
  case atStart => exact ⟨0, by omega, rfl, rfl⟩
  case round =>
    obtain ⟨t, ht, rfl, rfl⟩ := hrel
    have hp1 : 1 ≤ 2 ^ t := Nat.one_le_two_pow
    have hp2 : 2 ^ t ≤ 2 ^ 4 := Nat.pow_le_pow_right (by decide) ht
    have hp3 : 2 ^ (t + 1) = 2 ^ t * 2 := Nat.pow_succ ..
    have hp4 : 2 ^ t < n → t < 4 := fun hlt => by
      rcases Nat.lt_or_ge t 4 with h | h
      · exact h
      · have : 2 ^ 4 ≤ 2 ^ t := Nat.pow_le_pow_right (by decide) h
        omega
    have hp5 : n ≤ 2 ^ t → m ≤ t := fun h => by have := HH.out.2.1 t h; rw [HML.out] at this; exact this
    have hp6 : 2 ≤ n → 0 < m := fun h => by have := HH.out.2.2 h; rw [HML.out] at this; exact this
    obtain ⟨P, hP⟩ : ∃ P, 2 ^ t = P := ⟨_, rfl⟩
    rw [hP] at hp1 hp2 hp3 hp4 hp5 ⊢
    have HP := Lib.hid hp3
    clear hp3 hP
    by_cases hlt : P < n
    · have ht4 := hp4 hlt
      have hI : (P : Int) < (n : Int) := by omega
      clear hp4 hp5 hp6
      go_wp2
      go_round
      case rel => exact ⟨t + 1, by omega, by go_num, by rw [HP.out]; go_num⟩
      case measure => simp [intOf]; omega
    · have hI : ¬ (P : Int) < (n : Int) := by omega
      have hmt := hp5 (by omega)
      have hmI : (m : Int) ≤ (t : Int) := by omega
      clear hp4 hp5
      by_cases hn2 : n < 2
      · have hnI : (n : Int) < 2 := by omega
        clear hp6
        go_wp2
        go_ret
        exact ⟨rfl, hB2⟩
      · have hnI : ¬ (n : Int) < 2 := by omega
        have hm0 := hp6 (by omega)
        have hmI0 : (0 : Int) < (m : Int) := by omega
        clear hp6
        go_wp2
        go_ret
        exact ⟨rfl, hB2⟩

theorem walk (w : World) (A : Option Addr) (n c : Nat) (xs : List Int) (hA : Rd w A n xs) (hc : n ≤ c) (i : Int) (hi : -9223372036854775808 ≤ i ∧ i ≤ 9223372036854775807) :
    Calls Try.prog 3 #[.slice A n c, .int .i64 i] w fun e w' => e = .returned (.bool true) ∧ Below w.heap.size w w' := by
  by_cases hv : valE xs = 0
  · obtain ⟨h1, h2, h3⟩ := valE_zero.1 hv
    rw [hA.len] at h1 h2
    by_cases hin : i < 0 ∨ (n : Int) - 1 < i
    · have H3 := Lib.hid h3
      clear hv h3
      go_enter Try.func3, Try.ntmps3
      go_wp2_with fail
      with_reducible refine (merkleFact_any _).mono ?_
      rintro e w2 ⟨rfl, hB⟩
      go_wp2_with fail
      with_reducible refine (mway_out _ _ _ xs i _ (hA.below hB) h1 h2 H3.out hin).mono ?_
      rintro e w' ⟨rfl, rfl⟩
      go_wp2
      go_ret
      exact ⟨rfl, hB⟩
    · obtain ⟨k, rfl⟩ : ∃ k : Nat, i = k := ⟨i.toNat, by omega⟩
      exact walk_ok w A n c xs hA hc k (by omega) h1 h2 h3
  · have HV := Lib.hid hv
    clear hv
    go_enter Try.func3, Try.ntmps3
    go_wp2_with fail
    with_reducible refine (merkleFact_any _).mono ?_
    rintro e w4 ⟨rfl, hB⟩
    go_wp2_with fail
    with_reducible refine (mway_bad _ _ _ xs i _ (hA.below hB) HV.out).mono ?_
    rintro e w' ⟨rfl, rfl⟩
    go_wp2
    go_ret
    exact ⟨rfl, hB⟩

set_option maxRecDepth 100000 in
theorem lifted (os : Os) (started : os.Started) (H : Type) (enc : TypeId × Value → H) :
    ReturnsInHanded {} Try.checked os 3 .any (Rows.merkleLongSpec.pre6 enc Try.prog Try.f3 Rows.merkleLongRow.domain false) (Rows.merkleLongSpec.post enc Try.prog Try.f3 false true false false) := by
  refine returnsInHanded_of_change (C := Try.checked) own started (by kernel_rfl) Try.func3
    (ChangeSpec.witness6 (enc := enc) (C := Try.checked) false ⟨#[], #[.slice none 0 0, .int .i64 0], []⟩ 8 (by kernel_rfl) (by kernel_rfl) (by kernel_rfl) (by kernel_rfl)) ?_
  intro W base args ds gs before hval0 hW hcnd _
  have hval : ∀ (j : Nat) t v, Try.f3.params[j]? = some t → args[j]? = some v → Value.okWide Try.prog W .any base t v := hval0
  have hW' := hW
  obtain ⟨p, q, hA0, hV, rfl, hfz, hnd⟩ := hW
  have hA : DataW.TrodAll enc Try.prog W 0 (fun _ => true) true Try.f3.params.toList args.toList ds p := hA0
  rw [Try.params3] at hA hval
  obtain ⟨v0, vs0, d0, ds0, p0, q0, hargs, rfl, rfl, h0, r0⟩ := trodAll_cons hA
  obtain ⟨v1, vs1, d1, ds1, p1, q1, rfl, rfl, rfl, h1, r1⟩ := trodAll_cons r0
  obtain ⟨rfl, rfl, rfl⟩ := trodAll_nil r1
  obtain rfl : args = #[v0, v1] := by cases args; simp_all
  obtain ⟨rfl, rfl⟩ := trodVars_none hV
  have k0 := h0
  have lt0 : ∀ x ∈ p0, x.block < W.heap.size := by obtain ⟨m, hm⟩ := k0; exact DataW.trod_lt m _ _ _ hm
  obtain ⟨A0, n0, c0, rfl⟩ := okWide_slice Try.underlying22 (hval 0 22 v0 rfl rfl)
  obtain ⟨xs0, w0, hc0⟩ : ∃ xs, Rd W A0 n0 xs ∧ n0 ≤ c0 := by
    obtain ⟨fuel, hf⟩ := h0
    rcases open_ints Try.underlying22 Try.underlying3 (by kernel_rfl) hf with ⟨hcs, _⟩ | ⟨x, l, c, zs, hcs, _, hl, hm, hz, _, hcell, hwz⟩
    · simp [Value.cells] at hcs
      obtain ⟨rfl, rfl, rfl⟩ := hcs
      exact ⟨[], Rd.nil _ _, Nat.le_refl _⟩
    · simp [Value.cells] at hcs
      obtain ⟨rfl, rfl, rfl⟩ := hcs
      exact ⟨_, rd_of_cells (by simp at hz; omega) hl hm hcell hwz, hl⟩
  have k1 := h1
  have lt1 : ∀ x ∈ p1, x.block < W.heap.size := by obtain ⟨m, hm⟩ := k1; exact DataW.trod_lt m _ _ _ hm
  obtain ⟨a1, rfl, rfl, rfl, w1⟩ := open_int Try.underlying3 (hval 1 3 v1 rfl rfl) h1
  clear hA0 hval0
  refine (walk W A0 n0 c0 xs0 w0 hc0 a1 (wf_range w1)).mono fun e W' ⟨he, bel⟩ => ?_
  subst he
  exact ⟨_, rfl, _, _, _, [], _, [], hW', trodAll_mk1 (shut_bool Try.underlying4 _), (trodAll_cons_mk (Below.trod laidOut (by kernel_rfl) (of_decide_eq_true (by kernel_rfl)) k0 bel lt0) (trodAll_cons_mk (Below.trod laidOut (by kernel_rfl) (of_decide_eq_true (by kernel_rfl)) k1 bel lt1) trodAll_mk0)), rfl, bel.frame _, fun h => by cases h⟩

theorem over : Rows.merkleLongRow.holds Try.pinned (OpenSpec.ofChange Rows.merkleLongSpec) :=
  OpenClaim.holds_of_wide 3 Try.f3 rfl rfl rfl rfl rfl rfl rfl ⟨rfl, rfl, rfl, rfl, rfl⟩ rfl rfl rfl rfl rfl (by kernel_rfl) Try.func3 (by kernel_rfl)
    (of_decide_eq_true (by kernel_rfl)) (by unfold Func.isWrapper; first | (rw [if_pos (by decide +kernel)]; kernel_rfl) | (rw [if_neg (by decide +kernel)]; exact ⟨rfl, rfl⟩))
    (fun os started H enc _ => lifted os started H enc)

theorem proved : Rows.MerkleLongSaid := over
#print axioms proved
end Go.Proofs.Ytpleidblnjphmaa.merkleLong
