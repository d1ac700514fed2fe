/- An additional block needs at most two more tables, and no fewer, and each table on a path is counted: PlaceTables answers true at every int. Conditions: none beside the row's own. -/
import Derived.Test.YtllacbogbbbcaaaOpen
import Derived.Test.YtllacbogbbbcaaaPlaceFact
namespace Go.Proofs.Ytllacbogbbbcaaa.placeTables
open Go.ChangeShapes Go.WideShapes Go.ChangeAt Go.RowKit
set_option linter.unusedVariables false

theorem tab_law (b : Int) (h0 : 1 ≤ b) (h1 : b ≤ 24) : 0 ≤ tabN b - tabN (b - 1) ∧ tabN b - tabN (b - 1) ≤ 2 := by
  unfold tabN
  repeat' split
  all_goals omega
theorem ofL_len (i : Int) : (ofL i).length = if i < 4 then 1 else if i < 8 then 2 else 3 := by
  unfold ofL; repeat' split
  all_goals rfl
theorem ofL_one {b : Int} (h0 : 1 ≤ b) (h : b ≤ 4) : (ofL (b - 1)).length = 1 ∧ tabN b = tabN (b - 1) := by
  refine ⟨?_, ?_⟩
  · rw [ofL_len, if_pos (by omega)]
  · unfold tabN; repeat' split
    all_goals omega
theorem ofL_more {b : Int} (h0 : 5 ≤ b) (h1 : b ≤ 24) : 1 < (ofL (b - 1)).length ∧ (ofL (b - 1))[(ofL (b - 1)).length - 1]?.getD 0 = if b ≤ 8 then b - 5 else (b - 9) % 4 := by
  unfold ofL
  repeat' split
  all_goals first | omega | (simp; try omega)
theorem tab_last {b : Int} (h0 : 5 ≤ b) (h1 : b ≤ 24) : (tabN (b - 1) < tabN b ↔ (if b ≤ 8 then b - 5 else (b - 9) % 4) = 0) := by
  unfold tabN
  repeat' split
  all_goals omega

set_option maxHeartbeats 1000000 in
theorem walk (w : World) (b : Int) (hb : -9223372036854775808 ≤ b ∧ b ≤ 9223372036854775807) :
    Calls Try.prog 4 #[.int .i64 b] w fun e w' => e = .returned (.bool true) ∧ Below w.heap.size w w' := by
  by_cases hin : 0 ≤ b ∧ b ≤ 24
  · obtain ⟨h0, h24⟩ := hin
    by_cases hz : b = 0
    · subst hz
      go_enter Try.func4, Try.ntmps4
      go_wp2_with fail
      refine (placeFact_any _).mono ?_
      rintro e w1 ⟨rfl, hB⟩
      go_wp2_with fail
      refine (tables_ok 0 _ (by omega) (by omega)).mono ?_
      rintro e w2 ⟨rfl, rfl⟩
      rw [show tabN 0 = 0 from rfl]
      go_wp2
      go_ret
      exact ⟨rfl, hB⟩
    · have hbz : (b == 0) = false := by simpa using hz
      have hl := tab_law b (by omega) h24
      go_enter Try.func4, Try.ntmps4
      go_wp2_with fail
      refine (placeFact_any _).mono ?_
      rintro e w1 ⟨rfl, hB⟩
      go_wp2_with fail
      refine (tables_ok b _ (by omega) (by omega)).mono ?_
      rintro e w2 ⟨rfl, rfl⟩
      go_wp2_with fail
      refine (tables_ok (b - 1) _ (by omega) (by omega)).mono ?_
      rintro e w2 ⟨rfl, rfl⟩
      go_wp2_with fail
      refine (of_ok (b - 1) _ (by omega) (by omega)).mono ?_
      rintro e w3 ⟨A, n, rfl, hR, hB2⟩
      have hn := hR.len
      have hB3 := hB.trans (hB2.mono hB.size)
      obtain ⟨x, hx⟩ : ∃ x, tabN b = x := ⟨_, rfl⟩
      obtain ⟨y, hy⟩ : ∃ y, tabN (b - 1) = y := ⟨_, rfl⟩
      rw [hx, hy] at hl ⊢
      obtain ⟨hl1, hl2⟩ := hl
      have hd1 : decide (x - y < 0) = false := by simp; omega
      have hd2 : decide (2 < x - y) = false := by simp; omega
      by_cases h4 : b ≤ 4
      · have h1 := ofL_one (by omega) h4
        have hxy : x = y := by rw [← hx, ← hy]; exact h1.2
        have hn1 : n = 1 := by rw [← hn]; exact h1.1
        subst hn1
        subst hxy
        clear hx hy hn h1
        go_wp2
        go_ret
        exact ⟨rfl, hB3⟩
      · have h1 := ofL_more (b := b) (by omega) h24
        have h2 := tab_last (b := b) (by omega) h24
        rw [hx, hy] at h2
        rw [hn] at h1
        obtain ⟨bb, off, rfl, _, hc⟩ := hR.at_ (by omega)
        have hcell := hc (n - 1) (by omega)
        obtain ⟨z, hz'⟩ : ∃ z : Int, (ofL (b - 1))[n - 1]?.getD 0 = z := ⟨_, rfl⟩
        rw [hz'] at hcell h1
        rw [← h1.2] at h2
        have hn1 : (1 : Int) < (n : Int) := by omega
        have hmax := hR.max
        obtain ⟨m, rfl⟩ : ∃ m, n = m + 1 := ⟨n - 1, by omega⟩
        rw [Nat.add_sub_cancel] at hcell
        by_cases hlt : y < x
        · have hz0 : z = 0 := h2.1 hlt
          subst hz0
          clear hx hy hn h1 h2 hc hz' hR
          go_wp2
          go_ret
          exact ⟨by simp, hB3⟩
        · have hz0 : (z == 0) = false := by simp; intro e; exact hlt (h2.2 e)
          have hlt' : ¬ y < x := hlt
          clear hx hy hn h1 h2 hc hz' hR
          go_wp2
          go_ret
          exact ⟨by simp; omega, hB3⟩
  · go_enter Try.func4, Try.ntmps4
    go_wp2_with fail
    refine (placeFact_any _).mono ?_
    rintro e w1 ⟨rfl, hB⟩
    go_wp2_with fail
    refine (tables_bad b _ (by omega)).mono ?_
    rintro e w2 ⟨rfl, rfl⟩
    rcases (by omega : b < 0 ∨ 24 < b) with h | h
    · go_wp2
      go_ret
      exact ⟨rfl, hB⟩
    · have h0 : 0 ≤ b := by omega
      have hd : decide (b ≤ 24) = false := by simp; omega
      go_wp2
      go_ret
      exact ⟨rfl, hB⟩

set_option maxRecDepth 100000 in
theorem lifted (os : Os) (started : os.Started) (H : Type) (enc : TypeId × Value → H) :
    ReturnsInHanded {} Try.checked os 4 .any (Rows.placeTablesSpec.pre6 enc Try.prog Try.f4 Rows.placeTablesRow.domain false) (Rows.placeTablesSpec.post enc Try.prog Try.f4 false true false false) := by
  refine returnsInHanded_of_change (C := Try.checked) own started (by kernel_rfl) Try.func4
    (ChangeSpec.witness6 (enc := enc) (C := Try.checked) false ⟨#[], #[.int .i64 0], []⟩ 8 (by kernel_rfl) (by kernel_rfl) (by kernel_rfl) (by kernel_rfl)) ?_
  intro W base args ds gs before hval0 hW hcnd _
  have hval : ∀ (j : Nat) t v, Try.f4.params[j]? = some t → args[j]? = some v → Value.okWide Try.prog W .any base t v := hval0
  have hW' := hW
  obtain ⟨p, q, hA0, hV, rfl, hfz, hnd⟩ := hW
  have hA : DataW.TrodAll enc Try.prog W 0 (fun _ => true) true Try.f4.params.toList args.toList ds p := hA0
  rw [Try.params4] at hA hval
  obtain ⟨v0, vs0, d0, ds0, p0, q0, hargs, rfl, rfl, h0, r0⟩ := trodAll_cons hA
  obtain ⟨rfl, rfl, rfl⟩ := trodAll_nil r0
  obtain rfl : args = #[v0] := by cases args; simp_all
  obtain ⟨rfl, rfl⟩ := trodVars_none hV
  have k0 := h0
  have lt0 : ∀ x ∈ p0, x.block < W.heap.size := by obtain ⟨m, hm⟩ := k0; exact DataW.trod_lt m _ _ _ hm
  obtain ⟨a0, rfl, rfl, rfl, w0⟩ := open_int Try.underlying3 (hval 0 3 v0 rfl rfl) h0
  clear hA0 hval0
  refine (walk W a0 (wf_range w0)).mono fun e W' ⟨he, bel⟩ => ?_
  subst he
  exact ⟨_, rfl, _, _, _, [], _, [], hW', trodAll_mk1 (shut_bool Try.underlying4 _), (trodAll_cons_mk (Below.trod laidOut (by kernel_rfl) (of_decide_eq_true (by kernel_rfl)) k0 bel lt0) trodAll_mk0), rfl, bel.frame _, fun h => by cases h⟩

theorem over : Rows.placeTablesRow.holds Try.pinned (OpenSpec.ofChange Rows.placeTablesSpec) :=
  OpenClaim.holds_of_wide 4 Try.f4 rfl rfl rfl rfl rfl rfl rfl ⟨rfl, rfl, rfl, rfl, rfl⟩ rfl rfl rfl rfl rfl (by kernel_rfl) Try.func4 (by kernel_rfl)
    (of_decide_eq_true (by kernel_rfl)) (by unfold Func.isWrapper; first | (rw [if_pos (by decide +kernel)]; kernel_rfl) | (rw [if_neg (by decide +kernel)]; exact ⟨rfl, rfl⟩))
    (fun os started H enc _ => lifted os started H enc)

theorem proved : Rows.PlaceTablesSaid := over
#print axioms proved
end Go.Proofs.Ytllacbogbbbcaaa.placeTables
