/- The proof of a value also yields the root hash after this value has changed: MerkleChange answers true at every slice of ints, int, int. Conditions: none beside the row's own. -/
import Derived.Test.YtpleidblnjphmaaMer4
import Derived.Test.YtpleidblnjphmaaIn
import Derived.Test.YtpleidblnjphmaaRSet
namespace Go.Proofs.Ytpleidblnjphmaa.merkleChange
open Go Go.ChangeShapes Go.WideShapes Go.ChangeAt Go.RowKit
set_option linter.unusedVariables false

theorem set_all {xs : List Int} {lo hi : Int} (h : ∀ x ∈ xs, lo ≤ x ∧ x ≤ hi) (i : Nat) {v : Int} (hv : lo ≤ v ∧ v ≤ hi) : ∀ x ∈ xs.set i v, lo ≤ x ∧ x ≤ hi := by
  intro x hx
  rcases List.mem_or_eq_of_mem_set hx with h1 | h1
  · exact h x h1
  · subst h1; exact hv

set_option maxHeartbeats 2000000 in
theorem walk_ok (w : World) (A : Option Addr) (n c : Nat) (xs : List Int) (hA : Rd w A n xs) (hc : n ≤ c) (i : Nat) (hi : i < n) (h1 : 1 ≤ n) (h16 : n ≤ 16) (h : allB xs 0 1000 = true) (v : Int) (hv : -9223372036854775808 ≤ v ∧ v ≤ 9223372036854775807) :
    Calls Try.prog 5 #[.slice A n c, .int .i64 i, .int .i64 v] w fun e w' => e = .returned (.bool true) ∧ Below w.heap.size w w' := by
  have hl := hA.len
  have hx := allB_mem.1 h
  have HH := Lib.hid h
  have i0 : (0 : Int) ≤ (i : Int) := by omega
  have i1 : (i : Int) ≤ (n : Int) - 1 := by omega
  have hxw : ∀ x ∈ xs.set i v, -9223372036854775808 ≤ x ∧ x ≤ 9223372036854775807 := set_all (fun x hx' => by have := hx x hx'; omega) i hv
  have HXW := Lib.hid hxw
  by_cases hvr : v < 0 ∨ 1000 < v
  · have hvE : valE (xs.set i v) ≠ 0 := by
      intro h0
      have h3 := allB_mem.1 (valE_zero.1 h0).2.2 v (List.mem_iff_getElem.2 ⟨i, by simp; omega, by simp⟩)
      omega
    have HVE := Lib.hid hvE
    clear h hx hxw hvE
    go_enter Try.func5, Try.ntmps5
    go_wp2_with fail
    with_reducible refine (merkleFact_any _).mono ?_
    rintro e w13 ⟨rfl, hB⟩
    go_wp2_with fail
    with_reducible refine (mway_ok _ _ _ xs i _ (hA.below hB) hc h1 h16 HH.out hi).mono ?_
    rintro e w2 ⟨⟨C, m, c', rfl, hm, hown⟩, k2⟩
    have hB2 := hB.trans (k2.mono hB.size)
    have hA2 := hA.below hB2
    clear hown
    go_wp2_with fail
    with_reducible refine (in_yes _ _ _ _ i0 i1).mono ?_
    rintro e w' ⟨rfl, rfl⟩
    go_wp2_with fail
    with_reducible refine (up_badv _ _ _ v _ hm hvr).mono ?_
    rintro e w' ⟨rfl, rfl⟩
    go_wp2_with fail
    with_reducible refine (rset_any _ _ _ xs _ hA2 i hi (by omega) v).mono ?_
    rintro e w3 ⟨⟨C3, c3, rfl, hown3⟩, k3⟩
    have hB3 := hB2.trans (k3.mono hB2.size)
    have hR3 := hown3.rd (by omega) HXW.out
    clear hown3
    go_wp2_with fail
    with_reducible refine (mroot_bad _ _ _ (xs.set i v) _ hR3 HVE.out).mono ?_
    rintro e w' ⟨rfl, rfl⟩
    go_wp2_with fail
    with_reducible refine (in_no _ _ _ _ hvr).mono ?_
    rintro e w' ⟨rfl, rfl⟩
    go_wp2
    go_ret
    exact ⟨rfl, hB3⟩
  · have hvr0 : 0 ≤ v := by omega
    have hvr1 : v ≤ 1000 := by omega
    have hall : allB (xs.set i v) 0 1000 = true := allB_mem.2 (set_all hx i ⟨hvr0, hvr1⟩)
    have hup := up_way 16 xs i v (by omega) (by omega)
    have hupV : upV v (wayF 16 xs i) = .tuple #[.int .i64 (rootF 16 (xs.set i v)), .nilIface] := by unfold upV; rw [if_pos (way_good _ _ _), hup]
    obtain ⟨R, hR⟩ : ∃ R, rootF 16 (xs.set i v) = R := ⟨_, rfl⟩
    rw [hR] at hupV
    have HU := Lib.hid (And.intro hall (And.intro hupV hR))
    have hRR : (R == R) = true := by simp
    clear h hx hxw hall hup hupV hR
    go_enter Try.func5, Try.ntmps5
    go_wp2_with fail
    with_reducible refine (merkleFact_any _).mono ?_
    rintro e w18 ⟨rfl, hB⟩
    go_wp2_with fail
    with_reducible refine (mway_ok _ _ _ xs i _ (hA.below hB) hc h1 h16 HH.out hi).mono ?_
    rintro e w2 ⟨⟨C, m, c', rfl, hm, hown⟩, k2⟩
    have hB2 := hB.trans (k2.mono hB.size)
    have hP := hown.rd (by omega)
    clear hown
    go_wp2_with fail
    with_reducible refine (in_yes _ _ _ _ i0 i1).mono ?_
    rintro e w' ⟨rfl, rfl⟩
    go_wp2_with fail
    with_reducible refine (up_any _ _ _ _ v _ hP hm hvr0 hvr1).mono ?_
    rintro e w4 ⟨rfl, k4⟩
    rw [HU.out.2.1]
    have hB4 := hB2.trans (k4.mono hB2.size)
    have hA4 := hA.below hB4
    go_wp2_with fail
    with_reducible refine (rset_any _ _ _ xs _ hA4 i hi (by omega) v).mono ?_
    rintro e w3 ⟨⟨C3, c3, rfl, hown3⟩, k3⟩
    have hB3 := hB4.trans (k3.mono hB4.size)
    have hR3 := hown3.rd (by omega) HXW.out
    have hcap : n ≤ c3 := by
      obtain ⟨_, _, e1, e2⟩ := hown3.form
      injection e1 with _ _ e3
      omega
    clear hown3
    go_wp2_with fail
    with_reducible refine (mroot_ok _ _ _ (xs.set i v) _ hR3 hcap h1 h16 HU.out.1).mono ?_
    rintro e w5 ⟨rfl, k5⟩
    rw [HU.out.2.2]
    have hB5 := hB3.trans (k5.mono hB3.size)
    go_wp2
    go_ret
    exact ⟨rfl, hB5⟩

theorem walk (w : World) (A : Option Addr) (n c : Nat) (xs : List Int) (hA : Rd w A n xs) (hc : n ≤ c) (i : Int) (hi : -9223372036854775808 ≤ i ∧ i ≤ 9223372036854775807) (v : Int) (hv : -9223372036854775808 ≤ v ∧ v ≤ 9223372036854775807) :
    Calls Try.prog 5 #[.slice A n c, .int .i64 i, .int .i64 v] w fun e w' => e = .returned (.bool true) ∧ Below w.heap.size w w' := by
  by_cases hve : valE xs = 0
  · obtain ⟨h1, h2, h3⟩ := valE_zero.1 hve
    rw [hA.len] at h1 h2
    by_cases hin : i < 0 ∨ (n : Int) - 1 < i
    · have H3 := Lib.hid h3
      clear hve h3
      go_enter Try.func5, Try.ntmps5
      go_wp2_with fail
      with_reducible refine (merkleFact_any _).mono ?_
      rintro e w20 ⟨rfl, hB⟩
      go_wp2_with fail
      with_reducible refine (mway_out _ _ _ xs i _ (hA.below hB) h1 h2 H3.out hin).mono ?_
      rintro e w' ⟨rfl, rfl⟩
      go_wp2
      go_ret
      exact ⟨rfl, hB⟩
    · obtain ⟨k, rfl⟩ : ∃ k : Nat, i = k := ⟨i.toNat, by omega⟩
      exact walk_ok w A n c xs hA hc k (by omega) h1 h2 h3 v hv
  · have HV := Lib.hid hve
    clear hve
    go_enter Try.func5, Try.ntmps5
    go_wp2_with fail
    with_reducible refine (merkleFact_any _).mono ?_
    rintro e w22 ⟨rfl, hB⟩
    go_wp2_with fail
    with_reducible refine (mway_bad _ _ _ xs i _ (hA.below hB) HV.out).mono ?_
    rintro e w' ⟨rfl, rfl⟩
    go_wp2
    go_ret
    exact ⟨rfl, hB⟩

set_option maxRecDepth 100000 in
theorem lifted (os : Os) (started : os.Started) (H : Type) (enc : TypeId × Value → H) :
    ReturnsInHanded {} Try.checked os 5 .any (Rows.merkleChangeSpec.pre6 enc Try.prog Try.f5 Rows.merkleChangeRow.domain false) (Rows.merkleChangeSpec.post enc Try.prog Try.f5 false true false false) := by
  refine returnsInHanded_of_change (C := Try.checked) own started (by kernel_rfl) Try.func5
    (ChangeSpec.witness6 (enc := enc) (C := Try.checked) false ⟨#[], #[.slice none 0 0, .int .i64 0, .int .i64 0], []⟩ 8 (by kernel_rfl) (by kernel_rfl) (by kernel_rfl) (by kernel_rfl)) ?_
  intro W base args ds gs before hval0 hW hcnd _
  have hval : ∀ (j : Nat) t v, Try.f5.params[j]? = some t → args[j]? = some v → Value.okWide Try.prog W .any base t v := hval0
  have hW' := hW
  obtain ⟨p, q, hA0, hV, rfl, hfz, hnd⟩ := hW
  have hA : DataW.TrodAll enc Try.prog W 0 (fun _ => true) true Try.f5.params.toList args.toList ds p := hA0
  rw [Try.params5] at hA hval
  obtain ⟨v0, vs0, d0, ds0, p0, q0, hargs, rfl, rfl, h0, r0⟩ := trodAll_cons hA
  obtain ⟨v1, vs1, d1, ds1, p1, q1, rfl, rfl, rfl, h1, r1⟩ := trodAll_cons r0
  obtain ⟨v2, vs2, d2, ds2, p2, q2, rfl, rfl, rfl, h2, r2⟩ := trodAll_cons r1
  obtain ⟨rfl, rfl, rfl⟩ := trodAll_nil r2
  obtain rfl : args = #[v0, v1, v2] := by cases args; simp_all
  obtain ⟨rfl, rfl⟩ := trodVars_none hV
  have k0 := h0
  have lt0 : ∀ x ∈ p0, x.block < W.heap.size := by obtain ⟨m, hm⟩ := k0; exact DataW.trod_lt m _ _ _ hm
  obtain ⟨A0, n0, c0, rfl⟩ := okWide_slice Try.underlying22 (hval 0 22 v0 rfl rfl)
  obtain ⟨xs0, w0, hc0⟩ : ∃ xs, Rd W A0 n0 xs ∧ n0 ≤ c0 := by
    obtain ⟨fuel, hf⟩ := h0
    rcases open_ints Try.underlying22 Try.underlying3 (by kernel_rfl) hf with ⟨hcs, _⟩ | ⟨x, l, c, zs, hcs, _, hl, hm, hz, _, hcell, hwz⟩
    · simp [Value.cells] at hcs
      obtain ⟨rfl, rfl, rfl⟩ := hcs
      exact ⟨[], Rd.nil _ _, Nat.le_refl _⟩
    · simp [Value.cells] at hcs
      obtain ⟨rfl, rfl, rfl⟩ := hcs
      exact ⟨_, rd_of_cells (by simp at hz; omega) hl hm hcell hwz, hl⟩
  have k1 := h1
  have lt1 : ∀ x ∈ p1, x.block < W.heap.size := by obtain ⟨m, hm⟩ := k1; exact DataW.trod_lt m _ _ _ hm
  obtain ⟨a1, rfl, rfl, rfl, w1⟩ := open_int Try.underlying3 (hval 1 3 v1 rfl rfl) h1
  have k2 := h2
  have lt2 : ∀ x ∈ p2, x.block < W.heap.size := by obtain ⟨m, hm⟩ := k2; exact DataW.trod_lt m _ _ _ hm
  obtain ⟨a2, rfl, rfl, rfl, w2⟩ := open_int Try.underlying3 (hval 2 3 v2 rfl rfl) h2
  clear hA0 hval0
  refine (walk W A0 n0 c0 xs0 w0 hc0 a1 (wf_range w1) a2 (wf_range w2)).mono fun e W' ⟨he, bel⟩ => ?_
  subst he
  exact ⟨_, rfl, _, _, _, [], _, [], hW', trodAll_mk1 (shut_bool Try.underlying4 _), (trodAll_cons_mk (Below.trod laidOut (by kernel_rfl) (of_decide_eq_true (by kernel_rfl)) k0 bel lt0) (trodAll_cons_mk (Below.trod laidOut (by kernel_rfl) (of_decide_eq_true (by kernel_rfl)) k1 bel lt1) (trodAll_cons_mk (Below.trod laidOut (by kernel_rfl) (of_decide_eq_true (by kernel_rfl)) k2 bel lt2) trodAll_mk0))), rfl, bel.frame _, fun h => by cases h⟩

theorem over : Rows.merkleChangeRow.holds Try.pinned (OpenSpec.ofChange Rows.merkleChangeSpec) :=
  OpenClaim.holds_of_wide 5 Try.f5 rfl rfl rfl rfl rfl rfl rfl ⟨rfl, rfl, rfl, rfl, rfl⟩ rfl rfl rfl rfl rfl (by kernel_rfl) Try.func5 (by kernel_rfl)
    (of_decide_eq_true (by kernel_rfl)) (by unfold Func.isWrapper; first | (rw [if_pos (by decide +kernel)]; kernel_rfl) | (rw [if_neg (by decide +kernel)]; exact ⟨rfl, rfl⟩))
    (fun os started H enc _ => lifted os started H enc)

theorem proved : Rows.MerkleChangeSaid := over
#print axioms proved
end Go.Proofs.Ytpleidblnjphmaa.merkleChange
