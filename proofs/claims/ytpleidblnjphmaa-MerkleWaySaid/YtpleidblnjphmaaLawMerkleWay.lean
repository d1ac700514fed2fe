/- Each inclusion proof leads to the root hash: MerkleWay answers true at every slice of ints, int. Conditions: none beside the row's own. -/
import Derived.Test.YtpleidblnjphmaaMer4
import Derived.Test.YtpleidblnjphmaaIn
namespace Go.Proofs.Ytpleidblnjphmaa.merkleWay
open Go Go.ChangeShapes Go.WideShapes Go.ChangeAt Go.RowKit
set_option linter.unusedVariables false

set_option maxHeartbeats 2000000 in
theorem walk_ok (w : World) (A : Option Addr) (n c : Nat) (xs : List Int) (hA : Rd w A n xs) (hc : n ≤ c) (i : Nat) (hi : i < n) (h1 : 1 ≤ n) (h16 : n ≤ 16) (h : allB xs 0 1000 = true) :
    Calls Try.prog 4 #[.slice A n c, .int .i64 i] w fun e w' => e = .returned (.bool true) ∧ Below w.heap.size w w' := by
  have hl := hA.len
  have hx := allB_iff.1 h i (by omega)
  obtain ⟨x, hxe⟩ : ∃ x, xs[i]?.getD 0 = x := ⟨_, rfl⟩
  have hup := up_way 16 xs i x (by omega) (by omega)
  have hset : xs.set i x = xs := by rw [← hxe, List.getElem?_eq_getElem (by omega)]; simp
  rw [hset] at hup
  have hupV : upV x (wayF 16 xs i) = .tuple #[.int .i64 (rootF 16 xs), .nilIface] := by unfold upV; rw [if_pos (way_good _ _ _), hup]
  rw [hxe] at hx
  obtain ⟨hx0, hx1⟩ := hx
  obtain ⟨b, off, rfl, hbl, hcc⟩ := hA.at_ (by omega)
  have hci := hcc i hi
  rw [hxe] at hci
  have HH := Lib.hid (And.intro h hupV)
  obtain ⟨R, hR⟩ : ∃ R, rootF 16 xs = R := ⟨_, rfl⟩
  have HR := Lib.hid hR
  have hRR : (R == R) = true := by simp
  have i0 : (0 : Int) ≤ (i : Int) := by omega
  have i1 : (i : Int) ≤ (n : Int) - 1 := by omega
  have iI : (i : Int) < (n : Int) := by omega
  have HCI := Lib.hid hci
  clear h hupV hup hset hxe hcc hR hci
  go_enter Try.func4, Try.ntmps4
  go_wp2_with fail
  with_reducible refine (merkleFact_any _).mono ?_
  rintro e w6 ⟨rfl, hB⟩
  go_wp2_with fail
  with_reducible refine (mroot_ok _ _ _ xs _ (hA.below hB) hc h1 h16 HH.out.1).mono ?_
  rintro e w2 ⟨rfl, k2⟩
  rw [HR.out]
  have hB2 := hB.trans (k2.mono hB.size)
  go_wp2_with fail
  with_reducible refine (mway_ok _ _ _ xs i _ (hA.below hB2) hc h1 h16 HH.out.1 hi).mono ?_
  rintro e w3 ⟨⟨C, m, c', rfl, hm, hown⟩, k3⟩
  have hB3 := hB2.trans (k3.mono hB2.size)
  have hP := hown.rd (by omega)
  have c3 := (hB3.cell (p := ⟨b, off + i, none⟩) hbl).trans HCI.out
  clear hown
  go_wp2_with fail
  with_reducible refine (in_yes _ _ _ _ i0 i1).mono ?_
  rintro e w' ⟨rfl, rfl⟩
  go_wp2_with fail
  with_reducible refine (up_any _ _ _ _ x _ hP hm hx0 hx1).mono ?_
  rintro e w4 ⟨rfl, k4⟩
  rw [HH.out.2, HR.out]
  have hB4 := hB3.trans (k4.mono hB3.size)
  go_wp2
  go_ret
  exact ⟨rfl, hB4⟩

theorem walk (w : World) (A : Option Addr) (n c : Nat) (xs : List Int) (hA : Rd w A n xs) (hc : n ≤ c) (i : Int) (hi : -9223372036854775808 ≤ i ∧ i ≤ 9223372036854775807) :
    Calls Try.prog 4 #[.slice A n c, .int .i64 i] w fun e w' => e = .returned (.bool true) ∧ Below w.heap.size w w' := by
  by_cases hv : valE xs = 0
  · obtain ⟨h1, h2, h3⟩ := valE_zero.1 hv
    rw [hA.len] at h1 h2
    by_cases hin : i < 0 ∨ (n : Int) - 1 < i
    · have H3 := Lib.hid h3
      clear hv h3
      go_enter Try.func4, Try.ntmps4
      go_wp2_with fail
      with_reducible refine (merkleFact_any _).mono ?_
      rintro e w8 ⟨rfl, hB⟩
      go_wp2_with fail
      with_reducible refine (mroot_ok _ _ _ xs _ (hA.below hB) hc h1 h2 H3.out).mono ?_
      rintro e w2 ⟨rfl, k2⟩
      have hB := hB.trans (k2.mono hB.size)
      go_wp2_with fail
      with_reducible refine (mway_out _ _ _ xs i _ (hA.below hB) h1 h2 H3.out hin).mono ?_
      rintro e w' ⟨rfl, rfl⟩
      go_wp2_with fail
      with_reducible refine (in_no _ _ _ _ hin).mono ?_
      rintro e w' ⟨rfl, rfl⟩
      go_wp2
      go_ret
      exact ⟨rfl, hB⟩
    · obtain ⟨k, rfl⟩ : ∃ k : Nat, i = k := ⟨i.toNat, by omega⟩
      exact walk_ok w A n c xs hA hc k (by omega) h1 h2 h3
  · have HV := Lib.hid hv
    clear hv
    go_enter Try.func4, Try.ntmps4
    go_wp2_with fail
    with_reducible refine (merkleFact_any _).mono ?_
    rintro e w11 ⟨rfl, hB⟩
    go_wp2_with fail
    with_reducible refine (mroot_bad _ _ _ xs _ (hA.below hB) HV.out).mono ?_
    rintro e w' ⟨rfl, rfl⟩
    go_wp2
    go_ret
    exact ⟨rfl, hB⟩

set_option maxRecDepth 100000 in
theorem lifted (os : Os) (started : os.Started) (H : Type) (enc : TypeId × Value → H) :
    ReturnsInHanded {} Try.checked os 4 .any (Rows.merkleWaySpec.pre6 enc Try.prog Try.f4 Rows.merkleWayRow.domain false) (Rows.merkleWaySpec.post enc Try.prog Try.f4 false true false false) := by
  refine returnsInHanded_of_change (C := Try.checked) own started (by kernel_rfl) Try.func4
    (ChangeSpec.witness6 (enc := enc) (C := Try.checked) false ⟨#[], #[.slice none 0 0, .int .i64 0], []⟩ 8 (by kernel_rfl) (by kernel_rfl) (by kernel_rfl) (by kernel_rfl)) ?_
  intro W base args ds gs before hval0 hW hcnd _
  have hval : ∀ (j : Nat) t v, Try.f4.params[j]? = some t → args[j]? = some v → Value.okWide Try.prog W .any base t v := hval0
  have hW' := hW
  obtain ⟨p, q, hA0, hV, rfl, hfz, hnd⟩ := hW
  have hA : DataW.TrodAll enc Try.prog W 0 (fun _ => true) true Try.f4.params.toList args.toList ds p := hA0
  rw [Try.params4] at hA hval
  obtain ⟨v0, vs0, d0, ds0, p0, q0, hargs, rfl, rfl, h0, r0⟩ := trodAll_cons hA
  obtain ⟨v1, vs1, d1, ds1, p1, q1, rfl, rfl, rfl, h1, r1⟩ := trodAll_cons r0
  obtain ⟨rfl, rfl, rfl⟩ := trodAll_nil r1
  obtain rfl : args = #[v0, v1] := by cases args; simp_all
  obtain ⟨rfl, rfl⟩ := trodVars_none hV
  have k0 := h0
  have lt0 : ∀ x ∈ p0, x.block < W.heap.size := by obtain ⟨m, hm⟩ := k0; exact DataW.trod_lt m _ _ _ hm
  obtain ⟨A0, n0, c0, rfl⟩ := okWide_slice Try.underlying22 (hval 0 22 v0 rfl rfl)
  obtain ⟨xs0, w0, hc0⟩ : ∃ xs, Rd W A0 n0 xs ∧ n0 ≤ c0 := by
    obtain ⟨fuel, hf⟩ := h0
    rcases open_ints Try.underlying22 Try.underlying3 (by kernel_rfl) hf with ⟨hcs, _⟩ | ⟨x, l, c, zs, hcs, _, hl, hm, hz, _, hcell, hwz⟩
    · simp [Value.cells] at hcs
      obtain ⟨rfl, rfl, rfl⟩ := hcs
      exact ⟨[], Rd.nil _ _, Nat.le_refl _⟩
    · simp [Value.cells] at hcs
      obtain ⟨rfl, rfl, rfl⟩ := hcs
      exact ⟨_, rd_of_cells (by simp at hz; omega) hl hm hcell hwz, hl⟩
  have k1 := h1
  have lt1 : ∀ x ∈ p1, x.block < W.heap.size := by obtain ⟨m, hm⟩ := k1; exact DataW.trod_lt m _ _ _ hm
  obtain ⟨a1, rfl, rfl, rfl, w1⟩ := open_int Try.underlying3 (hval 1 3 v1 rfl rfl) h1
  clear hA0 hval0
  refine (walk W A0 n0 c0 xs0 w0 hc0 a1 (wf_range w1)).mono fun e W' ⟨he, bel⟩ => ?_
  subst he
  exact ⟨_, rfl, _, _, _, [], _, [], hW', trodAll_mk1 (shut_bool Try.underlying4 _), (trodAll_cons_mk (Below.trod laidOut (by kernel_rfl) (of_decide_eq_true (by kernel_rfl)) k0 bel lt0) (trodAll_cons_mk (Below.trod laidOut (by kernel_rfl) (of_decide_eq_true (by kernel_rfl)) k1 bel lt1) trodAll_mk0)), rfl, bel.frame _, fun h => by cases h⟩

theorem over : Rows.merkleWayRow.holds Try.pinned (OpenSpec.ofChange Rows.merkleWaySpec) :=
  OpenClaim.holds_of_wide 4 Try.f4 rfl rfl rfl rfl rfl rfl rfl ⟨rfl, rfl, rfl, rfl, rfl⟩ rfl rfl rfl rfl rfl (by kernel_rfl) Try.func4 (by kernel_rfl)
    (of_decide_eq_true (by kernel_rfl)) (by unfold Func.isWrapper; first | (rw [if_pos (by decide +kernel)]; kernel_rfl) | (rw [if_neg (by decide +kernel)]; exact ⟨rfl, rfl⟩))
    (fun os started H enc _ => lifted os started H enc)

theorem proved : Rows.MerkleWaySaid := over
#print axioms proved
end Go.Proofs.Ytpleidblnjphmaa.merkleWay
