/- Any set of as many shards as there are data shards makes all again: ReedAny answers true at every two slices of ints and every int. Conditions: none beside the row's own. -/
import Derived.Test.YtdhfckdnfppieaaReedF
import Derived.Test.YtdhfckdnfppieaaReedD
import Derived.Test.YtdhfckdnfppieaaIn
import Derived.Test.YtdhfckdnfppieaaRSet
import Derived.Test.YtdhfckdnfppieaaOpen
namespace Go.Proofs.Ytdhfckdnfppieaa.reedAny
open Go Go.ChangeShapes Go.WideShapes Go.ChangeAt Go.RowKit
set_option linter.unusedVariables false
set_option maxRecDepth 20000

theorem shards_take (xs : List Int) (p : Nat) : (shards xs p).take xs.length = xs := by unfold shards; exact List.take_left
theorem any_post {xs zs : List Int} {p m B : Nat} {e : Ending} {w' : World} (hx : ∀ x ∈ xs, 0 ≤ x ∧ x ≤ 255) (h256 : xs.length + p ≤ 256) (hL : Left xs p m zs) (hm : m ≤ p) (h : AgPost zs xs.length (xs.length + p) B e w') :
    ∃ C c', e = .returned (.tuple #[.slice C (xs.length + p) c', .nilIface]) ∧ Own w' B (.slice C (xs.length + p) c') (xs.length + p) (shards xs p) := by
  have hg := hL.got hm
  rw [hL.len] at hg
  rcases h with ⟨h1, _⟩ | ⟨_, ⟨i, h2, h3⟩, _⟩ | ⟨_, _, C, c', h4, h5⟩
  · omega
  · exact absurd h3 (hL.good hx h256 hm i h2)
  · rw [out_shards hx h256 fun i hi => hL.ag hx h256 hm hi] at h5
    exact ⟨C, c', h4, h5⟩

set_option maxHeartbeats 8000000 in
theorem walk_ok (w : World) (A : Option Addr) (n c : Nat) (xs : List Int) (hA : Sl w A n c xs) (p : Nat) (he : makeE xs p = 0) (Z : Option Addr) (l d : Nat) (ls : List Int) (hZ : Rd w Z l ls) :
    Calls Try.prog 6 #[.slice A n c, .int .i64 p, .slice Z l d] w fun e w' => e = .returned (.bool true) ∧ Below w.heap.size w w' := by
  have hlx := hA.1.len
  obtain ⟨a1, a2, a3, a4, a5⟩ := makeE_zero he
  have hx := allB_mem.1 a3
  have hn8 : n ≤ 8 := by omega
  have hn1 : 1 ≤ n := by omega
  have hp4 : p ≤ 4 := by omega
  have hlm := hZ.max
  have htk := shards_take xs p
  rw [hlx] at htk
  have h256 : xs.length + p ≤ 256 := by omega
  have HE := Lib.hid he
  have HX := Lib.hid (And.intro hlx (And.intro hx (And.intro h256 htk)))
  have HA0 := Lib.hid hA
  have hRA := hA.1
  have hnp : (((n + p : Nat) : Int) != ((n + p : Nat) : Int)) = false := by simp
  have hnp2 : ((n : Int) + (p : Int) != (n : Int) + (p : Int)) = false := by simp
  clear he hA hlx a1 a2 a3 a4 a5 hx htk h256
  go_enter Try.func6, Try.ntmps6
  go_wp2_with fail
  with_reducible refine (reedFact_any _).mono ?_
  rintro e w1 ⟨rfl, hB⟩
  go_wp2_with fail
  with_reducible refine (make_ok A n c xs p _ (HA0.out.below hB) HE.out).mono ?_
  rintro e w1x ⟨⟨C1, c1, rfl, hown1⟩, k1⟩
  have hB := hB.trans (k1.mono hB.size)
  have hs1 := shards_bytes HX.out.2.1 p
  have hcap : n + p ≤ c1 := by
    obtain ⟨_, _, h1, h2⟩ := hown1.form
    injection h1 with _ _ h3
    omega
  have hR1 : Rd w1x C1 (n + p) (shards xs p) := hown1.rd (by omega) (fun x hx => by have := hs1 x hx; omega)
  have hT1 : Rd w1x C1 n xs := by
    have := hR1.take (k := n) (by omega)
    rw [HX.out.2.2.2] at this
    exact this
  have hRA1 := hRA.below hB
  have hZ1 := hZ.below hB
  clear hs1 hown1 k1
  go_wp2_with fail
  with_reducible refine (ints_any _ _ n n _ _ xs xs _ hT1 hRA1).mono ?_
  rintro e w' ⟨rfl, q1, rfl⟩
  rw [show decide (xs = xs) = true by simp]
  have hB := below_drewN_of hB q1
  obtain ⟨W1, hW1⟩ : ∃ W, W = w1x.drewN q1 := ⟨_, rfl⟩
  rw [← hW1] at hB ⊢
  have hR1 : Rd W1 C1 (n + p) (shards xs p) := by rw [hW1]; exact hR1
  have hRA1 : Rd W1 A n xs := by rw [hW1]; exact hRA1
  have hZ1 : Rd W1 Z l ls := by rw [hW1]; exact hZ1
  clear hW1 hT1
  go_wp2
  go_loopw [10, 11, 12] (fun v mm i wr => ∃ (k m : Nat) (C : Option Addr) (c' : Nat) (zs : List Int), k ≤ l ∧ m ≤ p ∧ i = .int .i64 k ∧ mm = .int .i64 m ∧ v = .slice C (n + p) c' ∧ Left xs p m zs ∧ Rd wr C (n + p) zs ∧ Below W1.heap.size W1 wr) (fun _ _ i _ => l - (intOf i).toNat)
  case atStart => exact ⟨0, 0, C1, c1, shards xs p, Nat.zero_le _, Nat.zero_le _, rfl, rfl, rfl, Left.first HX.out.2.1 p, hR1, Below.refl _ _⟩
  case round =>
    obtain ⟨k, m, C, c', zs, hk, hm, rfl, rfl, rfl, hL, hR, hbel⟩ := hrel
    have HL := Lib.hid hL
    clear hL
    by_cases hgo : k < l ∧ m < p
    · obtain ⟨hkl, hmp⟩ := hgo
      obtain ⟨bz, oz, rfl, hblz, hcz⟩ := hZ1.at_ (by omega)
      have gz := (hbel.cell (p := ⟨bz, oz + k, none⟩) hblz).trans (hcz k hkl)
      have hkI : (k : Int) < (l : Int) := by omega
      have hmI : (m : Int) < (p : Int) := by omega
      have hvr := hZ1.range k
      obtain ⟨v, hv⟩ : ∃ v, ls[k]?.getD 0 = v := ⟨_, rfl⟩
      rw [hv] at gz hvr
      clear hcz hv
      by_cases hin : 0 ≤ v ∧ v ≤ (n : Int) + (p : Int) - 1
      · obtain ⟨h0, h1⟩ := hin
        obtain ⟨j, rfl⟩ := Int.eq_ofNat_of_zero_le h0
        have hj : j < n + p := by omega
        have hjI : (j : Int) < (n : Int) + (p : Int) := by omega
        obtain ⟨b, off, rfl, hbl, hcc⟩ := hR.at_ (by omega)
        have g1 := hcc j hj
        have hnx := fun h => HL.out.next (i := j) (by rw [HX.out.1]; exact hj) h
        obtain ⟨x, hx⟩ : ∃ x, zs[j]?.getD 0 = x := ⟨_, rfl⟩
        rw [hx] at g1 hnx
        have HN := Lib.hid hnx
        clear hcc hx hnx
        by_cases hx0 : 0 ≤ x
        · go_wp2_with fail
          with_reducible refine (in_yes _ _ _ _ h0 h1).mono ?_
          rintro e w' ⟨rfl, rfl⟩
          go_wp2_with fail
          with_reducible refine (rset_any _ (n + p) c' zs _ hR j hj (by omega) (-1)).mono ?_
          rintro e w3 ⟨⟨C3, c3, rfl, hown3⟩, k3⟩
          have hby := (HN.out hx0).bytes HX.out.2.1
          have hR3 : Rd w3 C3 (n + p) (zs.set j (-1)) := hown3.rd (by omega) (fun x hx => by have := hby x hx; omega)
          have hbel3 := hbel.trans (k3.mono hbel.size)
          clear hby hown3 k3
          go_wp2
          go_roundw
          case rel => exact ⟨k + 1, m + 1, C3, c3, _, by omega, by omega, by go_num, by go_num, rfl, HN.out hx0, hR3, hbel3⟩
          case measure => simp [intOf]; omega
        · go_wp2_with fail
          with_reducible refine (in_yes _ _ _ _ h0 h1).mono ?_
          rintro e w' ⟨rfl, rfl⟩
          go_wp2
          go_roundw
          case rel => exact ⟨k + 1, m, _, c', zs, by omega, by omega, by go_num, rfl, rfl, HL.out, hR, hbel⟩
          case measure => simp [intOf]; omega
      · have hno : v < 0 ∨ (n : Int) + (p : Int) - 1 < v := by omega
        go_wp2_with fail
        with_reducible refine (in_no _ _ _ _ hno).mono ?_
        rintro e w' ⟨rfl, rfl⟩
        go_wp2
        go_roundw
        case rel => exact ⟨k + 1, m, C, c', zs, by omega, by omega, by go_num, rfl, rfl, HL.out, hR, hbel⟩
        case measure => simp [intOf]; omega
    · have hB2 := hB.trans (hbel.mono hB.size)
      have hby := HL.out.bytes HX.out.2.1
      have hall : allB zs (-1) 255 = true := allB_mem.2 hby
      have hag := rag_run C (n + p) c' zs n wr hR (by omega) hn1 hn8 hall (by omega) (by omega)
      have HAG := Lib.hid hag
      have hap := fun e w' B h => any_post (e := e) (w' := w') (B := B) HX.out.2.1 HX.out.2.2.1 HL.out hm h
      rw [HX.out.1] at hap
      have HAP := Lib.hid hap
      have hRS := hR1.below hbel
      clear hby hall hag hap
      by_cases hkl : k < l
      · have hkI : (k : Int) < (l : Int) := by omega
        have hmI : ¬ (m : Int) < (p : Int) := by omega
        go_wp2_with fail
        with_reducible refine HAG.out.mono ?_
        rintro e w3 ⟨hp, k3⟩
        obtain ⟨C3, c3, rfl, hown3⟩ := HAP.out _ _ _ hp
        have hs1 := shards_bytes HX.out.2.1 p
        have hR3 : Rd w3 C3 (n + p) (shards xs p) := hown3.rd (by omega) (fun x hx => by have := hs1 x hx; omega)
        have hRS3 := hRS.below k3
        have hB3 := hB2.trans (k3.mono hB2.size)
        clear hp hown3 hs1 k3
        go_wp2_with fail
        with_reducible refine (ints_any _ _ (n + p) (n + p) _ _ (shards xs p) (shards xs p) _ hR3 hRS3).mono ?_
        rintro e w' ⟨rfl, q, rfl⟩
        rw [show decide (shards xs p = shards xs p) = true by simp]
        go_wp2
        go_ret
        exact ⟨rfl, below_drewN_of hB3 _⟩
      · have hkI : ¬ (k : Int) < (l : Int) := by omega
        go_wp2_with fail
        with_reducible refine HAG.out.mono ?_
        rintro e w3 ⟨hp, k3⟩
        obtain ⟨C3, c3, rfl, hown3⟩ := HAP.out _ _ _ hp
        have hs1 := shards_bytes HX.out.2.1 p
        have hR3 : Rd w3 C3 (n + p) (shards xs p) := hown3.rd (by omega) (fun x hx => by have := hs1 x hx; omega)
        have hRS3 := hRS.below k3
        have hB3 := hB2.trans (k3.mono hB2.size)
        clear hp hown3 hs1 k3
        go_wp2_with fail
        with_reducible refine (ints_any _ _ (n + p) (n + p) _ _ (shards xs p) (shards xs p) _ hR3 hRS3).mono ?_
        rintro e w' ⟨rfl, q, rfl⟩
        rw [show decide (shards xs p = shards xs p) = true by simp]
        go_wp2
        go_ret
        exact ⟨rfl, below_drewN_of hB3 _⟩

set_option maxHeartbeats 4000000 in
theorem walk (w : World) (A : Option Addr) (n c : Nat) (xs : List Int) (hA : Sl w A n c xs) (more : Int) (hmore : -9223372036854775808 ≤ more ∧ more ≤ 9223372036854775807) (Z : Option Addr) (l d : Nat) (ls : List Int) (hZ : Rd w Z l ls) (hd : l ≤ d) :
    Calls Try.prog 6 #[.slice A n c, .int .i64 more, .slice Z l d] w fun e w' => e = .returned (.bool true) ∧ Below w.heap.size w w' := by
  by_cases he : makeE xs more = 0
  · obtain ⟨_, _, _, hm0, hm4⟩ := makeE_zero he
    obtain ⟨p, rfl⟩ := Int.eq_ofNat_of_zero_le hm0
    exact walk_ok w A n c xs hA p he Z l d ls hZ
  · have HE := Lib.hid he
    have HA0 := Lib.hid hA
    clear he hA
    go_enter Try.func6, Try.ntmps6
    go_wp2_with fail
    with_reducible refine (reedFact_any _).mono ?_
    rintro e w2 ⟨rfl, hB⟩
    go_wp2_with fail
    have hRb := (HA0.out.below hB).1
    with_reducible refine (make_bad A n c xs _ _ hRb HE.out).mono ?_
    rintro e w' ⟨rfl, rfl⟩
    go_wp2
    go_ret
    exact ⟨rfl, hB⟩

set_option maxRecDepth 100000 in
theorem lifted (os : Os) (started : os.Started) (H : Type) (enc : TypeId × Value → H) :
    ReturnsInHanded {} Try.checked os 6 .any (Rows.reedAnySpec.pre6 enc Try.prog Try.f6 Rows.reedAnyRow.domain false) (Rows.reedAnySpec.post enc Try.prog Try.f6 false true false false) := by
  refine returnsInHanded_of_change (C := Try.checked) own started (by kernel_rfl) Try.func6
    (ChangeSpec.witness6 (enc := enc) (C := Try.checked) false ⟨#[], #[.slice none 0 0, .int .i64 0, .slice none 0 0], []⟩ 8 (by kernel_rfl) (by kernel_rfl) (by kernel_rfl) (by kernel_rfl)) ?_
  intro W base args ds gs before hval0 hW hcnd _
  have hval : ∀ (j : Nat) t v, Try.f6.params[j]? = some t → args[j]? = some v → Value.okWide Try.prog W .any base t v := hval0
  have hW' := hW
  obtain ⟨p, q, hA0, hV, rfl, hfz, hnd⟩ := hW
  have hA : DataW.TrodAll enc Try.prog W 0 (fun _ => true) true Try.f6.params.toList args.toList ds p := hA0
  rw [Try.params6] at hA hval
  obtain ⟨v0, vs0, d0, ds0, p0, q0, hargs, rfl, rfl, h0, r0⟩ := trodAll_cons hA
  obtain ⟨v1, vs1, d1, ds1, p1, q1, rfl, rfl, rfl, h1, r1⟩ := trodAll_cons r0
  obtain ⟨v2, vs2, d2, ds2, p2, q2, rfl, rfl, rfl, h2, r2⟩ := trodAll_cons r1
  obtain ⟨rfl, rfl, rfl⟩ := trodAll_nil r2
  obtain rfl : args = #[v0, v1, v2] := by cases args; simp_all
  obtain ⟨rfl, rfl⟩ := trodVars_none hV
  have k0 := h0
  have lt0 : ∀ x ∈ p0, x.block < W.heap.size := by obtain ⟨m, hm⟩ := k0; exact DataW.trod_lt m _ _ _ hm
  obtain ⟨A0, n0, c0, rfl⟩ := okWide_slice Try.underlying29 (hval 0 29 v0 rfl rfl)
  obtain ⟨xs0, w0⟩ : ∃ xs, Sl W A0 n0 c0 xs := by
    obtain ⟨fuel, hf⟩ := h0
    rcases open_ints Try.underlying29 Try.underlying3 (by kernel_rfl) hf with ⟨hcs, _⟩ | ⟨x, l, c, zs, hcs, _, hl, hm, hz, _, hcell, hwz⟩
    · simp [Value.cells] at hcs
      obtain ⟨rfl, rfl, rfl⟩ := hcs
      exact ⟨[], Rd.nil _ _, Nat.le_refl _, fun _ => rfl⟩
    · simp [Value.cells] at hcs
      obtain ⟨rfl, rfl, rfl⟩ := hcs
      exact ⟨_, rd_of_cells (by simp at hz; omega) hl hm hcell hwz, hl, fun h => by cases h⟩
  have k1 := h1
  have lt1 : ∀ x ∈ p1, x.block < W.heap.size := by obtain ⟨m, hm⟩ := k1; exact DataW.trod_lt m _ _ _ hm
  obtain ⟨a1, rfl, rfl, rfl, w1⟩ := open_int Try.underlying3 (hval 1 3 v1 rfl rfl) h1
  have k2 := h2
  have lt2 : ∀ x ∈ p2, x.block < W.heap.size := by obtain ⟨m, hm⟩ := k2; exact DataW.trod_lt m _ _ _ hm
  obtain ⟨A2, n2, c2, rfl⟩ := okWide_slice Try.underlying29 (hval 2 29 v2 rfl rfl)
  obtain ⟨xs2, w2, hc2⟩ : ∃ xs, Rd W A2 n2 xs ∧ n2 ≤ c2 := by
    obtain ⟨fuel, hf⟩ := h2
    rcases open_ints Try.underlying29 Try.underlying3 (by kernel_rfl) hf with ⟨hcs, _⟩ | ⟨x, l, c, zs, hcs, _, hl, hm, hz, _, hcell, hwz⟩
    · simp [Value.cells] at hcs
      obtain ⟨rfl, rfl, rfl⟩ := hcs
      exact ⟨[], Rd.nil _ _, Nat.le_refl _⟩
    · simp [Value.cells] at hcs
      obtain ⟨rfl, rfl, rfl⟩ := hcs
      exact ⟨_, rd_of_cells (by simp at hz; omega) hl hm hcell hwz, hl⟩
  clear hA0 hval0
  refine (walk W A0 n0 c0 xs0 w0 a1 (wf_range w1) A2 n2 c2 xs2 w2 hc2).mono fun e W' ⟨he, bel⟩ => ?_
  subst he
  exact ⟨_, rfl, _, _, _, [], _, [], hW', trodAll_mk1 (shut_bool Try.underlying4 _), (trodAll_cons_mk (Below.trod laidOut (by kernel_rfl) (of_decide_eq_true (by kernel_rfl)) k0 bel lt0) (trodAll_cons_mk (Below.trod laidOut (by kernel_rfl) (of_decide_eq_true (by kernel_rfl)) k1 bel lt1) (trodAll_cons_mk (Below.trod laidOut (by kernel_rfl) (of_decide_eq_true (by kernel_rfl)) k2 bel lt2) trodAll_mk0))), rfl, bel.frame _, fun h => by cases h⟩

theorem over : Rows.reedAnyRow.holds Try.pinned (OpenSpec.ofChange Rows.reedAnySpec) :=
  OpenClaim.holds_of_wide 6 Try.f6 rfl rfl rfl rfl rfl rfl rfl ⟨rfl, rfl, rfl, rfl, rfl⟩ rfl rfl rfl rfl rfl (by kernel_rfl) Try.func6 (by kernel_rfl)
    (of_decide_eq_true (by kernel_rfl)) (by unfold Func.isWrapper; first | (rw [if_pos (by decide +kernel)]; kernel_rfl) | (rw [if_neg (by decide +kernel)]; exact ⟨rfl, rfl⟩))
    (fun os started H enc _ => lifted os started H enc)

theorem proved : Rows.ReedAnySaid := over
#print axioms proved
end Go.Proofs.Ytdhfckdnfppieaa.reedAny
