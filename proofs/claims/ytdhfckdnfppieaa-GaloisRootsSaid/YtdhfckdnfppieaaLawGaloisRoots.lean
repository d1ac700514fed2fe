/- A nonzero polynomial has fewer roots than coefficients: GaloisRoots answers true at every slice of ints. Conditions: none beside the row's own. -/
import Derived.Test.YtdhfckdnfppieaaAt
import Derived.Test.YtdhfckdnfppieaaGaloisLaw
import Derived.Test.YtdhfckdnfppieaaRBytes
import Derived.Test.YtdhfckdnfppieaaOpen
namespace Go.Proofs.Ytdhfckdnfppieaa.galoisRoots
open Go Go.ChangeShapes Go.WideShapes Go.ChangeAt Go.RowKit
set_option linter.unusedVariables false
set_option maxRecDepth 20000

def nats (zs : List Int) : List Nat := zs.map Int.toNat
theorem nats_byt {zs : List Int} (h : ∀ x ∈ zs, 0 ≤ x ∧ x ≤ 255) : Byt (nats zs) := by
  intro b hb
  obtain ⟨x, hx, rfl⟩ := List.mem_map.1 hb
  have := h x hx; omega
theorem horn_eval {zs : List Int} (h : ∀ x ∈ zs, 0 ≤ x ∧ x ≤ 255) (x : Nat) : horn (x : Int) zs = ((evalN (nats zs) x : Nat) : Int) := by
  induction zs with
  | nil => rfl
  | cons f r ih =>
    have ih := ih (fun y hy => h y (by simp [hy]))
    show xorI (mulI (horn (x : Int) r) x) f = ((f.toNat ^^^ mulN (evalN (nats r) x) x : Nat) : Int)
    rw [ih]
    unfold xorI mulI
    rw [Int.toNat_natCast, Int.toNat_natCast, Int.toNat_natCast, Nat.xor_comm]
/-- The roots below k. -/
def rts (zs : List Int) (k : Nat) : List Nat := (List.range k).filter fun x => horn (x : Int) zs = 0
theorem rts_succ (zs : List Int) (k : Nat) : rts zs (k + 1) = rts zs k ++ (if horn (k : Int) zs = 0 then [k] else []) := by
  unfold rts
  rw [List.range_succ, List.filter_append]
  by_cases h : horn (k : Int) zs = 0 <;> simp [h]
theorem rts_len (zs : List Int) (k : Nat) : (rts zs k).length ≤ k := by
  unfold rts
  have := List.length_filter_le (fun x : Nat => decide (horn (x : Int) zs = 0)) (List.range k)
  rw [List.length_range] at this; exact this
def allZ (zs : List Int) : Bool := zs.all fun y => y == 0
theorem allZ_snoc (zs : List Int) (y : Int) : allZ (zs ++ [y]) = (allZ zs && y == 0) := by simp [allZ]
theorem law_zero {zs : List Int} (h : ∀ x ∈ zs, 0 ≤ x ∧ x ≤ 255) (hz : allZ zs = true) : (rts zs 256).length = 256 := by
  have hz' : AllZ (nats zs) := by
    intro b hb
    obtain ⟨x, hx, rfl⟩ := List.mem_map.1 hb
    unfold allZ at hz
    rw [List.all_eq_true] at hz
    have := hz x hx
    simp at this; subst this; rfl
  unfold rts
  rw [List.filter_eq_self.2 (fun x hx => by rw [horn_eval h, evalN_zero hz']; simp), List.length_range]
theorem law_roots {zs : List Int} (h : ∀ x ∈ zs, 0 ≤ x ∧ x ≤ 255) (hz : allZ zs = false) : (rts zs 256).length < zs.length := by
  refine roots_lt zs.length (l := nats zs) (by simp [nats]) (nats_byt h) (fun hh => ?_) ?_ ?_ ?_
  · have : allZ zs = true := by
      unfold allZ
      rw [List.all_eq_true]
      intro x hx
      have h1 := hh _ (List.mem_map_of_mem hx)
      have h2 := h x hx
      simp; omega
    rw [hz] at this; cases this
  · exact List.Pairwise.filter _ List.nodup_range
  · intro b hb
    have := List.mem_range.1 (List.mem_filter.1 hb).1
    exact this
  · intro r hr
    have h1 := (List.mem_filter.1 hr).2
    rw [horn_eval h] at h1
    simp at h1
    omega

set_option maxHeartbeats 4000000 in
theorem walk_ok (w : World) (A : Option Addr) (n c : Nat) (xs : List Int) (hA : Rd w A n xs) (hE : bytesE xs 16 = 0) :
    Calls Try.prog 5 #[.slice A n c] w fun e w' => e = .returned (.bool true) ∧ Below w.heap.size w w' := by
  obtain ⟨h16, hall⟩ := bytesE_zero.1 hE
  have hl := hA.len
  rw [hl] at h16
  have hn16 : n ≤ 16 := by omega
  have hx := allB_mem.1 hall
  have hz := fun j => bz hall j
  have HH := Lib.hid (And.intro hall (And.intro hx (And.intro hz hl)))
  clear hall hx hz hl hE
  go_enter Try.func5, Try.ntmps5
  go_wp2_with fail
  with_reducible refine (galoisFact_any _).mono ?_
  rintro e w1 ⟨rfl, hB⟩
  go_wp2
  go_loopw [4, 5] (fun m i wr => ∃ k : Nat, k ≤ 256 ∧ i = .int .i64 k ∧ m = .int .i64 (((rts xs k).length : Nat) : Int) ∧ Below w.heap.size w wr) (fun _ i _ => 256 - (intOf i).toNat)
  case atStart => exact ⟨0, by omega, rfl, rfl, hB⟩
  case round =>
    obtain ⟨k, hk, rfl, rfl, hbel⟩ := hrel
    have hrl := rts_len xs k
    have hrs := rts_succ xs k
    by_cases hlt : k < 256
    · have hkI : (k : Int) < 256 := by omega
      have hbk : Byte (k : Int) := ⟨by omega, by omega⟩
      have hAr := hA.below hbel
      obtain ⟨M, hM⟩ : ∃ M, (rts xs k).length = M := ⟨_, rfl⟩
      rw [hM] at hrl ⊢
      have HR := Lib.hid (And.intro hrs hM)
      have HBK := Lib.hid hbk
      clear hrs hM hbk
      obtain ⟨v, hv⟩ : ∃ v, horn (k : Int) xs = v := ⟨_, rfl⟩
      have HV := Lib.hid hv
      clear hv
      go_wp2_with fail
      with_reducible refine (at_ok _ _ _ xs (k : Int) _ hAr hn16 HH.out.1 HH.out.2.2.1 HBK.out).mono ?_
      rintro e w2 ⟨rfl, k2⟩
      rw [atI_horn HH.out.2.2.2, HV.out]
      have hB2 := hbel.trans (k2.mono hbel.size)
      by_cases hv0 : v = 0
      · subst hv0
        have hln : (rts xs (k + 1)).length = M + 1 := by rw [HR.out.1, if_pos HV.out, List.length_append, HR.out.2]; rfl
        have HL := Lib.hid hln
        clear hln
        go_wp2
        go_roundw
        case rel => exact ⟨k + 1, by omega, by go_num, by rw [HL.out]; go_num, hB2⟩
        case measure => simp [intOf]; omega
      · have hln : (rts xs (k + 1)).length = M := by rw [HR.out.1, if_neg (by rw [HV.out]; exact hv0), List.append_nil, HR.out.2]
        have HL := Lib.hid hln
        have hvb : (v == 0) = false := by simpa using hv0
        clear hln hv0
        go_wp2
        go_roundw
        case rel => exact ⟨k + 1, by omega, by go_num, by rw [HL.out], hB2⟩
        case measure => simp [intOf]; omega
    · obtain rfl : k = 256 := by omega
      have hzero := fun h => law_zero HH.out.2.1 h
      have hroots := fun h => law_roots HH.out.2.1 h
      obtain ⟨M, hM⟩ : ∃ M, (rts xs 256).length = M := ⟨_, rfl⟩
      rw [hM] at hrl hzero hroots ⊢
      rw [HH.out.2.2.2] at hroots
      rw [show ((256 : Nat) : Int) = 256 from rfl]
      have HZ := Lib.hid (And.intro hzero hroots)
      have hAr := hA.below hbel
      clear hrs hzero hroots hM
      go_wp2
      go_loop [8, 9] (fun b i => ∃ (j : Nat) (bb : Bool), j ≤ n ∧ i = .int .i64 j ∧ b = .bool bb ∧ allZ (xs.take j) = bb) (fun _ i => n - (intOf i).toNat)
      case atStart => exact ⟨0, true, Nat.zero_le _, rfl, rfl, rfl⟩
      case round =>
        obtain ⟨j, bb, hj, rfl, rfl, hbb⟩ := hrel
        by_cases hjn : j < n
        · have hjI : (j : Int) < (n : Int) := by omega
          obtain ⟨b, off, rfl, hbl, hcc⟩ := hAr.at_ (by omega)
          have c1 := hcc j hjn
          have hsn : xs.take (j + 1) = xs.take j ++ [xs[j]?.getD 0] := by
            rw [List.take_succ_eq_append_getElem (by rw [HH.out.2.2.2]; exact hjn), List.getElem?_eq_getElem (by rw [HH.out.2.2.2]; exact hjn)]; rfl
          have has := allZ_snoc (xs.take j) (xs[j]?.getD 0)
          rw [← hsn, hbb] at has
          obtain ⟨y, hy⟩ : ∃ y, xs[j]?.getD 0 = y := ⟨_, rfl⟩
          rw [hy] at c1 has
          have HS := Lib.hid has
          clear hcc hsn has hy hbb
          cases bb
          · go_wp2
            go_round
            case rel => exact ⟨j + 1, false, by omega, by go_num, rfl, by rw [HS.out]; rfl⟩
            case measure => simp [intOf]; omega
          · by_cases hy0 : y = 0
            · subst hy0
              go_wp2
              go_round
              case rel => exact ⟨j + 1, true, by omega, by go_num, rfl, by rw [HS.out]; rfl⟩
              case measure => simp [intOf]; omega
            · have hyb : (y == 0) = false := by simpa using hy0
              have HYB := Lib.hid hyb
              clear hy0
              go_wp2
              go_round
              case rel => exact ⟨j + 1, false, by omega, by go_num, rfl, by rw [HS.out, HYB.out]; rfl⟩
              case measure => simp [intOf]; omega
        · obtain rfl : j = n := by omega
          rw [List.take_of_length_le (by rw [HH.out.2.2.2]; omega)] at hbb
          have hjI : ¬ (j : Int) < (j : Int) := by omega
          cases bb
          · have hr := HZ.out.2 hbb
            have hMI : (M : Int) < (j : Int) := by omega
            clear hbb
            go_wp2
            go_ret
            exact ⟨rfl, hbel⟩
          · obtain rfl : M = 256 := HZ.out.1 hbb
            rw [show ((256 : Nat) : Int) = 256 from rfl]
            clear hbb
            go_wp2
            go_ret
            exact ⟨rfl, hbel⟩

set_option maxHeartbeats 2000000 in
theorem walk (w : World) (A : Option Addr) (n c : Nat) (xs : List Int) (hA : Rd w A n xs) (hc : n ≤ c) :
    Calls Try.prog 5 #[.slice A n c] w fun e w' => e = .returned (.bool true) ∧ Below w.heap.size w w' := by
  by_cases hE : bytesE xs 16 = 0
  · exact walk_ok w A n c xs hA hE
  · obtain ⟨E, hEE⟩ : ∃ E, bytesE xs 16 = E := ⟨_, rfl⟩
    have HE := Lib.hid (And.intro hE hEE)
    rw [hEE] at hE
    have hEb : (E != 0) = true := by simpa using hE
    clear hE hEE
    go_enter Try.func5, Try.ntmps5
    go_wp2_with fail
    with_reducible refine (galoisFact_any _).mono ?_
    rintro e w2 ⟨rfl, hB⟩
    go_wp2
    go_loopw [4, 5] (fun m i wr => i = .int .i64 0 ∧ m = .int .i64 0 ∧ Below w.heap.size w wr) (fun _ _ _ => 0)
    case atStart => exact ⟨rfl, rfl, hB⟩
    case round =>
      obtain ⟨rfl, rfl, hbel⟩ := hrel
      have hAr := hA.below hbel
      go_wp2_with fail
      with_reducible refine (at_full _ _ _ xs 0 _ hAr HE.out.1).mono ?_
      rintro e w2 ⟨rfl, k2⟩
      rw [HE.out.2]
      have hB2 := hbel.trans (k2.mono hbel.size)
      have hA2 := hA.below hB2
      go_wp2_with fail
      with_reducible refine (rbytes_any _ _ _ _ xs _ hA2).mono ?_
      rintro e w' ⟨rfl, rfl⟩
      rw [HE.out.2]
      go_wp2
      go_ret
      exact ⟨rfl, hB2⟩

set_option maxRecDepth 100000 in
theorem lifted (os : Os) (started : os.Started) (H : Type) (enc : TypeId × Value → H) :
    ReturnsInHanded {} Try.checked os 5 .any (Rows.galoisRootsSpec.pre6 enc Try.prog Try.f5 Rows.galoisRootsRow.domain false) (Rows.galoisRootsSpec.post enc Try.prog Try.f5 false true false false) := by
  refine returnsInHanded_of_change (C := Try.checked) own started (by kernel_rfl) Try.func5
    (ChangeSpec.witness6 (enc := enc) (C := Try.checked) false ⟨#[], #[.slice none 0 0], []⟩ 8 (by kernel_rfl) (by kernel_rfl) (by kernel_rfl) (by kernel_rfl)) ?_
  intro W base args ds gs before hval0 hW hcnd _
  have hval : ∀ (j : Nat) t v, Try.f5.params[j]? = some t → args[j]? = some v → Value.okWide Try.prog W .any base t v := hval0
  have hW' := hW
  obtain ⟨p, q, hA0, hV, rfl, hfz, hnd⟩ := hW
  have hA : DataW.TrodAll enc Try.prog W 0 (fun _ => true) true Try.f5.params.toList args.toList ds p := hA0
  rw [Try.params5] at hA hval
  obtain ⟨v0, vs0, d0, ds0, p0, q0, hargs, rfl, rfl, h0, r0⟩ := trodAll_cons hA
  obtain ⟨rfl, rfl, rfl⟩ := trodAll_nil r0
  obtain rfl : args = #[v0] := by cases args; simp_all
  obtain ⟨rfl, rfl⟩ := trodVars_none hV
  have k0 := h0
  have lt0 : ∀ x ∈ p0, x.block < W.heap.size := by obtain ⟨m, hm⟩ := k0; exact DataW.trod_lt m _ _ _ hm
  obtain ⟨A0, n0, c0, rfl⟩ := okWide_slice Try.underlying29 (hval 0 29 v0 rfl rfl)
  obtain ⟨xs0, w0, hc0⟩ : ∃ xs, Rd W A0 n0 xs ∧ n0 ≤ c0 := by
    obtain ⟨fuel, hf⟩ := h0
    rcases open_ints Try.underlying29 Try.underlying3 (by kernel_rfl) hf with ⟨hcs, _⟩ | ⟨x, l, c, zs, hcs, _, hl, hm, hz, _, hcell, hwz⟩
    · simp [Value.cells] at hcs
      obtain ⟨rfl, rfl, rfl⟩ := hcs
      exact ⟨[], Rd.nil _ _, Nat.le_refl _⟩
    · simp [Value.cells] at hcs
      obtain ⟨rfl, rfl, rfl⟩ := hcs
      exact ⟨_, rd_of_cells (by simp at hz; omega) hl hm hcell hwz, hl⟩
  clear hA0 hval0
  refine (walk W A0 n0 c0 xs0 w0 hc0).mono fun e W' ⟨he, bel⟩ => ?_
  subst he
  exact ⟨_, rfl, _, _, _, [], _, [], hW', trodAll_mk1 (shut_bool Try.underlying4 _), (trodAll_cons_mk (Below.trod laidOut (by kernel_rfl) (of_decide_eq_true (by kernel_rfl)) k0 bel lt0) trodAll_mk0), rfl, bel.frame _, fun h => by cases h⟩

theorem over : Rows.galoisRootsRow.holds Try.pinned (OpenSpec.ofChange Rows.galoisRootsSpec) :=
  OpenClaim.holds_of_wide 5 Try.f5 rfl rfl rfl rfl rfl rfl rfl ⟨rfl, rfl, rfl, rfl, rfl⟩ rfl rfl rfl rfl rfl (by kernel_rfl) Try.func5 (by kernel_rfl)
    (of_decide_eq_true (by kernel_rfl)) (by unfold Func.isWrapper; first | (rw [if_pos (by decide +kernel)]; kernel_rfl) | (rw [if_neg (by decide +kernel)]; exact ⟨rfl, rfl⟩))
    (fun os started H enc _ => lifted os started H enc)

theorem proved : Rows.GaloisRootsSaid := over
#print axioms proved
end Go.Proofs.Ytdhfckdnfppieaa.galoisRoots
