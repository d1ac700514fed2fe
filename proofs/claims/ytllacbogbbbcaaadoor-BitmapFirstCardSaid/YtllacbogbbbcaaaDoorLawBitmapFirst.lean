/- Allocation is first fit and fails only if no run of free blocks is long enough: BitmapFirst answers true at every slice of slices of ints and every int; errors.errorType is tied to the program's text. Conditions: none beside the card's own. -/
import Derived.Test.YtllacbogbbbcaaaDoorBitS
import Derived.Test.YtllacbogbbbcaaaDoorOwnB
import Derived.Test.YtllacbogbbbcaaaDoorIn
import Derived.Test.YtllacbogbbbcaaaDoorOpenD
namespace Go.Proofs.YtllacbogbbbcaaaDoor.bitmapFirst
open Go Go.ChangeShapes Go.WideShapes Go.ChangeAt Go.RowKit
set_option linter.unusedVariables false
set_option maxRecDepth 100000

def bitL (t k : Nat) : List Bool := (List.range k).map fun i => t.testBit i
theorem bitL_succ (t k : Nat) : bitL t (k + 1) = bitL t k ++ [t.testBit k] := by simp [bitL, List.range_succ]
theorem bitL_get (t : Nat) {k n : Nat} (h : k < n) : (bitL t n)[k]?.getD false = t.testBit k := by
  unfold bitL
  rw [List.getElem?_map, List.getElem?_range h]; rfl
def frB (t p : Nat) : Nat → Bool
  | 0 => true
  | m + 1 => frB t p m && !t.testBit (p + m)
theorem frB_iff (t p : Nat) : ∀ n, frB t p n = true ↔ FreeAt t p n
  | 0 => ⟨fun _ i h1 h2 => by omega, fun _ => rfl⟩
  | n + 1 => by
    unfold frB
    rw [Bool.and_eq_true, frB_iff t p n]
    constructor
    · rintro ⟨h1, h2⟩ i h3 h4
      by_cases e : i = p + n
      · subst e; simpa using h2
      · exact h1 i h3 (by omega)
    · intro h
      exact ⟨fun i h1 h2 => h i h1 (by omega), by simp [h (p + n) (by omega) (by omega)]⟩
/-- The map at b holds u, the list at g says of t. -/
def BF (w : World) (b u g t : Nat) (W wr : World) : Prop := MapAt wr b u ∧ (∀ k, k < 32 → wr.cell? ⟨g, k, none⟩ = some (.bool (t.testBit k))) ∧ Below w.heap.size W wr
theorem BF.drewN {w : World} {b u g t : Nat} {W wr : World} (h : BF w b u g t W wr) (q : Nat) : BF w b u g t W (wr.drewN q) := ⟨h.1, h.2.1, below_drewN_of h.2.2 q⟩

set_option maxHeartbeats 8000000 in
theorem walk (w : World) (A : Option Addr) (m c : Nat) (rs : List RV) (hA : RRows w A m rs) (hmc : m ≤ c) (v : Int) (hv : -9223372036854775808 ≤ v ∧ v ≤ 9223372036854775807) (hE : ErrT w) :
    Calls Tryd.prog 5 #[.slice A m c, .int .i64 v] w fun e w' => e = .returned (.bool true) ∧ Below w.heap.size w w' := by
  have HET := Lib.hid hE
  have HA := Lib.hid hA
  clear hE hA
  go_enter Tryd.func5, Tryd.ntmps5
  go_wp2_with fail
  with_reducible refine (bitmapFact_any _).mono ?_
  rintro e w1 ⟨rfl, hB⟩
  go_wp2_with fail
  have hA1 := HA.out.below hB
  with_reducible refine (taken_any A m c rs _ hA1).mono ?_
  rintro e w2 ⟨rfl, ⟨t, hM⟩, k2⟩
  have hB2 := hB.trans (k2.mono hB.size)
  have hbg := hB.size
  obtain ⟨b, hb⟩ : ∃ b, w1.heap.size = b := ⟨_, rfl⟩
  rw [hb] at hM hbg ⊢
  have HM := Lib.hid hM
  clear hb hM k2 hA1
  go_wp2_with fail
  with_reducible refine (free_any b t _ HM.out).mono ?_
  rintro e w' ⟨rfl, q, rfl⟩
  have hM3 : MapAt (w2.drewN q) b t := HM.out
  have hB3 := below_drewN_of hB2 q
  obtain ⟨W3, hW3⟩ : ∃ W, W = w2.drewN q := ⟨_, rfl⟩
  rw [← hW3] at hM3 hB3 ⊢
  have HM3 := Lib.hid hM3
  have hb3 := hM3.1.2.2
  have hmi := fun n => most_iff t n 32
  have hml := most_le t 32
  obtain ⟨MX, hMX⟩ : ∃ M, mostF t 32 = M := ⟨_, rfl⟩
  rw [hMX] at hmi hml ⊢
  have HMI := Lib.hid hmi
  clear hW3 hM3 hB2 HM hMX hmi
  go_wp2
  go_loopw [9, 10] (fun x i wr => ∃ (k : Nat) (C : Option Addr) (c' : Nat), k ≤ 32 ∧ i = .int .i64 k ∧ x = .slice C k c' ∧ OwnB wr W3.heap.size (.slice C k c') k (bitL t k) ∧ Below W3.heap.size W3 wr) (fun _ i _ => 32 - (intOf i).toNat)
  case atStart => exact ⟨0, none, 0, Nat.zero_le _, rfl, rfl, OwnB.nil _ _, Below.refl _ _⟩
  case round =>
    obtain ⟨k, C, c', hk, rfl, rfl, hown, hbel⟩ := hrel
    have hMr := HM3.out.below hbel
    have HMR := Lib.hid hMr
    clear hMr
    by_cases hlt : k < 32
    · have hkI : (k : Int) < 32 := by omega
      have hbs := bitL_succ t k
      have HBS := Lib.hid hbs
      have hhas := fun wx h => has_in b t k wx h hlt
      obtain ⟨y, hy⟩ : ∃ y, t.testBit k = y := ⟨_, rfl⟩
      rw [hy] at hhas
      have HY := Lib.hid hy
      have HH := Lib.hid hhas
      clear hbs hhas hy
      go_wp2_with fail
      with_reducible refine (HH.out _ HMR.out).mono ?_
      rintro e w' ⟨rfl, rfl⟩
      go_wp2_with (at_builtin; refine wpList_app1B rfl _ _ rfl W3.heap.size k _ (bitL t k) rfl (hown.alloc _) wr.heap.size y rfl (by simp) (by omega) (by have := hbel.size; simp; omega) ?_; intro A2 c2 w4 hown4 hbel4)
      have hq4 := hbel4 W3.heap.size W3 (Nat.le_refl _) (hbel.alloc hbel.size _)
      go_roundw
      case rel => exact ⟨k + 1, A2, c2, by omega, by go_num, rfl, by rw [HBS.out, HY.out]; exact hown4, hq4⟩
      case measure => simp [intOf]; omega
    · obtain rfl : k = 32 := by omega
      obtain ⟨g, rfl, hg0, hg1, hcell⟩ := hown.at_ (by omega)
      have hcells : ∀ j, j < 32 → wr.cell? ⟨g, j, none⟩ = some (.bool (t.testBit j)) := fun j hj => by
        rw [← bitL_get t hj]; exact hcell j hj
      have hB4 := hB3.trans (hbel.mono hB3.size)
      have HC := Lib.hid hcells
      have hgb : g ≠ b := by omega
      obtain ⟨W4, rfl⟩ : ∃ W, W = wr := ⟨wr, rfl⟩
      clear hown hcell hcells hg0 hbel
      rw [show ((32 : Nat) : Int) = 32 from rfl]
      by_cases hin : 1 ≤ v ∧ v ≤ 32
      · obtain ⟨n, rfl⟩ := Int.eq_ofNat_of_zero_le (show 0 ≤ v by omega)
        have n1 : 1 ≤ n := by omega
        have n32 : n ≤ 32 := by omega
        have n1I : (1 : Int) ≤ (n : Int) := by omega
        have n32I : (n : Int) ≤ 32 := by omega
        clear hin hv
        go_wp2_with fail
        with_reducible refine (take_any b t n _ HMR.out n1 n32).mono ?_
        rintro e w4 h
        rcases h with ⟨a, h1, h2, h3⟩ | ⟨h1, h2, h3⟩
        · obtain ⟨hfree, ha, hnof⟩ := first_is h1
          have hle : n ≤ MX := (HMI.out n).2 ⟨a, by omega, hfree⟩
          have han : a + n ≤ 32 := by omega
          have hul : t ||| runN a n < 4294967296 := or_lt HM3.out.2 (run_lt han)
          have hub := fun i => or_bit (t := t) (a := a) (n := n) (i := i)
          obtain ⟨u, hu⟩ : ∃ u, t ||| runN a n = u := ⟨_, rfl⟩
          rw [hu] at h3 hul hub
          obtain ⟨q4, rfl⟩ := h3
          subst h2
          have hbf : BF w b u g t w ((W4.drewN q4).setCell ⟨b, 0, none⟩ (.int .u32 (u : Int))) :=
            ⟨MapAt.set (w := W4.drewN q4) HMR.out hul, fun j hj => by rw [World.cell?_setCell_other _ _ _ _ (by simp)]; exact HC.out j hj, (below_drewN_of hB4 q4).setCell (p := ⟨b, 0, none⟩) hbg _⟩
          obtain ⟨W5, hW5⟩ : ∃ W, W = (W4.drewN q4).setCell ⟨b, 0, none⟩ (.int .u32 (u : Int)) := ⟨_, rfl⟩
          rw [← hW5] at hbf ⊢
          have HBF := Lib.hid hbf
          have HUB := Lib.hid hub
          have HFR := Lib.hid (And.intro hfree hnof)
          have hnm : ¬ (MX : Int) < (n : Int) := by omega
          have a0 : (0 : Int) ≤ (a : Int) := by omega
          have a1 : (a : Int) ≤ 32 - (n : Int) := by omega
          clear hW5 hbf hub hfree hnof h1 hu
          go_wp2_with fail
          with_reducible refine (in_yes _ _ _ _ n1I n32I).mono ?_
          rintro e w' ⟨rfl, rfl⟩
          go_wp2_with fail
          with_reducible refine (in_yes _ _ _ _ a0 a1).mono ?_
          rintro e w' ⟨rfl, rfl⟩
          go_wp2
          go_loopw [13] (fun i wr => ∃ k : Nat, k ≤ 32 ∧ i = .int .i64 k ∧ BF w b u g t w wr) (fun i _ => 32 - (intOf i).toNat)
          case atStart => exact ⟨0, Nat.zero_le _, rfl, HBF.out⟩
          case round =>
            obtain ⟨i, hi, rfl, hbf⟩ := hrel
            have HB2 := Lib.hid hbf
            clear hbf HBF
            by_cases hil : i < 32
            · have hiI : (i : Int) < 32 := by omega
              have gi := HB2.out.2.1 i hil
              have hhas := fun wx h => has_in b u i wx h hil
              rw [HUB.out i] at hhas
              have hself1 : (true != true) = false := rfl
              have hself0 : (false != false) = false := rfl
              by_cases hti : t.testBit i = true
              · rw [hti] at gi hhas
                rw [Bool.true_or] at hhas
                have HH := Lib.hid (fun wx => hhas wx)
                clear hti hhas
                go_wp2
                go_quiet ((go_at_call 28; exact Calls.quiet_of_same ((HH.out _ (by exact HB2.out.1)).mono fun _ _ h => ⟨h.1, h.2.symm⟩)))
                go_wp2
                go_roundw
                case rel => exact ⟨i + 1, by omega, by go_num, HB2.out.drewN _⟩
                case measure => simp [intOf]; omega
              · have htf : t.testBit i = false := by simpa using hti
                rw [htf] at gi hhas
                rw [Bool.false_or] at hhas
                clear hti htf
                by_cases hai : a ≤ i
                · have haI : (a : Int) ≤ (i : Int) := by omega
                  have haD : decide ((a : Int) ≤ (i : Int)) = true := by simp; omega
                  rw [show decide (a ≤ i) = true from decide_eq_true hai, Bool.true_and] at hhas
                  by_cases hin2 : i < a + n
                  · have hnI : (i : Int) < (a : Int) + (n : Int) := by omega
                    rw [show decide (i < a + n) = true from decide_eq_true hin2] at hhas
                    have HH := Lib.hid (fun wx => hhas wx)
                    clear hhas
                    go_wp2
                    go_quiet ((go_at_call 28; exact Calls.quiet_of_same ((HH.out _ (by exact HB2.out.1)).mono fun _ _ h => ⟨h.1, h.2.symm⟩)))
                    go_wp2
                    go_roundw
                    case rel => exact ⟨i + 1, by omega, by go_num, HB2.out.drewN _⟩
                    case measure => simp [intOf]; omega
                  · have hnD : decide ((i : Int) < (a : Int) + (n : Int)) = false := by simp; omega
                    rw [show decide (i < a + n) = false from decide_eq_false hin2] at hhas
                    have HH := Lib.hid (fun wx => hhas wx)
                    clear hhas
                    go_wp2
                    go_quiet ((go_at_call 28; exact Calls.quiet_of_same ((HH.out _ (by exact HB2.out.1)).mono fun _ _ h => ⟨h.1, h.2.symm⟩)))
                    go_wp2
                    go_roundw
                    case rel => exact ⟨i + 1, by omega, by go_num, HB2.out.drewN _⟩
                    case measure => simp [intOf]; omega
                · have haD : decide (a ≤ i) = false := decide_eq_false hai
                  have haD2 : decide ((a : Int) ≤ (i : Int)) = false := by simp; omega
                  rw [haD, Bool.false_and] at hhas
                  have HH := Lib.hid (fun wx => hhas wx)
                  clear hhas
                  go_wp2
                  go_quiet ((go_at_call 28; exact Calls.quiet_of_same ((HH.out _ (by exact HB2.out.1)).mono fun _ _ h => ⟨h.1, h.2.symm⟩)))
                  go_wp2
                  go_roundw
                  case rel => exact ⟨i + 1, by omega, by go_num, HB2.out.drewN _⟩
                  case measure => simp [intOf]; omega
            · obtain rfl : i = 32 := by omega
              rw [show ((32 : Nat) : Int) = 32 from rfl]
              go_wp2
              go_loop [14] (fun p => ∃ k : Nat, k ≤ a + 1 ∧ p = .int .i64 k) (fun p => a + 1 - (intOf p).toNat)
              case atStart => exact ⟨0, Nat.zero_le _, rfl⟩
              case round =>
                obtain ⟨p, hp, rfl⟩ := hrel
                by_cases hpa : p ≤ a
                · have hpI : (p : Int) ≤ (a : Int) := by omega
                  go_wp2
                  go_loop [15, 16] (fun f i => ∃ k : Nat, k ≤ n ∧ i = .int .i64 ((p + k : Nat) : Int) ∧ f = .bool (frB t p k)) (fun _ i => p + n - (intOf i).toNat)
                  case atStart => exact ⟨0, Nat.zero_le _, rfl, rfl⟩
                  case round =>
                    obtain ⟨k, hk, rfl, rfl⟩ := hrel
                    by_cases hkn : k < n
                    · have hkI : (p : Int) + (k : Int) < (p : Int) + (n : Int) := by omega
                      have hk32 : (p : Int) + (k : Int) < 32 := by omega
                      have hk0 : (0 : Int) ≤ (p : Int) + (k : Int) := by omega
                      have gk := HB2.out.2.1 (p + k) (by omega)
                      have hfs : frB t p (k + 1) = (frB t p k && !t.testBit (p + k)) := rfl
                      obtain ⟨y, hy⟩ : ∃ y, t.testBit (p + k) = y := ⟨_, rfl⟩
                      rw [hy] at gk hfs
                      cases hfk : frB t p k
                      · rw [hfk, Bool.false_and] at hfs
                        have HFS := Lib.hid hfs
                        clear hfs hfk hy
                        go_wp2
                        go_round
                        case rel => exact ⟨k + 1, by omega, by go_num, by rw [HFS.out]⟩
                        case measure => simp [intOf]; omega
                      · rw [hfk, Bool.true_and] at hfs
                        have HFS := Lib.hid hfs
                        clear hfs hfk hy
                        go_wp2
                        go_round
                        case rel => exact ⟨k + 1, by omega, by go_num, by rw [HFS.out]⟩
                        case measure => simp [intOf]; omega
                    · obtain rfl : k = n := by omega
                      have hkI : ¬ ((p + k : Nat) : Int) < (p : Int) + (k : Int) := by omega
                      have hkI2 : ¬ (p : Int) + (k : Int) < (p : Int) + (k : Int) := by omega
                      have hiff := frB_iff t p k
                      by_cases hpe : p = a
                      · have hft : frB t p k = true := hiff.2 (by rw [hpe]; exact HFR.out.1)
                        have hpb : ((p : Int) == (a : Int)) = true := by simp [hpe]
                        rw [hft]
                        clear hft hiff hpe
                        go_wp2
                        go_round
                        case rel => exact ⟨p + 1, by omega, by go_num⟩
                        case measure => simp [intOf]; omega
                      · have hft : frB t p k = false := by
                          rw [Bool.eq_false_iff]; intro h
                          exact HFR.out.2 p (by omega) (hiff.1 h)
                        have hpb : ((p : Int) == (a : Int)) = false := by simp; omega
                        rw [hft]
                        clear hft hiff hpe
                        go_wp2
                        go_round
                        case rel => exact ⟨p + 1, by omega, by go_num⟩
                        case measure => simp [intOf]; omega
                · have hpI : ¬ (p : Int) ≤ (a : Int) := by omega
                  have hbw := HB2.out.2.2
                  go_wp2
                  go_ret
                  exact ⟨rfl, hbw⟩
        · obtain ⟨q4, rfl⟩ := h3
          subst h2
          have hmx : MX < n := by
            apply Classical.byContradiction
            intro h
            obtain ⟨a, h4, h5⟩ := (HMI.out n).1 (by omega)
            exact first_not h1 a (by omega) h5
          have hnm : (MX : Int) < (n : Int) := by omega
          have hB5 := below_drewN_of hB4 q4
          clear h1
          go_wp2_with fail
          with_reducible refine (in_yes _ _ _ _ n1I n32I).mono ?_
          rintro e w' ⟨rfl, rfl⟩
          go_wp2_with fail
          have hT := HET.out.below hB5
          with_reducible refine (error_err 4 4 _ hT).mono ?_
          rintro e w9 ⟨rfl, k9⟩
          go_wp2
          go_ret
          exact ⟨rfl, hB5.trans (k9.mono hB5.size)⟩
      · have hno : v < 1 ∨ 32 < v := by omega
        go_wp2_with fail
        with_reducible refine (take_range b v _ hno).mono ?_
        rintro e w' ⟨rfl, rfl⟩
        go_wp2_with fail
        with_reducible refine (in_no _ _ _ _ hno).mono ?_
        rintro e w' ⟨rfl, rfl⟩
        go_wp2_with fail
        have hT := HET.out.below hB4
        with_reducible refine (error_err 1 1 _ hT).mono ?_
        rintro e w9 ⟨rfl, k9⟩
        go_wp2
        go_ret
        exact ⟨rfl, hB4.trans (k9.mono hB4.size)⟩

set_option maxRecDepth 100000 in
theorem lifted (os : Os) (started : os.Started) (H : Type) (enc : TypeId × Value → H) :
    ReturnsInHanded {} Tryd.checked os 5 .any (fun w args => (Rows.bitmapFirstSpec.pre enc Tryd.prog Tryd.f5 [] false w args ∧ laidMetH Tryd.prog Rows.bitmapFirstRow.laid w) ∧ sizedMet enc Tryd.prog Tryd.f5 (OpenSpec.ofChange Rows.bitmapFirstSpec) false w args)
      (Rows.bitmapFirstSpec.post enc Tryd.prog Tryd.f5 false true false false) := by
  refine returnsInHanded_of_change_and (C := Tryd.checked) (X := fun w _ => laidMetH Tryd.prog Rows.bitmapFirstRow.laid w) (fun _ _ _ hh h => h.of_heap hh) own started (by kernel_rfl) Tryd.func5
    (ChangeSpec.witness_at (enc := enc) (C := Tryd.checked) (os := os) (X := fun w _ => laidMetH Tryd.prog Rows.bitmapFirstRow.laid w) false (laidWorld os) #[.slice none 0 0, .int .i64 0] 8 rfl (by kernel_rfl) (by kernel_rfl) (by kernel_rfl) (by kernel_rfl) (by kernel_rfl) (laidWorld_met os _)) ?_
  intro W base args ds gs before hval0 hW _ _ hL _
  have hval : ∀ (j : Nat) t v, Tryd.f5.params[j]? = some t → args[j]? = some v → Value.okWide Tryd.prog W .any base t v := hval0
  have hW' := hW
  obtain ⟨p, q, hA0, hV, rfl, hfz, hnd⟩ := hW
  have hA : DataW.TrodAll enc Tryd.prog W 0 (fun _ => true) true Tryd.f5.params.toList args.toList ds p := hA0
  rw [Tryd.params5] at hA hval
  obtain ⟨v0, vs0, d0, ds0, p0, q0, hargs, rfl, rfl, h0, r0⟩ := trodAll_cons hA
  obtain ⟨v1, vs1, d1, ds1, p1, q1, rfl, rfl, rfl, h1, r1⟩ := trodAll_cons r0
  obtain ⟨rfl, rfl, rfl⟩ := trodAll_nil r1
  obtain rfl : args = #[v0, v1] := by cases args; simp_all
  obtain ⟨rfl, rfl⟩ := trodVars_none hV
  have k0 := h0
  have lt0 : ∀ x ∈ p0, x.block < W.heap.size := by obtain ⟨m, hm⟩ := k0; exact DataW.trod_lt m _ _ _ hm
  obtain ⟨A0, n0, c0, rfl⟩ := okWide_slice Tryd.underlying23 (hval 0 23 v0 rfl rfl)
  obtain ⟨rs0, w0, hc0⟩ : ∃ rs, RRows W A0 n0 rs ∧ n0 ≤ c0 := by
    obtain ⟨fuel, hf⟩ := h0
    rcases Go.Deep.open_int_rows Tryd.underlying23 Tryd.underlying22 Tryd.underlying3 (by kernel_rfl) (by kernel_rfl) hf with ⟨hcs, _⟩ | ⟨x, l, c, AA, LL, CC, ZZ, hcs, _, hl, hm, _, hrow⟩
    · simp [Value.cells] at hcs
      obtain ⟨rfl, rfl, rfl⟩ := hcs
      exact ⟨[], rrows_nil _ _, Nat.le_refl _⟩
    · simp [Value.cells] at hcs
      obtain ⟨rfl, rfl, rfl⟩ := hcs
      exact ⟨_, rrows_of_cells hl hm hrow, hl⟩
  have k1 := h1
  have lt1 : ∀ x ∈ p1, x.block < W.heap.size := by obtain ⟨m, hm⟩ := k1; exact DataW.trod_lt m _ _ _ hm
  obtain ⟨a1, rfl, rfl, rfl, w1⟩ := open_int Tryd.underlying3 (hval 1 3 v1 rfl rfl) h1
  clear hA0 hval0
  refine (walk W A0 n0 c0 rs0 w0 hc0 a1 (wf_range w1) (handle_of_laid hL)).mono fun e W' ⟨he, bel⟩ => ?_
  subst he
  exact ⟨_, rfl, _, _, _, [], _, [], hW', trodAll_mk1 (shut_bool Tryd.underlying4 _), (trodAll_cons_mk (Below.trod laidOut (by kernel_rfl) (of_decide_eq_true (by kernel_rfl)) k0 bel lt0) (trodAll_cons_mk (Below.trod laidOut (by kernel_rfl) (of_decide_eq_true (by kernel_rfl)) k1 bel lt1) trodAll_mk0)), rfl, bel.frame _, fun h => by cases h⟩

theorem over : Rows.bitmapFirstRow.holds Tryd.pinned (OpenSpec.ofChange Rows.bitmapFirstSpec) :=
  OpenClaim.holds_of_wide 5 Tryd.f5 rfl rfl rfl rfl rfl rfl rfl ⟨rfl, rfl, rfl, rfl, rfl⟩ rfl rfl rfl rfl rfl (by kernel_rfl) Tryd.func5 (by kernel_rfl)
    (of_decide_eq_true (by kernel_rfl)) (by unfold Func.isWrapper; first | (rw [if_pos (by decide +kernel)]; kernel_rfl) | (rw [if_neg (by decide +kernel)]; exact ⟨rfl, rfl⟩))
    (fun os started H enc _ => lifted os started H enc)

theorem card_holds : Rows.BitmapFirstCardSaid :=
  Claim7.holds_tied_plain_at .later [] [.handle] true Rows.bitmapFirstCard.stood.harness Rows.bitmapFirstCard.stood.looks
    over (fun _ h => by cases h) (by kernel_rfl) (fun _ h => by cases h) bitmapFirst_row_tie rfl ⟨rfl, rfl⟩ (by kernel_rfl) rfl
    (fun f fn hf hfn => by
      obtain rfl : f = 5 := Option.some.inj ((show Tryd.prog.funcNamed "platterhold/platterholdlaw1.BitmapFirst" = some 5 by kernel_rfl).symm.trans hf) |>.symm
      obtain rfl : fn = Tryd.f5 := (Option.some.inj (Tryd.func5.symm.trans hfn)).symm
      exact ⟨by kernel_rfl, fun j t ht => by
        rw [Tryd.params5] at ht
        have hm : t ∈ [23, 3] := by simpa using Array.mem_of_getElem? ht
        have hall : ([23, 3].all fun u => !Tryd.prog.wantsStandIn u) = true := by kernel_rfl
        exact (show Tryd.prog.wantsStandIn t = false by simpa using List.all_eq_true.1 hall t hm)⟩)
    (by kernel_rfl)
theorem proved : Rows.BitmapFirstCardSaid := card_holds
#print axioms proved
end Go.Proofs.YtllacbogbbbcaaaDoor.bitmapFirst
