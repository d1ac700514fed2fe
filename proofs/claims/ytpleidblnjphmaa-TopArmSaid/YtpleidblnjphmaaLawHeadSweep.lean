/- A sweep turns at most once and goes at most to both ends: HeadSweep answers true. -/
import Derived.Test.YtpleidblnjphmaaSweepQ
import Derived.Test.YtpleidblnjphmaaHeadF
import Derived.Test.YtpleidblnjphmaaOpen
import Derived.Deep.QuietTactic
import Derived.BigQuiet
namespace Go.Proofs.Ytpleidblnjphmaa.headSweep
open Go Go.ChangeShapes Go.WideShapes Go.ChangeAt Go.RowKit
set_option linter.unusedVariables false
set_option maxRecDepth 100000

def lowS (a : Int) (L : List Int) : Int := L.foldl (fun s x => if x < s then x else s) a
def highS (a : Int) (L : List Int) : Int := L.foldl (fun s x => if x > s then x else s) a
theorem lowS_snoc (a x : Int) (L : List Int) : lowS a (L ++ [x]) = if x < lowS a L then x else lowS a L := by unfold lowS; rw [List.foldl_append]; rfl
theorem highS_snoc (a x : Int) (L : List Int) : highS a (L ++ [x]) = if x > highS a L then x else highS a L := by unfold highS; rw [List.foldl_append]; rfl
theorem lowS_spec : ∀ (L : List Int) (a : Int), lowS a L ≤ a ∧ (∀ x ∈ L, lowS a L ≤ x) ∧ (lowS a L = a ∨ lowS a L ∈ L)
  | [], a => ⟨Int.le_refl _, by simp, Or.inl rfl⟩
  | y :: r, a => by
    have e : lowS a (y :: r) = lowS (if y < a then y else a) r := rfl
    rw [e]
    by_cases h : y < a
    · rw [if_pos h]
      obtain ⟨h1, h2, h3⟩ := lowS_spec r y
      refine ⟨by omega, fun x hx => ?_, ?_⟩
      · rcases List.mem_cons.1 hx with rfl | hx
        · exact h1
        · exact h2 x hx
      · rcases h3 with h3 | h3
        · rw [h3]; simp
        · exact Or.inr (List.mem_cons_of_mem _ h3)
    · rw [if_neg h]
      obtain ⟨h1, h2, h3⟩ := lowS_spec r a
      refine ⟨by omega, fun x hx => ?_, ?_⟩
      · rcases List.mem_cons.1 hx with rfl | hx
        · omega
        · exact h2 x hx
      · rcases h3 with h3 | h3
        · exact Or.inl h3
        · exact Or.inr (List.mem_cons_of_mem _ h3)
theorem highS_spec : ∀ (L : List Int) (a : Int), a ≤ highS a L ∧ (∀ x ∈ L, x ≤ highS a L) ∧ (highS a L = a ∨ highS a L ∈ L)
  | [], a => ⟨Int.le_refl _, by simp, Or.inl rfl⟩
  | y :: r, a => by
    have e : highS a (y :: r) = highS (if y > a then y else a) r := rfl
    rw [e]
    by_cases h : y > a
    · rw [if_pos h]
      obtain ⟨h1, h2, h3⟩ := highS_spec r y
      refine ⟨by omega, fun x hx => ?_, ?_⟩
      · rcases List.mem_cons.1 hx with rfl | hx
        · exact h1
        · exact h2 x hx
      · rcases h3 with h3 | h3
        · rw [h3]; simp
        · exact Or.inr (List.mem_cons_of_mem _ h3)
    · rw [if_neg h]
      obtain ⟨h1, h2, h3⟩ := highS_spec r a
      refine ⟨by omega, fun x hx => ?_, ?_⟩
      · rcases List.mem_cons.1 hx with rfl | hx
        · omega
        · exact h2 x hx
      · rcases h3 with h3 | h3
        · exact Or.inl h3
        · exact Or.inr (List.mem_cons_of_mem _ h3)
theorem lowS_trk {a : Int} {L : List Int} (ha : Trk a) (h : ∀ x ∈ L, Trk x) : Trk (lowS a L) := by
  rcases (lowS_spec L a).2.2 with e | e
  · rw [e]; exact ha
  · exact h _ e
theorem highS_trk {a : Int} {L : List Int} (ha : Trk a) (h : ∀ x ∈ L, Trk x) : Trk (highS a L) := by
  rcases (highS_spec L a).2.2 with e | e
  · rw [e]; exact ha
  · exact h _ e
def stS (a : Int) (up : Bool) (L : List Int) : Int × Bool × Nat := L.foldl step (a, up, 0)
theorem stS_snoc (a : Int) (up : Bool) (L : List Int) (x : Int) : stS a up (L ++ [x]) = step (stS a up L) x := by unfold stS; rw [List.foldl_append]; rfl
theorem step_le (s : Int × Bool × Nat) (x : Int) : (step s x).2.2 ≤ s.2.2 + 1 := by
  unfold step
  split
  · exact Nat.le_refl _
  · exact Nat.le_succ _
theorem fold_le : ∀ (L : List Int) (s : Int × Bool × Nat), (L.foldl step s).2.2 ≤ s.2.2 + L.length
  | [], s => Nat.le_refl _
  | x :: r, s => by
    have h1 := fold_le r (step s x)
    have h2 := step_le s x
    rw [List.foldl_cons, List.length_cons]; omega
theorem stS_le (a : Int) (up : Bool) (L : List Int) : (stS a up L).2.2 ≤ L.length := by
  have := fold_le L (a, up, 0)
  simpa [stS] using this
theorem step_dt {t wa : Int} {tu : Nat} (h : t < wa) : step (wa, true, tu) t = (t, false, tu + 1) := by
  unfold step; rw [if_pos]
  · rfl
  · constructor <;> simp <;> omega
theorem step_df {t wa : Int} {tu : Nat} (h : t < wa) : step (wa, false, tu) t = (t, false, tu) := by
  unfold step; rw [if_neg]; simp; omega
theorem step_ut {t wa : Int} {tu : Nat} (h : wa < t) : step (wa, true, tu) t = (t, true, tu) := by
  unfold step; rw [if_neg]; simp; omega
theorem step_uf {t wa : Int} {tu : Nat} (h : wa < t) : step (wa, false, tu) t = (t, true, tu + 1) := by
  unfold step; rw [if_pos]
  · rfl
  · constructor <;> simp <;> omega
theorem step_eq {t : Int} {ri : Bool} {tu : Nat} : step (t, ri, tu) t = (t, ri, tu) := by
  unfold step; rw [if_neg]; simp
theorem take_trk {xs : List Int} (h : ∀ x ∈ xs, Trk x) (k : Nat) : ∀ x ∈ xs.take k, Trk x := fun x hx => h x (List.mem_of_mem_take hx)

set_option maxHeartbeats 4000000 in
theorem walk (w : World) (a : Int) (ha : -9223372036854775808 ≤ a ∧ a ≤ 9223372036854775807) (up : Bool) (A : Option Addr) (n c : Nat) (xs : List Int) (hA : Rd w A n xs) (hc : n ≤ c) :
    Calls Try.prog 7 #[.int .i64 a, .bool up, .slice A n c] w fun e w' => e = .returned (.bool true) ∧ Below w.heap.size w w' := by
  by_cases hE : headE a xs = 0
  · obtain ⟨h20, htr, hall⟩ := headE_zero hE
    have hl := hA.len
    have hxr := trk_all hall
    have hn20 : n ≤ 20 := by omega
    have a0 := htr.1
    have a1 := htr.2
    have H0 := Lib.hid (And.intro hl (And.intro hxr (And.intro hE htr)))
    clear hE hl hxr hall htr h20 ha
    go_enter Try.func7, Try.ntmps7
    go_wp2_with fail
    with_reducible refine (headFact_any _).mono ?_
    rintro e w1 ⟨rfl, hB1⟩
    have hA1 := hA.below hB1
    have hsw := sweep_ok A n c xs a up w1 hA1 H0.out.2.2.1
    have HSW := Lib.hid hsw
    clear hsw
    go_wp2_with fail
    with_reducible refine HSW.out.mono ?_
    rintro e w2 ⟨A', c', rfl, hown, hB2⟩
    have hB := hB1.trans (hB2.mono hB1.size)
    have hA2 := hA.below hB
    clear HSW hA1 hB1 hB2
    by_cases hn0 : n = 0
    · subst hn0
      obtain rfl : xs = [] := List.length_eq_zero_iff.1 H0.out.1
      rw [show farI a (sweepL a up []) = 0 from by
        have e : sweepL a up [] = [] := List.eq_nil_of_length_eq_zero (by rw [sweepL_length]; rfl)
        rw [e]; rfl]
      go_wp2
      go_ret
      exact ⟨rfl, hB⟩
    · have hnI : ((n : Int) == 0) = false := by simp; omega
      have hsl := sweepL_length a up xs
      rw [H0.out.1] at hsl
      have hsm : ∀ x ∈ sweepL a up xs, Trk x := fun x hx => H0.out.2.1 x ((sweepL_perm a up xs x).1 hx)
      have hrs : Rd w2 A' n (sweepL a up xs) := hown.rd (by omega) (fun x hx => by have := hsm x hx; unfold Trk at this; omega)
      have hfar := sweep_far (a := a) (up := up) (xs := xs) (lowS_spec xs a).1 (lowS_spec xs a).2.1 (lowS_spec xs a).2.2 (highS_spec xs a).1 (highS_spec xs a).2.1 (highS_spec xs a).2.2
      have htn : (stS a up (sweepL a up xs)).2.2 ≤ 1 := sweep_turns a up xs
      obtain ⟨F, hF⟩ : ∃ F, farI a (sweepL a up xs) = F := ⟨_, rfl⟩
      obtain ⟨L, hL⟩ : ∃ L, sweepL a up xs = L := ⟨_, rfl⟩
      rw [hF] at hfar
      rw [hF]
      rw [hL] at hrs hsm hsl htn
      have hFb := farI_L a (sweepL a up xs)
      have HL := Lib.hid (And.intro hsm (And.intro hsl (And.intro hfar htn)))
      clear hown hsm hsl hL hF hfar htn hA hFb
      go_wp2
      go_loopw [11, 12, 13] (fun lo hi i wr => ∃ k : Nat, k ≤ n ∧ i = .int .i64 k ∧ lo = .int .i64 (lowS a (xs.take k)) ∧ hi = .int .i64 (highS a (xs.take k)) ∧ ∃ q, wr = w2.drewN q) (fun _ _ i _ => n - (intOf i).toNat)
      case atStart => exact ⟨0, Nat.zero_le _, rfl, rfl, rfl, 0, rfl⟩
      case round =>
        obtain ⟨k, hk, rfl, rfl, rfl, q, rfl⟩ := hrel
        by_cases hlt : k < n
        · have hkI : (k : Int) < (n : Int) := by omega
          obtain ⟨b, off, rfl, hbl, hcc⟩ := hA2.at_ (by omega)
          have g1 := hcc k hlt
          have hsn := take_snoc (xs := xs) (k := k) (by rw [H0.out.1]; exact hlt)
          have ht := trk_get H0.out.2.1 k
          obtain ⟨t, hte⟩ : ∃ t, xs[k]?.getD 0 = t := ⟨_, rfl⟩
          rw [hte] at g1 hsn ht
          obtain ⟨t0, t1⟩ := ht
          have hlo := lowS_snoc a t (xs.take k)
          have hhi := highS_snoc a t (xs.take k)
          rw [hsn] at hlo hhi
          have hl1 := (lowS_spec (xs.take k) a).1
          have hl2 := (highS_spec (xs.take k) a).1
          obtain ⟨lo, hlE⟩ : ∃ lo, lowS a (xs.take k) = lo := ⟨_, rfl⟩
          obtain ⟨hi, hhE⟩ : ∃ hi, highS a (xs.take k) = hi := ⟨_, rfl⟩
          rw [hlE] at hlo hl1
          rw [hhE] at hhi hl2
          rw [hlE, hhE]
          have HH := Lib.hid (And.intro hlo hhi)
          clear hcc hte hsn hlo hhi hlE hhE
          by_cases h1 : t < lo
          · have h2 : ¬ (t > hi) := by omega
            go_wp2
            go_roundw
            case rel => exact ⟨k + 1, by omega, by go_num, by rw [HH.out.1, if_pos h1], by rw [HH.out.2, if_neg h2], _, rfl⟩
            case measure => simp [intOf]; omega
          · by_cases h2 : t > hi
            · go_wp2
              go_roundw
              case rel => exact ⟨k + 1, by omega, by go_num, by rw [HH.out.1, if_neg h1], by rw [HH.out.2, if_pos h2], _, rfl⟩
              case measure => simp [intOf]; omega
            · go_wp2
              go_roundw
              case rel => exact ⟨k + 1, by omega, by go_num, by rw [HH.out.1, if_neg h1], by rw [HH.out.2, if_neg h2], _, rfl⟩
              case measure => simp [intOf]; omega
        · obtain rfl : k = n := by omega
          have hkI : ¬ (k : Int) < (k : Int) := by omega
          rw [List.take_of_length_le (by rw [H0.out.1]; exact Nat.le_refl _)]
          have hlt := lowS_trk H0.out.2.2.2 H0.out.2.1
          have hht := highS_trk H0.out.2.2.2 H0.out.2.1
          obtain ⟨lo, hlE⟩ : ∃ lo, lowS a xs = lo := ⟨_, rfl⟩
          obtain ⟨hi, hhE⟩ : ∃ hi, highS a xs = hi := ⟨_, rfl⟩
          have hfar := HL.out.2.2.1
          have hl1 := (lowS_spec xs a).1
          have hl2 := (highS_spec xs a).1
          rw [hlE] at hfar hlt hl1
          rw [hhE] at hfar hht hl2
          rw [hlE, hhE]
          obtain ⟨l0, l1⟩ := hlt
          obtain ⟨u0, u1⟩ := hht
          have HF := Lib.hid hfar
          clear hfar hlE hhE hkI
          go_wp2
          go_loopw [14, 15, 16, 17] (fun tu wa ri i wr => ∃ j : Nat, j ≤ k ∧ i = .int .i64 j ∧ tu = .int .i64 (stS a up (L.take j)).2.2 ∧ wa = .int .i64 (stS a up (L.take j)).1 ∧ ri = .bool (stS a up (L.take j)).2.1 ∧ ∃ q, wr = w2.drewN q) (fun _ _ _ i _ => k - (intOf i).toNat)
          case atStart => exact ⟨0, Nat.zero_le _, rfl, rfl, rfl, rfl, _, rfl⟩
          case round =>
            obtain ⟨j, hj, rfl, rfl, rfl, rfl, q, rfl⟩ := hrel
            by_cases hjl : j < k
            · have hjI : (j : Int) < (k : Int) := by omega
              obtain ⟨b, off, rfl, _, hcc⟩ := hrs.at_ (by omega)
              have g1 := hcc j hjl
              have hsn := take_snoc (xs := L) (k := j) (by rw [HL.out.2.1]; exact hjl)
              have ht := trk_get HL.out.1 j
              obtain ⟨t, hte⟩ : ∃ t, L[j]?.getD 0 = t := ⟨_, rfl⟩
              rw [hte] at g1 hsn ht
              obtain ⟨t0, t1⟩ := ht
              have hst := stS_snoc a up (L.take j) t
              rw [hsn] at hst
              have hle := stS_le a up (L.take j)
              rw [List.length_take] at hle
              obtain ⟨⟨wa, ri, tu⟩, hsE⟩ : ∃ s, stS a up (L.take j) = s := ⟨_, rfl⟩
              rw [hsE] at hst hle
              rw [hsE]
              dsimp only at hle ⊢
              have htu : tu ≤ 20 := by omega
              have HS := Lib.hid hst
              clear hcc hte hsn hst hle hsE
              rcases Int.lt_trichotomy t wa with hw | hw | hw
              · have h1 : (t == wa) = false := by simp; omega
                have h2 : (t != wa) = true := by simp; omega
                have h3 : ¬ (t > wa) := by omega
                cases ri
                · skip
                  have HE := Lib.hid (HS.out.trans (step_df hw))
                  clear HS
                  go_wp2
                  go_roundw
                  case rel => exact ⟨j + 1, by omega, by go_num, by rw [HE.out] <;> go_num, by rw [HE.out], by rw [HE.out] <;> rfl, _, rfl⟩
                  case measure => simp [intOf]; omega
                · skip
                  have HE := Lib.hid (HS.out.trans (step_dt hw))
                  clear HS
                  go_wp2
                  go_roundw
                  case rel => exact ⟨j + 1, by omega, by go_num, by rw [HE.out] <;> go_num, by rw [HE.out], by rw [HE.out] <;> rfl, _, rfl⟩
                  case measure => simp [intOf]; omega
              · subst hw
                have HE := Lib.hid (HS.out.trans (step_eq))
                clear HS
                go_wp2
                go_roundw
                case rel => exact ⟨j + 1, by omega, by go_num, by rw [HE.out] <;> go_num, by rw [HE.out], by rw [HE.out] <;> rfl, _, rfl⟩
                case measure => simp [intOf]; omega
              · have h1 : (t == wa) = false := by simp; omega
                have h2 : (t != wa) = true := by simp; omega
                have h3 : t > wa := by omega
                cases ri
                · skip
                  have HE := Lib.hid (HS.out.trans (step_uf hw))
                  clear HS
                  go_wp2
                  go_roundw
                  case rel => exact ⟨j + 1, by omega, by go_num, by rw [HE.out] <;> go_num, by rw [HE.out], by rw [HE.out] <;> rfl, _, rfl⟩
                  case measure => simp [intOf]; omega
                · skip
                  have HE := Lib.hid (HS.out.trans (step_ut hw))
                  clear HS
                  go_wp2
                  go_roundw
                  case rel => exact ⟨j + 1, by omega, by go_num, by rw [HE.out] <;> go_num, by rw [HE.out], by rw [HE.out] <;> rfl, _, rfl⟩
                  case measure => simp [intOf]; omega
            · obtain rfl : j = k := by omega
              have hjI : ¬ (j : Int) < (j : Int) := by omega
              rw [List.take_of_length_le (by rw [HL.out.2.1]; exact Nat.le_refl _)]
              have htn := HL.out.2.2.2
              obtain ⟨⟨wa, ri, tu⟩, hsE⟩ : ∃ s, stS a up L = s := ⟨_, rfl⟩
              rw [hsE] at htn
              rw [hsE]
              dsimp only at htn ⊢
              clear hsE
              have htI : (tu : Int) ≤ 1 := by omega
              have hF1 := HF.out.1
              have hF2 := HF.out.2
              have hd : a - lo < hi - a ∨ ¬ (a - lo < hi - a) := by omega
              rcases hd with hd | hd
              · have hF3 : F ≥ hi - lo + a - lo := by omega
                go_wp2
                go_ret
                exact ⟨rfl, below_drewN_of hB _⟩
              · have hF3 : F ≥ hi - lo + hi - a := by omega
                go_wp2
                go_ret
                exact ⟨rfl, below_drewN_of hB _⟩
  · have hs := fun wx (h : Rd wx A n xs) => sweep_bad A n c xs a up wx h hE
    obtain ⟨E, hEE⟩ : ∃ E, headE a xs = E := ⟨_, rfl⟩
    rw [hEE] at hs
    have HS := Lib.hid hs
    clear hs hEE hE
    go_enter Try.func7, Try.ntmps7
    go_wp2_with fail
    with_reducible refine (headFact_any _).mono ?_
    rintro e w1 ⟨rfl, hB1⟩
    have hA1 := hA.below hB1
    have H2 := Lib.hid (HS.out w1 hA1)
    clear HS
    go_wp2_with fail
    with_reducible refine H2.out.mono ?_
    rintro e w2 ⟨rfl, rfl⟩
    go_wp2
    go_ret
    exact ⟨rfl, hB1⟩

set_option maxRecDepth 100000 in
theorem lifted (os : Os) (started : os.Started) (H : Type) (enc : TypeId × Value → H) :
    ReturnsInHanded {} Try.checked os 7 .any (Rows.headSweepSpec.pre6 enc Try.prog Try.f7 Rows.headSweepRow.domain false) (Rows.headSweepSpec.post enc Try.prog Try.f7 false true false false) := by
  refine returnsInHanded_of_change (C := Try.checked) own started (by kernel_rfl) Try.func7
    (ChangeSpec.witness6 (enc := enc) (C := Try.checked) false ⟨#[], #[.int .i64 0, .bool false, .slice none 0 0], []⟩ 8 (by kernel_rfl) (by kernel_rfl) (by kernel_rfl) (by kernel_rfl)) ?_
  intro W base args ds gs before hval0 hW hcnd _
  have hval : ∀ (j : Nat) t v, Try.f7.params[j]? = some t → args[j]? = some v → Value.okWide Try.prog W .any base t v := hval0
  have hW' := hW
  obtain ⟨p, q, hA0, hV, rfl, hfz, hnd⟩ := hW
  have hA : DataW.TrodAll enc Try.prog W 0 (fun _ => true) true Try.f7.params.toList args.toList ds p := hA0
  rw [Try.params7] at hA hval
  obtain ⟨v0, vs0, d0, ds0, p0, q0, hargs, rfl, rfl, h0, r0⟩ := trodAll_cons hA
  obtain ⟨v1, vs1, d1, ds1, p1, q1, rfl, rfl, rfl, h1, r1⟩ := trodAll_cons r0
  obtain ⟨v2, vs2, d2, ds2, p2, q2, rfl, rfl, rfl, h2, r2⟩ := trodAll_cons r1
  obtain ⟨rfl, rfl, rfl⟩ := trodAll_nil r2
  obtain rfl : args = #[v0, v1, v2] := by cases args; simp_all
  obtain ⟨rfl, rfl⟩ := trodVars_none hV
  have k0 := h0
  have lt0 : ∀ x ∈ p0, x.block < W.heap.size := by obtain ⟨m, hm⟩ := k0; exact DataW.trod_lt m _ _ _ hm
  obtain ⟨a0, rfl, rfl, rfl, w0⟩ := open_int Try.underlying3 (hval 0 3 v0 rfl rfl) h0
  have k1 := h1
  have lt1 : ∀ x ∈ p1, x.block < W.heap.size := by obtain ⟨m, hm⟩ := k1; exact DataW.trod_lt m _ _ _ hm
  obtain ⟨a1, rfl, rfl, rfl⟩ := open_bool Try.underlying4 (hval 1 4 v1 rfl rfl) h1
  have k2 := h2
  have lt2 : ∀ x ∈ p2, x.block < W.heap.size := by obtain ⟨m, hm⟩ := k2; exact DataW.trod_lt m _ _ _ hm
  obtain ⟨A2, n2, c2, rfl⟩ := okWide_slice Try.underlying22 (hval 2 22 v2 rfl rfl)
  obtain ⟨xs2, w2, hc2⟩ : ∃ xs, Rd W A2 n2 xs ∧ n2 ≤ c2 := by
    obtain ⟨fuel, hf⟩ := h2
    rcases open_ints Try.underlying22 Try.underlying3 (by kernel_rfl) hf with ⟨hcs, _⟩ | ⟨x, l, c, zs, hcs, _, hl, hm, hz, _, hcell, hwz⟩
    · simp [Value.cells] at hcs
      obtain ⟨rfl, rfl, rfl⟩ := hcs
      exact ⟨[], Rd.nil _ _, Nat.le_refl _⟩
    · simp [Value.cells] at hcs
      obtain ⟨rfl, rfl, rfl⟩ := hcs
      exact ⟨_, rd_of_cells (by simp at hz; omega) hl hm hcell hwz, hl⟩
  clear hA0 hval0
  refine (walk W a0 (wf_range w0) a1 A2 n2 c2 xs2 w2 hc2).mono fun e W' ⟨he, bel⟩ => ?_
  subst he
  exact ⟨_, rfl, _, _, _, [], _, [], hW', trodAll_mk1 (shut_bool Try.underlying4 _), (trodAll_cons_mk (Below.trod laidOut (by kernel_rfl) (of_decide_eq_true (by kernel_rfl)) k0 bel lt0) (trodAll_cons_mk (Below.trod laidOut (by kernel_rfl) (of_decide_eq_true (by kernel_rfl)) k1 bel lt1) (trodAll_cons_mk (Below.trod laidOut (by kernel_rfl) (of_decide_eq_true (by kernel_rfl)) k2 bel lt2) trodAll_mk0))), rfl, bel.frame _, fun h => by cases h⟩

theorem over : Rows.headSweepRow.holds Try.pinned (OpenSpec.ofChange Rows.headSweepSpec) :=
  OpenClaim.holds_of_wide 7 Try.f7 rfl rfl rfl rfl rfl rfl rfl ⟨rfl, rfl, rfl, rfl, rfl⟩ rfl rfl rfl rfl rfl (by kernel_rfl) Try.func7 (by kernel_rfl)
    (of_decide_eq_true (by kernel_rfl)) (by unfold Func.isWrapper; first | (rw [if_pos (by decide +kernel)]; kernel_rfl) | (rw [if_neg (by decide +kernel)]; exact ⟨rfl, rfl⟩))
    (fun os started H enc _ => lifted os started H enc)

theorem proved : Rows.HeadSweepSaid := over
#print axioms proved
end Go.Proofs.Ytpleidblnjphmaa.headSweep
