/- extent: Check, Has, Size, change, Add, Cut by their contracts. -/
import Derived.Test.YtllacbogbbbcaaaExt1
namespace Go.Proofs.Ytllacbogbbbcaaa
open Go Go.RowKit
set_option maxRecDepth 20000
set_option linter.unusedVariables false

set_option maxHeartbeats 4000000 in
theorem xcheck_any (A : Option Addr) (n c : Nat) (l : List (Int × Int)) (w : World) (hA : RdP w A n (l.map rv)) (hbd : ∀ p ∈ l, (-9223372036854775808 ≤ p.1 ∧ p.1 ≤ 9223372036854775807) ∧ (-9223372036854775808 ≤ p.2 ∧ p.2 ≤ 9223372036854775807)) :
    Calls Try.prog 20 #[.slice A n c] w fun e w' => e = .returned (errR (runsE l)) ∧ Below w.heap.size w w' := by
  have hlen : l.length = n := by have := hA.len; simpa using this
  have hm := hA.max
  by_cases h16 : 16 < n
  · have he : runsE l = 4 := by unfold runsE; rw [if_pos (by omega)]
    rw [he, errR_ne (by decide)]
    clear he hlen
    go_enter Try.func20, Try.ntmps20
    go_wp2
    go_ret
    exact ⟨rfl, Below.refl _ _⟩
  · have he : runsE l = runsLoop (-1) l := by unfold runsE; rw [if_neg (by omega)]
    rw [he]
    obtain ⟨E, hE⟩ : ∃ E, runsLoop (-1) l = E := ⟨_, rfl⟩
    rw [hE]
    have HN := Lib.hid (And.intro hlen (And.intro hE hbd))
    clear he hE hlen hbd
    go_enter Try.func20, Try.ntmps20
    go_wp2
    go_loopw [12] (fun i wr => ∃ k : Nat, k ≤ n ∧ i = .int .i64 k ∧ runsLoop (endOf (-1) (l.take k)) (l.drop k) = E ∧ (∀ r ∈ l.take k, okR r) ∧ Below w.heap.size w wr) (fun i _ => n - (intOf i).toNat)
    case atStart => exact ⟨0, Nat.zero_le _, rfl, HN.out.2.1, by simp, Below.refl _ _⟩
    case round =>
      obtain ⟨k, hk, rfl, hke, hoks, hbel⟩ := hrel
      by_cases hlt : k < n
      · obtain ⟨b, off, rfl, hbl, hcc⟩ := hA.at_ (by omega)
        obtain ⟨c1, c2⟩ := hcc k hlt
        have hkl : k < l.length := by rw [HN.out.1]; exact hlt
        rw [rv_get hkl] at c1 c2
        have hsn : l.take (k + 1) = l.take k ++ [l[k]] := List.take_succ_eq_append_getElem hkl
        have hdn : l.drop k = l[k] :: l.drop (k + 1) := List.drop_eq_getElem_cons hkl
        obtain ⟨r, hr⟩ : ∃ r, l[k] = r := ⟨_, rfl⟩
        have hbr := HN.out.2.2 l[k] (List.getElem_mem _)
        rw [hr] at c1 c2 hsn hdn hbr
        obtain ⟨ra, rb⟩ := r
        rw [hdn, runsLoop_def] at hke
        have d1 := (hbel.cell (p := ⟨b, off + k * 2, none⟩) hbl).trans c1
        have d2 := (hbel.cell (p := ⟨b, off + k * 2 + 1, none⟩) hbl).trans c2
        change wr.cell? ⟨b, off + k * 2, none⟩ = some (.int .i64 ra) at d1
        change wr.cell? ⟨b, off + k * 2 + 1, none⟩ = some (.int .i64 rb) at d2
        have hkI : (k : Int) < (n : Int) := by omega
        have hB1 := hbel.alloc hbel.size (.cells #[.int .i64 ra, .int .i64 rb] 40)
        have hv0 : (wr.alloc (.cells #[.int .i64 ra, .int .i64 rb] 40)).cell? ⟨wr.heap.size, 0, none⟩ = some (.int .i64 ra) := by simp
        have HV0 := Lib.hid hv0
        change (if ¬ okR (ra, rb) then 1 else if ra ≤ endOf (-1) (l.take k) then 3 else runsLoop (ra + rb) (l.drop (k + 1))) = E at hke
        by_cases hok : okR (ra, rb)
        · have hone : errR (oneE (ra, rb)) = .nilIface := by unfold oneE; rw [if_pos hok]; rfl
          rw [if_neg (by simpa using hok)] at hke
          have HONE := Lib.hid hone
          obtain ⟨o1, o2, o3, o4⟩ := hok
          simp only at o1 o2 o3 o4
          have hoks2 : ∀ r ∈ l.take (k + 1), okR r := by
            rw [hsn]
            intro q hq
            rcases List.mem_append.1 hq with h | h
            · exact hoks q h
            · simp at h; subst h; exact ⟨o1, o2, o3, o4⟩
          have hend : endOf (-1) (l.take (k + 1)) = ra + rb := by rw [hsn, endOf_snoc]
          have HO2 := Lib.hid (And.intro hoks2 hend)
          by_cases hk0 : k = 0
          · subst hk0
            have he1 : ¬ ra ≤ endOf (-1) (l.take 0) := by rw [List.take_zero]; unfold endOf; omega
            rw [if_neg he1] at hke
            have HK := Lib.hid hke
            rw [Nat.zero_mul, Nat.add_zero] at d1 d2
            clear hone hoks hoks2 hend hsn hdn hke he1 hcc c1 c2 hv0 hbr hr hkl
            go_wp2_with fail
            with_reducible refine (one_any ra rb _).mono ?_
            rintro e w2 ⟨rfl, k2⟩
            rw [HONE.out]
            have hB2 := hB1.trans (k2.mono hB1.size)
            go_wp2
            go_quiet (fail)
            go_wp2
            go_roundw
            case rel => exact ⟨1, by omega, by go_num, by rw [HO2.out.2]; exact HK.out, HO2.out.1, below_drewN_of hB2 _⟩
            case measure => simp [intOf]; omega
          · obtain ⟨j, hj⟩ : ∃ j, k = j + 1 := ⟨k - 1, by omega⟩
            have hjl : j < l.length := by omega
            have hsj : l.take k = l.take j ++ [l[j]] := by rw [hj]; exact List.take_succ_eq_append_getElem hjl
            have hokj : okR l[j] := hoks _ (by rw [hsj]; exact List.mem_append_right _ (List.mem_singleton.2 rfl))
            have hej : endOf (-1) (l.take k) = l[j].1 + l[j].2 := by rw [hsj, endOf_snoc]
            obtain ⟨j1, j2⟩ := hcc j (by omega)
            rw [rv_get hjl] at j1 j2
            obtain ⟨s, hs⟩ : ∃ s, l[j] = s := ⟨_, rfl⟩
            rw [hs] at j1 j2 hokj hej
            obtain ⟨sa, sb⟩ := s
            have g1 := (hB1.cell (p := ⟨b, off + j * 2, none⟩) hbl).trans j1
            have g2 := (hB1.cell (p := ⟨b, off + j * 2 + 1, none⟩) hbl).trans j2
            have HG := Lib.hid (And.intro g1 g2)
            obtain ⟨p1, p2, p3, p4⟩ := hokj
            simp only at p1 p2 p3 p4 hej
            rw [hej] at hke
            have hkj : (k : Int) - 1 = (j : Int) := by omega
            have hk0I : (0 : Int) < (k : Int) := by omega
            have hdk : decide (0 < k) = true := decide_eq_true (by omega)
            have hjI : (j : Int) < (n : Int) := by omega
            have HJ := Lib.hid hj
            have hbs : b < (wr.alloc (.cells #[.int .i64 ra, .int .i64 rb] 40)).heap.size := by have := hB1.size; omega
            have HBS := Lib.hid hbs
            clear hone hoks hoks2 hend hsn hdn hcc c1 c2 hv0 hbr hr hkl hsj hej hs j1 j2 g1 g2 hj hjl hbs
            by_cases hle : ra ≤ sa + sb
            · rw [if_pos hle] at hke
              subst hke
              have hd : decide (ra ≤ sa + sb) = true := decide_eq_true hle
              go_wp2_with fail
              with_reducible refine (one_any ra rb _).mono ?_
              rintro e w2 ⟨rfl, k2⟩
              rw [HONE.out]
              have hB2 := hB1.trans (k2.mono hB1.size)
              have g1 := (k2.cell (p := ⟨b, off + j * 2, none⟩) HBS.out).trans HG.out.1
              have g2 := (k2.cell (p := ⟨b, off + j * 2 + 1, none⟩) HBS.out).trans HG.out.2
              have v0 := (k2.cell (p := ⟨wr.heap.size, 0, none⟩) (by simp)).trans HV0.out
              change w2.cell? ⟨b, off + j * 2, none⟩ = some (.int .i64 sa) at g1
              change w2.cell? ⟨b, off + j * 2 + 1, none⟩ = some (.int .i64 sb) at g2
              go_wp2
              go_quiet (fail)
              go_wp2
              go_ret
              exact ⟨rfl, below_drewN_of hB2 _⟩
            · rw [if_neg hle] at hke
              have HK := Lib.hid hke
              have hd : decide (ra ≤ sa + sb) = false := decide_eq_false hle
              clear hke
              go_wp2_with fail
              with_reducible refine (one_any ra rb _).mono ?_
              rintro e w2 ⟨rfl, k2⟩
              rw [HONE.out]
              have hB2 := hB1.trans (k2.mono hB1.size)
              have g1 := (k2.cell (p := ⟨b, off + j * 2, none⟩) HBS.out).trans HG.out.1
              have g2 := (k2.cell (p := ⟨b, off + j * 2 + 1, none⟩) HBS.out).trans HG.out.2
              have v0 := (k2.cell (p := ⟨wr.heap.size, 0, none⟩) (by simp)).trans HV0.out
              change w2.cell? ⟨b, off + j * 2, none⟩ = some (.int .i64 sa) at g1
              change w2.cell? ⟨b, off + j * 2 + 1, none⟩ = some (.int .i64 sb) at g2
              go_wp2
              go_quiet (fail)
              go_wp2
              go_roundw
              case rel => exact ⟨k + 1, by omega, by go_num, by rw [HO2.out.2]; exact HK.out, HO2.out.1, below_drewN_of hB2 _⟩
              case measure => simp [intOf]; omega
        · have hone : errR (oneE (ra, rb)) = .iface 23 (.int .i64 1) := by unfold oneE; rw [if_neg hok]; rfl
          rw [if_pos hok] at hke
          subst hke
          have HONE := Lib.hid hone
          clear hone hoks hsn hdn hcc c1 c2 hv0 hbr hr hkl hok
          go_wp2_with fail
          with_reducible refine (one_any ra rb _).mono ?_
          rintro e w2 ⟨rfl, k2⟩
          rw [HONE.out]
          have hB2 := hB1.trans (k2.mono hB1.size)
          go_wp2
          go_ret
          exact ⟨rfl, hB2⟩
      · have hkn : k = n := by omega
        have hE0 : E = 0 := by
          rw [← hke, List.drop_of_length_le (by rw [HN.out.1]; omega)]; rfl
        subst hE0
        have hkI : ¬ (k : Int) < (n : Int) := by omega
        clear hke hoks hkn
        go_wp2
        go_ret
        exact ⟨rfl, hbel⟩

theorem sum_bound : ∀ (l : List Rn), (∀ r ∈ l, okR r) → 0 ≤ sumS l ∧ sumS l ≤ 1000 * l.length
  | [], _ => by simp [sumS]
  | r :: l, h => by
    have h1 := sum_bound l (fun q hq => h q (by simp [hq]))
    obtain ⟨a, b, c, d⟩ := h r (by simp)
    rw [sum_cons, List.length_cons]; push_cast; omega
def sizeV (l : List Rn) : Value := if runsE l = 0 then .tuple #[.int .i64 (sumS l), .nilIface] else .tuple #[.int .i64 0, .iface 23 (.int .i64 (runsE l))]
set_option maxHeartbeats 2000000 in
theorem size_any (A : Option Addr) (n c : Nat) (l : List (Int × Int)) (w : World) (hA : RdP w A n (l.map rv)) (hbd : ∀ p ∈ l, (-9223372036854775808 ≤ p.1 ∧ p.1 ≤ 9223372036854775807) ∧ (-9223372036854775808 ≤ p.2 ∧ p.2 ≤ 9223372036854775807)) :
    Calls Try.prog 24 #[.slice A n c] w fun e w' => e = .returned (sizeV l) ∧ Below w.heap.size w w' := by
  have hlen : l.length = n := by have := hA.len; simpa using this
  have HBD := Lib.hid hbd
  by_cases hE : runsE l = 0
  · have hsv : sizeV l = .tuple #[.int .i64 (sumS l), .nilIface] := by unfold sizeV; rw [if_pos hE]
    rw [hsv]
    have hz := runsE_zero.1 hE
    have hok := okR_mem hz.2
    have hn16 : n ≤ 16 := by omega
    have HH := Lib.hid (And.intro hlen (And.intro hok hE))
    clear hsv hz hok hE hbd hlen
    go_enter Try.func24, Try.ntmps24
    go_wp2_with fail
    with_reducible refine (xcheck_any _ _ _ l _ hA HBD.out).mono ?_
    rintro e w1 ⟨rfl, hB⟩
    rw [HH.out.2.2, errR_zero]
    go_wp2
    go_loopw [5, 15] (fun s i wr => ∃ k : Nat, k ≤ n ∧ i = .int .i64 k ∧ s = .int .i64 (sumS (l.take k)) ∧ Below w.heap.size w wr) (fun _ i _ => n - (intOf i).toNat)
    case atStart => exact ⟨0, Nat.zero_le _, rfl, rfl, hB⟩
    case round =>
      obtain ⟨k, hk, rfl, rfl, hbel⟩ := hrel
      have hsb := sum_bound (l.take k) (fun r hr => HH.out.2.1 r (List.mem_of_mem_take hr))
      rw [List.length_take] at hsb
      obtain ⟨hs0, hs1⟩ := hsb
      by_cases hlt : k < n
      · obtain ⟨b, off, rfl, hbl, hcc⟩ := hA.at_ (by omega)
        obtain ⟨c1, c2⟩ := hcc k hlt
        have hkl : k < l.length := by rw [HH.out.1]; exact hlt
        rw [rv_get hkl] at c1 c2
        have hsn : l.take (k + 1) = l.take k ++ [l[k]] := List.take_succ_eq_append_getElem hkl
        have hss := sumS_snoc (l.take k) l[k]
        rw [← hsn] at hss
        have hokk := HH.out.2.1 l[k] (List.getElem_mem _)
        obtain ⟨r, hr⟩ : ∃ r, l[k] = r := ⟨_, rfl⟩
        rw [hr] at c1 c2 hss hokk
        obtain ⟨ra, rb⟩ := r
        obtain ⟨o1, o2, o3, o4⟩ := hokk
        simp only at o1 o2 o3 o4 hss
        have d1 := (hbel.cell (p := ⟨b, off + k * 2, none⟩) hbl).trans c1
        have d2 := (hbel.cell (p := ⟨b, off + k * 2 + 1, none⟩) hbl).trans c2
        change wr.cell? ⟨b, off + k * 2, none⟩ = some (.int .i64 ra) at d1
        change wr.cell? ⟨b, off + k * 2 + 1, none⟩ = some (.int .i64 rb) at d2
        have hB1 := hbel.alloc hbel.size (.cells #[.int .i64 ra, .int .i64 rb] 40)
        obtain ⟨S, hS⟩ : ∃ S, sumS (l.take k) = S := ⟨_, rfl⟩
        rw [hS] at hs0 hs1 hss ⊢
        have hs2 : S ≤ 1000000 := by omega
        have HS := Lib.hid hss
        have hkI : (k : Int) < (n : Int) := by omega
        clear hcc c1 c2 hsn hss hr hS hkl hs1
        go_wp2
        go_roundw
        case rel => exact ⟨k + 1, by omega, by go_num, by rw [HS.out], hB1⟩
        case measure => simp [intOf]; omega
      · obtain rfl : k = n := by omega
        rw [List.take_of_length_le (by rw [HH.out.1]; omega)] at hs0 hs1 ⊢
        have hkI : ¬ (k : Int) < (k : Int) := by omega
        go_wp2
        go_ret2
        exact ⟨rfl, hbel⟩
  · have hsv : sizeV l = .tuple #[.int .i64 0, .iface 23 (.int .i64 (runsE l))] := by unfold sizeV; rw [if_neg hE]
    rw [hsv]
    obtain ⟨E, hEE⟩ : ∃ E, runsE l = E := ⟨_, rfl⟩
    rw [hEE] at hE ⊢
    have HE := Lib.hid hEE
    have HN := Lib.hid hE
    clear hsv hE hEE hbd hlen
    go_enter Try.func24, Try.ntmps24
    go_wp2_with fail
    with_reducible refine (xcheck_any _ _ _ l _ hA HBD.out).mono ?_
    rintro e w1 ⟨rfl, hB⟩
    rw [HE.out, errR_ne HN.out]
    go_wp2
    go_ret2
    exact ⟨rfl, hB⟩

def hasV (l : List Rn) (p : Int) : Value := if runsE l = 0 then .tuple #[.bool (hasB l p), .nilIface] else .tuple #[.bool false, .iface 23 (.int .i64 (runsE l))]
theorem xhas_any (A : Option Addr) (n c : Nat) (l : List (Int × Int)) (p : Int) (w : World) (hA : RdP w A n (l.map rv)) (hbd : ∀ p ∈ l, (-9223372036854775808 ≤ p.1 ∧ p.1 ≤ 9223372036854775807) ∧ (-9223372036854775808 ≤ p.2 ∧ p.2 ≤ 9223372036854775807)) :
    Calls Try.prog 22 #[.slice A n c, .int .i64 p] w fun e w' => e = .returned (hasV l p) ∧ Below w.heap.size w w' := by
  have HBD := Lib.hid hbd
  by_cases hE : runsE l = 0
  · have hsv : hasV l p = .tuple #[.bool (hasB l p), .nilIface] := by unfold hasV; rw [if_pos hE]
    rw [hsv]
    have HH := Lib.hid (And.intro hE (okR_mem (runsE_zero.1 hE).2))
    clear hsv hE hbd
    go_enter Try.func22, Try.ntmps22
    go_wp2_with fail
    with_reducible refine (xcheck_any _ _ _ l _ hA HBD.out).mono ?_
    rintro e w1 ⟨rfl, hB⟩
    rw [HH.out.1, errR_zero]
    have hA1 := hA.below hB
    go_wp2_with fail
    with_reducible refine (has_any _ _ _ l p _ hA1 HH.out.2).mono ?_
    rintro e w2 ⟨rfl, k2⟩
    go_wp2
    go_ret2
    exact ⟨rfl, hB.trans (k2.mono hB.size)⟩
  · have hsv : hasV l p = .tuple #[.bool false, .iface 23 (.int .i64 (runsE l))] := by unfold hasV; rw [if_neg hE]
    rw [hsv]
    obtain ⟨E, hEE⟩ : ∃ E, runsE l = E := ⟨_, rfl⟩
    rw [hEE] at hE ⊢
    have HE := Lib.hid hEE
    have HN := Lib.hid hE
    clear hsv hE hEE hbd
    go_enter Try.func22, Try.ntmps22
    go_wp2_with fail
    with_reducible refine (xcheck_any _ _ _ l _ hA HBD.out).mono ?_
    rintro e w1 ⟨rfl, hB⟩
    rw [HE.out, errR_ne HN.out]
    go_wp2
    go_ret2
    exact ⟨rfl, hB⟩
end Go.Proofs.Ytllacbogbbbcaaa
