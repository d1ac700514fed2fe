/- The reference's Runs, InRuns, Changed by their contracts. -/
import Derived.Test.YtllacbogbbbcaaaDoorExt4D
import Derived.Deep.RegionHeld3
namespace Go.Proofs.YtllacbogbbbcaaaDoor
open Go Go.RowKit
set_option maxRecDepth 20000
set_option linter.unusedVariables false

/-- The runs of the reference ahead of place P: the last one may still grow. -/
def refS (g : Nat → Bool) (P : Nat) : List Rn := if 0 ≤ (scanS g P).2 then (scanS g P).1 ++ [((scanS g P).2, (P : Int) - (scanS g P).2)] else (scanS g P).1
theorem ref_new {g : Nat → Bool} {P : Nat} (h : g P = true) (hq : (scanS g P).2 < 0) : refS g (P + 1) = refS g P ++ [((P : Int), 1)] := by
  unfold refS
  rw [scan_open h hq, if_pos (show (0 : Int) ≤ (P : Int) by omega), if_neg (by omega)]
  show (scanS g P).1 ++ [((P : Int), ((P + 1 : Nat) : Int) - (P : Int))] = _
  congr 3 <;> first | rfl | (push_cast; omega)
theorem ref_on {g : Nat → Bool} {P : Nat} (h : g P = true) (hq : 0 ≤ (scanS g P).2) : refS g P = (scanS g P).1 ++ [((scanS g P).2, (P : Int) - (scanS g P).2)] ∧ refS g (P + 1) = (scanS g P).1 ++ [((scanS g P).2, (P : Int) - (scanS g P).2 + 1)] := by
  unfold refS
  rw [scan_on h hq, if_pos hq, if_pos hq]
  refine ⟨rfl, ?_⟩
  congr 3 <;> first | rfl | (push_cast; omega)
theorem ref_off {g : Nat → Bool} {P : Nat} (h : g P = false) : refS g (P + 1) = refS g P := by
  unfold refS
  by_cases hq : 0 ≤ (scanS g P).2
  · rw [scan_close h hq, if_neg (by simp), if_pos hq]
  · rw [scan_off h (by omega), if_neg hq, if_neg hq]
theorem ref_sign (g : Nat → Bool) (P : Nat) : decide (0 ≤ (scanS g (P + 1)).2) = g P := by
  rcases hg : g P with _ | _
  · by_cases hq : 0 ≤ (scanS g P).2
    · rw [scan_close hg hq]; simp
    · rw [scan_off hg (by omega)]; simpa using hq
  · by_cases hq : 0 ≤ (scanS g P).2
    · rw [scan_on hg hq]; simpa using hq
    · rw [scan_open hg (by omega)]; simp
theorem ref_last {op : Bool → Bool → Bool} {l : List Rn} {r : Rn} : refS (gP op l r) 1000 = chL op l r := by
  unfold refS chL
  have h0 := gP_1000 op l r
  by_cases hq : 0 ≤ (scanS (gP op l r) 1000).2
  · rw [scan_close h0 hq, if_pos hq]
  · rw [scan_off h0 (by omega), if_neg hq]
theorem ref_len (g : Nat → Bool) (P : Nat) : (refS g P).length ≤ P + 1 := by
  have := scan_len (f := g) P
  unfold refS
  split
  · simp; omega
  · omega

set_option maxHeartbeats 4000000 in
theorem rruns_any (A : Option Addr) (n c : Nat) (l : List (Int × Int)) (w : World) (hA : RdP w A n (l.map rv)) :
    Calls Tryd.prog 16 #[.slice A n c] w fun e w' => e = .returned (.int .i64 (runsE l)) ∧ Below w.heap.size w w' := by
  have hlen : l.length = n := by have := hA.len; simpa using this
  have hm := hA.max
  by_cases h16 : 16 < n
  · have he : runsE l = 4 := by unfold runsE; rw [if_pos (by omega)]
    rw [he]
    clear he hlen
    go_enter Tryd.func16, Tryd.ntmps16
    go_wp2
    go_ret
    exact ⟨rfl, Below.refl _ _⟩
  · have he : runsE l = runsLoop (-1) l := by unfold runsE; rw [if_neg (by omega)]
    rw [he]
    obtain ⟨E, hE⟩ : ∃ E, runsLoop (-1) l = E := ⟨_, rfl⟩
    rw [hE]
    have HN := Lib.hid (And.intro hlen hE)
    clear he hE hlen
    go_enter Tryd.func16, Tryd.ntmps16
    go_wp2
    go_loopw [3] (fun i wr => ∃ k : Nat, k ≤ n ∧ i = .int .i64 k ∧ runsLoop (endOf (-1) (l.take k)) (l.drop k) = E ∧ (∀ r ∈ l.take k, okR r) ∧ Below w.heap.size w wr) (fun i _ => n - (intOf i).toNat)
    case atStart => exact ⟨0, Nat.zero_le _, rfl, HN.out.2, by simp, Below.refl _ _⟩
    case round =>
      obtain ⟨k, hk, rfl, hke, hoks, hbel⟩ := hrel
      by_cases hlt : k < n
      · obtain ⟨b, off, rfl, hbl, hcc⟩ := hA.at_ (by omega)
        obtain ⟨c1, c2⟩ := hcc k hlt
        have hkl : k < l.length := by rw [HN.out.1]; exact hlt
        rw [rv_get hkl] at c1 c2
        have hsn : l.take (k + 1) = l.take k ++ [l[k]] := List.take_succ_eq_append_getElem hkl
        have hdn : l.drop k = l[k] :: l.drop (k + 1) := List.drop_eq_getElem_cons hkl
        obtain ⟨r, hr⟩ : ∃ r, l[k] = r := ⟨_, rfl⟩
        rw [hr] at c1 c2 hsn hdn
        obtain ⟨ra, rb⟩ := r
        rw [hdn, runsLoop_def] at hke
        have d1 := (hbel.cell (p := ⟨b, off + k * 2, none⟩) hbl).trans c1
        have d2 := (hbel.cell (p := ⟨b, off + k * 2 + 1, none⟩) hbl).trans c2
        change wr.cell? ⟨b, off + k * 2, none⟩ = some (.int .i64 ra) at d1
        change wr.cell? ⟨b, off + k * 2 + 1, none⟩ = some (.int .i64 rb) at d2
        have hkI : (k : Int) < (n : Int) := by omega
        have hblr : b < wr.heap.size := by have := hbel.size; omega
        have HD := Lib.hid (And.intro d1 hblr)
        change (if ¬ okR (ra, rb) then 1 else if ra ≤ endOf (-1) (l.take k) then 3 else runsLoop (ra + rb) (l.drop (k + 1))) = E at hke
        by_cases hok : okR (ra, rb)
        · have hdo := decide_eq_true hok
          rw [if_neg (by simpa using hok)] at hke
          have HONE := Lib.hid hdo
          obtain ⟨o1, o2, o3, o4⟩ := hok
          simp only at o1 o2 o3 o4
          have hoks2 : ∀ r ∈ l.take (k + 1), okR r := by
            rw [hsn]
            intro q hq
            rcases List.mem_append.1 hq with h | h
            · exact hoks q h
            · simp at h; subst h; exact ⟨o1, o2, o3, o4⟩
          have hend : endOf (-1) (l.take (k + 1)) = ra + rb := by rw [hsn, endOf_snoc]
          have HO2 := Lib.hid (And.intro hoks2 hend)
          by_cases hk0 : k = 0
          · subst hk0
            have he1 : ¬ ra ≤ endOf (-1) (l.take 0) := by rw [List.take_zero]; unfold endOf; omega
            rw [if_neg he1] at hke
            have HK := Lib.hid hke
            rw [Nat.zero_mul, Nat.add_zero] at d1 d2
            clear hdo hoks hoks2 hend hsn hdn hke he1 hcc c1 c2 hr hkl
            go_wp2_with fail
            with_reducible refine (rrun_any ra rb _).mono ?_
            rintro e w2 ⟨rfl, k2⟩
            rw [HONE.out]
            have hB2 := hbel.trans (k2.mono hbel.size)
            go_wp2
            go_quiet (fail)
            go_wp2
            go_roundw
            case rel => exact ⟨1, by omega, by go_num, by rw [HO2.out.2]; exact HK.out, HO2.out.1, below_drewN_of hB2 _⟩
            case measure => simp [intOf]; omega
          · obtain ⟨j, hj⟩ : ∃ j, k = j + 1 := ⟨k - 1, by omega⟩
            have hjl : j < l.length := by omega
            have hsj : l.take k = l.take j ++ [l[j]] := by rw [hj]; exact List.take_succ_eq_append_getElem hjl
            have hokj : okR l[j] := hoks _ (by rw [hsj]; exact List.mem_append_right _ (List.mem_singleton.2 rfl))
            have hej : endOf (-1) (l.take k) = l[j].1 + l[j].2 := by rw [hsj, endOf_snoc]
            obtain ⟨j1, j2⟩ := hcc j (by omega)
            rw [rv_get hjl] at j1 j2
            obtain ⟨s, hs⟩ : ∃ s, l[j] = s := ⟨_, rfl⟩
            rw [hs] at j1 j2 hokj hej
            obtain ⟨sa, sb⟩ := s
            have g1 := (hbel.cell (p := ⟨b, off + j * 2, none⟩) hbl).trans j1
            have g2 := (hbel.cell (p := ⟨b, off + j * 2 + 1, none⟩) hbl).trans j2
            have HG := Lib.hid (And.intro g1 g2)
            obtain ⟨p1, p2, p3, p4⟩ := hokj
            simp only at p1 p2 p3 p4 hej
            rw [hej] at hke
            have hkj : (k : Int) - 1 = (j : Int) := by omega
            have hk0I : (0 : Int) < (k : Int) := by omega
            have hdk : decide (0 < k) = true := decide_eq_true (by omega)
            have hjI : (j : Int) < (n : Int) := by omega
            clear hdo hoks hoks2 hend hsn hdn hcc c1 c2 hr hkl hsj hej hs j1 j2 g1 g2 hj hjl
            by_cases hle : ra ≤ sa + sb
            · rw [if_pos hle] at hke
              subst hke
              have hd : decide (ra ≤ sa + sb) = true := decide_eq_true hle
              go_wp2_with fail
              with_reducible refine (rrun_any ra rb _).mono ?_
              rintro e w2 ⟨rfl, k2⟩
              rw [HONE.out]
              have hB2 := hbel.trans (k2.mono hbel.size)
              have g1 := (k2.cell (p := ⟨b, off + j * 2, none⟩) HD.out.2).trans HG.out.1
              have g2 := (k2.cell (p := ⟨b, off + j * 2 + 1, none⟩) HD.out.2).trans HG.out.2
              have v0 := (k2.cell (p := ⟨b, off + k * 2, none⟩) HD.out.2).trans HD.out.1
              change w2.cell? ⟨b, off + j * 2, none⟩ = some (.int .i64 sa) at g1
              change w2.cell? ⟨b, off + j * 2 + 1, none⟩ = some (.int .i64 sb) at g2
              go_wp2
              go_quiet (fail)
              go_wp2
              go_ret
              exact ⟨rfl, below_drewN_of hB2 _⟩
            · rw [if_neg hle] at hke
              have HK := Lib.hid hke
              have hd : decide (ra ≤ sa + sb) = false := decide_eq_false hle
              clear hke
              go_wp2_with fail
              with_reducible refine (rrun_any ra rb _).mono ?_
              rintro e w2 ⟨rfl, k2⟩
              rw [HONE.out]
              have hB2 := hbel.trans (k2.mono hbel.size)
              have g1 := (k2.cell (p := ⟨b, off + j * 2, none⟩) HD.out.2).trans HG.out.1
              have g2 := (k2.cell (p := ⟨b, off + j * 2 + 1, none⟩) HD.out.2).trans HG.out.2
              have v0 := (k2.cell (p := ⟨b, off + k * 2, none⟩) HD.out.2).trans HD.out.1
              change w2.cell? ⟨b, off + j * 2, none⟩ = some (.int .i64 sa) at g1
              change w2.cell? ⟨b, off + j * 2 + 1, none⟩ = some (.int .i64 sb) at g2
              go_wp2
              go_quiet (fail)
              go_wp2
              go_roundw
              case rel => exact ⟨k + 1, by omega, by go_num, by rw [HO2.out.2]; exact HK.out, HO2.out.1, below_drewN_of hB2 _⟩
              case measure => simp [intOf]; omega
        · have hdo := decide_eq_false hok
          rw [if_pos hok] at hke
          subst hke
          have HONE := Lib.hid hdo
          clear hdo hoks hsn hdn hcc c1 c2 hr hkl hok
          go_wp2_with fail
          with_reducible refine (rrun_any ra rb _).mono ?_
          rintro e w2 ⟨rfl, k2⟩
          rw [HONE.out]
          have hB2 := hbel.trans (k2.mono hbel.size)
          go_wp2
          go_ret
          exact ⟨rfl, hB2⟩
      · have hkn : k = n := by omega
        have hE0 : E = 0 := by
          rw [← hke, List.drop_of_length_le (by rw [HN.out.1]; omega)]; rfl
        subst hE0
        have hkI : ¬ (k : Int) < (n : Int) := by omega
        clear hke hoks hkn
        go_wp2
        go_ret
        exact ⟨rfl, hbel⟩

set_option maxHeartbeats 4000000 in
theorem inruns_any (A : Option Addr) (n c : Nat) (l : List (Int × Int)) (p : Int) (w : World) (hA : RdP w A n (l.map rv)) (hok : ∀ r ∈ l, okR r) :
    Calls Tryd.prog 20 #[.slice A n c, .int .i64 p] w fun e w' => e = .returned (.bool (hasB l p)) ∧ Below w.heap.size w w' := by
  have hlen : l.length = n := by have := hA.len; simpa using this
  have hm := hA.max
  have HN := Lib.hid (And.intro hlen hok)
  clear hlen hok
  go_enter Tryd.func20, Tryd.ntmps20
  go_wp2
  go_loopw [5] (fun i wr => ∃ k : Nat, k ≤ n ∧ i = .int .i64 k ∧ hasB (l.take k) p = false ∧ ∃ q, wr = w.drewN q) (fun i _ => n - (intOf i).toNat)
  case atStart => exact ⟨0, Nat.zero_le _, rfl, rfl, 0, rfl⟩
  case round =>
    obtain ⟨k, hk, rfl, hno, qq, rfl⟩ := hrel
    by_cases hlt : k < n
    · obtain ⟨b, off, rfl, hbl, hcc⟩ := hA.at_ (by omega)
      obtain ⟨c1, c2⟩ := hcc k hlt
      have hkl : k < l.length := by rw [HN.out.1]; exact hlt
      rw [rv_get hkl] at c1 c2
      have hsn : l.take (k + 1) = l.take k ++ [l[k]] := List.take_succ_eq_append_getElem hkl
      have hmem : l[k] ∈ l := List.getElem_mem _
      have hokk := HN.out.2 _ hmem
      obtain ⟨r, hr⟩ : ∃ r, l[k] = r := ⟨_, rfl⟩
      rw [hr] at c1 c2 hsn hmem hokk
      obtain ⟨ra, rb⟩ := r
      change w.cell? ⟨b, off + k * 2, none⟩ = some (.int .i64 ra) at c1
      change w.cell? ⟨b, off + k * 2 + 1, none⟩ = some (.int .i64 rb) at c2
      obtain ⟨o1, o2, o3, o4⟩ := hokk
      simp only at o1 o2 o3 o4
      have HH := Lib.hid (And.intro hno (And.intro hsn hmem))
      have hkI : (k : Int) < (n : Int) := by omega
      clear hcc hno hsn hmem hr hkl
      by_cases h1 : ra ≤ p
      · have hd1 : decide (ra ≤ p) = true := decide_eq_true h1
        by_cases h2 : p < ra + rb
        · have hd2 : decide (p < ra + rb) = true := decide_eq_true h2
          have hyes : hasB l p = true := by
            unfold hasB
            rw [List.any_eq_true]
            exact ⟨_, HH.out.2.2, inR_iff.2 ⟨h1, h2⟩⟩
          have HY := Lib.hid hyes
          clear hyes
          go_wp2
          go_quiet (fail)
          go_wp2
          go_ret
          exact ⟨ret_bool HY.out.symm, by first | exact below_drewN_of (Below.refl _ _) _ | (rw [World.drewN_drewN]; exact below_drewN_of (Below.refl _ _) _)⟩
        · have hd2 : decide (p < ra + rb) = false := decide_eq_false h2
          have hno2 : hasB (l.take (k + 1)) p = false := by
            rw [HH.out.2.1, hasB_snoc, HH.out.1, Bool.false_or, Bool.eq_false_iff]; intro h; exact h2 (inR_iff.1 h).2
          have HNO := Lib.hid hno2
          clear hno2
          go_wp2
          go_quiet (fail)
          go_wp2
          go_roundw
          case rel => exact ⟨k + 1, by omega, by go_num, HNO.out, _, rfl⟩
          case measure => simp [intOf]; omega
      · have hd1 : decide (ra ≤ p) = false := decide_eq_false h1
        have hno2 : hasB (l.take (k + 1)) p = false := by
          rw [HH.out.2.1, hasB_snoc, HH.out.1, Bool.false_or, Bool.eq_false_iff]; intro h; exact h1 (inR_iff.1 h).1
        have HNO := Lib.hid hno2
        clear hno2
        go_wp2
        go_quiet (fail)
        go_wp2
        go_roundw
        case rel => exact ⟨k + 1, by omega, by go_num, HNO.out, _, rfl⟩
        case measure => simp [intOf]; omega
    · obtain rfl : k = n := by omega
      rw [List.take_of_length_le (by rw [HN.out.1]; omega)] at hno
      have HNO := Lib.hid hno
      have hkI : ¬ (k : Int) < (k : Int) := by omega
      clear hno
      go_wp2
      go_ret
      exact ⟨ret_bool HNO.out.symm, below_drewN_of (Below.refl _ _) _⟩

theorem OwnP.cut {w : World} {B n c g : Nat} {ps : List VV} (h : OwnP w B (.slice (some ⟨g, 0, none⟩) n c) n ps) {k : Nat} (hk : k ≤ n) : OwnP w B (.slice (some ⟨g, 0, none⟩) k c) k (ps.take k) := by
  have hl := h.len
  rcases h.2 with ⟨h1, _⟩ | ⟨g', cap, cur, h1, h2, h3, h4, h5, h6, h7⟩
  · cases h1
  · injection h1 with e1 e2 e3
    refine ⟨by rw [flat_len, List.length_take]; congr 1; omega, .inr ⟨g', cap, cur, by rw [e1, e3], h2, h3, by omega, h5, h6, ?_⟩⟩
    have e : flat ps = flat (ps.take k) ++ flat (ps.drop k) := by rw [← flat_append, List.take_append_drop]
    have hfl : (flat (ps.take k)).length = k * 2 := by rw [flat_len, List.length_take]; congr 1; omega
    have h8 : (cur.toList.take (n * 2)).take (k * 2) = (flat ps).take (k * 2) := by rw [h7]
    rw [List.take_take, Nat.min_eq_left (by omega)] at h8
    rw [h8, e, List.take_append_of_le_length (by omega), List.take_of_length_le (by omega)]
end Go.Proofs.YtllacbogbbbcaaaDoor
