/- The functions of package merkle return what the document specifies: MerkleSays answers true at every slice of ints, int, int, slice of sides; errors.errorType is tied to the program's text. Conditions: none beside the card's own. -/
import Derived.Test.YtpleidblnjphmaaDoorMerR
import Derived.Test.YtpleidblnjphmaaDoorSideO
import Derived.Test.YtpleidblnjphmaaDoorIn
import Derived.Test.YtpleidblnjphmaaDoorOpenD
import Derived.Test.YtpleidblnjphmaaDoorTold
namespace Go.Proofs.YtpleidblnjphmaaDoor.merkleSays
open Go Go.ChangeShapes Go.WideShapes Go.ChangeAt Go.RowKit
set_option linter.unusedVariables false

theorem upV_good {v : Int} {l : List (Bool × Int)} (h : goodW l) : upV v l = .tuple #[.int .i64 (upI (leafI v) l), .nilIface] := by unfold upV; rw [if_pos h]
theorem upV_bad {v : Int} {l : List (Bool × Int)} (h : ¬ goodW l) : upV v l = .tuple #[.int .i64 0, .iface 53 (.int .i64 1)] := by unfold upV; rw [if_neg h]
theorem good_take {l : List (Bool × Int)} {k : Nat} (h : goodW (l.take k)) {p : Bool × Int} (hp : 0 ≤ p.2 ∧ p.2 ≤ 9972) (hs : l.take (k + 1) = l.take k ++ [p]) : goodW (l.take (k + 1)) := by
  rw [hs]
  intro q hq
  rcases List.mem_append.1 hq with h1 | h1
  · exact h q h1
  · simp at h1; subst h1; exact hp

set_option maxHeartbeats 8000000 in
set_option maxRecDepth 100000 in
theorem walk_bad (w : World) (A : Option Addr) (n c : Nat) (xs : List Int) (hA : Rd w A n xs) (hc : n ≤ c) (i : Int) (hi : -9223372036854775808 ≤ i ∧ i ≤ 9223372036854775807) (v : Int) (hv : -9223372036854775808 ≤ v ∧ v ≤ 9223372036854775807) (B : Option Addr) (m d : Nat) (l : List (Bool × Int)) (hP : RdP w B m (l.map sv)) (hb : ∀ p ∈ l, -9223372036854775808 ≤ p.2 ∧ p.2 ≤ 9223372036854775807) (hd : m ≤ d) (hE : ErrT w) (G : Int) (hG : valE xs = G) (hG0 : G ≠ 0) :
    Calls Tryd.prog 3 #[.slice A n c, .int .i64 i, .int .i64 v, .slice B m d] w fun e w' => e = .returned (.bool true) ∧ Below w.heap.size w w' := by
  have hlen : l.length = m := by have := hP.len; simpa using this
  have HE := Lib.hid hE
  have HBD := Lib.hid hb
  have HN := Lib.hid hlen
  have HG := Lib.hid hG
  have HG0 := Lib.hid hG0
  have hGs : (G == G) = true := by simp
  have hGb : (G == 0) = false := by simpa using hG0
  clear hG0
  clear hE hb hlen hG
  have hB : Below w.heap.size w w := Below.refl _ _
  have hLs := leaf_range v
  obtain ⟨L, hL⟩ : ∃ L, leafI v = L := ⟨_, rfl⟩
  rw [hL] at hLs
  have HL := Lib.hid hL
  have hLL : (L == L) = true := by simp
  obtain ⟨hl0, hl1⟩ := hLs
  clear hL
  by_cases hm16 : 16 < m
  · have hmI : (16 : Int) < (m : Int) := by omega
    by_cases hvr : v < 0 ∨ 1000 < v
    · skip
      go_enter Tryd.func3, Tryd.ntmps3
      go_wp2_with fail
      with_reducible refine (in_no _ _ _ _ hvr).mono ?_
      rintro e w' ⟨rfl, rfl⟩
      go_wp2_with fail
      with_reducible refine (mleaf_bad v _ hvr).mono ?_
      rintro e w' ⟨rfl, rfl⟩
      go_wp2_with fail
      with_reducible refine (error_err 1 1 _ (HE.out.below hB)).mono ?_
      rintro e' wt ⟨rfl, kt⟩
      have hB := hB.trans (kt.mono hB.size)
      clear kt
      go_wp2_with fail
      with_reducible refine (up_full _ _ _ v _ hm16).mono ?_
      rintro e w' ⟨rfl, rfl⟩
      go_wp2_with fail
      with_reducible refine (error_err 4 4 _ (HE.out.below hB)).mono ?_
      rintro e' wt ⟨rfl, kt⟩
      have hB := hB.trans (kt.mono hB.size)
      clear kt
      have hAx := hA.below hB
      go_wp2_with fail
      with_reducible refine (rvalues_any _ _ _ xs _ hAx).mono ?_
      rintro e' w' ⟨rfl, rfl⟩
      rw [HG.out]
      go_wp2_with fail
      with_reducible refine (mcheck_bad _ _ _ xs _ hAx (by rw [HG.out]; exact HG0.out)).mono ?_
      rintro e' w' ⟨rfl, rfl⟩
      rw [HG.out]
      go_wp2_with fail
      with_reducible refine (error_err G G _ (HE.out.below hB)).mono ?_
      rintro e' wt ⟨rfl, kt⟩
      have hB := hB.trans (kt.mono hB.size)
      clear kt
      have hAx := hA.below hB
      go_wp2_with fail
      with_reducible refine (mroot_bad _ _ _ xs _ hAx (by rw [HG.out]; exact HG0.out)).mono ?_
      rintro e' w' ⟨rfl, rfl⟩
      rw [HG.out]
      go_wp2_with fail
      with_reducible refine (error_err G G _ (HE.out.below hB)).mono ?_
      rintro e' wt ⟨rfl, kt⟩
      have hB := hB.trans (kt.mono hB.size)
      clear kt
      have hAx := hA.below hB
      go_wp2_with fail
      with_reducible refine (mway_bad _ _ _ xs i _ hAx (by rw [HG.out]; exact HG0.out)).mono ?_
      rintro e' w' ⟨rfl, rfl⟩
      rw [HG.out]
      go_wp2_with fail
      with_reducible refine (error_err G G _ (HE.out.below hB)).mono ?_
      rintro e' wt ⟨rfl, kt⟩
      have hB := hB.trans (kt.mono hB.size)
      clear kt
      go_wp2_with fail
      with_reducible refine (sides_any _ _ _ _ _ _ [] [] _ (RdP.nil _ _) (RdP.nil _ _)).mono ?_
      rintro e' wq ⟨rfl, kq⟩
      rw [show decide (([] : List (Bool × Int)) = []) = true from by simp]
      have hB := hB.trans (kq.mono hB.size)
      clear kq
      go_wp2
      go_ret
      exact ⟨rfl, hB⟩
    · skip
      have hv0 : 0 ≤ v := by omega
      have hv1 : v ≤ 1000 := by omega
      go_enter Tryd.func3, Tryd.ntmps3
      go_wp2_with fail
      with_reducible refine (in_yes _ _ _ _ hv0 hv1).mono ?_
      rintro e w' ⟨rfl, rfl⟩
      go_wp2_with fail
      with_reducible refine (rleaf_any v _ hv0 hv1).mono ?_
      rintro e w' ⟨rfl, rfl⟩
      rw [HL.out]
      go_wp2_with fail
      with_reducible refine (mleaf_ok v _ hv0 hv1).mono ?_
      rintro e w' ⟨rfl, rfl⟩
      rw [HL.out]
      go_wp2_with fail
      with_reducible refine (error_nil _ _).mono ?_
      rintro e w' ⟨rfl, rfl⟩
      go_wp2_with fail
      with_reducible refine (up_full _ _ _ v _ hm16).mono ?_
      rintro e w' ⟨rfl, rfl⟩
      go_wp2_with fail
      with_reducible refine (error_err 4 4 _ (HE.out.below hB)).mono ?_
      rintro e' wt ⟨rfl, kt⟩
      have hB := hB.trans (kt.mono hB.size)
      clear kt
      have hAx := hA.below hB
      go_wp2_with fail
      with_reducible refine (rvalues_any _ _ _ xs _ hAx).mono ?_
      rintro e' w' ⟨rfl, rfl⟩
      rw [HG.out]
      go_wp2_with fail
      with_reducible refine (mcheck_bad _ _ _ xs _ hAx (by rw [HG.out]; exact HG0.out)).mono ?_
      rintro e' w' ⟨rfl, rfl⟩
      rw [HG.out]
      go_wp2_with fail
      with_reducible refine (error_err G G _ (HE.out.below hB)).mono ?_
      rintro e' wt ⟨rfl, kt⟩
      have hB := hB.trans (kt.mono hB.size)
      clear kt
      have hAx := hA.below hB
      go_wp2_with fail
      with_reducible refine (mroot_bad _ _ _ xs _ hAx (by rw [HG.out]; exact HG0.out)).mono ?_
      rintro e' w' ⟨rfl, rfl⟩
      rw [HG.out]
      go_wp2_with fail
      with_reducible refine (error_err G G _ (HE.out.below hB)).mono ?_
      rintro e' wt ⟨rfl, kt⟩
      have hB := hB.trans (kt.mono hB.size)
      clear kt
      have hAx := hA.below hB
      go_wp2_with fail
      with_reducible refine (mway_bad _ _ _ xs i _ hAx (by rw [HG.out]; exact HG0.out)).mono ?_
      rintro e' w' ⟨rfl, rfl⟩
      rw [HG.out]
      go_wp2_with fail
      with_reducible refine (error_err G G _ (HE.out.below hB)).mono ?_
      rintro e' wt ⟨rfl, kt⟩
      have hB := hB.trans (kt.mono hB.size)
      clear kt
      go_wp2_with fail
      with_reducible refine (sides_any _ _ _ _ _ _ [] [] _ (RdP.nil _ _) (RdP.nil _ _)).mono ?_
      rintro e' wq ⟨rfl, kq⟩
      rw [show decide (([] : List (Bool × Int)) = []) = true from by simp]
      have hB := hB.trans (kq.mono hB.size)
      clear kq
      go_wp2
      go_ret
      exact ⟨rfl, hB⟩
  · have hmI : ¬ (16 : Int) < (m : Int) := by omega
    have hm16' : m ≤ 16 := by omega
    by_cases hvr : v < 0 ∨ 1000 < v
    · skip
      go_enter Tryd.func3, Tryd.ntmps3
      go_wp2_with fail
      with_reducible refine (in_no _ _ _ _ hvr).mono ?_
      rintro e w' ⟨rfl, rfl⟩
      go_wp2_with fail
      with_reducible refine (mleaf_bad v _ hvr).mono ?_
      rintro e w' ⟨rfl, rfl⟩
      go_wp2_with fail
      with_reducible refine (error_err 1 1 _ (HE.out.below hB)).mono ?_
      rintro e' wt ⟨rfl, kt⟩
      have hB := hB.trans (kt.mono hB.size)
      clear kt
      go_wp2_with fail
      with_reducible refine (up_badv _ _ _ v _ hm16' hvr).mono ?_
      rintro e w' ⟨rfl, rfl⟩
      go_wp2_with fail
      with_reducible refine (error_err 1 1 _ (HE.out.below hB)).mono ?_
      rintro e' wt ⟨rfl, kt⟩
      have hB := hB.trans (kt.mono hB.size)
      clear kt
      have hAx := hA.below hB
      go_wp2_with fail
      with_reducible refine (rvalues_any _ _ _ xs _ hAx).mono ?_
      rintro e' w' ⟨rfl, rfl⟩
      rw [HG.out]
      go_wp2_with fail
      with_reducible refine (mcheck_bad _ _ _ xs _ hAx (by rw [HG.out]; exact HG0.out)).mono ?_
      rintro e' w' ⟨rfl, rfl⟩
      rw [HG.out]
      go_wp2_with fail
      with_reducible refine (error_err G G _ (HE.out.below hB)).mono ?_
      rintro e' wt ⟨rfl, kt⟩
      have hB := hB.trans (kt.mono hB.size)
      clear kt
      have hAx := hA.below hB
      go_wp2_with fail
      with_reducible refine (mroot_bad _ _ _ xs _ hAx (by rw [HG.out]; exact HG0.out)).mono ?_
      rintro e' w' ⟨rfl, rfl⟩
      rw [HG.out]
      go_wp2_with fail
      with_reducible refine (error_err G G _ (HE.out.below hB)).mono ?_
      rintro e' wt ⟨rfl, kt⟩
      have hB := hB.trans (kt.mono hB.size)
      clear kt
      have hAx := hA.below hB
      go_wp2_with fail
      with_reducible refine (mway_bad _ _ _ xs i _ hAx (by rw [HG.out]; exact HG0.out)).mono ?_
      rintro e' w' ⟨rfl, rfl⟩
      rw [HG.out]
      go_wp2_with fail
      with_reducible refine (error_err G G _ (HE.out.below hB)).mono ?_
      rintro e' wt ⟨rfl, kt⟩
      have hB := hB.trans (kt.mono hB.size)
      clear kt
      go_wp2_with fail
      with_reducible refine (sides_any _ _ _ _ _ _ [] [] _ (RdP.nil _ _) (RdP.nil _ _)).mono ?_
      rintro e' wq ⟨rfl, kq⟩
      rw [show decide (([] : List (Bool × Int)) = []) = true from by simp]
      have hB := hB.trans (kq.mono hB.size)
      clear kq
      go_wp2
      go_ret
      exact ⟨rfl, hB⟩
    · skip
      have hv0 : 0 ≤ v := by omega
      have hv1 : v ≤ 1000 := by omega
      go_enter Tryd.func3, Tryd.ntmps3
      go_wp2_with fail
      with_reducible refine (in_yes _ _ _ _ hv0 hv1).mono ?_
      rintro e w' ⟨rfl, rfl⟩
      go_wp2_with fail
      with_reducible refine (rleaf_any v _ hv0 hv1).mono ?_
      rintro e w' ⟨rfl, rfl⟩
      rw [HL.out]
      go_wp2_with fail
      with_reducible refine (mleaf_ok v _ hv0 hv1).mono ?_
      rintro e w' ⟨rfl, rfl⟩
      rw [HL.out]
      go_wp2_with fail
      with_reducible refine (error_nil _ _).mono ?_
      rintro e w' ⟨rfl, rfl⟩
      go_wp2_with fail
      with_reducible refine (rleaf_any v _ hv0 hv1).mono ?_
      rintro e w' ⟨rfl, rfl⟩
      rw [HL.out]
      go_wp2
      go_loop [9, 10, 14] (fun e u j => ∃ (t : Nat) (E U : Int), t ≤ m ∧ j = .int .i64 t ∧ e = .int .i64 E ∧ u = .int .i64 U ∧ (0 ≤ U ∧ U ≤ 9972) ∧ ((E = 0 ∧ U = upI L (l.take t) ∧ goodW (l.take t)) ∨ (E = 1 ∧ ¬ goodW l))) (fun _ _ j => m - (intOf j).toNat)
      case atStart => exact ⟨0, 0, L, Nat.zero_le _, rfl, rfl, rfl, ⟨hl0, hl1⟩, .inl ⟨rfl, rfl, by intro p hp; simp at hp⟩⟩
      case round =>
        obtain ⟨t, E, U, ht, rfl, rfl, rfl, ⟨hu0, hu1⟩, hcase⟩ := hrel
        rcases hcase with ⟨rfl, hU, hgood⟩ | ⟨rfl, hbad⟩
        · by_cases hlt : t < m
          · have htI : (t : Int) < (m : Int) := by omega
            obtain ⟨b, off, rfl, hbl, hcc⟩ := hP.at_ (by omega)
            obtain ⟨c1, c2⟩ := hcc t hlt
            have htl : t < l.length := by rw [HN.out]; exact hlt
            have hsn := take_snocW htl
            have hup := up_snoc L (l.take t) l[t]
            rw [← hsn] at hup
            rw [sv_get htl] at c1 c2
            obtain ⟨p, hp⟩ : ∃ p, l[t] = p := ⟨_, rfl⟩
            have hmem : p ∈ l := by rw [← hp]; exact List.getElem_mem _
            rw [hp] at c1 c2 hsn hup
            obtain ⟨bb, s⟩ := p
            change w.cell? ⟨b, off + t * 2, none⟩ = some (.bool bb) at c1
            change w.cell? ⟨b, off + t * 2 + 1, none⟩ = some (.int .i64 s) at c2
            rw [← hU] at hup
            have HH := Lib.hid (And.intro hgood (And.intro hsn (And.intro hup hmem)))
            clear hcc hsn hup hp hmem hgood hU htl
            by_cases hs : 0 ≤ s ∧ s ≤ 9972
            · have HS := Lib.hid hs
              obtain ⟨hs0, hs1⟩ := hs
              cases bb with
              | true =>
                go_wp2_with fail
                with_reducible refine (in_yes _ _ _ _ hs0 hs1).mono ?_
                rintro e w' ⟨rfl, rfl⟩
                go_wp2_with fail
                with_reducible refine (rjoin_any s U _ hs0 hs1 hu0 hu1).mono ?_
                rintro e w' ⟨rfl, rfl⟩
                go_wp2
                go_round
                case rel => exact ⟨t + 1, 0, nodeI s U, by omega, by go_num, rfl, rfl, node_range _ _, .inl ⟨rfl, by rw [HH.out.2.2.1]; rfl, good_take HH.out.1 HS.out HH.out.2.1⟩⟩
                case measure => simp [intOf]; omega
              | false =>
                go_wp2_with fail
                with_reducible refine (in_yes _ _ _ _ hs0 hs1).mono ?_
                rintro e w' ⟨rfl, rfl⟩
                go_wp2_with fail
                with_reducible refine (rjoin_any U s _ hu0 hu1 hs0 hs1).mono ?_
                rintro e w' ⟨rfl, rfl⟩
                go_wp2
                go_round
                case rel => exact ⟨t + 1, 0, nodeI U s, by omega, by go_num, rfl, rfl, node_range _ _, .inl ⟨rfl, by rw [HH.out.2.2.1]; rfl, good_take HH.out.1 HS.out HH.out.2.1⟩⟩
                case measure => simp [intOf]; omega
            · have hs' : s < 0 ∨ 9972 < s := by omega
              have hng := Lib.hid (show ¬ goodW l from fun h => hs (h _ HH.out.2.2.2))
              clear hs
              go_wp2_with fail
              with_reducible refine (in_no _ _ _ _ hs').mono ?_
              rintro e w' ⟨rfl, rfl⟩
              go_wp2
              go_round
              case rel => exact ⟨t + 1, 1, U, by omega, by go_num, rfl, rfl, ⟨hu0, hu1⟩, .inr ⟨rfl, hng.out⟩⟩
              case measure => simp [intOf]; omega
          · obtain rfl : t = m := by omega
            rw [List.take_of_length_le (by rw [HN.out]; omega)] at hU hgood
            have htI : ¬ (t : Int) < (t : Int) := by omega
            have hg := upV_good (v := v) hgood
            rw [HL.out, ← hU] at hg
            have HUV := Lib.hid hg
            have hUU : (U == U) = true := by simp
            clear hg hU hgood
            go_wp2_with fail
            with_reducible refine (up_any _ _ _ l v _ hP hm16' hv0 hv1).mono ?_
            rintro e' wu ⟨rfl, ku⟩
            rw [HUV.out]
            have hB := hB.trans (ku.mono hB.size)
            go_wp2_with fail
            with_reducible refine (error_nil _ _).mono ?_
            rintro e w' ⟨rfl, rfl⟩
            have hAx := hA.below hB
            go_wp2_with fail
            with_reducible refine (rvalues_any _ _ _ xs _ hAx).mono ?_
            rintro e' w' ⟨rfl, rfl⟩
            rw [HG.out]
            go_wp2_with fail
            with_reducible refine (mcheck_bad _ _ _ xs _ hAx (by rw [HG.out]; exact HG0.out)).mono ?_
            rintro e' w' ⟨rfl, rfl⟩
            rw [HG.out]
            go_wp2_with fail
            with_reducible refine (error_err G G _ (HE.out.below hB)).mono ?_
            rintro e' wt ⟨rfl, kt⟩
            have hB := hB.trans (kt.mono hB.size)
            clear kt
            have hAx := hA.below hB
            go_wp2_with fail
            with_reducible refine (mroot_bad _ _ _ xs _ hAx (by rw [HG.out]; exact HG0.out)).mono ?_
            rintro e' w' ⟨rfl, rfl⟩
            rw [HG.out]
            go_wp2_with fail
            with_reducible refine (error_err G G _ (HE.out.below hB)).mono ?_
            rintro e' wt ⟨rfl, kt⟩
            have hB := hB.trans (kt.mono hB.size)
            clear kt
            have hAx := hA.below hB
            go_wp2_with fail
            with_reducible refine (mway_bad _ _ _ xs i _ hAx (by rw [HG.out]; exact HG0.out)).mono ?_
            rintro e' w' ⟨rfl, rfl⟩
            rw [HG.out]
            go_wp2_with fail
            with_reducible refine (error_err G G _ (HE.out.below hB)).mono ?_
            rintro e' wt ⟨rfl, kt⟩
            have hB := hB.trans (kt.mono hB.size)
            clear kt
            go_wp2_with fail
            with_reducible refine (sides_any _ _ _ _ _ _ [] [] _ (RdP.nil _ _) (RdP.nil _ _)).mono ?_
            rintro e' wq ⟨rfl, kq⟩
            rw [show decide (([] : List (Bool × Int)) = []) = true from by simp]
            have hB := hB.trans (kq.mono hB.size)
            clear kq
            go_wp2
            go_ret
            exact ⟨rfl, hB⟩
        · have HBAD := Lib.hid (upV_bad (v := v) hbad)
          clear hbad
          by_cases hlt : t < m
          · have htI : (t : Int) < (m : Int) := by omega
            go_wp2_with fail
            with_reducible refine (up_any _ _ _ l v _ hP hm16' hv0 hv1).mono ?_
            rintro e' wu ⟨rfl, ku⟩
            rw [HBAD.out]
            have hB := hB.trans (ku.mono hB.size)
            go_wp2_with fail
            with_reducible refine (error_err 1 1 _ (HE.out.below hB)).mono ?_
            rintro e' wt ⟨rfl, kt⟩
            have hB := hB.trans (kt.mono hB.size)
            clear kt
            have hAx := hA.below hB
            go_wp2_with fail
            with_reducible refine (rvalues_any _ _ _ xs _ hAx).mono ?_
            rintro e' w' ⟨rfl, rfl⟩
            rw [HG.out]
            go_wp2_with fail
            with_reducible refine (mcheck_bad _ _ _ xs _ hAx (by rw [HG.out]; exact HG0.out)).mono ?_
            rintro e' w' ⟨rfl, rfl⟩
            rw [HG.out]
            go_wp2_with fail
            with_reducible refine (error_err G G _ (HE.out.below hB)).mono ?_
            rintro e' wt ⟨rfl, kt⟩
            have hB := hB.trans (kt.mono hB.size)
            clear kt
            have hAx := hA.below hB
            go_wp2_with fail
            with_reducible refine (mroot_bad _ _ _ xs _ hAx (by rw [HG.out]; exact HG0.out)).mono ?_
            rintro e' w' ⟨rfl, rfl⟩
            rw [HG.out]
            go_wp2_with fail
            with_reducible refine (error_err G G _ (HE.out.below hB)).mono ?_
            rintro e' wt ⟨rfl, kt⟩
            have hB := hB.trans (kt.mono hB.size)
            clear kt
            have hAx := hA.below hB
            go_wp2_with fail
            with_reducible refine (mway_bad _ _ _ xs i _ hAx (by rw [HG.out]; exact HG0.out)).mono ?_
            rintro e' w' ⟨rfl, rfl⟩
            rw [HG.out]
            go_wp2_with fail
            with_reducible refine (error_err G G _ (HE.out.below hB)).mono ?_
            rintro e' wt ⟨rfl, kt⟩
            have hB := hB.trans (kt.mono hB.size)
            clear kt
            go_wp2_with fail
            with_reducible refine (sides_any _ _ _ _ _ _ [] [] _ (RdP.nil _ _) (RdP.nil _ _)).mono ?_
            rintro e' wq ⟨rfl, kq⟩
            rw [show decide (([] : List (Bool × Int)) = []) = true from by simp]
            have hB := hB.trans (kq.mono hB.size)
            clear kq
            go_wp2
            go_ret
            exact ⟨rfl, hB⟩
          · have htI : ¬ (t : Int) < (m : Int) := by omega
            go_wp2_with fail
            with_reducible refine (up_any _ _ _ l v _ hP hm16' hv0 hv1).mono ?_
            rintro e' wu ⟨rfl, ku⟩
            rw [HBAD.out]
            have hB := hB.trans (ku.mono hB.size)
            go_wp2_with fail
            with_reducible refine (error_err 1 1 _ (HE.out.below hB)).mono ?_
            rintro e' wt ⟨rfl, kt⟩
            have hB := hB.trans (kt.mono hB.size)
            clear kt
            have hAx := hA.below hB
            go_wp2_with fail
            with_reducible refine (rvalues_any _ _ _ xs _ hAx).mono ?_
            rintro e' w' ⟨rfl, rfl⟩
            rw [HG.out]
            go_wp2_with fail
            with_reducible refine (mcheck_bad _ _ _ xs _ hAx (by rw [HG.out]; exact HG0.out)).mono ?_
            rintro e' w' ⟨rfl, rfl⟩
            rw [HG.out]
            go_wp2_with fail
            with_reducible refine (error_err G G _ (HE.out.below hB)).mono ?_
            rintro e' wt ⟨rfl, kt⟩
            have hB := hB.trans (kt.mono hB.size)
            clear kt
            have hAx := hA.below hB
            go_wp2_with fail
            with_reducible refine (mroot_bad _ _ _ xs _ hAx (by rw [HG.out]; exact HG0.out)).mono ?_
            rintro e' w' ⟨rfl, rfl⟩
            rw [HG.out]
            go_wp2_with fail
            with_reducible refine (error_err G G _ (HE.out.below hB)).mono ?_
            rintro e' wt ⟨rfl, kt⟩
            have hB := hB.trans (kt.mono hB.size)
            clear kt
            have hAx := hA.below hB
            go_wp2_with fail
            with_reducible refine (mway_bad _ _ _ xs i _ hAx (by rw [HG.out]; exact HG0.out)).mono ?_
            rintro e' w' ⟨rfl, rfl⟩
            rw [HG.out]
            go_wp2_with fail
            with_reducible refine (error_err G G _ (HE.out.below hB)).mono ?_
            rintro e' wt ⟨rfl, kt⟩
            have hB := hB.trans (kt.mono hB.size)
            clear kt
            go_wp2_with fail
            with_reducible refine (sides_any _ _ _ _ _ _ [] [] _ (RdP.nil _ _) (RdP.nil _ _)).mono ?_
            rintro e' wq ⟨rfl, kq⟩
            rw [show decide (([] : List (Bool × Int)) = []) = true from by simp]
            have hB := hB.trans (kq.mono hB.size)
            clear kq
            go_wp2
            go_ret
            exact ⟨rfl, hB⟩

set_option maxHeartbeats 8000000 in
set_option maxRecDepth 100000 in
theorem walk_out (w : World) (A : Option Addr) (n c : Nat) (xs : List Int) (hA : Rd w A n xs) (hc : n ≤ c) (i : Int) (hi : -9223372036854775808 ≤ i ∧ i ≤ 9223372036854775807) (v : Int) (hv : -9223372036854775808 ≤ v ∧ v ≤ 9223372036854775807) (B : Option Addr) (m d : Nat) (l : List (Bool × Int)) (hP : RdP w B m (l.map sv)) (hb : ∀ p ∈ l, -9223372036854775808 ≤ p.2 ∧ p.2 ≤ 9223372036854775807) (hd : m ≤ d) (hE : ErrT w) (h1 : 1 ≤ n) (h16 : n ≤ 16) (hX : allB xs 0 1000 = true) (hG : valE xs = 0) (hin : i < 0 ∨ (n : Int) - 1 < i) :
    Calls Tryd.prog 3 #[.slice A n c, .int .i64 i, .int .i64 v, .slice B m d] w fun e w' => e = .returned (.bool true) ∧ Below w.heap.size w w' := by
  have hlen : l.length = m := by have := hP.len; simpa using this
  have HE := Lib.hid hE
  have HBD := Lib.hid hb
  have HN := Lib.hid hlen
  have HG := Lib.hid hG
  have HX := Lib.hid hX
  have HXM := Lib.hid (allB_mem.1 hX)
  obtain ⟨R, hR⟩ : ∃ R, rootF 16 xs = R := ⟨_, rfl⟩
  have HR := Lib.hid hR
  have hRs : (R == R) = true := by simp
  clear hX hR
  clear hE hb hlen hG
  have hB : Below w.heap.size w w := Below.refl _ _
  have hLs := leaf_range v
  obtain ⟨L, hL⟩ : ∃ L, leafI v = L := ⟨_, rfl⟩
  rw [hL] at hLs
  have HL := Lib.hid hL
  have hLL : (L == L) = true := by simp
  obtain ⟨hl0, hl1⟩ := hLs
  clear hL
  by_cases hm16 : 16 < m
  · have hmI : (16 : Int) < (m : Int) := by omega
    by_cases hvr : v < 0 ∨ 1000 < v
    · skip
      go_enter Tryd.func3, Tryd.ntmps3
      go_wp2_with fail
      with_reducible refine (in_no _ _ _ _ hvr).mono ?_
      rintro e w' ⟨rfl, rfl⟩
      go_wp2_with fail
      with_reducible refine (mleaf_bad v _ hvr).mono ?_
      rintro e w' ⟨rfl, rfl⟩
      go_wp2_with fail
      with_reducible refine (error_err 1 1 _ (HE.out.below hB)).mono ?_
      rintro e' wt ⟨rfl, kt⟩
      have hB := hB.trans (kt.mono hB.size)
      clear kt
      go_wp2_with fail
      with_reducible refine (up_full _ _ _ v _ hm16).mono ?_
      rintro e w' ⟨rfl, rfl⟩
      go_wp2_with fail
      with_reducible refine (error_err 4 4 _ (HE.out.below hB)).mono ?_
      rintro e' wt ⟨rfl, kt⟩
      have hB := hB.trans (kt.mono hB.size)
      clear kt
      have hAx := hA.below hB
      go_wp2_with fail
      with_reducible refine (rvalues_any _ _ _ xs _ hAx).mono ?_
      rintro e' w' ⟨rfl, rfl⟩
      rw [HG.out]
      go_wp2_with fail
      with_reducible refine (mcheck_ok _ _ _ xs _ hAx h1 h16 HX.out).mono ?_
      rintro e w' ⟨rfl, rfl⟩
      go_wp2_with fail
      with_reducible refine (error_nil _ _).mono ?_
      rintro e w' ⟨rfl, rfl⟩
      go_wp2_with fail
      with_reducible refine (rroot_any 16 _ _ _ xs _ hAx hc h1 h16 h16 HXM.out).mono ?_
      rintro e' wr ⟨rfl, qr, rfl⟩
      rw [HR.out]
      have hB := below_drewN_of hB qr
      have hAx := hA.below hB
      go_wp2_with fail
      with_reducible refine (mroot_ok _ _ _ xs _ hAx hc h1 h16 HX.out).mono ?_
      rintro e' wr ⟨rfl, kr⟩
      rw [HR.out]
      have hB := hB.trans (kr.mono hB.size)
      have hAx := hA.below hB
      clear kr
      go_wp2_with fail
      with_reducible refine (error_nil _ _).mono ?_
      rintro e w' ⟨rfl, rfl⟩
      go_wp2_with fail
      with_reducible refine (in_no _ _ _ _ hin).mono ?_
      rintro e w' ⟨rfl, rfl⟩
      go_wp2_with fail
      with_reducible refine (mway_out _ _ _ xs i _ hAx h1 h16 HX.out hin).mono ?_
      rintro e w' ⟨rfl, rfl⟩
      go_wp2_with fail
      with_reducible refine (error_err 1 1 _ (HE.out.below hB)).mono ?_
      rintro e' wt ⟨rfl, kt⟩
      have hB := hB.trans (kt.mono hB.size)
      clear kt
      go_wp2_with fail
      with_reducible refine (sides_any _ _ _ _ _ _ [] [] _ (RdP.nil _ _) (RdP.nil _ _)).mono ?_
      rintro e' wq ⟨rfl, kq⟩
      rw [show decide (([] : List (Bool × Int)) = []) = true from by simp]
      have hB := hB.trans (kq.mono hB.size)
      clear kq
      go_wp2
      go_ret
      exact ⟨rfl, hB⟩
    · skip
      have hv0 : 0 ≤ v := by omega
      have hv1 : v ≤ 1000 := by omega
      go_enter Tryd.func3, Tryd.ntmps3
      go_wp2_with fail
      with_reducible refine (in_yes _ _ _ _ hv0 hv1).mono ?_
      rintro e w' ⟨rfl, rfl⟩
      go_wp2_with fail
      with_reducible refine (rleaf_any v _ hv0 hv1).mono ?_
      rintro e w' ⟨rfl, rfl⟩
      rw [HL.out]
      go_wp2_with fail
      with_reducible refine (mleaf_ok v _ hv0 hv1).mono ?_
      rintro e w' ⟨rfl, rfl⟩
      rw [HL.out]
      go_wp2_with fail
      with_reducible refine (error_nil _ _).mono ?_
      rintro e w' ⟨rfl, rfl⟩
      go_wp2_with fail
      with_reducible refine (up_full _ _ _ v _ hm16).mono ?_
      rintro e w' ⟨rfl, rfl⟩
      go_wp2_with fail
      with_reducible refine (error_err 4 4 _ (HE.out.below hB)).mono ?_
      rintro e' wt ⟨rfl, kt⟩
      have hB := hB.trans (kt.mono hB.size)
      clear kt
      have hAx := hA.below hB
      go_wp2_with fail
      with_reducible refine (rvalues_any _ _ _ xs _ hAx).mono ?_
      rintro e' w' ⟨rfl, rfl⟩
      rw [HG.out]
      go_wp2_with fail
      with_reducible refine (mcheck_ok _ _ _ xs _ hAx h1 h16 HX.out).mono ?_
      rintro e w' ⟨rfl, rfl⟩
      go_wp2_with fail
      with_reducible refine (error_nil _ _).mono ?_
      rintro e w' ⟨rfl, rfl⟩
      go_wp2_with fail
      with_reducible refine (rroot_any 16 _ _ _ xs _ hAx hc h1 h16 h16 HXM.out).mono ?_
      rintro e' wr ⟨rfl, qr, rfl⟩
      rw [HR.out]
      have hB := below_drewN_of hB qr
      have hAx := hA.below hB
      go_wp2_with fail
      with_reducible refine (mroot_ok _ _ _ xs _ hAx hc h1 h16 HX.out).mono ?_
      rintro e' wr ⟨rfl, kr⟩
      rw [HR.out]
      have hB := hB.trans (kr.mono hB.size)
      have hAx := hA.below hB
      clear kr
      go_wp2_with fail
      with_reducible refine (error_nil _ _).mono ?_
      rintro e w' ⟨rfl, rfl⟩
      go_wp2_with fail
      with_reducible refine (in_no _ _ _ _ hin).mono ?_
      rintro e w' ⟨rfl, rfl⟩
      go_wp2_with fail
      with_reducible refine (mway_out _ _ _ xs i _ hAx h1 h16 HX.out hin).mono ?_
      rintro e w' ⟨rfl, rfl⟩
      go_wp2_with fail
      with_reducible refine (error_err 1 1 _ (HE.out.below hB)).mono ?_
      rintro e' wt ⟨rfl, kt⟩
      have hB := hB.trans (kt.mono hB.size)
      clear kt
      go_wp2_with fail
      with_reducible refine (sides_any _ _ _ _ _ _ [] [] _ (RdP.nil _ _) (RdP.nil _ _)).mono ?_
      rintro e' wq ⟨rfl, kq⟩
      rw [show decide (([] : List (Bool × Int)) = []) = true from by simp]
      have hB := hB.trans (kq.mono hB.size)
      clear kq
      go_wp2
      go_ret
      exact ⟨rfl, hB⟩
  · have hmI : ¬ (16 : Int) < (m : Int) := by omega
    have hm16' : m ≤ 16 := by omega
    by_cases hvr : v < 0 ∨ 1000 < v
    · skip
      go_enter Tryd.func3, Tryd.ntmps3
      go_wp2_with fail
      with_reducible refine (in_no _ _ _ _ hvr).mono ?_
      rintro e w' ⟨rfl, rfl⟩
      go_wp2_with fail
      with_reducible refine (mleaf_bad v _ hvr).mono ?_
      rintro e w' ⟨rfl, rfl⟩
      go_wp2_with fail
      with_reducible refine (error_err 1 1 _ (HE.out.below hB)).mono ?_
      rintro e' wt ⟨rfl, kt⟩
      have hB := hB.trans (kt.mono hB.size)
      clear kt
      go_wp2_with fail
      with_reducible refine (up_badv _ _ _ v _ hm16' hvr).mono ?_
      rintro e w' ⟨rfl, rfl⟩
      go_wp2_with fail
      with_reducible refine (error_err 1 1 _ (HE.out.below hB)).mono ?_
      rintro e' wt ⟨rfl, kt⟩
      have hB := hB.trans (kt.mono hB.size)
      clear kt
      have hAx := hA.below hB
      go_wp2_with fail
      with_reducible refine (rvalues_any _ _ _ xs _ hAx).mono ?_
      rintro e' w' ⟨rfl, rfl⟩
      rw [HG.out]
      go_wp2_with fail
      with_reducible refine (mcheck_ok _ _ _ xs _ hAx h1 h16 HX.out).mono ?_
      rintro e w' ⟨rfl, rfl⟩
      go_wp2_with fail
      with_reducible refine (error_nil _ _).mono ?_
      rintro e w' ⟨rfl, rfl⟩
      go_wp2_with fail
      with_reducible refine (rroot_any 16 _ _ _ xs _ hAx hc h1 h16 h16 HXM.out).mono ?_
      rintro e' wr ⟨rfl, qr, rfl⟩
      rw [HR.out]
      have hB := below_drewN_of hB qr
      have hAx := hA.below hB
      go_wp2_with fail
      with_reducible refine (mroot_ok _ _ _ xs _ hAx hc h1 h16 HX.out).mono ?_
      rintro e' wr ⟨rfl, kr⟩
      rw [HR.out]
      have hB := hB.trans (kr.mono hB.size)
      have hAx := hA.below hB
      clear kr
      go_wp2_with fail
      with_reducible refine (error_nil _ _).mono ?_
      rintro e w' ⟨rfl, rfl⟩
      go_wp2_with fail
      with_reducible refine (in_no _ _ _ _ hin).mono ?_
      rintro e w' ⟨rfl, rfl⟩
      go_wp2_with fail
      with_reducible refine (mway_out _ _ _ xs i _ hAx h1 h16 HX.out hin).mono ?_
      rintro e w' ⟨rfl, rfl⟩
      go_wp2_with fail
      with_reducible refine (error_err 1 1 _ (HE.out.below hB)).mono ?_
      rintro e' wt ⟨rfl, kt⟩
      have hB := hB.trans (kt.mono hB.size)
      clear kt
      go_wp2_with fail
      with_reducible refine (sides_any _ _ _ _ _ _ [] [] _ (RdP.nil _ _) (RdP.nil _ _)).mono ?_
      rintro e' wq ⟨rfl, kq⟩
      rw [show decide (([] : List (Bool × Int)) = []) = true from by simp]
      have hB := hB.trans (kq.mono hB.size)
      clear kq
      go_wp2
      go_ret
      exact ⟨rfl, hB⟩
    · skip
      have hv0 : 0 ≤ v := by omega
      have hv1 : v ≤ 1000 := by omega
      go_enter Tryd.func3, Tryd.ntmps3
      go_wp2_with fail
      with_reducible refine (in_yes _ _ _ _ hv0 hv1).mono ?_
      rintro e w' ⟨rfl, rfl⟩
      go_wp2_with fail
      with_reducible refine (rleaf_any v _ hv0 hv1).mono ?_
      rintro e w' ⟨rfl, rfl⟩
      rw [HL.out]
      go_wp2_with fail
      with_reducible refine (mleaf_ok v _ hv0 hv1).mono ?_
      rintro e w' ⟨rfl, rfl⟩
      rw [HL.out]
      go_wp2_with fail
      with_reducible refine (error_nil _ _).mono ?_
      rintro e w' ⟨rfl, rfl⟩
      go_wp2_with fail
      with_reducible refine (rleaf_any v _ hv0 hv1).mono ?_
      rintro e w' ⟨rfl, rfl⟩
      rw [HL.out]
      go_wp2
      go_loop [9, 10, 14] (fun e u j => ∃ (t : Nat) (E U : Int), t ≤ m ∧ j = .int .i64 t ∧ e = .int .i64 E ∧ u = .int .i64 U ∧ (0 ≤ U ∧ U ≤ 9972) ∧ ((E = 0 ∧ U = upI L (l.take t) ∧ goodW (l.take t)) ∨ (E = 1 ∧ ¬ goodW l))) (fun _ _ j => m - (intOf j).toNat)
      case atStart => exact ⟨0, 0, L, Nat.zero_le _, rfl, rfl, rfl, ⟨hl0, hl1⟩, .inl ⟨rfl, rfl, by intro p hp; simp at hp⟩⟩
      case round =>
        obtain ⟨t, E, U, ht, rfl, rfl, rfl, ⟨hu0, hu1⟩, hcase⟩ := hrel
        rcases hcase with ⟨rfl, hU, hgood⟩ | ⟨rfl, hbad⟩
        · by_cases hlt : t < m
          · have htI : (t : Int) < (m : Int) := by omega
            obtain ⟨b, off, rfl, hbl, hcc⟩ := hP.at_ (by omega)
            obtain ⟨c1, c2⟩ := hcc t hlt
            have htl : t < l.length := by rw [HN.out]; exact hlt
            have hsn := take_snocW htl
            have hup := up_snoc L (l.take t) l[t]
            rw [← hsn] at hup
            rw [sv_get htl] at c1 c2
            obtain ⟨p, hp⟩ : ∃ p, l[t] = p := ⟨_, rfl⟩
            have hmem : p ∈ l := by rw [← hp]; exact List.getElem_mem _
            rw [hp] at c1 c2 hsn hup
            obtain ⟨bb, s⟩ := p
            change w.cell? ⟨b, off + t * 2, none⟩ = some (.bool bb) at c1
            change w.cell? ⟨b, off + t * 2 + 1, none⟩ = some (.int .i64 s) at c2
            rw [← hU] at hup
            have HH := Lib.hid (And.intro hgood (And.intro hsn (And.intro hup hmem)))
            clear hcc hsn hup hp hmem hgood hU htl
            by_cases hs : 0 ≤ s ∧ s ≤ 9972
            · have HS := Lib.hid hs
              obtain ⟨hs0, hs1⟩ := hs
              cases bb with
              | true =>
                go_wp2_with fail
                with_reducible refine (in_yes _ _ _ _ hs0 hs1).mono ?_
                rintro e w' ⟨rfl, rfl⟩
                go_wp2_with fail
                with_reducible refine (rjoin_any s U _ hs0 hs1 hu0 hu1).mono ?_
                rintro e w' ⟨rfl, rfl⟩
                go_wp2
                go_round
                case rel => exact ⟨t + 1, 0, nodeI s U, by omega, by go_num, rfl, rfl, node_range _ _, .inl ⟨rfl, by rw [HH.out.2.2.1]; rfl, good_take HH.out.1 HS.out HH.out.2.1⟩⟩
                case measure => simp [intOf]; omega
              | false =>
                go_wp2_with fail
                with_reducible refine (in_yes _ _ _ _ hs0 hs1).mono ?_
                rintro e w' ⟨rfl, rfl⟩
                go_wp2_with fail
                with_reducible refine (rjoin_any U s _ hu0 hu1 hs0 hs1).mono ?_
                rintro e w' ⟨rfl, rfl⟩
                go_wp2
                go_round
                case rel => exact ⟨t + 1, 0, nodeI U s, by omega, by go_num, rfl, rfl, node_range _ _, .inl ⟨rfl, by rw [HH.out.2.2.1]; rfl, good_take HH.out.1 HS.out HH.out.2.1⟩⟩
                case measure => simp [intOf]; omega
            · have hs' : s < 0 ∨ 9972 < s := by omega
              have hng := Lib.hid (show ¬ goodW l from fun h => hs (h _ HH.out.2.2.2))
              clear hs
              go_wp2_with fail
              with_reducible refine (in_no _ _ _ _ hs').mono ?_
              rintro e w' ⟨rfl, rfl⟩
              go_wp2
              go_round
              case rel => exact ⟨t + 1, 1, U, by omega, by go_num, rfl, rfl, ⟨hu0, hu1⟩, .inr ⟨rfl, hng.out⟩⟩
              case measure => simp [intOf]; omega
          · obtain rfl : t = m := by omega
            rw [List.take_of_length_le (by rw [HN.out]; omega)] at hU hgood
            have htI : ¬ (t : Int) < (t : Int) := by omega
            have hg := upV_good (v := v) hgood
            rw [HL.out, ← hU] at hg
            have HUV := Lib.hid hg
            have hUU : (U == U) = true := by simp
            clear hg hU hgood
            go_wp2_with fail
            with_reducible refine (up_any _ _ _ l v _ hP hm16' hv0 hv1).mono ?_
            rintro e' wu ⟨rfl, ku⟩
            rw [HUV.out]
            have hB := hB.trans (ku.mono hB.size)
            go_wp2_with fail
            with_reducible refine (error_nil _ _).mono ?_
            rintro e w' ⟨rfl, rfl⟩
            have hAx := hA.below hB
            go_wp2_with fail
            with_reducible refine (rvalues_any _ _ _ xs _ hAx).mono ?_
            rintro e' w' ⟨rfl, rfl⟩
            rw [HG.out]
            go_wp2_with fail
            with_reducible refine (mcheck_ok _ _ _ xs _ hAx h1 h16 HX.out).mono ?_
            rintro e w' ⟨rfl, rfl⟩
            go_wp2_with fail
            with_reducible refine (error_nil _ _).mono ?_
            rintro e w' ⟨rfl, rfl⟩
            go_wp2_with fail
            with_reducible refine (rroot_any 16 _ _ _ xs _ hAx hc h1 h16 h16 HXM.out).mono ?_
            rintro e' wr ⟨rfl, qr, rfl⟩
            rw [HR.out]
            have hB := below_drewN_of hB qr
            have hAx := hA.below hB
            go_wp2_with fail
            with_reducible refine (mroot_ok _ _ _ xs _ hAx hc h1 h16 HX.out).mono ?_
            rintro e' wr ⟨rfl, kr⟩
            rw [HR.out]
            have hB := hB.trans (kr.mono hB.size)
            have hAx := hA.below hB
            clear kr
            go_wp2_with fail
            with_reducible refine (error_nil _ _).mono ?_
            rintro e w' ⟨rfl, rfl⟩
            go_wp2_with fail
            with_reducible refine (in_no _ _ _ _ hin).mono ?_
            rintro e w' ⟨rfl, rfl⟩
            go_wp2_with fail
            with_reducible refine (mway_out _ _ _ xs i _ hAx h1 h16 HX.out hin).mono ?_
            rintro e w' ⟨rfl, rfl⟩
            go_wp2_with fail
            with_reducible refine (error_err 1 1 _ (HE.out.below hB)).mono ?_
            rintro e' wt ⟨rfl, kt⟩
            have hB := hB.trans (kt.mono hB.size)
            clear kt
            go_wp2_with fail
            with_reducible refine (sides_any _ _ _ _ _ _ [] [] _ (RdP.nil _ _) (RdP.nil _ _)).mono ?_
            rintro e' wq ⟨rfl, kq⟩
            rw [show decide (([] : List (Bool × Int)) = []) = true from by simp]
            have hB := hB.trans (kq.mono hB.size)
            clear kq
            go_wp2
            go_ret
            exact ⟨rfl, hB⟩
        · have HBAD := Lib.hid (upV_bad (v := v) hbad)
          clear hbad
          by_cases hlt : t < m
          · have htI : (t : Int) < (m : Int) := by omega
            go_wp2_with fail
            with_reducible refine (up_any _ _ _ l v _ hP hm16' hv0 hv1).mono ?_
            rintro e' wu ⟨rfl, ku⟩
            rw [HBAD.out]
            have hB := hB.trans (ku.mono hB.size)
            go_wp2_with fail
            with_reducible refine (error_err 1 1 _ (HE.out.below hB)).mono ?_
            rintro e' wt ⟨rfl, kt⟩
            have hB := hB.trans (kt.mono hB.size)
            clear kt
            have hAx := hA.below hB
            go_wp2_with fail
            with_reducible refine (rvalues_any _ _ _ xs _ hAx).mono ?_
            rintro e' w' ⟨rfl, rfl⟩
            rw [HG.out]
            go_wp2_with fail
            with_reducible refine (mcheck_ok _ _ _ xs _ hAx h1 h16 HX.out).mono ?_
            rintro e w' ⟨rfl, rfl⟩
            go_wp2_with fail
            with_reducible refine (error_nil _ _).mono ?_
            rintro e w' ⟨rfl, rfl⟩
            go_wp2_with fail
            with_reducible refine (rroot_any 16 _ _ _ xs _ hAx hc h1 h16 h16 HXM.out).mono ?_
            rintro e' wr ⟨rfl, qr, rfl⟩
            rw [HR.out]
            have hB := below_drewN_of hB qr
            have hAx := hA.below hB
            go_wp2_with fail
            with_reducible refine (mroot_ok _ _ _ xs _ hAx hc h1 h16 HX.out).mono ?_
            rintro e' wr ⟨rfl, kr⟩
            rw [HR.out]
            have hB := hB.trans (kr.mono hB.size)
            have hAx := hA.below hB
            clear kr
            go_wp2_with fail
            with_reducible refine (error_nil _ _).mono ?_
            rintro e w' ⟨rfl, rfl⟩
            go_wp2_with fail
            with_reducible refine (in_no _ _ _ _ hin).mono ?_
            rintro e w' ⟨rfl, rfl⟩
            go_wp2_with fail
            with_reducible refine (mway_out _ _ _ xs i _ hAx h1 h16 HX.out hin).mono ?_
            rintro e w' ⟨rfl, rfl⟩
            go_wp2_with fail
            with_reducible refine (error_err 1 1 _ (HE.out.below hB)).mono ?_
            rintro e' wt ⟨rfl, kt⟩
            have hB := hB.trans (kt.mono hB.size)
            clear kt
            go_wp2_with fail
            with_reducible refine (sides_any _ _ _ _ _ _ [] [] _ (RdP.nil _ _) (RdP.nil _ _)).mono ?_
            rintro e' wq ⟨rfl, kq⟩
            rw [show decide (([] : List (Bool × Int)) = []) = true from by simp]
            have hB := hB.trans (kq.mono hB.size)
            clear kq
            go_wp2
            go_ret
            exact ⟨rfl, hB⟩
          · have htI : ¬ (t : Int) < (m : Int) := by omega
            go_wp2_with fail
            with_reducible refine (up_any _ _ _ l v _ hP hm16' hv0 hv1).mono ?_
            rintro e' wu ⟨rfl, ku⟩
            rw [HBAD.out]
            have hB := hB.trans (ku.mono hB.size)
            go_wp2_with fail
            with_reducible refine (error_err 1 1 _ (HE.out.below hB)).mono ?_
            rintro e' wt ⟨rfl, kt⟩
            have hB := hB.trans (kt.mono hB.size)
            clear kt
            have hAx := hA.below hB
            go_wp2_with fail
            with_reducible refine (rvalues_any _ _ _ xs _ hAx).mono ?_
            rintro e' w' ⟨rfl, rfl⟩
            rw [HG.out]
            go_wp2_with fail
            with_reducible refine (mcheck_ok _ _ _ xs _ hAx h1 h16 HX.out).mono ?_
            rintro e w' ⟨rfl, rfl⟩
            go_wp2_with fail
            with_reducible refine (error_nil _ _).mono ?_
            rintro e w' ⟨rfl, rfl⟩
            go_wp2_with fail
            with_reducible refine (rroot_any 16 _ _ _ xs _ hAx hc h1 h16 h16 HXM.out).mono ?_
            rintro e' wr ⟨rfl, qr, rfl⟩
            rw [HR.out]
            have hB := below_drewN_of hB qr
            have hAx := hA.below hB
            go_wp2_with fail
            with_reducible refine (mroot_ok _ _ _ xs _ hAx hc h1 h16 HX.out).mono ?_
            rintro e' wr ⟨rfl, kr⟩
            rw [HR.out]
            have hB := hB.trans (kr.mono hB.size)
            have hAx := hA.below hB
            clear kr
            go_wp2_with fail
            with_reducible refine (error_nil _ _).mono ?_
            rintro e w' ⟨rfl, rfl⟩
            go_wp2_with fail
            with_reducible refine (in_no _ _ _ _ hin).mono ?_
            rintro e w' ⟨rfl, rfl⟩
            go_wp2_with fail
            with_reducible refine (mway_out _ _ _ xs i _ hAx h1 h16 HX.out hin).mono ?_
            rintro e w' ⟨rfl, rfl⟩
            go_wp2_with fail
            with_reducible refine (error_err 1 1 _ (HE.out.below hB)).mono ?_
            rintro e' wt ⟨rfl, kt⟩
            have hB := hB.trans (kt.mono hB.size)
            clear kt
            go_wp2_with fail
            with_reducible refine (sides_any _ _ _ _ _ _ [] [] _ (RdP.nil _ _) (RdP.nil _ _)).mono ?_
            rintro e' wq ⟨rfl, kq⟩
            rw [show decide (([] : List (Bool × Int)) = []) = true from by simp]
            have hB := hB.trans (kq.mono hB.size)
            clear kq
            go_wp2
            go_ret
            exact ⟨rfl, hB⟩

set_option maxHeartbeats 8000000 in
set_option maxRecDepth 100000 in
theorem walk_ok (w : World) (A : Option Addr) (n c : Nat) (xs : List Int) (hA : Rd w A n xs) (hc : n ≤ c) (i : Int) (hi : -9223372036854775808 ≤ i ∧ i ≤ 9223372036854775807) (v : Int) (hv : -9223372036854775808 ≤ v ∧ v ≤ 9223372036854775807) (B : Option Addr) (m d : Nat) (l : List (Bool × Int)) (hP : RdP w B m (l.map sv)) (hb : ∀ p ∈ l, -9223372036854775808 ≤ p.2 ∧ p.2 ≤ 9223372036854775807) (hd : m ≤ d) (hE : ErrT w) (h1 : 1 ≤ n) (h16 : n ≤ 16) (hX : allB xs 0 1000 = true) (hG : valE xs = 0) (k : Nat) (hk : k < n) (hik : i = k) :
    Calls Tryd.prog 3 #[.slice A n c, .int .i64 i, .int .i64 v, .slice B m d] w fun e w' => e = .returned (.bool true) ∧ Below w.heap.size w w' := by
  have hlen : l.length = m := by have := hP.len; simpa using this
  have HE := Lib.hid hE
  have HBD := Lib.hid hb
  have HN := Lib.hid hlen
  have HG := Lib.hid hG
  have HX := Lib.hid hX
  have HXM := Lib.hid (allB_mem.1 hX)
  obtain ⟨R, hR⟩ : ∃ R, rootF 16 xs = R := ⟨_, rfl⟩
  have HR := Lib.hid hR
  have hRs : (R == R) = true := by simp
  clear hX hR
  subst hik
  have i0 : (0 : Int) ≤ (k : Int) := by omega
  have i1 : (k : Int) ≤ (n : Int) - 1 := by omega
  clear hE hb hlen hG
  have hB : Below w.heap.size w w := Below.refl _ _
  have hLs := leaf_range v
  obtain ⟨L, hL⟩ : ∃ L, leafI v = L := ⟨_, rfl⟩
  rw [hL] at hLs
  have HL := Lib.hid hL
  have hLL : (L == L) = true := by simp
  obtain ⟨hl0, hl1⟩ := hLs
  clear hL
  by_cases hm16 : 16 < m
  · have hmI : (16 : Int) < (m : Int) := by omega
    by_cases hvr : v < 0 ∨ 1000 < v
    · skip
      go_enter Tryd.func3, Tryd.ntmps3
      go_wp2_with fail
      with_reducible refine (in_no _ _ _ _ hvr).mono ?_
      rintro e w' ⟨rfl, rfl⟩
      go_wp2_with fail
      with_reducible refine (mleaf_bad v _ hvr).mono ?_
      rintro e w' ⟨rfl, rfl⟩
      go_wp2_with fail
      with_reducible refine (error_err 1 1 _ (HE.out.below hB)).mono ?_
      rintro e' wt ⟨rfl, kt⟩
      have hB := hB.trans (kt.mono hB.size)
      clear kt
      go_wp2_with fail
      with_reducible refine (up_full _ _ _ v _ hm16).mono ?_
      rintro e w' ⟨rfl, rfl⟩
      go_wp2_with fail
      with_reducible refine (error_err 4 4 _ (HE.out.below hB)).mono ?_
      rintro e' wt ⟨rfl, kt⟩
      have hB := hB.trans (kt.mono hB.size)
      clear kt
      have hAx := hA.below hB
      go_wp2_with fail
      with_reducible refine (rvalues_any _ _ _ xs _ hAx).mono ?_
      rintro e' w' ⟨rfl, rfl⟩
      rw [HG.out]
      go_wp2_with fail
      with_reducible refine (mcheck_ok _ _ _ xs _ hAx h1 h16 HX.out).mono ?_
      rintro e w' ⟨rfl, rfl⟩
      go_wp2_with fail
      with_reducible refine (error_nil _ _).mono ?_
      rintro e w' ⟨rfl, rfl⟩
      go_wp2_with fail
      with_reducible refine (rroot_any 16 _ _ _ xs _ hAx hc h1 h16 h16 HXM.out).mono ?_
      rintro e' wr ⟨rfl, qr, rfl⟩
      rw [HR.out]
      have hB := below_drewN_of hB qr
      have hAx := hA.below hB
      go_wp2_with fail
      with_reducible refine (mroot_ok _ _ _ xs _ hAx hc h1 h16 HX.out).mono ?_
      rintro e' wr ⟨rfl, kr⟩
      rw [HR.out]
      have hB := hB.trans (kr.mono hB.size)
      have hAx := hA.below hB
      clear kr
      go_wp2_with fail
      with_reducible refine (error_nil _ _).mono ?_
      rintro e w' ⟨rfl, rfl⟩
      go_wp2_with fail
      with_reducible refine (in_yes _ _ _ _ i0 i1).mono ?_
      rintro e w' ⟨rfl, rfl⟩
      go_wp2_with fail
      with_reducible refine (rway_any 16 _ _ _ xs k _ hAx hc h1 h16 h16 HXM.out hk).mono ?_
      rintro e' wa ⟨⟨C1, m1, c1, rfl, hm1, hown1⟩, ka⟩
      have hB := hB.trans (ka.mono hB.size)
      have hAx := hA.below hB
      go_wp2_with fail
      with_reducible refine (mway_ok _ _ _ xs k _ hAx hc h1 h16 HX.out hk).mono ?_
      rintro e' wb ⟨⟨C2, m2, c2, rfl, hm2, hown2⟩, kb⟩
      have hB := hB.trans (kb.mono hB.size)
      have hp1 := (hown1.rd (by omega)).below kb
      have hp2 := hown2.rd (by omega)
      clear hown1 hown2 ka kb
      go_wp2_with fail
      with_reducible refine (error_nil _ _).mono ?_
      rintro e w' ⟨rfl, rfl⟩
      go_wp2_with fail
      with_reducible refine (sides_any _ _ _ _ _ _ (wayF 16 xs k) (wayF 16 xs k) _ hp2 hp1).mono ?_
      rintro e' wq ⟨rfl, kq⟩
      rw [show decide (((wayF 16 xs k) : List (Bool × Int)) = (wayF 16 xs k)) = true from by simp]
      have hB := hB.trans (kq.mono hB.size)
      clear kq
      go_wp2
      go_ret
      exact ⟨rfl, hB⟩
    · skip
      have hv0 : 0 ≤ v := by omega
      have hv1 : v ≤ 1000 := by omega
      go_enter Tryd.func3, Tryd.ntmps3
      go_wp2_with fail
      with_reducible refine (in_yes _ _ _ _ hv0 hv1).mono ?_
      rintro e w' ⟨rfl, rfl⟩
      go_wp2_with fail
      with_reducible refine (rleaf_any v _ hv0 hv1).mono ?_
      rintro e w' ⟨rfl, rfl⟩
      rw [HL.out]
      go_wp2_with fail
      with_reducible refine (mleaf_ok v _ hv0 hv1).mono ?_
      rintro e w' ⟨rfl, rfl⟩
      rw [HL.out]
      go_wp2_with fail
      with_reducible refine (error_nil _ _).mono ?_
      rintro e w' ⟨rfl, rfl⟩
      go_wp2_with fail
      with_reducible refine (up_full _ _ _ v _ hm16).mono ?_
      rintro e w' ⟨rfl, rfl⟩
      go_wp2_with fail
      with_reducible refine (error_err 4 4 _ (HE.out.below hB)).mono ?_
      rintro e' wt ⟨rfl, kt⟩
      have hB := hB.trans (kt.mono hB.size)
      clear kt
      have hAx := hA.below hB
      go_wp2_with fail
      with_reducible refine (rvalues_any _ _ _ xs _ hAx).mono ?_
      rintro e' w' ⟨rfl, rfl⟩
      rw [HG.out]
      go_wp2_with fail
      with_reducible refine (mcheck_ok _ _ _ xs _ hAx h1 h16 HX.out).mono ?_
      rintro e w' ⟨rfl, rfl⟩
      go_wp2_with fail
      with_reducible refine (error_nil _ _).mono ?_
      rintro e w' ⟨rfl, rfl⟩
      go_wp2_with fail
      with_reducible refine (rroot_any 16 _ _ _ xs _ hAx hc h1 h16 h16 HXM.out).mono ?_
      rintro e' wr ⟨rfl, qr, rfl⟩
      rw [HR.out]
      have hB := below_drewN_of hB qr
      have hAx := hA.below hB
      go_wp2_with fail
      with_reducible refine (mroot_ok _ _ _ xs _ hAx hc h1 h16 HX.out).mono ?_
      rintro e' wr ⟨rfl, kr⟩
      rw [HR.out]
      have hB := hB.trans (kr.mono hB.size)
      have hAx := hA.below hB
      clear kr
      go_wp2_with fail
      with_reducible refine (error_nil _ _).mono ?_
      rintro e w' ⟨rfl, rfl⟩
      go_wp2_with fail
      with_reducible refine (in_yes _ _ _ _ i0 i1).mono ?_
      rintro e w' ⟨rfl, rfl⟩
      go_wp2_with fail
      with_reducible refine (rway_any 16 _ _ _ xs k _ hAx hc h1 h16 h16 HXM.out hk).mono ?_
      rintro e' wa ⟨⟨C1, m1, c1, rfl, hm1, hown1⟩, ka⟩
      have hB := hB.trans (ka.mono hB.size)
      have hAx := hA.below hB
      go_wp2_with fail
      with_reducible refine (mway_ok _ _ _ xs k _ hAx hc h1 h16 HX.out hk).mono ?_
      rintro e' wb ⟨⟨C2, m2, c2, rfl, hm2, hown2⟩, kb⟩
      have hB := hB.trans (kb.mono hB.size)
      have hp1 := (hown1.rd (by omega)).below kb
      have hp2 := hown2.rd (by omega)
      clear hown1 hown2 ka kb
      go_wp2_with fail
      with_reducible refine (error_nil _ _).mono ?_
      rintro e w' ⟨rfl, rfl⟩
      go_wp2_with fail
      with_reducible refine (sides_any _ _ _ _ _ _ (wayF 16 xs k) (wayF 16 xs k) _ hp2 hp1).mono ?_
      rintro e' wq ⟨rfl, kq⟩
      rw [show decide (((wayF 16 xs k) : List (Bool × Int)) = (wayF 16 xs k)) = true from by simp]
      have hB := hB.trans (kq.mono hB.size)
      clear kq
      go_wp2
      go_ret
      exact ⟨rfl, hB⟩
  · have hmI : ¬ (16 : Int) < (m : Int) := by omega
    have hm16' : m ≤ 16 := by omega
    by_cases hvr : v < 0 ∨ 1000 < v
    · skip
      go_enter Tryd.func3, Tryd.ntmps3
      go_wp2_with fail
      with_reducible refine (in_no _ _ _ _ hvr).mono ?_
      rintro e w' ⟨rfl, rfl⟩
      go_wp2_with fail
      with_reducible refine (mleaf_bad v _ hvr).mono ?_
      rintro e w' ⟨rfl, rfl⟩
      go_wp2_with fail
      with_reducible refine (error_err 1 1 _ (HE.out.below hB)).mono ?_
      rintro e' wt ⟨rfl, kt⟩
      have hB := hB.trans (kt.mono hB.size)
      clear kt
      go_wp2_with fail
      with_reducible refine (up_badv _ _ _ v _ hm16' hvr).mono ?_
      rintro e w' ⟨rfl, rfl⟩
      go_wp2_with fail
      with_reducible refine (error_err 1 1 _ (HE.out.below hB)).mono ?_
      rintro e' wt ⟨rfl, kt⟩
      have hB := hB.trans (kt.mono hB.size)
      clear kt
      have hAx := hA.below hB
      go_wp2_with fail
      with_reducible refine (rvalues_any _ _ _ xs _ hAx).mono ?_
      rintro e' w' ⟨rfl, rfl⟩
      rw [HG.out]
      go_wp2_with fail
      with_reducible refine (mcheck_ok _ _ _ xs _ hAx h1 h16 HX.out).mono ?_
      rintro e w' ⟨rfl, rfl⟩
      go_wp2_with fail
      with_reducible refine (error_nil _ _).mono ?_
      rintro e w' ⟨rfl, rfl⟩
      go_wp2_with fail
      with_reducible refine (rroot_any 16 _ _ _ xs _ hAx hc h1 h16 h16 HXM.out).mono ?_
      rintro e' wr ⟨rfl, qr, rfl⟩
      rw [HR.out]
      have hB := below_drewN_of hB qr
      have hAx := hA.below hB
      go_wp2_with fail
      with_reducible refine (mroot_ok _ _ _ xs _ hAx hc h1 h16 HX.out).mono ?_
      rintro e' wr ⟨rfl, kr⟩
      rw [HR.out]
      have hB := hB.trans (kr.mono hB.size)
      have hAx := hA.below hB
      clear kr
      go_wp2_with fail
      with_reducible refine (error_nil _ _).mono ?_
      rintro e w' ⟨rfl, rfl⟩
      go_wp2_with fail
      with_reducible refine (in_yes _ _ _ _ i0 i1).mono ?_
      rintro e w' ⟨rfl, rfl⟩
      go_wp2_with fail
      with_reducible refine (rway_any 16 _ _ _ xs k _ hAx hc h1 h16 h16 HXM.out hk).mono ?_
      rintro e' wa ⟨⟨C1, m1, c1, rfl, hm1, hown1⟩, ka⟩
      have hB := hB.trans (ka.mono hB.size)
      have hAx := hA.below hB
      go_wp2_with fail
      with_reducible refine (mway_ok _ _ _ xs k _ hAx hc h1 h16 HX.out hk).mono ?_
      rintro e' wb ⟨⟨C2, m2, c2, rfl, hm2, hown2⟩, kb⟩
      have hB := hB.trans (kb.mono hB.size)
      have hp1 := (hown1.rd (by omega)).below kb
      have hp2 := hown2.rd (by omega)
      clear hown1 hown2 ka kb
      go_wp2_with fail
      with_reducible refine (error_nil _ _).mono ?_
      rintro e w' ⟨rfl, rfl⟩
      go_wp2_with fail
      with_reducible refine (sides_any _ _ _ _ _ _ (wayF 16 xs k) (wayF 16 xs k) _ hp2 hp1).mono ?_
      rintro e' wq ⟨rfl, kq⟩
      rw [show decide (((wayF 16 xs k) : List (Bool × Int)) = (wayF 16 xs k)) = true from by simp]
      have hB := hB.trans (kq.mono hB.size)
      clear kq
      go_wp2
      go_ret
      exact ⟨rfl, hB⟩
    · skip
      have hv0 : 0 ≤ v := by omega
      have hv1 : v ≤ 1000 := by omega
      go_enter Tryd.func3, Tryd.ntmps3
      go_wp2_with fail
      with_reducible refine (in_yes _ _ _ _ hv0 hv1).mono ?_
      rintro e w' ⟨rfl, rfl⟩
      go_wp2_with fail
      with_reducible refine (rleaf_any v _ hv0 hv1).mono ?_
      rintro e w' ⟨rfl, rfl⟩
      rw [HL.out]
      go_wp2_with fail
      with_reducible refine (mleaf_ok v _ hv0 hv1).mono ?_
      rintro e w' ⟨rfl, rfl⟩
      rw [HL.out]
      go_wp2_with fail
      with_reducible refine (error_nil _ _).mono ?_
      rintro e w' ⟨rfl, rfl⟩
      go_wp2_with fail
      with_reducible refine (rleaf_any v _ hv0 hv1).mono ?_
      rintro e w' ⟨rfl, rfl⟩
      rw [HL.out]
      go_wp2
      go_loop [9, 10, 14] (fun e u j => ∃ (t : Nat) (E U : Int), t ≤ m ∧ j = .int .i64 t ∧ e = .int .i64 E ∧ u = .int .i64 U ∧ (0 ≤ U ∧ U ≤ 9972) ∧ ((E = 0 ∧ U = upI L (l.take t) ∧ goodW (l.take t)) ∨ (E = 1 ∧ ¬ goodW l))) (fun _ _ j => m - (intOf j).toNat)
      case atStart => exact ⟨0, 0, L, Nat.zero_le _, rfl, rfl, rfl, ⟨hl0, hl1⟩, .inl ⟨rfl, rfl, by intro p hp; simp at hp⟩⟩
      case round =>
        obtain ⟨t, E, U, ht, rfl, rfl, rfl, ⟨hu0, hu1⟩, hcase⟩ := hrel
        rcases hcase with ⟨rfl, hU, hgood⟩ | ⟨rfl, hbad⟩
        · by_cases hlt : t < m
          · have htI : (t : Int) < (m : Int) := by omega
            obtain ⟨b, off, rfl, hbl, hcc⟩ := hP.at_ (by omega)
            obtain ⟨c1, c2⟩ := hcc t hlt
            have htl : t < l.length := by rw [HN.out]; exact hlt
            have hsn := take_snocW htl
            have hup := up_snoc L (l.take t) l[t]
            rw [← hsn] at hup
            rw [sv_get htl] at c1 c2
            obtain ⟨p, hp⟩ : ∃ p, l[t] = p := ⟨_, rfl⟩
            have hmem : p ∈ l := by rw [← hp]; exact List.getElem_mem _
            rw [hp] at c1 c2 hsn hup
            obtain ⟨bb, s⟩ := p
            change w.cell? ⟨b, off + t * 2, none⟩ = some (.bool bb) at c1
            change w.cell? ⟨b, off + t * 2 + 1, none⟩ = some (.int .i64 s) at c2
            rw [← hU] at hup
            have HH := Lib.hid (And.intro hgood (And.intro hsn (And.intro hup hmem)))
            clear hcc hsn hup hp hmem hgood hU htl
            by_cases hs : 0 ≤ s ∧ s ≤ 9972
            · have HS := Lib.hid hs
              obtain ⟨hs0, hs1⟩ := hs
              cases bb with
              | true =>
                go_wp2_with fail
                with_reducible refine (in_yes _ _ _ _ hs0 hs1).mono ?_
                rintro e w' ⟨rfl, rfl⟩
                go_wp2_with fail
                with_reducible refine (rjoin_any s U _ hs0 hs1 hu0 hu1).mono ?_
                rintro e w' ⟨rfl, rfl⟩
                go_wp2
                go_round
                case rel => exact ⟨t + 1, 0, nodeI s U, by omega, by go_num, rfl, rfl, node_range _ _, .inl ⟨rfl, by rw [HH.out.2.2.1]; rfl, good_take HH.out.1 HS.out HH.out.2.1⟩⟩
                case measure => simp [intOf]; omega
              | false =>
                go_wp2_with fail
                with_reducible refine (in_yes _ _ _ _ hs0 hs1).mono ?_
                rintro e w' ⟨rfl, rfl⟩
                go_wp2_with fail
                with_reducible refine (rjoin_any U s _ hu0 hu1 hs0 hs1).mono ?_
                rintro e w' ⟨rfl, rfl⟩
                go_wp2
                go_round
                case rel => exact ⟨t + 1, 0, nodeI U s, by omega, by go_num, rfl, rfl, node_range _ _, .inl ⟨rfl, by rw [HH.out.2.2.1]; rfl, good_take HH.out.1 HS.out HH.out.2.1⟩⟩
                case measure => simp [intOf]; omega
            · have hs' : s < 0 ∨ 9972 < s := by omega
              have hng := Lib.hid (show ¬ goodW l from fun h => hs (h _ HH.out.2.2.2))
              clear hs
              go_wp2_with fail
              with_reducible refine (in_no _ _ _ _ hs').mono ?_
              rintro e w' ⟨rfl, rfl⟩
              go_wp2
              go_round
              case rel => exact ⟨t + 1, 1, U, by omega, by go_num, rfl, rfl, ⟨hu0, hu1⟩, .inr ⟨rfl, hng.out⟩⟩
              case measure => simp [intOf]; omega
          · obtain rfl : t = m := by omega
            rw [List.take_of_length_le (by rw [HN.out]; omega)] at hU hgood
            have htI : ¬ (t : Int) < (t : Int) := by omega
            have hg := upV_good (v := v) hgood
            rw [HL.out, ← hU] at hg
            have HUV := Lib.hid hg
            have hUU : (U == U) = true := by simp
            clear hg hU hgood
            go_wp2_with fail
            with_reducible refine (up_any _ _ _ l v _ hP hm16' hv0 hv1).mono ?_
            rintro e' wu ⟨rfl, ku⟩
            rw [HUV.out]
            have hB := hB.trans (ku.mono hB.size)
            go_wp2_with fail
            with_reducible refine (error_nil _ _).mono ?_
            rintro e w' ⟨rfl, rfl⟩
            have hAx := hA.below hB
            go_wp2_with fail
            with_reducible refine (rvalues_any _ _ _ xs _ hAx).mono ?_
            rintro e' w' ⟨rfl, rfl⟩
            rw [HG.out]
            go_wp2_with fail
            with_reducible refine (mcheck_ok _ _ _ xs _ hAx h1 h16 HX.out).mono ?_
            rintro e w' ⟨rfl, rfl⟩
            go_wp2_with fail
            with_reducible refine (error_nil _ _).mono ?_
            rintro e w' ⟨rfl, rfl⟩
            go_wp2_with fail
            with_reducible refine (rroot_any 16 _ _ _ xs _ hAx hc h1 h16 h16 HXM.out).mono ?_
            rintro e' wr ⟨rfl, qr, rfl⟩
            rw [HR.out]
            have hB := below_drewN_of hB qr
            have hAx := hA.below hB
            go_wp2_with fail
            with_reducible refine (mroot_ok _ _ _ xs _ hAx hc h1 h16 HX.out).mono ?_
            rintro e' wr ⟨rfl, kr⟩
            rw [HR.out]
            have hB := hB.trans (kr.mono hB.size)
            have hAx := hA.below hB
            clear kr
            go_wp2_with fail
            with_reducible refine (error_nil _ _).mono ?_
            rintro e w' ⟨rfl, rfl⟩
            go_wp2_with fail
            with_reducible refine (in_yes _ _ _ _ i0 i1).mono ?_
            rintro e w' ⟨rfl, rfl⟩
            go_wp2_with fail
            with_reducible refine (rway_any 16 _ _ _ xs k _ hAx hc h1 h16 h16 HXM.out hk).mono ?_
            rintro e' wa ⟨⟨C1, m1, c1, rfl, hm1, hown1⟩, ka⟩
            have hB := hB.trans (ka.mono hB.size)
            have hAx := hA.below hB
            go_wp2_with fail
            with_reducible refine (mway_ok _ _ _ xs k _ hAx hc h1 h16 HX.out hk).mono ?_
            rintro e' wb ⟨⟨C2, m2, c2, rfl, hm2, hown2⟩, kb⟩
            have hB := hB.trans (kb.mono hB.size)
            have hp1 := (hown1.rd (by omega)).below kb
            have hp2 := hown2.rd (by omega)
            clear hown1 hown2 ka kb
            go_wp2_with fail
            with_reducible refine (error_nil _ _).mono ?_
            rintro e w' ⟨rfl, rfl⟩
            go_wp2_with fail
            with_reducible refine (sides_any _ _ _ _ _ _ (wayF 16 xs k) (wayF 16 xs k) _ hp2 hp1).mono ?_
            rintro e' wq ⟨rfl, kq⟩
            rw [show decide (((wayF 16 xs k) : List (Bool × Int)) = (wayF 16 xs k)) = true from by simp]
            have hB := hB.trans (kq.mono hB.size)
            clear kq
            go_wp2
            go_ret
            exact ⟨rfl, hB⟩
        · have HBAD := Lib.hid (upV_bad (v := v) hbad)
          clear hbad
          by_cases hlt : t < m
          · have htI : (t : Int) < (m : Int) := by omega
            go_wp2_with fail
            with_reducible refine (up_any _ _ _ l v _ hP hm16' hv0 hv1).mono ?_
            rintro e' wu ⟨rfl, ku⟩
            rw [HBAD.out]
            have hB := hB.trans (ku.mono hB.size)
            go_wp2_with fail
            with_reducible refine (error_err 1 1 _ (HE.out.below hB)).mono ?_
            rintro e' wt ⟨rfl, kt⟩
            have hB := hB.trans (kt.mono hB.size)
            clear kt
            have hAx := hA.below hB
            go_wp2_with fail
            with_reducible refine (rvalues_any _ _ _ xs _ hAx).mono ?_
            rintro e' w' ⟨rfl, rfl⟩
            rw [HG.out]
            go_wp2_with fail
            with_reducible refine (mcheck_ok _ _ _ xs _ hAx h1 h16 HX.out).mono ?_
            rintro e w' ⟨rfl, rfl⟩
            go_wp2_with fail
            with_reducible refine (error_nil _ _).mono ?_
            rintro e w' ⟨rfl, rfl⟩
            go_wp2_with fail
            with_reducible refine (rroot_any 16 _ _ _ xs _ hAx hc h1 h16 h16 HXM.out).mono ?_
            rintro e' wr ⟨rfl, qr, rfl⟩
            rw [HR.out]
            have hB := below_drewN_of hB qr
            have hAx := hA.below hB
            go_wp2_with fail
            with_reducible refine (mroot_ok _ _ _ xs _ hAx hc h1 h16 HX.out).mono ?_
            rintro e' wr ⟨rfl, kr⟩
            rw [HR.out]
            have hB := hB.trans (kr.mono hB.size)
            have hAx := hA.below hB
            clear kr
            go_wp2_with fail
            with_reducible refine (error_nil _ _).mono ?_
            rintro e w' ⟨rfl, rfl⟩
            go_wp2_with fail
            with_reducible refine (in_yes _ _ _ _ i0 i1).mono ?_
            rintro e w' ⟨rfl, rfl⟩
            go_wp2_with fail
            with_reducible refine (rway_any 16 _ _ _ xs k _ hAx hc h1 h16 h16 HXM.out hk).mono ?_
            rintro e' wa ⟨⟨C1, m1, c1, rfl, hm1, hown1⟩, ka⟩
            have hB := hB.trans (ka.mono hB.size)
            have hAx := hA.below hB
            go_wp2_with fail
            with_reducible refine (mway_ok _ _ _ xs k _ hAx hc h1 h16 HX.out hk).mono ?_
            rintro e' wb ⟨⟨C2, m2, c2, rfl, hm2, hown2⟩, kb⟩
            have hB := hB.trans (kb.mono hB.size)
            have hp1 := (hown1.rd (by omega)).below kb
            have hp2 := hown2.rd (by omega)
            clear hown1 hown2 ka kb
            go_wp2_with fail
            with_reducible refine (error_nil _ _).mono ?_
            rintro e w' ⟨rfl, rfl⟩
            go_wp2_with fail
            with_reducible refine (sides_any _ _ _ _ _ _ (wayF 16 xs k) (wayF 16 xs k) _ hp2 hp1).mono ?_
            rintro e' wq ⟨rfl, kq⟩
            rw [show decide (((wayF 16 xs k) : List (Bool × Int)) = (wayF 16 xs k)) = true from by simp]
            have hB := hB.trans (kq.mono hB.size)
            clear kq
            go_wp2
            go_ret
            exact ⟨rfl, hB⟩
          · have htI : ¬ (t : Int) < (m : Int) := by omega
            go_wp2_with fail
            with_reducible refine (up_any _ _ _ l v _ hP hm16' hv0 hv1).mono ?_
            rintro e' wu ⟨rfl, ku⟩
            rw [HBAD.out]
            have hB := hB.trans (ku.mono hB.size)
            go_wp2_with fail
            with_reducible refine (error_err 1 1 _ (HE.out.below hB)).mono ?_
            rintro e' wt ⟨rfl, kt⟩
            have hB := hB.trans (kt.mono hB.size)
            clear kt
            have hAx := hA.below hB
            go_wp2_with fail
            with_reducible refine (rvalues_any _ _ _ xs _ hAx).mono ?_
            rintro e' w' ⟨rfl, rfl⟩
            rw [HG.out]
            go_wp2_with fail
            with_reducible refine (mcheck_ok _ _ _ xs _ hAx h1 h16 HX.out).mono ?_
            rintro e w' ⟨rfl, rfl⟩
            go_wp2_with fail
            with_reducible refine (error_nil _ _).mono ?_
            rintro e w' ⟨rfl, rfl⟩
            go_wp2_with fail
            with_reducible refine (rroot_any 16 _ _ _ xs _ hAx hc h1 h16 h16 HXM.out).mono ?_
            rintro e' wr ⟨rfl, qr, rfl⟩
            rw [HR.out]
            have hB := below_drewN_of hB qr
            have hAx := hA.below hB
            go_wp2_with fail
            with_reducible refine (mroot_ok _ _ _ xs _ hAx hc h1 h16 HX.out).mono ?_
            rintro e' wr ⟨rfl, kr⟩
            rw [HR.out]
            have hB := hB.trans (kr.mono hB.size)
            have hAx := hA.below hB
            clear kr
            go_wp2_with fail
            with_reducible refine (error_nil _ _).mono ?_
            rintro e w' ⟨rfl, rfl⟩
            go_wp2_with fail
            with_reducible refine (in_yes _ _ _ _ i0 i1).mono ?_
            rintro e w' ⟨rfl, rfl⟩
            go_wp2_with fail
            with_reducible refine (rway_any 16 _ _ _ xs k _ hAx hc h1 h16 h16 HXM.out hk).mono ?_
            rintro e' wa ⟨⟨C1, m1, c1, rfl, hm1, hown1⟩, ka⟩
            have hB := hB.trans (ka.mono hB.size)
            have hAx := hA.below hB
            go_wp2_with fail
            with_reducible refine (mway_ok _ _ _ xs k _ hAx hc h1 h16 HX.out hk).mono ?_
            rintro e' wb ⟨⟨C2, m2, c2, rfl, hm2, hown2⟩, kb⟩
            have hB := hB.trans (kb.mono hB.size)
            have hp1 := (hown1.rd (by omega)).below kb
            have hp2 := hown2.rd (by omega)
            clear hown1 hown2 ka kb
            go_wp2_with fail
            with_reducible refine (error_nil _ _).mono ?_
            rintro e w' ⟨rfl, rfl⟩
            go_wp2_with fail
            with_reducible refine (sides_any _ _ _ _ _ _ (wayF 16 xs k) (wayF 16 xs k) _ hp2 hp1).mono ?_
            rintro e' wq ⟨rfl, kq⟩
            rw [show decide (((wayF 16 xs k) : List (Bool × Int)) = (wayF 16 xs k)) = true from by simp]
            have hB := hB.trans (kq.mono hB.size)
            clear kq
            go_wp2
            go_ret
            exact ⟨rfl, hB⟩

theorem walk (w : World) (A : Option Addr) (n c : Nat) (xs : List Int) (hA : Rd w A n xs) (hc : n ≤ c) (i : Int) (hi : -9223372036854775808 ≤ i ∧ i ≤ 9223372036854775807) (v : Int) (hv : -9223372036854775808 ≤ v ∧ v ≤ 9223372036854775807) (B : Option Addr) (m d : Nat) (l : List (Bool × Int)) (hP : RdP w B m (l.map sv)) (hb : ∀ p ∈ l, -9223372036854775808 ≤ p.2 ∧ p.2 ≤ 9223372036854775807) (hd : m ≤ d) (hE : ErrT w) :
    Calls Tryd.prog 3 #[.slice A n c, .int .i64 i, .int .i64 v, .slice B m d] w fun e w' => e = .returned (.bool true) ∧ Below w.heap.size w w' := by
  by_cases hG : valE xs = 0
  · obtain ⟨h1, h2, h3⟩ := valE_zero.1 hG
    rw [hA.len] at h1 h2
    by_cases hin : i < 0 ∨ (n : Int) - 1 < i
    · exact walk_out w A n c xs hA hc i hi v hv B m d l hP hb hd hE h1 h2 h3 hG hin
    · obtain ⟨k, hik⟩ : ∃ k : Nat, i = k := ⟨i.toNat, by omega⟩
      exact walk_ok w A n c xs hA hc i hi v hv B m d l hP hb hd hE h1 h2 h3 hG k (by omega) hik
  · exact walk_bad w A n c xs hA hc i hi v hv B m d l hP hb hd hE _ rfl hG

set_option maxRecDepth 100000 in
theorem lifted (os : Os) (started : os.Started) (H : Type) (enc : TypeId × Value → H) :
    ReturnsInHanded {} Tryd.checked os 3 .any (fun w args => (Rows.merkleSaysSpec.pre enc Tryd.prog Tryd.f3 [] false w args ∧ laidMetH Tryd.prog Rows.merkleSaysRow.laid w) ∧ sizedMet enc Tryd.prog Tryd.f3 (OpenSpec.ofChange Rows.merkleSaysSpec) false w args)
      (Rows.merkleSaysSpec.post enc Tryd.prog Tryd.f3 false true false false) := by
  refine returnsInHanded_of_change_and (C := Tryd.checked) (X := fun w _ => laidMetH Tryd.prog Rows.merkleSaysRow.laid w) (fun _ _ _ hh h => h.of_heap hh) own started (by kernel_rfl) Tryd.func3
    (ChangeSpec.witness_at (enc := enc) (C := Tryd.checked) (os := os) (X := fun w _ => laidMetH Tryd.prog Rows.merkleSaysRow.laid w) false (laidWorld os) #[.slice none 0 0, .int .i64 0, .int .i64 0, .slice none 0 0] 8 rfl (by kernel_rfl) (by kernel_rfl) (by kernel_rfl) (by kernel_rfl) (by kernel_rfl) (laidWorld_met os _)) ?_
  intro W base args ds gs before hval0 hW _ _ hL _
  have hval : ∀ (j : Nat) t v, Tryd.f3.params[j]? = some t → args[j]? = some v → Value.okWide Tryd.prog W .any base t v := hval0
  have hW' := hW
  obtain ⟨p, q, hA0, hV, rfl, hfz, hnd⟩ := hW
  have hA : DataW.TrodAll enc Tryd.prog W 0 (fun _ => true) true Tryd.f3.params.toList args.toList ds p := hA0
  rw [Tryd.params3] at hA hval
  obtain ⟨v0, vs0, d0, ds0, p0, q0, hargs, rfl, rfl, h0, r0⟩ := trodAll_cons hA
  obtain ⟨v1, vs1, d1, ds1, p1, q1, rfl, rfl, rfl, h1, r1⟩ := trodAll_cons r0
  obtain ⟨v2, vs2, d2, ds2, p2, q2, rfl, rfl, rfl, h2, r2⟩ := trodAll_cons r1
  obtain ⟨v3, vs3, d3, ds3, p3, q3, rfl, rfl, rfl, h3, r3⟩ := trodAll_cons r2
  obtain ⟨rfl, rfl, rfl⟩ := trodAll_nil r3
  obtain rfl : args = #[v0, v1, v2, v3] := by cases args; simp_all
  obtain ⟨rfl, rfl⟩ := trodVars_none hV
  have k0 := h0
  have lt0 : ∀ x ∈ p0, x.block < W.heap.size := by obtain ⟨m, hm⟩ := k0; exact DataW.trod_lt m _ _ _ hm
  obtain ⟨A0, n0, c0, rfl⟩ := okWide_slice Tryd.underlying22 (hval 0 22 v0 rfl rfl)
  obtain ⟨xs0, w0, hc0⟩ : ∃ xs, Rd W A0 n0 xs ∧ n0 ≤ c0 := by
    obtain ⟨fuel, hf⟩ := h0
    rcases open_ints Tryd.underlying22 Tryd.underlying3 (by kernel_rfl) hf with ⟨hcs, _⟩ | ⟨x, l, c, zs, hcs, _, hl, hm, hz, _, hcell, hwz⟩
    · simp [Value.cells] at hcs
      obtain ⟨rfl, rfl, rfl⟩ := hcs
      exact ⟨[], Rd.nil _ _, Nat.le_refl _⟩
    · simp [Value.cells] at hcs
      obtain ⟨rfl, rfl, rfl⟩ := hcs
      exact ⟨_, rd_of_cells (by simp at hz; omega) hl hm hcell hwz, hl⟩
  have k1 := h1
  have lt1 : ∀ x ∈ p1, x.block < W.heap.size := by obtain ⟨m, hm⟩ := k1; exact DataW.trod_lt m _ _ _ hm
  obtain ⟨a1, rfl, rfl, rfl, w1⟩ := open_int Tryd.underlying3 (hval 1 3 v1 rfl rfl) h1
  have k2 := h2
  have lt2 : ∀ x ∈ p2, x.block < W.heap.size := by obtain ⟨m, hm⟩ := k2; exact DataW.trod_lt m _ _ _ hm
  obtain ⟨a2, rfl, rfl, rfl, w2⟩ := open_int Tryd.underlying3 (hval 2 3 v2 rfl rfl) h2
  have k3 := h3
  have lt3 : ∀ x ∈ p3, x.block < W.heap.size := by obtain ⟨m, hm⟩ := k3; exact DataW.trod_lt m _ _ _ hm
  obtain ⟨A3, n3, c3, rfl⟩ := okWide_slice Tryd.underlying23 (hval 3 23 v3 rfl rfl)
  obtain ⟨l3, w3, hb3, hc3⟩ : ∃ l : List (Bool × Int), RdP W A3 n3 (l.map sv) ∧ (∀ p ∈ l, -9223372036854775808 ≤ p.2 ∧ p.2 ≤ 9223372036854775807) ∧ n3 ≤ c3 := by
    obtain ⟨fuel, hf⟩ := h3
    rcases Go.Deep.open_slice_pairs Tryd.underlying23 Tryd.underlying32 (by kernel_rfl) rfl rfl (by kernel_rfl) (by kernel_rfl) hf with ⟨hcs, _⟩ | ⟨x, l, c, m, nn, V0, V1, D0, D1, P0, P1, hcs, _, hl, hm, hmm, _, hrow⟩
    · simp [Value.cells] at hcs
      obtain ⟨rfl, rfl, rfl⟩ := hcs
      exact ⟨[], RdP.nil _ _, by simp, Nat.le_refl _⟩
    · simp [Value.cells] at hcs
      obtain ⟨rfl, rfl, rfl⟩ := hcs
      have hlm : n3 ≤ m := by rw [hmm]; split <;> omega
      have hp := rdp_of_cells (w := W) (V0 := V0) (V1 := V1) hl hm (fun j hj => ⟨(hrow j (by omega)).1, (hrow j (by omega)).2.1⟩)
      obtain ⟨l', h1, h2⟩ := sides_of hp (fun j hj => by
        obtain ⟨_, _, g2, g3⟩ := hrow j (by omega)
        obtain ⟨b, e0, _⟩ := DataW.trod_bool Tryd.underlying4 g2
        obtain ⟨s, e1, _, e3⟩ := DataW.trod_int Tryd.underlying3 g3
        exact ⟨b, s, by simpa using e0, by simpa using e1, wf_range e3⟩)
      exact ⟨l', h1, h2, hl⟩
  clear hA0 hval0
  refine (walk W A0 n0 c0 xs0 w0 hc0 a1 (wf_range w1) a2 (wf_range w2) A3 n3 c3 l3 w3 hb3 hc3 (handle_of_laid hL)).mono fun e W' ⟨he, bel⟩ => ?_
  subst he
  exact ⟨_, rfl, _, _, _, [], _, [], hW', trodAll_mk1 (shut_bool Tryd.underlying4 _), (trodAll_cons_mk (Below.trod laidOut (by kernel_rfl) (of_decide_eq_true (by kernel_rfl)) k0 bel lt0) (trodAll_cons_mk (Below.trod laidOut (by kernel_rfl) (of_decide_eq_true (by kernel_rfl)) k1 bel lt1) (trodAll_cons_mk (Below.trod laidOut (by kernel_rfl) (of_decide_eq_true (by kernel_rfl)) k2 bel lt2) (trodAll_cons_mk (Below.trod laidOut (by kernel_rfl) (of_decide_eq_true (by kernel_rfl)) k3 bel lt3) trodAll_mk0)))), rfl, bel.frame _, fun h => by cases h⟩

theorem over : Rows.merkleSaysRow.holds Tryd.pinned (OpenSpec.ofChange Rows.merkleSaysSpec) :=
  OpenClaim.holds_of_wide 3 Tryd.f3 rfl rfl rfl rfl rfl rfl rfl ⟨rfl, rfl, rfl, rfl, rfl⟩ rfl rfl rfl rfl rfl (by kernel_rfl) Tryd.func3 (by kernel_rfl)
    (of_decide_eq_true (by kernel_rfl)) (by unfold Func.isWrapper; first | (rw [if_pos (by decide +kernel)]; kernel_rfl) | (rw [if_neg (by decide +kernel)]; exact ⟨rfl, rfl⟩))
    (fun os started H enc _ => lifted os started H enc)

theorem card_holds : Rows.MerkleSaysCardSaid :=
  Claim7.holds_tied_plain_at .later [] [.handle] true Rows.merkleSaysCard.stood.harness Rows.merkleSaysCard.stood.looks
    over (fun _ h => by cases h) (by kernel_rfl) (fun _ h => by cases h) merkleSays_row_tie rfl ⟨rfl, rfl⟩ (by kernel_rfl) rfl
    (fun f fn hf hfn => by
      obtain rfl : f = 3 := Option.some.inj ((show Tryd.prog.funcNamed "platterhold/platterholdlaw1.MerkleSays" = some 3 by kernel_rfl).symm.trans hf) |>.symm
      obtain rfl : fn = Tryd.f3 := (Option.some.inj (Tryd.func3.symm.trans hfn)).symm
      exact ⟨by kernel_rfl, fun j t ht => by
        rw [Tryd.params3] at ht
        have hm : t ∈ [22, 3, 3, 23] := by simpa using Array.mem_of_getElem? ht
        have hall : ([22, 3, 3, 23].all fun u => !Tryd.prog.wantsStandIn u) = true := by kernel_rfl
        exact (show Tryd.prog.wantsStandIn t = false by simpa using List.all_eq_true.1 hall t hm)⟩)
    (by kernel_rfl)
theorem proved : Rows.MerkleSaysCardSaid := card_holds
#print axioms proved
end Go.Proofs.YtpleidblnjphmaaDoor.merkleSays
