/- merkle.Up by its contract. -/
import Derived.Test.YtpleidblnjphmaaDoorMer2
namespace Go.Proofs.YtpleidblnjphmaaDoor
open Go Go.RowKit
set_option maxRecDepth 20000
set_option linter.unusedVariables false

def goodW (l : List (Bool × Int)) : Prop := ∀ p ∈ l, 0 ≤ p.2 ∧ p.2 ≤ 9972
instance (l : List (Bool × Int)) : Decidable (goodW l) := by unfold goodW; infer_instance
def upV (v : Int) (l : List (Bool × Int)) : Value := if goodW l then .tuple #[.int .i64 (upI (leafI v) l), .nilIface] else .tuple #[.int .i64 0, .iface 53 (.int .i64 1)]
theorem up_range {l : List (Bool × Int)} {s : Int} (h0 : 0 ≤ s) (h1 : s ≤ 9972) : 0 ≤ upI s l ∧ upI s l ≤ 9972 := by
  induction l generalizing s with
  | nil => exact ⟨h0, h1⟩
  | cons p l ih =>
    have hr : ∀ a b, 0 ≤ nodeI a b ∧ nodeI a b ≤ 9972 := node_range
    show 0 ≤ upI (if p.1 then nodeI p.2 s else nodeI s p.2) l ∧ _
    by_cases hp : p.1 = true
    · rw [if_pos hp]
      have := ih (hr p.2 s).1 (hr p.2 s).2
      unfold upI at *
      rw [List.foldl_cons, if_pos hp]; exact this
    · rw [if_neg hp]
      have := ih (hr s p.2).1 (hr s p.2).2
      unfold upI at *
      rw [List.foldl_cons, if_neg hp]; exact this
theorem take_snocW {l : List (Bool × Int)} {k : Nat} (h : k < l.length) : l.take (k + 1) = l.take k ++ [l[k]] := by rw [List.take_succ_eq_append_getElem h]

set_option maxHeartbeats 4000000 in
theorem up_any (A : Option Addr) (n c : Nat) (l : List (Bool × Int)) (v : Int) (w : World) (hA : RdP w A n (l.map sv)) (hn : n ≤ 16) (h0 : 0 ≤ v) (h1 : v ≤ 1000) :
    Calls Tryd.prog 10 #[.int .i64 v, .slice A n c] w fun e w' => e = .returned (upV v l) ∧ Below w.heap.size w w' := by
  have hlen : l.length = n := by have := hA.len; simpa using this
  obtain ⟨L, hL⟩ : ∃ L, leafI v = L := ⟨_, rfl⟩
  have hLr := leaf_range v
  rw [hL] at hLr
  have HL := Lib.hid hL
  have HN := Lib.hid hlen
  clear hL hlen
  go_enter Tryd.func10, Tryd.ntmps10
  go_wp2_with fail
  with_reducible refine (mleaf_ok _ _ h0 h1).mono ?_
  rintro e w' ⟨rfl, rfl⟩
  rw [HL.out]
  go_wp2
  go_loopw [6, 24] (fun s i wr => ∃ k : Nat, k ≤ n ∧ i = .int .i64 k ∧ s = .int .i64 (upI L (l.take k)) ∧ goodW (l.take k) ∧ Below w.heap.size w wr) (fun _ i _ => n - (intOf i).toNat)
  case atStart => exact ⟨0, Nat.zero_le _, rfl, rfl, by intro p hp; simp at hp, Below.refl _ _⟩
  case round =>
    obtain ⟨k, hk, rfl, rfl, hgood, hbel⟩ := hrel
    have hur := up_range (l := l.take k) hLr.1 hLr.2
    by_cases hlt : k < n
    · obtain ⟨b, off, rfl, hbl, hcc⟩ := hA.at_ (by omega)
      obtain ⟨c1, c2⟩ := hcc k hlt
      have hkl : k < l.length := by rw [HN.out]; exact hlt
      have hsn := take_snocW hkl
      have hup := up_snoc L (l.take k) l[k]
      rw [← hsn] at hup
      have hg : (l.map sv)[k]?.getD noVV = sv l[k] := by rw [List.getElem?_map, List.getElem?_eq_getElem hkl]; rfl
      rw [hg] at c1 c2
      obtain ⟨p, hp⟩ : ∃ p, l[k] = p := ⟨_, rfl⟩
      have hmem : p ∈ l := by rw [← hp]; exact List.getElem_mem _
      rw [hp] at c1 c2 hsn hup
      obtain ⟨bb, s⟩ := p
      have d1 := (hbel.cell (p := ⟨b, off + k * 2, none⟩) hbl).trans c1
      have d2 := (hbel.cell (p := ⟨b, off + k * 2 + 1, none⟩) hbl).trans c2
      change wr.cell? ⟨b, off + k * 2, none⟩ = some (.bool bb) at d1
      change wr.cell? ⟨b, off + k * 2 + 1, none⟩ = some (.int .i64 s) at d2
      have hbr := hbel.size
      obtain ⟨U, hU⟩ : ∃ U, upI L (l.take k) = U := ⟨_, rfl⟩
      rw [hU] at hur hup ⊢
      obtain ⟨hu0, hu1⟩ := hur
      have HG := Lib.hid hgood
      have HSN := Lib.hid hsn
      have HUP := Lib.hid hup
      have HMEM := Lib.hid hmem
      have hkI : (k : Int) < (n : Int) := by omega
      clear hcc hg hp hsn hup hU c1 c2 hgood hmem hkl
      by_cases hs : 0 ≤ s ∧ s ≤ 9972
      · obtain ⟨hs0, hs1⟩ := hs
        have hB2 := hbel.alloc hbr (.cells #[.bool bb, .int .i64 s] 32)
        have hg2 : goodW (l.take (k + 1)) := by
          rw [HSN.out]
          intro q hq
          rcases List.mem_append.1 hq with h | h
          · exact HG.out q h
          · simp at h; subst h; exact ⟨hs0, hs1⟩
        have HG2 := Lib.hid hg2
        clear hg2
        cases bb with
        | true =>
          go_wp2_with fail
          with_reducible refine (within_yes _ _ _ _ hs0 hs1).mono ?_
          rintro e w' ⟨rfl, rfl⟩
          go_wp2_with fail
          with_reducible refine (node_any _ _ _ hs0 hs1 hu0 hu1).mono ?_
          rintro e w' ⟨rfl, rfl⟩
          go_wp2
          go_roundw
          case rel => exact ⟨k + 1, by omega, by go_num, by rw [HUP.out]; rfl, HG2.out, hB2⟩
          case measure => simp [intOf]; omega
        | false =>
          go_wp2_with fail
          with_reducible refine (within_yes _ _ _ _ hs0 hs1).mono ?_
          rintro e w' ⟨rfl, rfl⟩
          go_wp2_with fail
          with_reducible refine (node_any _ _ _ hu0 hu1 hs0 hs1).mono ?_
          rintro e w' ⟨rfl, rfl⟩
          go_wp2
          go_roundw
          case rel => exact ⟨k + 1, by omega, by go_num, by rw [HUP.out]; rfl, HG2.out, hB2⟩
          case measure => simp [intOf]; omega
      · have hs' : s < 0 ∨ 9972 < s := by omega
        have hB2 := hbel.alloc hbr (.cells #[.bool bb, .int .i64 s] 32)
        have hv : upV v l = .tuple #[.int .i64 0, .iface 53 (.int .i64 1)] := by
          unfold upV
          rw [if_neg (fun h => hs (h _ HMEM.out))]
        have HV := Lib.hid hv
        clear hv hs
        go_wp2_with fail
        with_reducible refine (within_no _ _ _ _ hs').mono ?_
        rintro e w' ⟨rfl, rfl⟩
        go_wp2
        go_ret2
        exact ⟨by rw [HV.out]; rfl, hB2⟩
    · obtain rfl : k = n := by omega
      have hv : upV v l = .tuple #[.int .i64 (upI L (l.take k)), .nilIface] := by
        rw [List.take_of_length_le (by rw [HN.out]; omega)] at hgood ⊢
        unfold upV
        rw [if_pos hgood, HL.out]
      have HV := Lib.hid hv
      clear hv hgood
      go_wp2
      go_ret2
      exact ⟨by rw [HV.out]; rfl, hbel⟩
theorem up_badv (A : Option Addr) (n c : Nat) (v : Int) (w : World) (hn : n ≤ 16) (h : v < 0 ∨ 1000 < v) :
    Calls Tryd.prog 10 #[.int .i64 v, .slice A n c] w fun e w' => e = .returned (.tuple #[.int .i64 0, .iface 53 (.int .i64 1)]) ∧ w = w' := by
  go_enter Tryd.func10, Tryd.ntmps10
  go_wp2_with fail
  with_reducible refine (mleaf_bad _ _ h).mono ?_
  rintro e w' ⟨rfl, rfl⟩
  go_wp2
  go_ret2
  exact ⟨rfl, rfl⟩
theorem up_full (A : Option Addr) (n c : Nat) (v : Int) (w : World) (hn : 16 < n) :
    Calls Tryd.prog 10 #[.int .i64 v, .slice A n c] w fun e w' => e = .returned (.tuple #[.int .i64 0, .iface 53 (.int .i64 4)]) ∧ w = w' := by
  go_enter Tryd.func10, Tryd.ntmps10
  go_wp2
  go_ret2
  exact ⟨rfl, rfl⟩
theorem way_good (f : Nat) (l : List Int) (i : Nat) : goodW (wayF f l i) := way_range f l i
end Go.Proofs.YtpleidblnjphmaaDoor
