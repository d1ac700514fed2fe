/- The reference's Again by its contract, and reed.Again in the same words. -/
import Derived.Test.YtdhfckdnfppieaaDoorRReed
import Derived.Test.YtdhfckdnfppieaaDoorReedD
namespace Go.Proofs.YtdhfckdnfppieaaDoor
open Go Go.RowKit
set_option maxRecDepth 20000
set_option linter.unusedVariables false

def agE (s : List Int) (d : Int) : Int := if 12 < s.length then 4 else if (1 ≤ d ∧ d ≤ 8) ∧ allB s (-1) 255 = true then (if d ≤ (s.length : Int) ∧ (s.length : Int) ≤ d + 4 then 0 else 3) else 1
theorem agE_zero {s : List Int} {d : Int} (h : agE s d = 0) : s.length ≤ 12 ∧ 1 ≤ d ∧ d ≤ 8 ∧ allB s (-1) 255 = true ∧ d ≤ (s.length : Int) ∧ (s.length : Int) ≤ d + 4 := by
  unfold agE at h
  split at h
  · cases h
  · next h1 =>
    split at h
    · next h2 =>
      split at h
      · next h3 => exact ⟨by omega, h2.1.1, h2.1.2, h2.2, h3.1, h3.2⟩
      · cases h
    · cases h

/-- How both end: the error's number, and the shards. -/
def badB (s : List Int) (d n : Nat) : Bool := (List.range n).any fun i => decide (0 ≤ s[i]?.getD 0 ∧ s[i]?.getD 0 ≠ agI s d i)
theorem badB_iff (s : List Int) (d n : Nat) : badB s d n = true ↔ ∃ i, i < n ∧ badAt s d i := by
  unfold badB
  rw [List.any_eq_true]
  constructor
  · rintro ⟨i, hi, h⟩
    exact ⟨i, List.mem_range.1 hi, (show 0 ≤ s[i]?.getD 0 ∧ s[i]?.getD 0 ≠ agI s d i from of_decide_eq_true h)⟩
  · rintro ⟨i, hi, h⟩
    exact ⟨i, List.mem_range.2 hi, decide_eq_true (show 0 ≤ s[i]?.getD 0 ∧ s[i]?.getD 0 ≠ agI s d i from h)⟩
def agF (s : List Int) (d : Int) : Int := if agE s d = 0 then (if (gotI s d.toNat s.length).1.length < d.toNat then 5 else if badB s d.toNat s.length = true then 6 else 0) else agE s d
def agL (s : List Int) (d : Int) : List Int := if agF s d = 0 then outI s d.toNat s.length else []
def AgPostV (ev : Int → Value) (s : List Int) (d : Int) (w : World) (e : Ending) (w' : World) : Prop :=
  (∃ C k c', e = .returned (.tuple #[.slice C k c', ev (agF s d)]) ∧ Rd w' C k (agL s d)) ∧ Below w.heap.size w w'
theorem agF_bad {s : List Int} {d : Int} (h : agE s d ≠ 0) : agF s d = agE s d := by unfold agF; rw [if_neg h]
theorem agL_bad {s : List Int} {d : Int} (h : agF s d ≠ 0) : agL s d = [] := by unfold agL; rw [if_neg h]
theorem agF_none {s : List Int} {d : Nat} (h : agE s d = 0) (h2 : (gotI s d s.length).1.length < d) : agF s d = 5 := by unfold agF; rw [if_pos h, Int.toNat_natCast, if_pos h2]
theorem agF_clash {s : List Int} {d : Nat} (h : agE s d = 0) (h2 : (gotI s d s.length).1.length = d) (h3 : ∃ i, i < s.length ∧ badAt s d i) : agF s d = 6 := by
  unfold agF; rw [if_pos h, Int.toNat_natCast, if_neg (by omega), if_pos ((badB_iff _ _ _).2 h3)]
theorem agF_ok {s : List Int} {d : Nat} (h : agE s d = 0) (h2 : (gotI s d s.length).1.length = d) (h3 : ∀ i, i < s.length → ¬ badAt s d i) : agF s d = 0 := by
  unfold agF; rw [if_pos h, Int.toNat_natCast, if_neg (by omega), if_neg]
  intro hb
  obtain ⟨i, h4, h5⟩ := (badB_iff _ _ _).1 hb
  exact h3 i h4 h5
theorem out_bytes {s : List Int} {d n : Nat} (hs : ∀ x ∈ s, -1 ≤ x ∧ x ≤ 255) (hn : s.length = n) : ∀ x ∈ outI s d n, 0 ≤ x ∧ x ≤ 255 := fun x hx => by
  obtain ⟨i, _, rfl⟩ := List.mem_map.1 hx
  unfold agI
  exact thrI_byte (got_bytes hs d _ (Nat.le_refl _)) _

/-- What AgPost says, with errors as values. -/
def AgPostR (er : Int → Value) (s : List Int) (d n B : Nat) (e : Ending) (w' : World) : Prop :=
  ((gotI s d n).1.length < d ∧ e = .returned (.tuple #[.slice none 0 0, er 5])) ∨
  ((gotI s d n).1.length = d ∧ (∃ i, i < n ∧ badAt s d i) ∧ e = .returned (.tuple #[.slice none 0 0, er 6])) ∨
  ((gotI s d n).1.length = d ∧ (∀ i, i < n → ¬ badAt s d i) ∧ ∃ C c', e = .returned (.tuple #[.slice C n c', er 0]) ∧ Own w' B (.slice C n c') n (outI s d n))
theorem ag_post {er : Int → Value} {s : List Int} {d n : Nat} {w w' : World} {e : Ending} (hn : s.length = n) (hE : agE s d = 0) (h : AgPostR er s d n w.heap.size e w') (hb : Below w.heap.size w w') : AgPostV er s d w e w' := by
  subst hn
  obtain ⟨h12, _, _, hall, _, _⟩ := agE_zero hE
  rcases h with ⟨h1, h2⟩ | ⟨h1, h2, h3⟩ | ⟨h1, h2, C, c', h3, h4⟩
  · have hf := agF_none hE h1
    refine ⟨⟨none, 0, 0, by rw [hf]; exact h2, ?_⟩, hb⟩
    rw [agL_bad (by rw [hf]; decide)]
    exact Rd.nil _ _
  · have hf := agF_clash hE h1 h2
    refine ⟨⟨none, 0, 0, by rw [hf]; exact h3, ?_⟩, hb⟩
    rw [agL_bad (by rw [hf]; decide)]
    exact Rd.nil _ _
  · have hf := agF_ok hE h1 h2
    refine ⟨⟨C, _, c', by rw [hf]; exact h3, ?_⟩, hb⟩
    have hl : agL s d = outI s d s.length := by unfold agL; rw [if_pos hf, Int.toNat_natCast]
    rw [hl]
    exact h4.rd (by omega) (fun x hx => by have := out_bytes (allB_mem.1 hall) rfl x hx; omega)
theorem agR_of {s : List Int} {d n B : Nat} {e : Ending} {w' : World} (h : AgPost s d n B e w') : AgPostR errV s d n B e w' := by
  rcases h with ⟨h1, h2⟩ | ⟨h1, h2, h3⟩ | ⟨h1, h2, C, c', h3, h4⟩
  · exact .inl ⟨h1, by rw [errV_ne (by decide)]; exact h2⟩
  · exact .inr (.inl ⟨h1, h2, by rw [errV_ne (by decide)]; exact h3⟩)
  · exact .inr (.inr ⟨h1, h2, C, c', by rw [errV_zero]; exact h3, h4⟩)

theorem pag_full (A : Option Addr) (n c : Nat) (d : Int) (w : World) (hn : 12 < n) :
    Calls Tryd.prog 26 #[.slice A n c, .int .i64 d] w fun e w' => e = .returned (.tuple #[.slice none 0 0, .iface 53 (.int .i64 4)]) ∧ w = w' := by
  have hnI : (12 : Int) < (n : Int) := by omega
  go_enter Tryd.func26, Tryd.ntmps26
  go_wp2
  go_ret2
  exact ⟨rfl, rfl⟩
theorem pag_range (A : Option Addr) (n c : Nat) (s : List Int) (d : Int) (w : World) (hA : Rd w A n s) (hn : n ≤ 12) (h : ¬ ((1 ≤ d ∧ d ≤ 8) ∧ allB s (-1) 255 = true)) :
    Calls Tryd.prog 26 #[.slice A n c, .int .i64 d] w fun e w' => e = .returned (.tuple #[.slice none 0 0, .iface 53 (.int .i64 1)]) ∧ w = w' := by
  have hnI : ¬ (12 : Int) < (n : Int) := by omega
  by_cases hd : 1 ≤ d ∧ d ≤ 8
  · obtain ⟨h1, h8⟩ := hd
    have hall : allB s (-1) 255 = false := by rw [Bool.eq_false_iff]; intro e; exact h ⟨⟨h1, h8⟩, e⟩
    have HALL := Lib.hid hall
    clear hall h
    go_enter Tryd.func26, Tryd.ntmps26
    go_wp2_with fail
    with_reducible refine (within_yes _ _ _ _ h1 h8).mono ?_
    rintro e w' ⟨rfl, rfl⟩
    go_wp2_with fail
    with_reducible refine (all_any A n c (-1) 255 s _ hA).mono ?_
    rintro e w' ⟨rfl, rfl⟩
    rw [HALL.out]
    go_wp2
    go_ret2
    exact ⟨rfl, rfl⟩
  · have hno : d < 1 ∨ 8 < d := by omega
    clear h hd
    go_enter Tryd.func26, Tryd.ntmps26
    go_wp2_with fail
    with_reducible refine (within_no _ _ _ _ hno).mono ?_
    rintro e w' ⟨rfl, rfl⟩
    go_wp2
    go_ret2
    exact ⟨rfl, rfl⟩
theorem pag_shape (A : Option Addr) (n c : Nat) (s : List Int) (d : Int) (w : World) (hA : Rd w A n s) (hn : n ≤ 12) (h1 : 1 ≤ d) (h8 : d ≤ 8) (hall : allB s (-1) 255 = true) (h : ¬ (d ≤ (n : Int) ∧ (n : Int) ≤ d + 4)) :
    Calls Tryd.prog 26 #[.slice A n c, .int .i64 d] w fun e w' => e = .returned (.tuple #[.slice none 0 0, .iface 53 (.int .i64 3)]) ∧ w = w' := by
  have hnI : ¬ (12 : Int) < (n : Int) := by omega
  have hno : (n : Int) - d < 0 ∨ 4 < (n : Int) - d := by omega
  have HALL := Lib.hid hall
  clear hall h
  go_enter Tryd.func26, Tryd.ntmps26
  go_wp2_with fail
  with_reducible refine (within_yes _ _ _ _ h1 h8).mono ?_
  rintro e w' ⟨rfl, rfl⟩
  go_wp2_with fail
  with_reducible refine (all_any A n c (-1) 255 s _ hA).mono ?_
  rintro e w' ⟨rfl, rfl⟩
  rw [HALL.out]
  go_wp2_with fail
  with_reducible refine (within_no _ _ _ _ hno).mono ?_
  rintro e w' ⟨rfl, rfl⟩
  go_wp2
  go_ret2
  exact ⟨rfl, rfl⟩
theorem agV_bad {er : Int → Value} {s : List Int} {d E : Int} {w w' : World} {e : Ending} (hE : agE s d = E) (h0 : E ≠ 0) (h : e = .returned (.tuple #[.slice none 0 0, er E]) ∧ w = w') : AgPostV er s d w e w' := by
  obtain ⟨h1, h2⟩ := h
  subst h2
  have hf : agF s d = E := by rw [agF_bad (by rw [hE]; exact h0), hE]
  refine ⟨⟨none, 0, 0, by rw [hf]; exact h1, ?_⟩, Below.refl _ _⟩
  rw [agL_bad (by rw [hf]; exact h0)]
  exact Rd.nil _ _
theorem pagain_any (A : Option Addr) (n c : Nat) (s : List Int) (d : Int) (w : World) (hA : Rd w A n s) :
    Calls Tryd.prog 26 #[.slice A n c, .int .i64 d] w (AgPostV errV s d w) := by
  have hl := hA.len
  by_cases h12 : 12 < n
  · have hE : agE s d = 4 := by unfold agE; rw [if_pos (by omega)]
    exact (pag_full A n c d w h12).mono fun e w' h => agV_bad hE (by decide) (by rw [errV_ne (by decide)]; exact h)
  · by_cases hr : (1 ≤ d ∧ d ≤ 8) ∧ allB s (-1) 255 = true
    · by_cases hs : d ≤ (n : Int) ∧ (n : Int) ≤ d + 4
      · have hE : agE s d = 0 := by unfold agE; rw [if_neg (by omega), if_pos hr, if_pos (by rw [hl]; exact hs)]
        obtain ⟨k, rfl⟩ := Int.eq_ofNat_of_zero_le (show 0 ≤ d by omega)
        exact (rag_run A n c s k w hA (by omega) (by omega) (by omega) hr.2 (by omega) (by omega)).mono fun e w' h => ag_post hl hE (agR_of h.1) h.2
      · have hE : agE s d = 3 := by unfold agE; rw [if_neg (by omega), if_pos hr, if_neg (by rw [hl]; exact hs)]
        exact (pag_shape A n c s d w hA (by omega) hr.1.1 hr.1.2 hr.2 hs).mono fun e w' h => agV_bad hE (by decide) (by rw [errV_ne (by decide)]; exact h)
    · have hE : agE s d = 1 := by unfold agE; rw [if_neg (by omega), if_neg hr]
      exact (pag_range A n c s d w hA (by omega) hr).mono fun e w' h => agV_bad hE (by decide) (by rw [errV_ne (by decide)]; exact h)

/-! ### The reference -/
theorem rag_full (A : Option Addr) (n c : Nat) (d : Int) (w : World) (hn : 12 < n) :
    Calls Tryd.prog 25 #[.slice A n c, .int .i64 d] w fun e w' => e = .returned (.tuple #[.slice none 0 0, .int .i64 4]) ∧ w = w' := by
  have hnI : (12 : Int) < (n : Int) := by omega
  go_enter Tryd.func25, Tryd.ntmps25
  go_wp2
  go_ret2
  exact ⟨rfl, rfl⟩
theorem rag_range (A : Option Addr) (n c : Nat) (s : List Int) (d : Int) (w : World) (hA : Rd w A n s) (hn : n ≤ 12) (h : ¬ ((1 ≤ d ∧ d ≤ 8) ∧ allB s (-1) 255 = true)) :
    Calls Tryd.prog 25 #[.slice A n c, .int .i64 d] w fun e w' => e = .returned (.tuple #[.slice none 0 0, .int .i64 1]) ∧ w = w' := by
  have hnI : ¬ (12 : Int) < (n : Int) := by omega
  by_cases hd : 1 ≤ d ∧ d ≤ 8
  · have hin : (decide (1 ≤ d) && decide (d ≤ 8)) = true := by simp; omega
    have hall : allB s (-1) 255 = false := by rw [Bool.eq_false_iff]; intro e; exact h ⟨hd, e⟩
    have HALL := Lib.hid (And.intro hall hin)
    clear hall h hin hd
    go_enter Tryd.func25, Tryd.ntmps25
    go_wp2_with fail
    with_reducible refine (rin_any _ _ _ _).mono ?_
    rintro e w' ⟨rfl, rfl⟩
    rw [HALL.out.2]
    go_wp2_with fail
    with_reducible refine (rall_any A n c (-1) 255 s _ hA).mono ?_
    rintro e w' ⟨rfl, rfl⟩
    rw [HALL.out.1]
    go_wp2
    go_ret2
    exact ⟨rfl, rfl⟩
  · have hin : (decide (1 ≤ d) && decide (d ≤ 8)) = false := by rw [Bool.eq_false_iff]; intro h; simp at h; exact hd h
    have HIN := Lib.hid hin
    clear h hd hin
    go_enter Tryd.func25, Tryd.ntmps25
    go_wp2_with fail
    with_reducible refine (rin_any _ _ _ _).mono ?_
    rintro e w' ⟨rfl, rfl⟩
    rw [HIN.out]
    go_wp2
    go_ret2
    exact ⟨rfl, rfl⟩
theorem rag_shape (A : Option Addr) (n c : Nat) (s : List Int) (d : Int) (w : World) (hA : Rd w A n s) (hn : n ≤ 12) (h1 : 1 ≤ d) (h8 : d ≤ 8) (hall : allB s (-1) 255 = true) (h : ¬ (d ≤ (n : Int) ∧ (n : Int) ≤ d + 4)) :
    Calls Tryd.prog 25 #[.slice A n c, .int .i64 d] w fun e w' => e = .returned (.tuple #[.slice none 0 0, .int .i64 3]) ∧ w = w' := by
  have hnI : ¬ (12 : Int) < (n : Int) := by omega
  have hin : (decide (1 ≤ d) && decide (d ≤ 8)) = true := by simp; omega
  have HALL := Lib.hid (And.intro hall hin)
  clear hall hin
  by_cases hdn : (n : Int) < d
  · clear h
    go_enter Tryd.func25, Tryd.ntmps25
    go_wp2_with fail
    with_reducible refine (rin_any _ _ _ _).mono ?_
    rintro e w' ⟨rfl, rfl⟩
    rw [HALL.out.2]
    go_wp2_with fail
    with_reducible refine (rall_any A n c (-1) 255 s _ hA).mono ?_
    rintro e w' ⟨rfl, rfl⟩
    rw [HALL.out.1]
    go_wp2
    go_ret2
    exact ⟨rfl, rfl⟩
  · have hgt : d + 4 < (n : Int) := by omega
    have hgtb : decide (d + 4 < (n : Int)) = true := by simp; omega
    clear h
    go_enter Tryd.func25, Tryd.ntmps25
    go_wp2_with fail
    with_reducible refine (rin_any _ _ _ _).mono ?_
    rintro e w' ⟨rfl, rfl⟩
    rw [HALL.out.2]
    go_wp2_with fail
    with_reducible refine (rall_any A n c (-1) 255 s _ hA).mono ?_
    rintro e w' ⟨rfl, rfl⟩
    rw [HALL.out.1]
    go_wp2
    go_ret2
    exact ⟨rfl, rfl⟩

set_option maxHeartbeats 8000000 in
theorem ragR_run (A : Option Addr) (n c : Nat) (s : List Int) (d : Nat) (w : World) (hA : Rd w A n s) (hn : n ≤ 12) (hd : 1 ≤ d) (hd8 : d ≤ 8) (hall : allB s (-1) 255 = true) (h1 : d ≤ n) (h4 : n ≤ d + 4) :
    Calls Tryd.prog 25 #[.slice A n c, .int .i64 d] w fun e w' =>
      AgPostR intV s d n w.heap.size e w' ∧ Below w.heap.size w w' := by
  have hl := hA.len
  have hs := allB_mem.1 hall
  have hsx : ∀ i, i < n → -1 ≤ s[i]?.getD 0 ∧ s[i]?.getD 0 ≤ 255 := fun i hi => by
    rw [List.getElem?_eq_getElem (by omega)]; exact hs _ (List.getElem_mem _)
  have hin : (decide ((1 : Int) ≤ (d : Int)) && decide ((d : Int) ≤ 8)) = true := by simp; omega
  have HX := Lib.hid (And.intro hl (And.intro hs (And.intro hsx (And.intro hall hin))))
  have hnI : ¬ (12 : Int) < (n : Int) := by omega
  have hdn1 : ¬ (n : Int) < (d : Int) := by omega
  have hdn4 : ¬ (d : Int) + 4 < (n : Int) := by omega
  have hdn1' : decide (n < d) = false := by simp; omega
  have hdn4' : decide ((d : Int) + 4 < (n : Int)) = false := by simp; omega
  clear hl hs hsx hall hin
  go_enter Tryd.func25, Tryd.ntmps25
  go_wp2_with fail
  with_reducible refine (rin_any _ _ _ _).mono ?_
  rintro e w' ⟨rfl, rfl⟩
  rw [HX.out.2.2.2.2]
  go_wp2_with fail
  with_reducible refine (rall_any A n c (-1) 255 s _ hA).mono ?_
  rintro e w' ⟨rfl, rfl⟩
  rw [HX.out.2.2.2.1]
  go_wp2
  go_loopw [6, 7, 8] (fun v u i wr => ∃ (k q : Nat) (C : Option Addr) (c' : Nat) (D : Option Addr) (d' : Nat), k ≤ n ∧ i = .int .i64 k ∧ v = .slice C q c' ∧ u = .slice D q d' ∧ q ≤ d ∧ q ≤ k ∧ (gotI s d k).1.length = q ∧
    Own2 wr w.heap.size (.slice C q c') (.slice D q d') q q (gotI s d k).1 (gotI s d k).2 ∧ Below w.heap.size w wr) (fun _ _ i _ => n - (intOf i).toNat)
  case atStart => exact ⟨0, 0, none, 0, none, 0, Nat.zero_le _, rfl, rfl, rfl, Nat.zero_le _, Nat.le_refl _, rfl, Own2.nil _ _, Below.refl _ _⟩
  case round =>
    obtain ⟨k, q, C, c', D, d', hk, rfl, rfl, rfl, hqd, hqk, hq, hown, hbel⟩ := hrel
    by_cases hlt : k < n
    · obtain ⟨b, off, rfl, hbl, hcc⟩ := hA.at_ (by omega)
      have g1 := (hbel.cell (p := ⟨b, off + k, none⟩) hbl).trans (hcc k hlt)
      have hgy := got_yes (s := s) (d := d) (k := k)
      have hgn := got_no (s := s) (d := d) (k := k)
      have hbx := HX.out.2.2.1 k hlt
      rw [hq] at hgy hgn
      obtain ⟨G, hG⟩ : ∃ G, gotI s d k = G := ⟨_, rfl⟩
      obtain ⟨x, hx⟩ : ∃ x, s[k]?.getD 0 = x := ⟨_, rfl⟩
      rw [hG] at hgy hgn hq hown
      rw [hx] at hgy hgn hbx g1
      obtain ⟨hb0, hb1⟩ := hbx
      have HGY := Lib.hid hgy
      have HGN := Lib.hid hgn
      have HQ := Lib.hid hq
      have hkI : (k : Int) < (n : Int) := by omega
      have HCC := Lib.hid hcc
      have HXE := Lib.hid hx
      clear hcc hgy hgn hG hx hq
      by_cases hx0 : 0 ≤ x
      · by_cases hqlt : q < d
        · have hqI : (q : Int) < (d : Int) := by omega
          go_wp2_with (first
            | (at_builtin; refine wpList_app2L rfl _ _ rfl w.heap.size q _ G.1 rfl _ q G.2 (hown.alloc _) wr.heap.size (k : Int) rfl (by simp) (by omega) (by have := hbel.size; simp; omega) ?_; intro A2 c2 w4 hown4 hbel4; have hB4 := hbel4 w.heap.size w (Nat.le_refl _) (hbel.alloc hbel.size _); have g2 := ((hB4.cell (p := ⟨b, off + k, none⟩) hbl).trans (HCC.out k hlt)).trans (congrArg (fun v => some (Value.int .i64 v)) HXE.out))
            | (at_builtin; refine wpList_app2R rfl _ _ rfl w.heap.size q _ G.2 rfl _ (q + 1) (G.1 ++ [(k : Int)]) (hown4.alloc _) w4.heap.size x rfl (by simp) (by omega) (by have := hB4.size; simp; omega) ?_; intro A3 c3 w5 hown5 hbel5; have hB5 := hbel5 w.heap.size w (Nat.le_refl _) (hB4.alloc hB4.size _)))
          go_roundw
          case rel => exact ⟨k + 1, q + 1, A2, c2, A3, c3, by omega, by go_num, rfl, rfl, by omega, by omega, by rw [HGY.out hx0 hqlt]; simp [HQ.out], by rw [HGY.out hx0 hqlt]; exact hown5, hB5⟩
          case measure => simp [intOf]; omega
        · have hqI : ¬ (q : Int) < (d : Int) := by omega
          go_wp2
          go_roundw
          case rel => exact ⟨k + 1, q, C, c', D, d', by omega, by go_num, rfl, rfl, by omega, by omega, by rw [HGN.out (fun h => hqlt h.2)]; exact HQ.out, by rw [HGN.out (fun h => hqlt h.2)]; exact hown, hbel⟩
          case measure => simp [intOf]; omega
      · go_wp2
        go_roundw
        case rel => exact ⟨k + 1, q, C, c', D, d', by omega, by go_num, rfl, rfl, by omega, by omega, by rw [HGN.out (fun h => hx0 h.1)]; exact HQ.out, by rw [HGN.out (fun h => hx0 h.1)]; exact hown, hbel⟩
        case measure => simp [intOf]; omega
    · obtain rfl : n = k := by omega
      obtain ⟨W1, rfl⟩ : ∃ W, W = wr := ⟨wr, rfl⟩
      have hkI : ¬ (n : Int) < (n : Int) := by omega
      by_cases hqd2 : q < d
      · have hqI : (q : Int) < (d : Int) := by omega
        go_wp2
        go_ret2
        exact ⟨Or.inl ⟨by rw [hq]; exact hqd2, rfl⟩, hbel⟩
      · obtain rfl : d = q := by omega
        have hqI : ¬ (d : Int) < (d : Int) := by omega
        have hyb := got_bytes HX.out.2.1 d n (by rw [HX.out.1]; exact Nat.le_refl _)
        have hgm := got_mem s d n
        have hxb : ∀ x ∈ (gotI s d n).1, 0 ≤ x ∧ x ≤ 255 := fun x hx => by
          obtain ⟨j, h1, h2, _⟩ := hgm x hx
          omega
        have hnd := got_nodup s d n
        have hag : ∀ i, agI s d i = thrI (gotI s d n).1 (gotI s d n).2 i d := fun i => by
          unfold agI; rw [HX.out.1, hq]
        obtain ⟨X, hX⟩ : ∃ X, (gotI s d n).1 = X := ⟨_, rfl⟩
        obtain ⟨Y, hY⟩ : ∃ Y, (gotI s d n).2 = Y := ⟨_, rfl⟩
        rw [hX] at hown hxb hnd hag hq
        rw [hY] at hown hyb hag
        have hRX : Rd W1 C d X := hown.1.rd (by omega) (fun x hx => by have := hxb x hx; omega)
        have hRY : Rd W1 D d Y := hown.2.1.rd (by omega) (fun x hx => by have := hyb x hx; omega)
        have hvb : ∀ i, Byte (agI s d i) := fun i => by rw [hag]; exact thrI_byte hyb _
        have HXY := Lib.hid (And.intro hxb (And.intro hyb (And.intro hnd hq)))
        have HAG := Lib.hid (And.intro hag hvb)
        have HL := Lib.hid (And.intro hq hX)
        clear hyb hgm hxb hnd hag hq hX hY hvb hown
        go_wp2_with fail
        with_reducible refine (factors_any C d c' X D d' Y _ hRX hRY (by omega) hd8 HXY.out.1 HXY.out.2.1 HXY.out.2.2.1).mono ?_
        rintro e w2 ⟨⟨F, cf, rfl, fs, hownF, hfac⟩, k2⟩
        have hB2 := hbel.trans (k2.mono hbel.size)
        have hfh := fun a ha => hfac.horn (a := a) HXY.out.1 HXY.out.2.2.1 HXY.out.2.2.2 HXY.out.2.1 ha
        have hfb : ∀ f ∈ fs, 0 ≤ f ∧ f ≤ 255 := (hfh 0 (by decide)).2.1
        have hRF : Rd w2 F d fs := hownF.rd (by omega) (fun x hx => by have := hfb x hx; omega)
        have hval : ∀ a : Nat, a < 256 → horn (a : Int) fs = agI s d a := fun a ha => by
          rw [(hfh a ha).2.2, HAG.out.1]
        have HF := Lib.hid (And.intro hfb hval)
        clear hownF hfac hfh hfb hval k2
        go_wp2
        go_loopw [10, 11] (fun v i wq => ∃ (j : Nat) (D : Option Addr) (d' : Nat), j ≤ n ∧ i = .int .i64 j ∧ v = .slice D j d' ∧ (∀ i, i < j → ¬ badAt s d i) ∧ Own wq w2.heap.size (.slice D j d') j (outI s d j) ∧ Below w2.heap.size w2 wq) (fun _ i _ => n - (intOf i).toNat)
        case atStart => exact ⟨0, none, 0, Nat.zero_le _, rfl, rfl, (fun i hi => absurd hi (Nat.not_lt_zero _)), Own.nil _ _, Below.refl _ _⟩
        case round =>
          obtain ⟨j, E, e', hj, rfl, rfl, hok, hown2, hbel2⟩ := hrel
          by_cases hlj : j < n
          · obtain ⟨b, off, rfl, hbl, hcc⟩ := hA.at_ (by omega)
            have hbel3 := hB2.trans (hbel2.mono hB2.size)
            have g1 := (hbel3.cell (p := ⟨b, off + j, none⟩) hbl).trans (hcc j hlj)
            have hbx := HX.out.2.2.1 j hlj
            have hsn := outI_succ s d j
            have hba : badAt s d j ↔ (0 ≤ s[j]?.getD 0 ∧ s[j]?.getD 0 ≠ agI s d j) := Iff.rfl
            have hvb := HAG.out.2 j
            have hat := fun wx h => rat_any F d cf fs (j : Int) wx h (by omega) (allB_mem.2 HF.out.1) ⟨by omega, by omega⟩
            rw [HF.out.2 j (by omega)] at hat
            obtain ⟨x, hx⟩ : ∃ x, s[j]?.getD 0 = x := ⟨_, rfl⟩
            obtain ⟨V, hV⟩ : ∃ V, agI s d j = V := ⟨_, rfl⟩
            rw [hx] at g1 hbx hba
            rw [hV] at hsn hba hvb hat
            obtain ⟨hb0, hb1⟩ := hbx
            obtain ⟨hv0, hv1⟩ := hvb
            have HAT := Lib.hid hat
            have HSN := Lib.hid hsn
            have HBA := Lib.hid hba
            have HOK := Lib.hid hok
            have hjI : (j : Int) < (n : Int) := by omega
            have hRq := hRF.below hbel2
            have HCC := Lib.hid hcc
            have HXE := Lib.hid hx
            clear hcc hx hV hat hsn hba hok
            by_cases hx0 : 0 ≤ x
            · by_cases hxV : x = V
              · obtain rfl : V = x := hxV.symm
                have hok2 : ∀ i, i < j + 1 → ¬ badAt s d i := fun i hi => by
                  rcases Nat.lt_or_ge i j with h | h
                  · exact HOK.out i h
                  · obtain rfl : i = j := by omega
                    rw [HBA.out]
                    intro h; exact h.2 rfl
                have HOK2 := Lib.hid hok2
                clear hok2
                have hne : (V != V) = false := by simp
                go_wp2_with fail
                with_reducible refine (HAT.out _ hRq).mono ?_
                rintro e w3 ⟨rfl, k3⟩
                have hown3 := hown2.below k3
                have hB3 := hbel2.trans (k3.mono hbel2.size)
                have hbel4' := hB2.trans (hB3.mono hB2.size)
                have g3 := ((hbel4'.cell (p := ⟨b, off + j, none⟩) hbl).trans (HCC.out j hlj)).trans (congrArg (fun v => some (Value.int .i64 v)) HXE.out)
                clear k3
                go_wp2_with (at_builtin; refine wpList_app1 rfl _ _ rfl w2.heap.size j _ (outI s d j) rfl (hown3.alloc _) w3.heap.size V rfl (by simp) (by omega) (by have := hB3.size; simp; omega) ?_; intro A2 c2 w4 hown4 hbel4; have hq4 := hbel4 w2.heap.size w2 (Nat.le_refl _) (hB3.alloc hB3.size _))
                go_roundw
                case rel => exact ⟨j + 1, _, _, by omega, by go_num, rfl, HOK2.out, by rw [HSN.out]; exact hown4, hq4⟩
                case measure => simp [intOf]; omega
              · have hne : (x != V) = true := by simp; exact hxV
                have HBAD := Lib.hid (HBA.out.2 ⟨hx0, hxV⟩)
                clear hxV
                go_wp2_with fail
                with_reducible refine (HAT.out _ hRq).mono ?_
                rintro e w3 ⟨rfl, k3⟩
                have hB3 := hbel2.trans (k3.mono hbel2.size)
                have hbel4' := hB2.trans (hB3.mono hB2.size)
                have g3 := ((hbel4'.cell (p := ⟨b, off + j, none⟩) hbl).trans (HCC.out j hlj)).trans (congrArg (fun v => some (Value.int .i64 v)) HXE.out)
                clear k3
                go_wp2
                go_ret2
                exact ⟨Or.inr (Or.inl ⟨by rw [HL.out.2]; exact HL.out.1, ⟨j, hlj, HBAD.out⟩, rfl⟩), hbel4'⟩
            · have hok2 : ∀ i, i < j + 1 → ¬ badAt s d i := fun i hi => by
                rcases Nat.lt_or_ge i j with h | h
                · exact HOK.out i h
                · obtain rfl : i = j := by omega
                  rw [HBA.out]
                  intro h; exact hx0 h.1
              have HOK2 := Lib.hid hok2
              clear hok2
              go_wp2_with fail
              with_reducible refine (HAT.out _ hRq).mono ?_
              rintro e w3 ⟨rfl, k3⟩
              have hown3 := hown2.below k3
              have hB3 := hbel2.trans (k3.mono hbel2.size)
              have hbel4' := hB2.trans (hB3.mono hB2.size)
              have g3 := ((hbel4'.cell (p := ⟨b, off + j, none⟩) hbl).trans (HCC.out j hlj)).trans (congrArg (fun v => some (Value.int .i64 v)) HXE.out)
              clear k3
              go_wp2_with (at_builtin; refine wpList_app1 rfl _ _ rfl w2.heap.size j _ (outI s d j) rfl (hown3.alloc _) w3.heap.size V rfl (by simp) (by omega) (by have := hB3.size; simp; omega) ?_; intro A2 c2 w4 hown4 hbel4; have hq4 := hbel4 w2.heap.size w2 (Nat.le_refl _) (hB3.alloc hB3.size _))
              go_roundw
              case rel => exact ⟨j + 1, _, _, by omega, by go_num, rfl, HOK2.out, by rw [HSN.out]; exact hown4, hq4⟩
              case measure => simp [intOf]; omega
          · obtain rfl : n = j := by omega
            have hjI : ¬ (n : Int) < (n : Int) := by omega
            have HOK := Lib.hid hok
            clear hok
            go_wp2
            go_ret2
            exact ⟨Or.inr (Or.inr ⟨by rw [HL.out.2]; exact HL.out.1, HOK.out, _, _, rfl, hown2.monoR hB2.size⟩), hB2.trans (hbel2.mono hB2.size)⟩
theorem ragain_any (A : Option Addr) (n c : Nat) (s : List Int) (d : Int) (w : World) (hA : Rd w A n s) :
    Calls Tryd.prog 25 #[.slice A n c, .int .i64 d] w (AgPostV intV s d w) := by
  have hl := hA.len
  by_cases h12 : 12 < n
  · have hE : agE s d = 4 := by unfold agE; rw [if_pos (by omega)]
    exact (rag_full A n c d w h12).mono fun e w' h => agV_bad hE (by decide) h
  · by_cases hr : (1 ≤ d ∧ d ≤ 8) ∧ allB s (-1) 255 = true
    · by_cases hs : d ≤ (n : Int) ∧ (n : Int) ≤ d + 4
      · have hE : agE s d = 0 := by unfold agE; rw [if_neg (by omega), if_pos hr, if_pos (by rw [hl]; exact hs)]
        obtain ⟨k, rfl⟩ := Int.eq_ofNat_of_zero_le (show 0 ≤ d by omega)
        exact (ragR_run A n c s k w hA (by omega) (by omega) (by omega) hr.2 (by omega) (by omega)).mono fun e w' h => ag_post hl hE h.1 h.2
      · have hE : agE s d = 3 := by unfold agE; rw [if_neg (by omega), if_pos hr, if_neg (by rw [hl]; exact hs)]
        exact (rag_shape A n c s d w hA (by omega) hr.1.1 hr.1.2 hr.2 hs).mono fun e w' h => agV_bad hE (by decide) h
    · have hE : agE s d = 1 := by unfold agE; rw [if_neg (by omega), if_neg hr]
      exact (rag_range A n c s d w hA (by omega) hr).mono fun e w' h => agV_bad hE (by decide) h
end Go.Proofs.YtdhfckdnfppieaaDoor
