/- reed.Again by its contracts. -/
import Derived.Test.YtdhfckdnfppieaaReed2
import Derived.Test.YtdhfckdnfppieaaOwn2
namespace Go.Proofs.Ytdhfckdnfppieaa
open Go Go.RowKit
set_option maxRecDepth 20000
set_option linter.unusedVariables false

/-- The places and the values of the first shards that are there. -/
def gotI (s : List Int) (d : Nat) : Nat → List Int × List Int
  | 0 => ([], [])
  | k + 1 => if 0 ≤ s[k]?.getD 0 ∧ (gotI s d k).1.length < d then ((gotI s d k).1 ++ [(k : Int)], (gotI s d k).2 ++ [s[k]?.getD 0]) else gotI s d k
theorem got_yes {s : List Int} {d k : Nat} (h : 0 ≤ s[k]?.getD 0) (h2 : (gotI s d k).1.length < d) : gotI s d (k + 1) = ((gotI s d k).1 ++ [(k : Int)], (gotI s d k).2 ++ [s[k]?.getD 0]) := by
  rw [gotI, if_pos ⟨h, h2⟩]
theorem got_no {s : List Int} {d k : Nat} (h : ¬ (0 ≤ s[k]?.getD 0 ∧ (gotI s d k).1.length < d)) : gotI s d (k + 1) = gotI s d k := by rw [gotI, if_neg h]
theorem got_len (s : List Int) (d : Nat) : ∀ k, (gotI s d k).2.length = (gotI s d k).1.length ∧ (gotI s d k).1.length ≤ d ∧ (gotI s d k).1.length ≤ k
  | 0 => ⟨rfl, Nat.zero_le _, Nat.le_refl _⟩
  | k + 1 => by
    have ih := got_len s d k
    by_cases h : 0 ≤ s[k]?.getD 0 ∧ (gotI s d k).1.length < d
    · rw [got_yes h.1 h.2]; simp; omega
    · rw [got_no h]; omega
theorem got_mem (s : List Int) (d : Nat) : ∀ k, ∀ x ∈ (gotI s d k).1, ∃ j : Nat, x = (j : Int) ∧ j < k ∧ 0 ≤ s[j]?.getD 0
  | 0 => fun x h => by cases h
  | k + 1 => fun x hx => by
    by_cases h : 0 ≤ s[k]?.getD 0 ∧ (gotI s d k).1.length < d
    · rw [got_yes h.1 h.2] at hx
      rcases List.mem_append.1 hx with hx | hx
      · obtain ⟨j, h1, h2, h3⟩ := got_mem s d k x hx
        exact ⟨j, h1, by omega, h3⟩
      · simp at hx
        exact ⟨k, hx, by omega, h.1⟩
    · rw [got_no h] at hx
      obtain ⟨j, h1, h2, h3⟩ := got_mem s d k x hx
      exact ⟨j, h1, by omega, h3⟩
theorem got_nodup (s : List Int) (d : Nat) : ∀ k, (gotI s d k).1.Nodup
  | 0 => List.nodup_nil
  | k + 1 => by
    have ih := got_nodup s d k
    by_cases h : 0 ≤ s[k]?.getD 0 ∧ (gotI s d k).1.length < d
    · rw [got_yes h.1 h.2]
      refine List.nodup_append.2 ⟨ih, by simp, fun x hx y hy => ?_⟩
      obtain ⟨j, h1, h2, _⟩ := got_mem s d k x hx
      simp at hy
      omega
    · rw [got_no h]; exact ih
theorem got_val (s : List Int) (d : Nat) : ∀ k, ∀ i, i < (gotI s d k).1.length → (gotI s d k).2[i]?.getD 0 = s[((gotI s d k).1[i]?.getD 0).toNat]?.getD 0
  | 0 => fun i h => absurd h (Nat.not_lt_zero _)
  | k + 1 => fun i hi => by
    have ih := got_val s d k
    by_cases h : 0 ≤ s[k]?.getD 0 ∧ (gotI s d k).1.length < d
    · rw [got_yes h.1 h.2] at hi ⊢
      have hl := (got_len s d k).1
      show ((gotI s d k).2 ++ [s[k]?.getD 0])[i]?.getD 0 = s[(((gotI s d k).1 ++ [(k : Int)])[i]?.getD 0).toNat]?.getD 0
      by_cases h1 : i < (gotI s d k).1.length
      · rw [List.getElem?_append_left (by omega), List.getElem?_append_left h1]
        exact ih i h1
      · have : i = (gotI s d k).1.length := by simp at hi; omega
        subst this
        rw [List.getElem?_append_right (by omega), List.getElem?_append_right (by omega), hl, Nat.sub_self]
        simp
    · rw [got_no h] at hi ⊢; exact ih i hi
theorem got_bytes {s : List Int} (h : ∀ x ∈ s, -1 ≤ x ∧ x ≤ 255) (d : Nat) : ∀ k, k ≤ s.length → ∀ y ∈ (gotI s d k).2, 0 ≤ y ∧ y ≤ 255
  | 0, _ => fun y hy => by cases hy
  | k + 1, hk => fun y hy => by
    by_cases h1 : 0 ≤ s[k]?.getD 0 ∧ (gotI s d k).1.length < d
    · rw [got_yes h1.1 h1.2] at hy
      rcases List.mem_append.1 hy with hy | hy
      · exact got_bytes h d k (by omega) y hy
      · have h2 : y = s[k]?.getD 0 := by simpa using hy
        subst h2
        refine ⟨h1.1, ?_⟩
        rw [List.getElem?_eq_getElem (by omega)]
        exact (h _ (List.getElem_mem _)).2
    · rw [got_no h1] at hy
      exact got_bytes h d k (by omega) y hy
/-- What the shard at place i must be. -/
def agI (s : List Int) (d i : Nat) : Int := thrI (gotI s d s.length).1 (gotI s d s.length).2 i (gotI s d s.length).1.length
def outI (s : List Int) (d k : Nat) : List Int := (List.range k).map fun i => agI s d i
theorem outI_succ (s : List Int) (d k : Nat) : outI s d (k + 1) = outI s d k ++ [agI s d k] := by simp [outI, List.range_succ]
theorem outI_len (s : List Int) (d k : Nat) : (outI s d k).length = k := by simp [outI]
theorem out_last (s : List Int) (d j : Nat) (V : Int) : (outI s d j ++ [V])[j]?.getD 0 = V := by
  rw [List.getElem?_append_right (by rw [outI_len]; exact Nat.le_refl _), outI_len, Nat.sub_self]; rfl
def badAt (s : List Int) (d i : Nat) : Prop := 0 ≤ s[i]?.getD 0 ∧ s[i]?.getD 0 ≠ agI s d i

/-- How Again ends on shards of a right shape. -/
def AgPost (s : List Int) (d n B : Nat) (e : Ending) (w' : World) : Prop :=
  ((gotI s d n).1.length < d ∧ e = .returned (.tuple #[.slice none 0 0, .iface 47 (.int .i64 5)])) ∨
  ((gotI s d n).1.length = d ∧ (∃ i, i < n ∧ badAt s d i) ∧ e = .returned (.tuple #[.slice none 0 0, .iface 47 (.int .i64 6)])) ∨
  ((gotI s d n).1.length = d ∧ (∀ i, i < n → ¬ badAt s d i) ∧ ∃ C c', e = .returned (.tuple #[.slice C n c', .nilIface]) ∧ Own w' B (.slice C n c') n (outI s d n))

set_option maxHeartbeats 4000000 in
theorem rag_run (A : Option Addr) (n c : Nat) (s : List Int) (d : Nat) (w : World) (hA : Rd w A n s) (hn : n ≤ 12) (hd : 1 ≤ d) (hd8 : d ≤ 8) (hall : allB s (-1) 255 = true) (h1 : d ≤ n) (h4 : n ≤ d + 4) :
    Calls Try.prog 23 #[.slice A n c, .int .i64 d] w fun e w' =>
      AgPost s d n w.heap.size e w' ∧ Below w.heap.size w w' := by
  have hl := hA.len
  have hs := allB_mem.1 hall
  have hsx : ∀ i, i < n → -1 ≤ s[i]?.getD 0 ∧ s[i]?.getD 0 ≤ 255 := fun i hi => by
    rw [List.getElem?_eq_getElem (by omega)]; exact hs _ (List.getElem_mem _)
  have HX := Lib.hid (And.intro hl (And.intro hs (And.intro hsx hall)))
  have hnI : ¬ (12 : Int) < (n : Int) := by omega
  have hdI : (1 : Int) ≤ (d : Int) := by omega
  have hd8I : (d : Int) ≤ 8 := by omega
  have hsub : IntKind.i64.wrap ((n : Int) - (d : Int)) = (n : Int) - (d : Int) := by rw [IntKind.wrap_i64]; omega
  have hw0 : (0 : Int) ≤ (n : Int) - (d : Int) := by omega
  have hw4 : (n : Int) - (d : Int) ≤ 4 := by omega
  have HSUB := Lib.hid hsub
  clear hl hs hsx hall hsub
  go_enter Try.func23, Try.ntmps23
  go_wp2_with fail
  with_reducible refine (within_yes _ _ _ _ hdI hd8I).mono ?_
  rintro e w' ⟨rfl, rfl⟩
  go_wp2_with fail
  with_reducible refine (all_any A n c (-1) 255 s _ hA).mono ?_
  rintro e w' ⟨rfl, rfl⟩
  rw [HX.out.2.2.2]
  go_wp2_with fail
  with_reducible refine (within_yes _ _ _ _ hw0 hw4).mono ?_
  rintro e w' ⟨rfl, rfl⟩
  go_wp2
  go_loopw [6, 7, 35] (fun v u i wr => ∃ (k q : Nat) (C : Option Addr) (c' : Nat) (D : Option Addr) (d' : Nat), k ≤ n ∧ i = .int .i64 k ∧ v = .slice C q c' ∧ u = .slice D q d' ∧ q ≤ d ∧ q ≤ k ∧ (gotI s d k).1.length = q ∧
    Own2 wr w.heap.size (.slice C q c') (.slice D q d') q q (gotI s d k).1 (gotI s d k).2 ∧ Below w.heap.size w wr) (fun _ _ i _ => n - (intOf i).toNat)
  case atStart => exact ⟨0, 0, none, 0, none, 0, Nat.zero_le _, rfl, rfl, rfl, Nat.zero_le _, Nat.le_refl _, rfl, Own2.nil _ _, Below.refl _ _⟩
  case round =>
    obtain ⟨k, q, C, c', D, d', hk, rfl, rfl, rfl, hqd, hqk, hq, hown, hbel⟩ := hrel
    by_cases hlt : k < n
    · obtain ⟨b, off, rfl, hbl, hcc⟩ := hA.at_ (by omega)
      have g1 := (hbel.cell (p := ⟨b, off + k, none⟩) hbl).trans (hcc k hlt)
      have hgy := got_yes (s := s) (d := d) (k := k)
      have hgn := got_no (s := s) (d := d) (k := k)
      have hbx := HX.out.2.2.1 k hlt
      rw [hq] at hgy hgn
      obtain ⟨G, hG⟩ : ∃ G, gotI s d k = G := ⟨_, rfl⟩
      obtain ⟨x, hx⟩ : ∃ x, s[k]?.getD 0 = x := ⟨_, rfl⟩
      rw [hG] at hgy hgn hq hown
      rw [hx] at hgy hgn hbx g1
      obtain ⟨hb0, hb1⟩ := hbx
      have HGY := Lib.hid hgy
      have HGN := Lib.hid hgn
      have HQ := Lib.hid hq
      have hkI : (k : Int) < (n : Int) := by omega
      clear hcc hgy hgn hG hx hq
      by_cases hx0 : 0 ≤ x
      · by_cases hqlt : q < d
        · have hqI : (q : Int) < (d : Int) := by omega
          go_wp2_with (first
            | (at_builtin; refine wpList_app2L rfl _ _ rfl w.heap.size q _ G.1 rfl _ q G.2 (hown.alloc _) wr.heap.size (k : Int) rfl (by simp) (by omega) (by have := hbel.size; simp; omega) ?_; intro A2 c2 w4 hown4 hbel4; have hB4 := hbel4 w.heap.size w (Nat.le_refl _) (hbel.alloc hbel.size _))
            | (at_builtin; refine wpList_app2R rfl _ _ rfl w.heap.size q _ G.2 rfl _ (q + 1) (G.1 ++ [(k : Int)]) (hown4.alloc _) w4.heap.size x rfl (by simp) (by omega) (by have := hB4.size; simp; omega) ?_; intro A3 c3 w5 hown5 hbel5; have hB5 := hbel5 w.heap.size w (Nat.le_refl _) (hB4.alloc hB4.size _)))
          go_roundw
          case rel => exact ⟨k + 1, q + 1, A2, c2, A3, c3, by omega, by go_num, rfl, rfl, by omega, by omega, by rw [HGY.out hx0 hqlt]; simp [HQ.out], by rw [HGY.out hx0 hqlt]; exact hown5, hB5⟩
          case measure => simp [intOf]; omega
        · have hqI : ¬ (q : Int) < (d : Int) := by omega
          go_wp2
          go_roundw
          case rel => exact ⟨k + 1, q, C, c', D, d', by omega, by go_num, rfl, rfl, by omega, by omega, by rw [HGN.out (fun h => hqlt h.2)]; exact HQ.out, by rw [HGN.out (fun h => hqlt h.2)]; exact hown, hbel⟩
          case measure => simp [intOf]; omega
      · go_wp2
        go_roundw
        case rel => exact ⟨k + 1, q, C, c', D, d', by omega, by go_num, rfl, rfl, by omega, by omega, by rw [HGN.out (fun h => hx0 h.1)]; exact HQ.out, by rw [HGN.out (fun h => hx0 h.1)]; exact hown, hbel⟩
        case measure => simp [intOf]; omega
    · obtain rfl : k = n := by omega
      obtain ⟨W1, rfl⟩ : ∃ W, W = wr := ⟨wr, rfl⟩
      have hkI : ¬ (k : Int) < (k : Int) := by omega
      by_cases hqd2 : q < d
      · have hqI : (q : Int) < (d : Int) := by omega
        go_wp2
        go_ret2
        exact ⟨Or.inl ⟨by rw [hq]; exact hqd2, rfl⟩, hbel⟩
      · obtain rfl : q = d := by omega
        have hqI : ¬ (q : Int) < (q : Int) := by omega
        have hyb := got_bytes HX.out.2.1 q k (by rw [HX.out.1]; exact Nat.le_refl _)
        have hgm := got_mem s q k
        have hxb : ∀ x ∈ (gotI s q k).1, 0 ≤ x ∧ x ≤ 255 := fun x hx => by
          obtain ⟨j, h1, h2, _⟩ := hgm x hx
          omega
        have hnd := got_nodup s q k
        have hag : ∀ i, agI s q i = thrI (gotI s q k).1 (gotI s q k).2 i q := fun i => by
          unfold agI; rw [HX.out.1, hq]
        obtain ⟨X, hX⟩ : ∃ X, (gotI s q k).1 = X := ⟨_, rfl⟩
        obtain ⟨Y, hY⟩ : ∃ Y, (gotI s q k).2 = Y := ⟨_, rfl⟩
        rw [hX] at hown hxb hnd hag hq
        rw [hY] at hown hyb hag
        have hRX : Rd W1 C q X := hown.1.rd (by omega) (fun x hx => by have := hxb x hx; omega)
        have hRY : Rd W1 D q Y := hown.2.1.rd (by omega) (fun x hx => by have := hyb x hx; omega)
        have hth := fun (i : Nat) wx h1 h2 (hi : i < 12) => through_any C q c' X D d' Y (i : Int) wx h1 h2 (by omega) hxb hyb hnd ⟨by omega, by omega⟩
        have hvb : ∀ i, Byte (agI s q i) := fun i => by rw [hag]; exact thrI_byte hyb _
        have HTH := Lib.hid hth
        have HAG := Lib.hid (And.intro hag hvb)
        have HL := Lib.hid (And.intro hq hX)
        clear hyb hgm hxb hnd hag hq hX hY hth hvb hown
        go_wp2
        go_loopw [10, 64] (fun v i wq => ∃ (j : Nat) (D : Option Addr) (d : Nat), j ≤ k ∧ i = .int .i64 j ∧ v = .slice D j d ∧ (∀ i, i < j → ¬ badAt s q i) ∧ Own wq W1.heap.size (.slice D j d) j (outI s q j) ∧ Below W1.heap.size W1 wq) (fun _ i _ => k - (intOf i).toNat)
        case atStart => exact ⟨0, none, 0, Nat.zero_le _, rfl, rfl, (fun i hi => absurd hi (Nat.not_lt_zero _)), Own.nil _ _, Below.refl _ _⟩
        case round =>
          obtain ⟨j, E, e', hj, rfl, rfl, hok, hown2, hbel2⟩ := hrel
          by_cases hlj : j < k
          · obtain ⟨b, off, rfl, hbl, hcc⟩ := hA.at_ (by omega)
            have hbel3 := hbel.trans (hbel2.mono hbel.size)
            have g1 := (hbel3.cell (p := ⟨b, off + j, none⟩) hbl).trans (hcc j hlj)
            have hbx := HX.out.2.2.1 j hlj
            have hsn := outI_succ s q j
            have hba : badAt s q j ↔ (0 ≤ s[j]?.getD 0 ∧ s[j]?.getD 0 ≠ agI s q j) := Iff.rfl
            have hvb := HAG.out.2 j
            have hthj := fun wx h1 h2 => HTH.out j wx h1 h2 (by omega)
            rw [← HAG.out.1 j] at hthj
            obtain ⟨x, hx⟩ : ∃ x, s[j]?.getD 0 = x := ⟨_, rfl⟩
            obtain ⟨V, hV⟩ : ∃ V, agI s q j = V := ⟨_, rfl⟩
            rw [hx] at g1 hbx hba
            rw [hV] at hsn hba hvb hthj
            obtain ⟨hb0, hb1⟩ := hbx
            obtain ⟨hv0, hv1⟩ := hvb
            have HTJ := Lib.hid hthj
            have HSN := Lib.hid hsn
            have HBA := Lib.hid hba
            have HOK := Lib.hid hok
            have hjI : (j : Int) < (k : Int) := by omega
            have hXq := hRX.below hbel2
            have hYq := hRY.below hbel2
            have HCC := Lib.hid hcc
            have HXE := Lib.hid hx
            clear hcc hx hV hthj hsn hba hok
            by_cases hx0 : 0 ≤ x
            · by_cases hxV : x = V
              · obtain rfl : V = x := hxV.symm
                have hok2 : ∀ i, i < j + 1 → ¬ badAt s q i := fun i hi => by
                  rcases Nat.lt_or_ge i j with h | h
                  · exact HOK.out i h
                  · obtain rfl : i = j := by omega
                    rw [HBA.out]
                    intro h; exact h.2 rfl
                have HOK2 := Lib.hid hok2
                clear hok2
                have hne : (V != V) = false := by simp
                go_wp2_with fail
                with_reducible refine (HTJ.out _ hXq hYq).mono ?_
                rintro e w3 ⟨rfl, k3⟩
                have hown3 := hown2.below k3
                have hB3 := hbel2.trans (k3.mono hbel2.size)
                clear k3
                go_wp2_with (at_builtin; refine wpList_app1 rfl _ _ rfl W1.heap.size j _ (outI s q j) rfl (hown3.alloc _) w3.heap.size V rfl (by simp) (by omega) (by have := hB3.size; simp; omega) ?_; intro A2 c2 w4 hown4 hbel4; have hq4 := hbel4 W1.heap.size W1 (Nat.le_refl _) (hB3.alloc hB3.size _); obtain ⟨gg, rfl, hg0, hg1, hcell, hfr⟩ := hown4.at_ (by omega); have g5 := (hcell j (by omega)).trans (congrArg (fun v => some (Value.int .i64 v)) (out_last s q j V)); clear hcell hfr)
                go_roundw
                case rel => exact ⟨j + 1, _, _, by omega, by go_num, rfl, HOK2.out, by rw [HSN.out]; exact hown4, hq4⟩
                case measure => simp [intOf]; omega
              · have hne : (x != V) = true := by simp; exact hxV
                have HBAD := Lib.hid (HBA.out.2 ⟨hx0, hxV⟩)
                go_wp2_with fail
                with_reducible refine (HTJ.out _ hXq hYq).mono ?_
                rintro e w3 ⟨rfl, k3⟩
                have hown3 := hown2.below k3
                have hB3 := hbel2.trans (k3.mono hbel2.size)
                clear k3
                go_wp2_with (at_builtin; refine wpList_app1 rfl _ _ rfl W1.heap.size j _ (outI s q j) rfl (hown3.alloc _) w3.heap.size V rfl (by simp) (by omega) (by have := hB3.size; simp; omega) ?_; intro A2 c2 w4 hown4 hbel4; have hq4 := hbel4 W1.heap.size W1 (Nat.le_refl _) (hB3.alloc hB3.size _); obtain ⟨gg, rfl, hg0, hg1, hcell, hfr⟩ := hown4.at_ (by omega); have g5 := (hcell j (by omega)).trans (congrArg (fun v => some (Value.int .i64 v)) (out_last s q j V)); clear hcell hfr)
                go_ret2
                exact ⟨Or.inr (Or.inl ⟨by rw [HL.out.2]; exact HL.out.1, ⟨j, hlj, HBAD.out⟩, rfl⟩), hbel.trans (hq4.mono hbel.size)⟩
            · have hok2 : ∀ i, i < j + 1 → ¬ badAt s q i := fun i hi => by
                rcases Nat.lt_or_ge i j with h | h
                · exact HOK.out i h
                · obtain rfl : i = j := by omega
                  rw [HBA.out]
                  intro h; exact hx0 h.1
              have HOK2 := Lib.hid hok2
              clear hok2
              go_wp2_with fail
              with_reducible refine (HTJ.out _ hXq hYq).mono ?_
              rintro e w3 ⟨rfl, k3⟩
              have hown3 := hown2.below k3
              have hB3 := hbel2.trans (k3.mono hbel2.size)
              clear k3
              go_wp2_with (at_builtin; refine wpList_app1 rfl _ _ rfl W1.heap.size j _ (outI s q j) rfl (hown3.alloc _) w3.heap.size V rfl (by simp) (by omega) (by have := hB3.size; simp; omega) ?_; intro A2 c2 w4 hown4 hbel4; have hq4 := hbel4 W1.heap.size W1 (Nat.le_refl _) (hB3.alloc hB3.size _))
              go_roundw
              case rel => exact ⟨j + 1, _, _, by omega, by go_num, rfl, HOK2.out, by rw [HSN.out]; exact hown4, hq4⟩
              case measure => simp [intOf]; omega
          · obtain rfl : j = k := by omega
            have hjI : ¬ (j : Int) < (j : Int) := by omega
            have HOK := Lib.hid hok
            clear hok
            go_wp2
            go_ret2
            exact ⟨Or.inr (Or.inr ⟨by rw [HL.out.2]; exact HL.out.1, HOK.out, _, _, rfl, hown2.monoR hbel.size⟩), hbel.trans (hbel2.mono hbel.size)⟩
end Go.Proofs.Ytdhfckdnfppieaa
