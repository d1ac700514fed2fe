/- The reference's Factors: the walk. -/
import Derived.Test.YtdhfckdnfppieaaDoorRFac
import Derived.Test.YtdhfckdnfppieaaDoorReed2
namespace Go.Proofs.YtdhfckdnfppieaaDoor
open Go Go.RowKit
set_option maxRecDepth 100000
set_option linter.unusedVariables false

def powL (x : Int) (m : Nat) : List Int := (List.range m).map fun j => powI x j
theorem powL_succ (x : Int) (m : Nat) : powL x (m + 1) = powL x m ++ [powI x m] := by simp [powL, List.range_succ]
theorem rowI_eq (x y : Int) (n : Nat) : rowI x y n = powL x n ++ [y] := rfl
/-- The first k rows are laid. -/
def FacA (w wr : World) (v : Value) (n k : Nat) (xs ys : List Int) (rs : List RV) : Prop :=
  OwnK wr w.heap.size v k rs ∧ (∀ j, j < k → (dat rs)[j]?.getD [] = rowI (xs[j]?.getD 0) (ys[j]?.getD 0) n) ∧ Below w.heap.size w wr
theorem FacA.next {w wr w4 w5 : World} {v : Value} {n k : Nat} {xs ys : List Int} {rs : List RV} (h : FacA w wr v n k xs ys rs) {A D : Option Addr} {c d : Nat}
    (k4 : Below wr.heap.size wr w4) (o : Obj) (hrow : Own w4 w.heap.size (.slice D (n + 1) d) (n + 1) (rowI (xs[k]?.getD 0) (ys[k]?.getD 0) n)) (hown : OwnR w5 w.heap.size (.slice A (k + 1) c) (k + 1) (rs ++ [(D, n + 1, d, rowI (xs[k]?.getD 0) (ys[k]?.getD 0) n)])) (hk : Kp (w4.alloc o) w5) (hb : Below w.heap.size w w5) :
    FacA w w5 (.slice A (k + 1) c) n (k + 1) xs ys (rs ++ [(D, n + 1, d, rowI (xs[k]?.getD 0) (ys[k]?.getD 0) n)]) := by
  have hl := h.1.len
  refine ⟨⟨hown, fun r hr => ?_⟩, fun j hj => ?_, hb⟩
  · rcases List.mem_append.1 hr with hr | hr
    · exact (((h.1.2 r hr).below k4).alloc o).kp hk
    · simp at hr
      subst hr
      exact (hrow.alloc o).kp hk
  · rw [dat_app1]
    by_cases e : j = k
    · subst e
      rw [List.getElem?_append_right (by rw [dat_len]; omega), dat_len, hl, Nat.sub_self]; rfl
    · rw [List.getElem?_append_left (by rw [dat_len]; omega)]
      exact h.2.1 j (by omega)
theorem FacA.start {w wr : World} {A : Option Addr} {c n : Nat} {xs ys : List Int} {rs : List RV} (h : FacA w wr (.slice A n c) n n xs ys rs) (hn : 0 < n) (hx : ∀ x ∈ xs, 0 ≤ x ∧ x ≤ 255) (hl : xs.length = n) (hy : ∀ y ∈ ys, 0 ≤ y ∧ y ≤ 255) :
    ∃ g, A = some ⟨g, 0, none⟩ ∧ FacI w wr g c n 0 xs ys rs := by
  obtain ⟨g, rfl, _⟩ := h.1.1.at_ hn
  exact ⟨g, rfl, h.1, GP.first hx hl hy (by rw [dat_len]; exact h.1.len) h.2.1, h.2.2⟩
def divL (z : Nat → Int) (f : Int) (m : Nat) : List Int := (List.range m).map fun j => mulI (z j) (invI f)
theorem divL_succ (z : Nat → Int) (f : Int) (m : Nat) : divL z f (m + 1) = divL z f m ++ [mulI (z m) (invI f)] := by simp [divL, List.range_succ]
theorem divL_get (z : Nat → Int) (f : Int) {m j : Nat} (h : j < m) : (divL z f m)[j]?.getD 0 = mulI (z j) (invI f) := by
  unfold divL
  rw [List.getElem?_map, List.getElem?_range h]; rfl
theorem divL_ok {z : Nat → Int} {f : Int} (n : Nat) (h : ∀ j, Byte (z j)) : RowOk n (divL z f (n + 1)) := by
  refine ⟨by simp [divL], fun x hx => ?_⟩
  obtain ⟨j, _, rfl⟩ := List.mem_map.1 hx
  exact ⟨mulI_nonneg _ _, mulI_le (h j).2⟩
def nextL (z o : Nat → Int) (s : Int) (m : Nat) : List Int := (List.range m).map fun j => xorI (z j) (mulI (o j) s)
theorem nextL_succ (z o : Nat → Int) (s : Int) (m : Nat) : nextL z o s (m + 1) = nextL z o s m ++ [xorI (z m) (mulI (o m) s)] := by simp [nextL, List.range_succ]
theorem nextL_get (z o : Nat → Int) (s : Int) {m j : Nat} (h : j < m) : (nextL z o s m)[j]?.getD 0 = xorI (z j) (mulI (o j) s) := by
  unfold nextL
  rw [List.getElem?_map, List.getElem?_range h]; rfl
theorem nextL_ok {z o : Nat → Int} {s : Int} (n : Nat) (h : ∀ j, Byte (z j)) (ho : ∀ j, Byte (o j)) : RowOk n (nextL z o s (n + 1)) := by
  refine ⟨by simp [nextL], fun x hx => ?_⟩
  obtain ⟨j, _, rfl⟩ := List.mem_map.1 hx
  exact ⟨xorI_nonneg _ _, xorI_255 (h j).2 (mulI_le (ho j).2)⟩
/-- The leading row is in its place. -/
theorem FacI.lead {w wr w1 w2 : World} {g c n k p D d : Nat} {xs ys : List Int} {rs : List RV} (h : FacI w wr g c n k xs ys rs) (hk : k < n) (hkp : k ≤ p) (hp : p < n) (h0 : entI (dat rs) p k ≠ 0)
    (e1 : w1 = wr.setCell ⟨g, p, none⟩ (rs[k]?.getD noRow).val) (k2 : Below w1.heap.size w1 w2) (hone : Own w2 w.heap.size (.slice (some ⟨D, 0, none⟩) (n + 1) d) (n + 1) (divL (fun j => entI (dat rs) p j) (entI (dat rs) p k) (n + 1)))
    (hb : Below w.heap.size w w2) :
    FacJ w (w2.setCell ⟨g, k, none⟩ (.slice (some ⟨D, 0, none⟩) (n + 1) d)) g c n k 0 xs ys ((rs.set p (rs[k]?.getD noRow)).set k (some ⟨D, 0, none⟩, n + 1, d, divL (fun j => entI (dat rs) p j) (entI (dat rs) p k) (n + 1)))
      (some ⟨D, 0, none⟩, n + 1, d, divL (fun j => entI (dat rs) p j) (entI (dat rs) p k) (n + 1)) := by
  have hl := h.1.len
  obtain ⟨hg0, hg1, _⟩ := h.base (by omega)
  have hrk := h.1.row hk
  have h1 := h.1.set p (r := rs[k]?.getD noRow) hrk
  rw [← e1] at h1
  have h2 := (h1.below k2).set k (r := (some ⟨D, 0, none⟩, n + 1, d, divL (fun j => entI (dat rs) p j) (entI (dat rs) p k) (n + 1))) hone
  have hgp := h.2.1.lead hk hkp hp h0 (one := divL (fun j => entI (dat rs) p j) (entI (dat rs) p k) (n + 1)) (divL_ok n fun j => h.2.1.ent hp j) (fun j hj => divL_get _ _ (by omega))
  have hdat : dat ((rs.set p (rs[k]?.getD noRow)).set k (some ⟨D, 0, none⟩, n + 1, d, divL (fun j => entI (dat rs) p j) (entI (dat rs) p k) (n + 1))) = ((dat rs).set p ((dat rs)[k]?.getD [])).set k (divL (fun j => entI (dat rs) p j) (entI (dat rs) p k) (n + 1)) := by
    rw [dat_setK, dat_setK, dat_get]
  refine ⟨⟨h2, by rw [hdat]; exact hgp.1, hb.setCell (p := ⟨g, k, none⟩) hg0 _⟩, ?_, by rw [hdat]; exact hgp.2, fun a ha => absurd ha (Nat.not_lt_zero _)⟩
  rw [List.getElem?_set_self (by rw [List.length_set]; omega)]; rfl
/-- One row more is done. -/
theorem FacJ.away {w wr w2 : World} {g c n k i D d : Nat} {xs ys : List Int} {rs : List RV} {r : RV} (h : FacJ w wr g c n k i xs ys rs r) (hk : k < n) (hi : i < n) (hik : i ≠ k) (k2 : Below wr.heap.size wr w2)
    (hnext : Own w2 w.heap.size (.slice (some ⟨D, 0, none⟩) (n + 1) d) (n + 1) (nextL (fun j => entI (dat rs) i j) (fun j => entI (dat rs) k j) (entI (dat rs) i k) (n + 1))) :
    FacJ w (w2.setCell ⟨g, i, none⟩ (.slice (some ⟨D, 0, none⟩) (n + 1) d)) g c n k (i + 1) xs ys (rs.set i (some ⟨D, 0, none⟩, n + 1, d, nextL (fun j => entI (dat rs) i j) (fun j => entI (dat rs) k j) (entI (dat rs) i k) (n + 1))) r := by
  obtain ⟨hI, hr, h1, h0⟩ := h
  obtain ⟨hg0, hg1, _⟩ := hI.base (by omega)
  have hl := hI.1.len
  have h2 := (hI.1.below k2).set i (r := (some ⟨D, 0, none⟩, n + 1, d, nextL (fun j => entI (dat rs) i j) (fun j => entI (dat rs) k j) (entI (dat rs) i k) (n + 1))) hnext
  have hgp := hI.2.1.away hk hi hik h1 (next := nextL (fun j => entI (dat rs) i j) (fun j => entI (dat rs) k j) (entI (dat rs) i k) (n + 1)) (nextL_ok n (fun j => hI.2.1.ent hi j) (fun j => hI.2.1.ent hk j)) (fun j hj => nextL_get _ _ _ (by omega))
  refine ⟨⟨h2, by rw [dat_setK]; exact hgp.1, (hI.2.2.trans (k2.mono hI.2.2.size)).setCell (p := ⟨g, i, none⟩) hg0 _⟩, ?_, ?_, fun a ha hak => ?_⟩
  · rw [List.getElem?_set_ne (fun e => hik e)]; exact hr
  · rw [dat_setK]
    have := hgp.2 k
    rw [if_neg (fun e => hik e.symm), h1] at this
    exact this
  · rw [dat_setK]
    have := hgp.2 a
    by_cases e : a = i
    · rw [if_pos e] at this; exact this
    · rw [if_neg e, h0 a (by omega) hak] at this; exact this
theorem FacJ.skip {w wr : World} {g c n k i : Nat} {xs ys : List Int} {rs : List RV} {r : RV} (h : FacJ w wr g c n k i xs ys rs r) (hs : i = k ∨ Mx (dat rs) i k = 0) : FacJ w wr g c n k (i + 1) xs ys rs r :=
  ⟨h.1, h.2.1, h.2.2.1, fun a ha hak => by
    by_cases e : a = i
    · subst e
      rcases hs with hs | hs
      · exact absurd hs hak
      · exact hs
    · exact h.2.2.2 a (by omega) hak⟩
theorem FacJ.readk {w wr : World} {g c n k i gd d : Nat} {xs ys : List Int} {rs : List RV} {zs : List Int} (h : FacJ w wr g c n k i xs ys rs (some ⟨gd, 0, none⟩, n + 1, d, zs)) (hk : k < n) :
    gd < wr.heap.size ∧ (∀ j, j < n + 1 → wr.cell? ⟨gd, j, none⟩ = some (.int .i64 (entI (dat rs) k j))) ∧ ∀ j, Byte (entI (dat rs) k j) := by
  obtain ⟨b, d', h1, _, _, h4, h5, h6⟩ := h.1.read hk
  have := h.2.1.symm.trans h1
  injection this with e1 _
  injection e1 with e1
  injection e1 with e1 _ _
  subst e1
  exact ⟨h4, h5, h6⟩
theorem FacJ.done {w wr : World} {g c n k : Nat} {xs ys : List Int} {rs : List RV} {r : RV} (h : FacJ w wr g c n k n xs ys rs r) : FacI w wr g c n (k + 1) xs ys rs :=
  ⟨h.1.1, h.1.2.1.next h.2.2.1 fun i hi hik => h.2.2.2 i hi hik, h.1.2.2⟩

set_option maxHeartbeats 20000000 in
theorem factors_any (A : Option Addr) (n c : Nat) (xs : List Int) (B : Option Addr) (d : Nat) (ys : List Int) (w : World) (hA : Rd w A n xs) (hB : Rd w B n ys) (hn0 : 0 < n) (hn : n ≤ 8)
    (hx : ∀ x ∈ xs, 0 ≤ x ∧ x ≤ 255) (hy : ∀ y ∈ ys, 0 ≤ y ∧ y ≤ 255) (hd : xs.Nodup) :
    Calls Tryd.prog 46 #[.slice A n c, .slice B n d] w fun e w' => (∃ C c', e = .returned (.slice C n c') ∧ ∃ fs, Own w' w.heap.size (.slice C n c') n fs ∧ FacOk xs ys n fs) ∧ Below w.heap.size w w' := by
  have hlx := hA.len
  have HX := Lib.hid (And.intro hlx (And.intro hx (And.intro hy hd)))
  clear hlx hx hy hd
  obtain ⟨ba, oa, rfl, hba, hca⟩ := hA.at_ hn0
  obtain ⟨bb, ob, rfl, hbb, hcb⟩ := hB.at_ hn0
  have HCA := Lib.hid hca
  have HCB := Lib.hid hcb
  clear hca hcb
  go_enter Tryd.func46, Tryd.ntmps46
  go_wp2
  go_loopw [6, 7] (fun v i wr => ∃ (k : Nat) (C : Option Addr) (c' : Nat) (rs : List RV), k ≤ n ∧ i = .int .i64 k ∧ v = .slice C k c' ∧ FacA w wr (.slice C k c') n k xs ys rs) (fun _ i _ => n - (intOf i).toNat)
  case atStart => exact ⟨0, none, 0, [], Nat.zero_le _, rfl, rfl, OwnK.nil _ _, fun j hj => absurd hj (Nat.not_lt_zero _), Below.refl _ _⟩
  case round =>
    obtain ⟨k, C, c', rs, hk, rfl, rfl, hfa⟩ := hrel
    have hbel := hfa.2.2
    have HFA := Lib.hid hfa
    clear hfa
    by_cases hlt : k < n
    · have hkI : (k : Int) < (n : Int) := by omega
      have g1 := (hbel.cell (p := ⟨ba, oa + k, none⟩) hba).trans (HCA.out k hlt)
      have g2 := (hbel.cell (p := ⟨bb, ob + k, none⟩) hbb).trans (HCB.out k hlt)
      have hxb := get_byte HX.out.2.1 k
      have hyb := get_byte HX.out.2.2.1 k
      have hnext := fun A D c d w4 w5 k4 o => HFA.out.next (A := A) (D := D) (c := c) (d := d) (w4 := w4) (w5 := w5) k4 o
      have hownr := HFA.out.1.1
      obtain ⟨x, hxe⟩ : ∃ x, xs[k]?.getD 0 = x := ⟨_, rfl⟩
      obtain ⟨y, hye⟩ : ∃ y, ys[k]?.getD 0 = y := ⟨_, rfl⟩
      rw [hxe] at g1 hxb hnext
      rw [hye] at g2 hyb hnext
      have HN := Lib.hid hnext
      have HXB := Lib.hid (And.intro hxb hyb)
      obtain ⟨W1, rfl⟩ : ∃ W, W = wr := ⟨wr, rfl⟩
      clear hxb hyb hnext hxe hye
      go_wp2
      go_loopw [8, 9] (fun v i wq => ∃ (m : Nat) (D : Option Addr) (d' : Nat), m ≤ n ∧ i = .int .i64 m ∧ v = .slice D m d' ∧ Own wq W1.heap.size (.slice D m d') m (powL x m) ∧ Below W1.heap.size W1 wq) (fun _ i _ => n - (intOf i).toNat)
      case atStart => exact ⟨0, none, 0, Nat.zero_le _, rfl, rfl, Own.nil _ _, Below.refl _ _⟩
      case round =>
        obtain ⟨m, D, d', hm, rfl, rfl, hown, hb2⟩ := hrel
        have HPS := Lib.hid (powL_succ x m)
        by_cases hlm : m < n
        · have hmI : (m : Int) < (n : Int) := by omega
          have g3 := (hb2.cell (p := ⟨ba, oa + k, none⟩) (Nat.lt_of_lt_of_le hba hbel.size)).trans g1
          go_wp2_with fail
          with_reducible refine (rpow_any x m _ HXB.out.1 (by omega)).mono ?_
          rintro e w' ⟨rfl, rfl⟩
          obtain ⟨Q, hQ⟩ : ∃ Q, powI x m = Q := ⟨_, rfl⟩
          have HQ := Lib.hid hQ
          rw [hQ]
          clear hQ
          go_wp2_with (at_builtin; refine wpList_app1 rfl _ _ rfl W1.heap.size m _ (powL x m) rfl (hown.alloc _) wr.heap.size Q rfl (by simp) (by omega) (by have := hb2.size; simp; omega) ?_; intro A2 c2 w4 hown4 hbel4)
          have hq4 := hbel4 W1.heap.size W1 (Nat.le_refl _) (hb2.alloc hb2.size _)
          go_roundw
          case rel => exact ⟨m + 1, A2, c2, by omega, by go_num, rfl, by rw [HPS.out, HQ.out]; exact hown4, hq4⟩
          case measure => simp [intOf]; omega
        · obtain rfl : m = n := by omega
          have hmI : ¬ (m : Int) < (m : Int) := by omega
          have g3 := (hb2.cell (p := ⟨bb, ob + k, none⟩) (Nat.lt_of_lt_of_le hbb hbel.size)).trans g2
          have HRI := Lib.hid (rowI_eq x y m)
          go_wp2_with (first
            | (at_builtin; refine wpList_app1 rfl _ _ rfl W1.heap.size m _ (powL x m) rfl (hown.alloc _) wr.heap.size y rfl (by simp) (by omega) (by have := hb2.size; simp; omega) ?_; intro A2 c2 w4 hown4 hbel4; have hq4 := hbel4 W1.heap.size W1 (Nat.le_refl _) (hb2.alloc hb2.size _))
            | (at_builtin; refine wpList_app1K rfl _ _ rfl w.heap.size k _ rs rfl ((hownr.below hq4).alloc _) w4.heap.size (A2, m + 1, c2, rowI x y m) rfl (by simp [RV.val]) (by omega) (by have := hq4.size; have := hbel.size; simp; omega) ?_; intro A3 c3 w5 hown5 hbel5 hkp5))
          have hq5 := hbel5 w.heap.size w (Nat.le_refl _) ((hbel.trans (hq4.mono hbel.size)).alloc (by have := hq4.size; have := hbel.size; omega) _)
          rw [← HRI.out] at hown4
          have hfin := HN.out A3 A2 c3 c2 w4 w5 hq4 _ (Own.monoR (show Own w4 W1.heap.size (.slice A2 (m + 1) c2) (m + 1) (rowI x y m) from hown4) hbel.size) hown5 hkp5 hq5
          have HF := Lib.hid hfin
          clear hfin hown5
          go_roundw
          case rel => exact ⟨k + 1, A3, c3, _, by omega, by go_num, rfl, HF.out⟩
          case measure => simp [intOf]; omega
    · obtain rfl : n = k := by omega
      have hkI : ¬ (n : Int) < (n : Int) := by omega
      obtain ⟨g, rfl, hfi⟩ := HFA.out.start hn0 HX.out.2.1 HX.out.1 HX.out.2.2.1
      have HFI0 := Lib.hid hfi
      clear hfi HFA
      go_wp2
      go_loopw [10] (fun kv wr => ∃ (k : Nat) (rs : List RV), k ≤ n ∧ kv = .int .i64 k ∧ FacI w wr g c' n k xs ys rs) (fun kv _ => n - (intOf kv).toNat)
      case atStart => exact ⟨0, rs, Nat.zero_le _, rfl, HFI0.out⟩
      case round =>
        obtain ⟨k, rs, hk, rfl, hfi⟩ := hrel
        have HFI := Lib.hid hfi
        clear hfi HFI0
        by_cases hlt : k < n
        · have hkI : (k : Int) < (n : Int) := by omega
          obtain ⟨W1, rfl⟩ : ∃ W, W = wr := ⟨wr, rfl⟩
          go_wp2
          go_loop [11] (fun a => ∃ p : Nat, k ≤ p ∧ p + 1 ≤ n ∧ a = .int .i64 p ∧ ∀ i, k ≤ i → i < p → Mx (dat rs) i k = 0) (fun a => n - (intOf a).toNat)
          case atStart => exact ⟨k, Nat.le_refl _, by omega, rfl, fun i h1 h2 => by omega⟩
          case round =>
            obtain ⟨p, hkp, hpn, rfl, hz⟩ := hrel
            have HZ := Lib.hid hz
            clear hz
            obtain ⟨bp, dp, e1, r1, o1, l1, c1, b1⟩ := HFI.out.read (i := p) (by omega)
            have c1k := c1 k (by omega)
            have hpv := fun h0 => HFI.out.2.1.pivot HX.out.2.1 HX.out.2.2.2 HX.out.1 hlt h0
            obtain ⟨x, hxe⟩ : ∃ x, entI (dat rs) p k = x := ⟨_, rfl⟩
            have hxM : Mx (dat rs) p k = x.toNat := by unfold Mx; rw [hxe]
            have bx := b1 k
            rw [hxe] at c1k bx
            have HR1 := Lib.hid (And.intro e1 (And.intro o1 (And.intro c1 b1)))
            have HXE := Lib.hid (And.intro hxe hxM)
            have HPV := Lib.hid hpv
            have HBX := Lib.hid bx
            have hpnI : (p : Int) < (n : Int) := by omega
            clear e1 o1 c1 b1 hxe hxM hpv bx
            by_cases hgo : p + 1 < n ∧ x = 0
            · obtain ⟨hp1, rfl⟩ := hgo
              have hpI : (p : Int) < (n : Int) - 1 := by omega
              go_wp2
              go_round
              case rel => exact ⟨p + 1, by omega, by omega, by go_num, fun i h1 h2 => by
                by_cases e : i = p
                · subst e; rw [HXE.out.2]; rfl
                · exact HZ.out i h1 (by omega)⟩
              case measure => simp [intOf]; omega
            · have hx0 : x ≠ 0 := by
                intro h0
                have hp1 : p + 1 = n := by
                  apply Classical.byContradiction; intro h; exact hgo ⟨by omega, h0⟩
                refine HPV.out fun i h1 h2 => ?_
                by_cases e : i = p
                · subst e; rw [HXE.out.2, h0]; rfl
                · exact HZ.out i h1 (by omega)
              have hxb : (x == 0) = false := by simp [hx0]
              have HX0 := Lib.hid hx0
              clear hgo hx0
              rcases (by omega : (p : Int) < (n : Int) - 1 ∨ ¬ (p : Int) < (n : Int) - 1) with hpI | hpI
              all_goals
                obtain ⟨bk, dk, e2, r2, o2, l2, c2, b2⟩ := HFI.out.read (i := k) hlt
                obtain ⟨hg0, hg1, hfr⟩ := HFI.out.base hn0
                have f1 := hfr p
                have hne := own_ne HFI.out.1.1 HR1.out.2.1
                have hk1 := HFI.out.1.1.kpSet p (rs[k]?.getD noRow)
                have hs1 := HFI.out.1.set p (HFI.out.1.row hlt)
                have o1w := HR1.out.2.1.kp hk1
                have hbs := HFI.out.2.2.setCell (p := ⟨g, p, none⟩) hg0 (rs[k]?.getD noRow).val
                rw [e2] at hk1 hs1 o1w hbs
                change Kp W1 (W1.setCell ⟨g, p, none⟩ (.slice (some ⟨bk, 0, none⟩) (n + 1) dk)) at hk1
                change OwnK (W1.setCell ⟨g, p, none⟩ (.slice (some ⟨bk, 0, none⟩) (n + 1) dk)) _ _ _ _ at hs1
                change Own (W1.setCell ⟨g, p, none⟩ (.slice (some ⟨bk, 0, none⟩) (n + 1) dk)) _ _ _ _ at o1w
                change Below _ _ (W1.setCell ⟨g, p, none⟩ (.slice (some ⟨bk, 0, none⟩) (n + 1) dk)) at hbs
                obtain ⟨_, hge, _, _, hgc, hgf⟩ := hs1.1.at_ hn0
                injection hge with hge
                injection hge with hge _ _
                subst hge
                obtain ⟨_, hpe, _, hpl, hpc, _⟩ := o1w.at_ (by omega)
                injection hpe with hpe
                injection hpe with hpe _ _
                subst hpe
                have hvk := hgc k hlt
                obtain ⟨vk, hvke⟩ : ∃ v, ((rs.set p (some ⟨bk, 0, none⟩, n + 1, dk, (dat rs)[k]?.getD []))[k]?.getD noRow).val = v := ⟨_, rfl⟩
                rw [hvke] at hvk
                have hpk : (W1.setCell ⟨g, p, none⟩ (.slice (some ⟨bk, 0, none⟩) (n + 1) dk)).cell? ⟨bp, k, none⟩ = some (.int .i64 x) := by
                  have := hpc k (by omega)
                  rw [show ((dat rs)[p]?.getD [])[k]?.getD 0 = x from HXE.out.1] at this
                  exact this
                have HE2 := Lib.hid e2
                have HPC := Lib.hid (And.intro hpc (And.intro hpl (And.intro hvk (And.intro (hgf k) (And.intro hbs hs1)))))
                clear e2 o2 c2 b2 hfr hk1 o1w hbs hgc hgf hpc hpl hvk hs1 hvke
                go_wp2
                obtain ⟨w1, hw1⟩ : ∃ V, V = W1.setCell ⟨g, p, none⟩ (.slice (some ⟨bk, 0, none⟩) (n + 1) dk) := ⟨_, rfl⟩
                rw [← hw1] at HPC hpk ⊢
                have HW1 := Lib.hid hw1
                clear hw1
                have hb1 := HPC.out.2.2.2.2.1
                go_loopw [14, 15] (fun v j wq => ∃ (m : Nat) (D : Option Addr) (d' : Nat), m ≤ n + 1 ∧ j = .int .i64 m ∧ v = .slice D m d' ∧ Own wq w1.heap.size (.slice D m d') m (divL (fun j => entI (dat rs) p j) x m) ∧ Below w1.heap.size w1 wq) (fun _ j _ => n + 1 - (intOf j).toNat)
                case atStart => exact ⟨0, none, 0, Nat.zero_le _, rfl, rfl, Own.nil _ _, Below.refl _ _⟩
                case round =>
                  obtain ⟨m, D, d', hm, rfl, rfl, hown, hb2⟩ := hrel
                  by_cases hlm : m < n + 1
                  · have hmI : (m : Int) ≤ (n : Int) := by omega
                    have hmI2 : (m : Int) < (n : Int) + 1 := by omega
                    have g3 := (hb2.cell (p := ⟨bp, m, none⟩) HPC.out.2.1).trans (HPC.out.1 m hlm)
                    have bz := HR1.out.2.2.2 m
                    have hds := divL_succ (fun j => entI (dat rs) p j) x m
                    obtain ⟨z, hz⟩ : ∃ z, entI (dat rs) p m = z := ⟨_, rfl⟩
                    rw [show ((dat rs)[p]?.getD [])[m]?.getD 0 = z from hz] at g3
                    rw [hz] at bz
                    change _ = _ ++ [mulI (entI (dat rs) p m) (invI x)] at hds
                    rw [hz] at hds
                    have HDS := Lib.hid (And.intro hds bz)
                    obtain ⟨DL, hDL⟩ : ∃ DL, divL (fun j => entI (dat rs) p j) x m = DL := ⟨_, rfl⟩
                    rw [hDL] at hown
                    have HDL := Lib.hid hDL
                    clear hds bz hz hDL
                    go_wp2_with fail
                    with_reducible refine (rdiv_any z x _ HDS.out.2 HBX.out HX0.out).mono ?_
                    rintro e w' ⟨rfl, rfl⟩
                    obtain ⟨V, hV⟩ : ∃ V, mulI z (invI x) = V := ⟨_, rfl⟩
                    have HV := Lib.hid hV
                    rw [hV]
                    clear hV
                    go_wp2_with (at_builtin; refine wpList_app1 rfl _ _ rfl w1.heap.size m _ DL rfl (hown.alloc _) wr.heap.size V rfl (by simp) (by omega) (by have := hb2.size; simp; omega) ?_; intro A2 c2 w4 hown4 hbel4)
                    have hq4 := hbel4 w1.heap.size w1 (Nat.le_refl _) (hb2.alloc hb2.size _)
                    go_roundw
                    case rel => exact ⟨m + 1, A2, c2, by omega, by go_num, rfl, by rw [HDS.out.1, HDL.out, HV.out]; exact hown4, hq4⟩
                    case measure => simp [intOf]; omega
                  · obtain rfl : m = n + 1 := by omega
                    have hmI : ¬ ((n + 1 : Nat) : Int) ≤ (n : Int) := by omega
                    have hmI2 : ¬ (n : Int) + 1 ≤ (n : Int) := by omega
                    obtain ⟨gd, rfl, _, _, _, _⟩ := hown.at_ (by omega)
                    have hgl := HPC.out.2.2.2.2.2.1.lt (by omega)
                    have g4 := (hb2.cell (p := ⟨g, k, none⟩) hgl).trans HPC.out.2.2.1
                    have f4 := (hb2.frozen (p := ⟨g, k, none⟩) hgl).trans HPC.out.2.2.2.1
                    have hownx := hown.monoR hb1.size
                    have hx2 := HXE.out.1
                    rw [← hx2] at hownx
                    have hJ := HFI.out.lead hlt hkp (by omega) (by rw [hx2]; exact HX0.out) (show w1 = W1.setCell ⟨g, p, none⟩ (rs[k]?.getD noRow).val by rw [HE2.out]; exact HW1.out) hb2 hownx (hb1.trans (hb2.mono hb1.size))
                    have HJ0 := Lib.hid hJ
                    clear hJ hownx hx2
                    obtain ⟨DL, hDL⟩ : ∃ DL, divL (fun j => entI (dat rs) p j) (entI (dat rs) p k) (n + 1) = DL := ⟨_, rfl⟩
                    rw [hDL] at HJ0
                    clear hDL hown
                    go_wp2
                    go_loopw [16] (fun iv wq => ∃ (i : Nat) (rs2 : List RV), i ≤ n ∧ iv = .int .i64 i ∧ FacJ w wq g c' n k i xs ys rs2 (some ⟨gd, 0, none⟩, n + 1, d', DL)) (fun iv _ => n - (intOf iv).toNat)
                    case atStart => exact ⟨0, _, Nat.zero_le _, rfl, HJ0.out⟩
                    case round =>
                      obtain ⟨i, rs2, hi, rfl, hj⟩ := hrel
                      have HJ := Lib.hid hj
                      clear hj HJ0
                      by_cases hil : i < n
                      · have hiI : (i : Int) < (n : Int) := by omega
                        by_cases hik : i = k
                        · have hskip := HJ.out.skip (.inl hik)
                          have hikb : ((i : Int) != (k : Int)) = false := by simp [hik]
                          have HSK := Lib.hid hskip
                          clear hik hskip
                          go_wp2
                          go_roundw
                          case rel => exact ⟨i + 1, rs2, by omega, by go_num, HSK.out⟩
                          case measure => simp [intOf]; omega
                        · have hikb : ((i : Int) != (k : Int)) = true := by simp; omega
                          obtain ⟨bi, di, e3, r3, o3, l3, c3, b3⟩ := HJ.out.1.read (i := i) hil
                          obtain ⟨l4, c4, b4⟩ := HJ.out.readk hlt
                          obtain ⟨hg2, hg3, hfr2⟩ := HJ.out.1.base hn0
                          have c3k := c3 k (by omega)
                          have hskip := fun h => HJ.out.skip (.inr h)
                          have haway := fun w2 D d k2 hn => HJ.out.away (w2 := w2) (D := D) (d := d) hlt hil hik k2 hn
                          have hyM : Mx (dat rs2) i k = (entI (dat rs2) i k).toNat := rfl
                          have by_ := b3 k
                          obtain ⟨y, hye⟩ : ∃ y, entI (dat rs2) i k = y := ⟨_, rfl⟩
                          rw [hye] at c3k by_ hyM haway
                          have HR3 := Lib.hid (And.intro c3 (And.intro b3 (And.intro c4 (And.intro b4 (hfr2 i)))))
                          have HAW := Lib.hid haway
                          have HSK := Lib.hid (And.intro hskip (And.intro hyM hye))
                          have HBY := Lib.hid by_
                          have HIK := Lib.hid hik
                          clear e3 o3 c3 b3 c4 b4 hfr2 haway hskip hyM hye by_ hik
                          by_cases hy0 : y = 0
                          · subst hy0
                            go_wp2
                            go_roundw
                            case rel => exact ⟨i + 1, rs2, by omega, by go_num, HSK.out.1 (by rw [HSK.out.2.1]; rfl)⟩
                            case measure => simp [intOf]; omega
                          · have hyb : (y != 0) = true := by simp [hy0]
                            have HY0 := Lib.hid hy0
                            obtain ⟨W3, rfl⟩ : ∃ W, W = wr := ⟨wr, rfl⟩
                            clear hy0
                            go_wp2
                            go_loopw [17, 18] (fun v j wq => ∃ (m : Nat) (E : Option Addr) (e' : Nat), m ≤ n + 1 ∧ j = .int .i64 m ∧ v = .slice E m e' ∧ Own wq W3.heap.size (.slice E m e') m (nextL (fun j => entI (dat rs2) i j) (fun j => entI (dat rs2) k j) y m) ∧ Below W3.heap.size W3 wq) (fun _ j _ => n + 1 - (intOf j).toNat)
                            case atStart => exact ⟨0, none, 0, Nat.zero_le _, rfl, rfl, Own.nil _ _, Below.refl _ _⟩
                            case round =>
                              obtain ⟨m, E, e', hm, rfl, rfl, hown, hb2⟩ := hrel
                              by_cases hlm : m < n + 1
                              · have hmI : (m : Int) ≤ (n : Int) := by omega
                                have hmI2 : (m : Int) < (n : Int) + 1 := by omega
                                have hkI2 : (k : Int) < (n : Int) + 1 := by omega
                                have hkI3 : (k : Int) < ((n + 1 : Nat) : Int) := by omega
                                have hmI3 : (m : Int) < ((n + 1 : Nat) : Int) := by omega
                                have hkI4 : (0 : Int) ≤ (k : Int) := by omega
                                have v1 := r3
                                have v2 := HR3.out.1 m hlm
                                have v3 := HR3.out.2.2.1 m hlm
                                have v4 := c3k
                                have bz := HR3.out.2.1 m
                                have bo := HR3.out.2.2.2.1 m
                                have hns := nextL_succ (fun j => entI (dat rs2) i j) (fun j => entI (dat rs2) k j) y m
                                change _ = _ ++ [xorI (entI (dat rs2) i m) (mulI (entI (dat rs2) k m) y)] at hns
                                obtain ⟨z, hz⟩ : ∃ z, entI (dat rs2) i m = z := ⟨_, rfl⟩
                                obtain ⟨o, ho⟩ : ∃ o, entI (dat rs2) k m = o := ⟨_, rfl⟩
                                rw [hz] at v2 bz hns
                                rw [ho] at v3 bo hns
                                obtain ⟨NL, hNL⟩ : ∃ NL, nextL (fun j => entI (dat rs2) i j) (fun j => entI (dat rs2) k j) y m = NL := ⟨_, rfl⟩
                                rw [hNL] at hown
                                have hmb : Byte (mulI o y) := ⟨mulI_nonneg _ _, mulI_le bo.2⟩
                                have hmu := fun w => rmul_any o y w bo HBY.out
                                obtain ⟨M, hM⟩ : ∃ M, mulI o y = M := ⟨_, rfl⟩
                                rw [hM] at hmb hmu hns
                                have hxo := fun w => xor_any z M w bz.1 (by have := bz.2; omega) hmb.1 (by have := hmb.2; omega)
                                obtain ⟨X, hX⟩ : ∃ X, xorI z M = X := ⟨_, rfl⟩
                                rw [hX] at hxo hns
                                have u1 := (hb2.cell (p := ⟨g, i, none⟩) hg3).trans v1
                                have u2 := (hb2.cell (p := ⟨bi, m, none⟩) l3).trans v2
                                have u3 := (hb2.cell (p := ⟨gd, m, none⟩) l4).trans v3
                                have u4 := (hb2.cell (p := ⟨bi, k, none⟩) l3).trans v4
                                have HMU := Lib.hid hmu
                                have HXO := Lib.hid hxo
                                have HNS := Lib.hid hns
                                have HNL := Lib.hid hNL
                                clear bz bo hz ho hNL hmb hmu hM hxo hX hns r3 c3k
                                go_wp2
                                go_region_held3 (fun w' => w'.cell? ⟨g, i, none⟩ = some (.slice (some ⟨bi, 0, none⟩) (n + 1) di) ∧ w'.cell? ⟨bi, m, none⟩ = some (.int .i64 z) ∧ w'.cell? ⟨gd, m, none⟩ = some (.int .i64 o) ∧ w'.cell? ⟨bi, k, none⟩ = some (.int .i64 y))
                                  (first | go_keep | exact ⟨(hq.cell (p := ⟨g, i, none⟩) hg3).trans v1, (hq.cell (p := ⟨bi, m, none⟩) l3).trans v2, (hq.cell (p := ⟨gd, m, none⟩) l4).trans v3, (hq.cell (p := ⟨bi, k, none⟩) l3).trans v4⟩)
                                  (first
                                    | (go_at_call 14; refine (HMU.out _).mono ?_; rintro e w' ⟨rfl, rfl⟩)
                                    | (go_at_call 40; refine (HXO.out _).mono ?_; rintro e w' ⟨rfl, rfl⟩)
                                    | (refine step_app1 (by rfl) _ _ (by rfl) W3.heap.size m _ NL (by rfl) (hown.alloc _) wr.heap.size X (by rfl) (by simp) (by omega) (by have := hb2.size; simp; omega) ?_; intro A' c1 w3 hown3 hbel3; have hq := hbel3 W3.heap.size W3 (Nat.le_refl _) (by first | exact (hb2.alloc hb2.size _).drew | exact hb2.drew.alloc hb2.size _)))
                                go_wp2
                                go_roundw
                                case rel => exact ⟨m + 1, A', c1, by omega, by go_num, rfl, by rw [HNS.out, HNL.out]; exact hown3, hq⟩
                                case measure => simp [intOf]; omega
                              · obtain rfl : m = n + 1 := by omega
                                have hmI : ¬ ((n + 1 : Nat) : Int) ≤ (n : Int) := by omega
                                have hmI2 : ¬ (n : Int) + 1 ≤ (n : Int) := by omega
                                obtain ⟨ge, rfl, _, _, _, _⟩ := hown.at_ (by omega)
                                have u1 := (hb2.cell (p := ⟨g, i, none⟩) hg3).trans r3
                                have f1 := (hb2.frozen (p := ⟨g, i, none⟩) hg3).trans HR3.out.2.2.2.2
                                have hfin := HAW.out _ ge e' hb2 (hown.monoR HJ.out.1.2.2.size)
                                have HFIN := Lib.hid hfin
                                clear hfin hown r3
                                go_wp2
                                go_roundw
                                case rel => exact ⟨i + 1, _, by omega, by go_num, HFIN.out⟩
                                case measure => simp [intOf]; omega
                      · obtain rfl : n = i := by omega
                        have hiI : ¬ (n : Int) < (n : Int) := by omega
                        have hfin := HJ.out.done
                        have HFIN := Lib.hid hfin
                        clear hfin
                        go_wp2
                        go_roundw
                        case rel => exact ⟨k + 1, _, by omega, by go_num, HFIN.out⟩
                        case measure => simp [intOf]; omega
        · obtain rfl : n = k := by omega
          have hkI : ¬ (n : Int) < (n : Int) := by omega
          have hbel := HFI.out.2.2
          obtain ⟨hg0, hg1, _⟩ := HFI.out.base hn0
          obtain ⟨W1, rfl⟩ : ∃ W, W = wr := ⟨wr, rfl⟩
          go_wp2
          go_loopw [19, 20] (fun v i wq => ∃ (m : Nat) (D : Option Addr) (d' : Nat), m ≤ n ∧ i = .int .i64 m ∧ v = .slice D m d' ∧ Own wq W1.heap.size (.slice D m d') m ((List.range m).map fun j => entI (dat rs) j n) ∧ Below W1.heap.size W1 wq) (fun _ i _ => n - (intOf i).toNat)
          case atStart => exact ⟨0, none, 0, Nat.zero_le _, rfl, rfl, Own.nil _ _, Below.refl _ _⟩
          case round =>
            obtain ⟨m, D, d', hm, rfl, rfl, hown, hb2⟩ := hrel
            by_cases hlm : m < n
            · have hmI : (m : Int) < (n : Int) := by omega
              obtain ⟨bp, dp, e1, r1, o1, l1, c1, b1⟩ := HFI.out.read (i := m) hlm
              have u1 := (hb2.cell (p := ⟨g, m, none⟩) hg1).trans r1
              have u2 := (hb2.cell (p := ⟨bp, n, none⟩) l1).trans (c1 n (by omega))
              have hsn : ((List.range (m + 1)).map fun j => entI (dat rs) j n) = ((List.range m).map fun j => entI (dat rs) j n) ++ [entI (dat rs) m n] := by simp [List.range_succ]
              obtain ⟨x, hx⟩ : ∃ x, entI (dat rs) m n = x := ⟨_, rfl⟩
              obtain ⟨XL, hXL⟩ : ∃ XL, ((List.range m).map fun j => entI (dat rs) j n) = XL := ⟨_, rfl⟩
              rw [hx] at u2 hsn
              rw [hXL] at hsn hown
              have HSN := Lib.hid hsn
              clear e1 r1 o1 c1 b1 hsn hx hXL
              go_wp2_with (at_builtin; refine wpList_app1 rfl _ _ rfl W1.heap.size m _ XL rfl (hown.alloc _) wr.heap.size x rfl (by simp) (by omega) (by have := hb2.size; simp; omega) ?_; intro A2 c2 w4 hown4 hbel4)
              have hq4 := hbel4 W1.heap.size W1 (Nat.le_refl _) (hb2.alloc hb2.size _)
              go_roundw
              case rel => exact ⟨m + 1, A2, c2, by omega, by go_num, rfl, by rw [HSN.out]; exact hown4, hq4⟩
              case measure => simp [intOf]; omega
            · obtain rfl : n = m := by omega
              have hmI : ¬ (n : Int) < (n : Int) := by omega
              have hfin : FacOk xs ys n ((List.range n).map fun j => entI (dat rs) j n) := ⟨_, HFI.out.2.1, rfl⟩
              have HFIN := Lib.hid hfin
              clear hfin
              go_wp2
              go_ret
              exact ⟨⟨_, _, rfl, _, hown.monoR hbel.size, HFIN.out⟩, hbel.trans (hb2.mono hbel.size)⟩
end Go.Proofs.YtdhfckdnfppieaaDoor
