/- merkle.Way by its contract: the closure that calls itself. -/
import Derived.Test.YtpleidblnjphmaaDoorMer1
import Derived.Test.YtpleidblnjphmaaDoorSide
import Derived.Deep.RegionHeld3
namespace Go.Proofs.YtpleidblnjphmaaDoor
open Go Go.RowKit
set_option maxRecDepth 20000
set_option linter.unusedVariables false

def sv (p : Bool × Int) : VV := (.bool p.1, .int .i64 p.2)
/-- The variable that holds the closure. -/
def wv (p : Addr) : Value := .func (.func 34) #[] #[.pointer (some p)]
theorem SS.alloc {w wc : World} {p : Addr} {v : Value} (hS : wc.cell? p = some v ∧ Below w.heap.size w wc) (o : Obj) : (wc.alloc o).cell? p = some v ∧ Below w.heap.size w (wc.alloc o) :=
  ⟨by rw [World.cell?_alloc_lt _ _ p (World.block_lt_of_cell? _ _ hS.1)]; exact hS.1, hS.2.alloc hS.2.size _⟩
theorem SS.below {w wc w' : World} {p : Addr} {v : Value} (hS : wc.cell? p = some v ∧ Below w.heap.size w wc) (hb : Below wc.heap.size wc w') : w'.cell? p = some v ∧ Below w.heap.size w w' :=
  ⟨(hb.cell (World.block_lt_of_cell? _ _ hS.1)).trans hS.1, hS.2.trans (hb.mono hS.2.size)⟩

set_option maxHeartbeats 4000000 in
theorem way1_any : ∀ (f : Nat) (A : Option Addr) (n c : Nat) (xs : List Int) (i : Nat) (p : Addr) (w : World), Rd w A n xs → n ≤ c → 1 ≤ n → n ≤ f → n ≤ 16 → (∀ x ∈ xs, 0 ≤ x ∧ x ≤ 1000) → i < n →
    w.cell? p = some (wv p) →
    Calls Tryd.prog 34 #[.slice A n c, .int .i64 i, .pointer (some p)] w fun e w' => (∃ C m c', e = .returned (.slice C m c') ∧ m ≤ 16 ∧ OwnP w' w.heap.size (.slice C m c') m ((wayF f xs i).map sv)) ∧ Below w.heap.size w w' := by
  intro f
  induction f with
  | zero => intro A n c xs i p w _ _ h1 h2; omega
  | succ f ih =>
    intro A n c xs i p w hA hc h1 hf h16 hx hi hp
    have hl := hA.len
    by_cases hn1 : n = 1
    · subst hn1
      rw [way_one hl]
      clear ih hx hp
      go_enter Tryd.func34, Tryd.ntmps34
      go_wp2
      go_ret
      exact ⟨⟨none, 0, 0, rfl, by omega, OwnP.nil _ _⟩, Below.refl _ _⟩
    · have hne : ((n : Int) == 1) = false := by simp; omega
      have pp := halfN_pos n
      have qq := halfN_lt (n := n) (by omega)
      have hh := half_any n w h16
      have hw16 := way_16 (f := f + 1) (l := xs) (i := i) (by omega) (by omega) (by omega)
      have hwe := wayF_succ f xs i
      rw [hl, if_neg hn1] at hwe
      obtain ⟨k, hk⟩ : ∃ k, halfN n = k := ⟨_, rfl⟩
      rw [hk] at pp qq hh hwe
      have hT := hA.take (k := k) (by omega)
      have hD := hA.cutA hc (show k ≤ n by omega)
      have hcut : ∀ W, _ := run_cut (P := Tryd.prog) Tryd.underlying22 (fun _ => by kernel_rfl) A n c k (by omega)
      obtain ⟨D, hDe⟩ : ∃ D, cutA A c k = D := ⟨_, rfl⟩
      rw [hDe] at hD hcut
      have hkc : (k : Int) ≤ (c : Int) := by omega
      have hkn : (k : Int) ≤ (n : Int) := by omega
      by_cases hik : i < k
      · rw [if_pos hik] at hwe
        have r2 := root_range f (xs.drop k)
        have hw : ∀ wc, (wc.cell? p = some (wv p) ∧ Below w.heap.size w wc) → Calls Tryd.prog 34 #[.slice A k c, .int .i64 i, .pointer (some p)] wc fun e w' =>
            (∃ C m c', e = .returned (.slice C m c') ∧ m ≤ 16 ∧ OwnP w' w.heap.size (.slice C m c') m ((wayF f (xs.take k) i).map sv)) ∧ Below wc.heap.size wc w' ∧ (w'.cell? p = some (wv p) ∧ Below w.heap.size w w') := fun wc hS =>
          (ih A k c (xs.take k) i p wc (hT.below hS.2) (by omega) pp (by omega) (by omega) (fun x hx' => hx x (List.mem_of_mem_take hx')) hik hS.1).mono
            (by rintro e w' ⟨⟨C, m, c', rfl, hm, ho⟩, hb⟩; exact ⟨⟨C, m, c', rfl, hm, ho.mono hS.2.size⟩, hb, SS.below hS hb⟩)
        have hr : ∀ wc, (wc.cell? p = some (wv p) ∧ Below w.heap.size w wc) → Calls Tryd.prog 33 #[.slice D (n - k) (c - k)] wc fun e w' =>
            e = .returned (.int .i64 (rootF f (xs.drop k))) ∧ Below wc.heap.size wc w' ∧ (w'.cell? p = some (wv p) ∧ Below w.heap.size w w') := fun wc hS =>
          (root_any f D (n - k) (c - k) (xs.drop k) wc (hD.below hS.2) (by omega) (by omega) (by omega) (by omega) (fun x hx' => hx x (List.mem_of_mem_drop hx'))).mono
            (by rintro e w' ⟨rfl, q, rfl⟩; exact ⟨rfl, below_drewN_of (Below.refl _ _) q, SS.below hS (below_drewN_of (Below.refl _ _) q)⟩)
        obtain ⟨R, hR⟩ : ∃ R, rootF f (xs.drop k) = R := ⟨_, rfl⟩
        obtain ⟨W, hW⟩ : ∃ W, wayF f (xs.take k) i = W := ⟨_, rfl⟩
        rw [hR] at hr hwe r2
        rw [hW] at hw hwe
        have hwl : W.length ≤ 15 := by rw [hwe] at hw16; simp at hw16; omega
        obtain ⟨r20, r21⟩ := r2
        have HW := Lib.hid hw
        have HR := Lib.hid hr
        have HH := Lib.hid hh
        have HWE := Lib.hid hwe
        have hpl := World.block_lt_of_cell? _ _ hp
        have hp' := hp
        unfold wv at hp'
        have hikI : (i : Int) < (k : Int) := by omega
        clear ih hx hk hT hD hDe hR hW hw hr hh hwe hw16 hp
        go_enter Tryd.func34, Tryd.ntmps34
        go_wp2_with fail
        refine HH.out.mono ?_
        rintro e w' ⟨rfl, rfl⟩
        clear HH
        go_wp2_with fail
        go_region_held3 (fun w' => w'.cell? p = some (.func (.func 34) #[] #[.pointer (some p)]) ∧ Below w.heap.size w w')
          (first | exact ⟨hp', (Below.refl _ _).drew⟩ | exact ⟨(hq.cell hpl).trans hp', hq⟩ | exact hS1 | exact hS2 | (refine SS.alloc ?_ _; assumption) | (refine SS.alloc ⟨?_, ?_⟩ _ <;> assumption) | fail)
          (first
            | (go_at_call 34; (with_reducible refine (HW.out _ ?_).mono ?_); (first | assumption | (constructor <;> assumption)); rintro e w1 ⟨⟨C, m, c', rfl, hm, hown1⟩, k1, hS1⟩)
            | (go_at_call 33; (with_reducible refine (HR.out _ ?_).mono ?_); (first | assumption | (constructor <;> assumption)); rintro e w2 ⟨rfl, k2, hS2⟩)
            | (refine step_app1P rfl _ _ rfl w.heap.size m _ (W.map sv) rfl ?_ _ (.bool false, .int .i64 R) rfl ?_ ?_ ⟨rfl, rfl⟩ ?_ ?_ ?_; exact (hown1.below k2).alloc _; (simp); (simp); omega; (have hz := hS2.2.size; simp; omega); intro A' c3 w3 hown3 hbel3; have hq := hbel3 w.heap.size w (Nat.le_refl _) (hS2.2.alloc hS2.2.size _))
            | fail)
        go_wp2
        go_ret
        exact ⟨⟨_, _, _, rfl, by have hz := hown3.len; simp at hz; omega, by rw [HWE.out, List.map_append]; exact hown3⟩, hq⟩
      · rw [if_neg hik] at hwe
        obtain ⟨j, hj⟩ : ∃ j, i - k = j := ⟨_, rfl⟩
        rw [hj] at hwe
        have hjI : IntKind.i64.wrap ((i : Int) - (k : Int)) = (j : Int) := by rw [IntKind.wrap_i64]; omega
        have hjn : j < n - k := by omega
        have r2 := root_range f (xs.take k)
        have hw : ∀ wc, (wc.cell? p = some (wv p) ∧ Below w.heap.size w wc) → Calls Tryd.prog 34 #[.slice D (n - k) (c - k), .int .i64 (IntKind.i64.wrap ((i : Int) - (k : Int))), .pointer (some p)] wc fun e w' =>
            (∃ C m c', e = .returned (.slice C m c') ∧ m ≤ 16 ∧ OwnP w' w.heap.size (.slice C m c') m ((wayF f (xs.drop k) j).map sv)) ∧ Below wc.heap.size wc w' ∧ (w'.cell? p = some (wv p) ∧ Below w.heap.size w w') := fun wc hS => by
          rw [hjI]
          exact (ih D (n - k) (c - k) (xs.drop k) j p wc (hD.below hS.2) (by omega) (by omega) (by omega) (by omega) (fun x hx' => hx x (List.mem_of_mem_drop hx')) hjn hS.1).mono
            (by rintro e w' ⟨⟨C, m, c', rfl, hm, ho⟩, hb⟩; exact ⟨⟨C, m, c', rfl, hm, ho.mono hS.2.size⟩, hb, SS.below hS hb⟩)
        have hr : ∀ wc, (wc.cell? p = some (wv p) ∧ Below w.heap.size w wc) → Calls Tryd.prog 33 #[.slice A k c] wc fun e w' =>
            e = .returned (.int .i64 (rootF f (xs.take k))) ∧ Below wc.heap.size wc w' ∧ (w'.cell? p = some (wv p) ∧ Below w.heap.size w w') := fun wc hS =>
          (root_any f A k c (xs.take k) wc (hT.below hS.2) (by omega) pp (by omega) (by omega) (fun x hx' => hx x (List.mem_of_mem_take hx'))).mono
            (by rintro e w' ⟨rfl, q, rfl⟩; exact ⟨rfl, below_drewN_of (Below.refl _ _) q, SS.below hS (below_drewN_of (Below.refl _ _) q)⟩)
        obtain ⟨R, hR⟩ : ∃ R, rootF f (xs.take k) = R := ⟨_, rfl⟩
        obtain ⟨W, hW⟩ : ∃ W, wayF f (xs.drop k) j = W := ⟨_, rfl⟩
        rw [hR] at hr hwe r2
        rw [hW] at hw hwe
        have hwl : W.length ≤ 15 := by rw [hwe] at hw16; simp at hw16; omega
        obtain ⟨r20, r21⟩ := r2
        have HW := Lib.hid hw
        have HR := Lib.hid hr
        have HH := Lib.hid hh
        have HWE := Lib.hid hwe
        have hpl := World.block_lt_of_cell? _ _ hp
        have hp' := hp
        unfold wv at hp'
        have hikI : ¬ (i : Int) < (k : Int) := by omega
        clear hjI
        clear ih hx hk hj hT hD hDe hR hW hw hr hh hwe hw16 hp
        go_enter Tryd.func34, Tryd.ntmps34
        go_wp2_with fail
        refine HH.out.mono ?_
        rintro e w' ⟨rfl, rfl⟩
        clear HH
        go_wp2_with fail
        go_region_held3 (fun w' => w'.cell? p = some (.func (.func 34) #[] #[.pointer (some p)]) ∧ Below w.heap.size w w')
          (first | exact ⟨hp', (Below.refl _ _).drew⟩ | exact ⟨(hq.cell hpl).trans hp', hq⟩ | exact hS1 | exact hS2 | (refine SS.alloc ?_ _; assumption) | (refine SS.alloc ⟨?_, ?_⟩ _ <;> assumption) | fail)
          (first
            | (go_at_call 34; (with_reducible refine (HW.out _ ?_).mono ?_); (first | assumption | (constructor <;> assumption)); rintro e w1 ⟨⟨C, m, c', rfl, hm, hown1⟩, k1, hS1⟩)
            | (go_at_call 33; (with_reducible refine (HR.out _ ?_).mono ?_); (first | assumption | (constructor <;> assumption)); rintro e w2 ⟨rfl, k2, hS2⟩)
            | (refine step_app1P rfl _ _ rfl w.heap.size m _ (W.map sv) rfl ?_ _ (.bool true, .int .i64 R) rfl ?_ ?_ ⟨rfl, rfl⟩ ?_ ?_ ?_; exact (hown1.below k2).alloc _; (simp); (simp); omega; (have hz := hS2.2.size; simp; omega); intro A' c3 w3 hown3 hbel3; have hq := hbel3 w.heap.size w (Nat.le_refl _) (hS2.2.alloc hS2.2.size _))
            | fail)
        go_wp2
        go_ret
        exact ⟨⟨_, _, _, rfl, by have hz := hown3.len; simp at hz; omega, by rw [HWE.out, List.map_append]; exact hown3⟩, hq⟩

set_option maxHeartbeats 1000000 in
theorem mway_ok (A : Option Addr) (n c : Nat) (xs : List Int) (i : Nat) (w : World) (hA : Rd w A n xs) (hc : n ≤ c) (h1 : 1 ≤ n) (h2 : n ≤ 16) (h : allB xs 0 1000 = true) (hi : i < n) :
    Calls Tryd.prog 16 #[.slice A n c, .int .i64 i] w fun e w' => (∃ C m c', e = .returned (.tuple #[.slice C m c', .nilIface]) ∧ m ≤ 16 ∧ OwnP w' w.heap.size (.slice C m c') m ((wayF 16 xs i).map sv)) ∧ Below w.heap.size w w' := by
  have hmf : ∀ (fn : Fn) (first cap : Array Value) (w : World), (Instr.makeFunc fn first cap).run Tryd.prog w = .ok (.func fn first cap) w := fun _ _ _ _ => rfl
  have hx := allB_mem.1 h
  obtain ⟨w1, hw1⟩ : ∃ w1, w.alloc (.cells #[wv ⟨w.heap.size, 0, none⟩] 38) = w1 := ⟨_, rfl⟩
  have hb1 : Below w.heap.size w w1 := by rw [← hw1]; exact (Below.refl _ _).alloc (Nat.le_refl _) _
  have hp1 : w1.cell? ⟨w.heap.size, 0, none⟩ = some (wv ⟨w.heap.size, 0, none⟩) := by rw [← hw1]; simp
  have hw := way1_any 16 A n c xs i ⟨w.heap.size, 0, none⟩ w1 (hA.below hb1) hc h1 h2 h2 hx hi hp1
  rw [← hw1] at hw hb1
  unfold wv at hw hb1
  have HW := Lib.hid hw
  have HB1 := Lib.hid hb1
  have H := Lib.hid h
  have hst : (store ⟨w.heap.size, 0, none⟩ (.func (.func 34) #[] #[.pointer (some ⟨w.heap.size, 0, none⟩)])).run Tryd.prog (w.alloc (.cells #[.nilFunc] 38))
      = .ok () (w.alloc (.cells #[.func (.func 34) #[] #[.pointer (some ⟨w.heap.size, 0, none⟩)]] 38)) := by
    rw [run_store _ _ _ _ _ (by rfl)]
    simp [World.setCell_alloc_at]
  have i0 : (0 : Int) ≤ (i : Int) := by omega
  have i1 : (i : Int) ≤ (n : Int) - 1 := by omega
  clear hw hb1 hp1 hw1 hx h
  go_enter Tryd.func16, Tryd.ntmps16
  go_wp2_with fail
  with_reducible refine (mcheck_ok _ _ _ xs _ hA h1 h2 H.out).mono ?_
  rintro e w' ⟨rfl, rfl⟩
  go_wp2_with fail
  with_reducible refine (within_yes _ _ _ _ i0 i1).mono ?_
  rintro e w' ⟨rfl, rfl⟩
  go_wp2_with fail
  refine HW.out.mono ?_
  rintro e w2 ⟨⟨C, m, c', rfl, hm, hown⟩, k2⟩
  have hB := HB1.out.trans (k2.mono HB1.out.size)
  have ho := hown.mono (B' := w.heap.size) HB1.out.size
  clear HW HB1
  go_wp2
  go_ret2
  exact ⟨⟨_, _, _, rfl, hm, ho⟩, hB⟩
theorem mway_bad (A : Option Addr) (n c : Nat) (xs : List Int) (i : Int) (w : World) (hA : Rd w A n xs) (h : valE xs ≠ 0) :
    Calls Tryd.prog 16 #[.slice A n c, .int .i64 i] w fun e w' => e = .returned (.tuple #[.slice none 0 0, .iface 53 (.int .i64 (valE xs))]) ∧ w = w' := by
  obtain ⟨E, hE⟩ : ∃ E, valE xs = E := ⟨_, rfl⟩
  have hb := mcheck_bad A n c xs w hA h
  rw [hE] at hb ⊢
  have HB := Lib.hid hb
  clear hb hE h
  go_enter Tryd.func16, Tryd.ntmps16
  go_wp2_with fail
  refine HB.out.mono ?_
  rintro e w' ⟨rfl, rfl⟩
  go_wp2
  go_ret2
  exact ⟨rfl, rfl⟩
theorem mway_out (A : Option Addr) (n c : Nat) (xs : List Int) (i : Int) (w : World) (hA : Rd w A n xs) (h1 : 1 ≤ n) (h2 : n ≤ 16) (h : allB xs 0 1000 = true) (hi : i < 0 ∨ (n : Int) - 1 < i) :
    Calls Tryd.prog 16 #[.slice A n c, .int .i64 i] w fun e w' => e = .returned (.tuple #[.slice none 0 0, .iface 53 (.int .i64 1)]) ∧ w = w' := by
  have H := Lib.hid h
  clear h
  go_enter Tryd.func16, Tryd.ntmps16
  go_wp2_with fail
  with_reducible refine (mcheck_ok _ _ _ xs _ hA h1 h2 H.out).mono ?_
  rintro e w' ⟨rfl, rfl⟩
  go_wp2_with fail
  with_reducible refine (within_no _ _ _ _ hi).mono ?_
  rintro e w' ⟨rfl, rfl⟩
  go_wp2
  go_ret2
  exact ⟨rfl, rfl⟩
end Go.Proofs.YtpleidblnjphmaaDoor
