/- slices.Clone at []int, and parity.xor, by their contracts. -/
import Derived.Test.YtdhfckdnfppieaaOwn
import Derived.Test.YtdhfckdnfppieaaBits
import Derived.RegionTactic
import Derived.WalkLawsBesides
import Derived.ChangeAlike
namespace Go.Proofs.Ytdhfckdnfppieaa
open Go Go.RowKit
set_option maxRecDepth 20000

/-- A slice of ints whose nil form is the one nil. -/
def Sl (w : World) (A : Option Addr) (n c : Nat) (xs : List Int) : Prop := Rd w A n xs ∧ n ≤ c ∧ (A = none → c = 0)
theorem Sl.below {w w' : World} {A : Option Addr} {n c : Nat} {xs : List Int} (h : Sl w A n c xs) (hb : Below w.heap.size w w') : Sl w' A n c xs := ⟨h.1.below hb, h.2⟩
theorem Sl.alloc {w : World} {A : Option Addr} {n c : Nat} {xs : List Int} (h : Sl w A n c xs) (o : Obj) : Sl (w.alloc o) A n c xs := ⟨h.1.alloc o, h.2⟩
theorem Own.sl {w : World} {B n c : Nat} {A : Option Addr} {xs : List Int} (h : Own w B (.slice A n c) n xs) (hn : n ≤ 9223372036854775807)
    (hx : ∀ x ∈ xs, -9223372036854775808 ≤ x ∧ x ≤ 9223372036854775807) : Sl w A n c xs := by
  refine ⟨h.rd hn hx, ?_⟩
  rcases h.2 with ⟨h1, h2⟩ | ⟨g, cap, cur, h1, hh⟩
  · injection h1 with h3 h4 h5
    subst h3; subst h4; subst h5
    exact ⟨Nat.le_refl _, fun _ => rfl⟩
  · injection h1 with h3 h4 h5
    subst h3; subst h5
    exact ⟨hh.2.2.1, fun h => by cases h⟩
theorem Own.zero (w : World) (B : Nat) (hB : B ≤ w.heap.size) : Own (w.alloc (.cells #[] 3)) B (.slice (some ⟨w.heap.size, 0, none⟩) 0 0) 0 [] :=
  ⟨rfl, .inr ⟨w.heap.size, 0, #[], rfl, hB, heap_alloc_new w _, Nat.le_refl _, by unfold maxLen; omega, rfl, rfl⟩⟩

theorem nil_eql (a : Option Addr) (l c : Nat) (W : World) : (binOp .eql 29 (.slice a l c) (.slice none 0 0)).run Try.prog W = .ok (.bool a.isNone) W := by
  simp only [binOp]
  simp [run_equal_slice_nil W 29 3 a l c Try.underlying29]

set_option maxHeartbeats 1000000 in
theorem clone_any (A : Option Addr) (n c : Nat) (xs : List Int) (w : World) (hA : Sl w A n c xs) (hn : n ≤ 100000) :
    Calls Try.prog 37 #[.slice A n c] w fun e w' => (∃ C c', e = .returned (.slice C n c') ∧ Own w' w.heap.size (.slice C n c') n xs) ∧ Below w.heap.size w w' := by
  obtain ⟨hR, hnc, hz⟩ := hA
  rcases A with _ | a
  · obtain rfl := hz rfl
    obtain rfl : n = 0 := by omega
    obtain rfl : xs = [] := List.eq_nil_of_length_eq_zero hR.len
    have hnil : ∀ W, (binOp .eql 29 (.slice none 0 0) (.slice none 0 0)).run Try.prog W = .ok (.bool true) W := fun W => nil_eql none 0 0 W
    go_enter Try.func37, Try.ntmps37
    go_wp2
    go_ret
    exact ⟨⟨_, _, rfl, Own.nil _ _⟩, Below.refl _ _⟩
  · have hnil : ∀ W, (binOp .eql 29 (.slice (some a) n c) (.slice none 0 0)).run Try.prog W = .ok (.bool false) W := fun W => nil_eql (some a) n c W
    go_enter Try.func37, Try.ntmps37
    go_wp2_with (at_builtin; refine wpList_appL rfl _ _ rfl w.heap.size 0 _ [] rfl (Own.zero _ _ (Nat.le_refl _)) (some a) n c xs rfl (hR.alloc _) (by omega) (by simp) ?_; intro A' c1 w3 hown3 hbel3; have hq3 := hbel3 w.heap.size w (Nat.le_refl _) ((Below.refl _ _).alloc (Nat.le_refl _) _); rw [Nat.zero_add] at hown3 ⊢; rw [List.nil_append] at hown3)
    go_ret
    exact ⟨⟨_, _, rfl, hown3⟩, hq3⟩

theorem zip_get {xs ys : List Int} {k : Nat} (hx : k < xs.length) (hy : k < ys.length) : (List.zipWith xorI xs ys)[k]?.getD 0 = xorI (xs[k]?.getD 0) (ys[k]?.getD 0) := by
  rw [List.getElem?_zipWith, List.getElem?_eq_getElem hx, List.getElem?_eq_getElem hy]; rfl
theorem zip_mem {xs ys : List Int} (hx : ∀ x ∈ xs, 0 ≤ x ∧ x ≤ 255) (hy : ∀ x ∈ ys, 0 ≤ x ∧ x ≤ 255) : ∀ z ∈ List.zipWith xorI xs ys, 0 ≤ z ∧ z ≤ 255 := by
  intro z hz
  obtain ⟨k, hk, rfl⟩ := List.mem_iff_getElem.1 hz
  rw [List.getElem_zipWith]
  rw [List.length_zipWith] at hk
  have h1 := hx _ (List.getElem_mem (show k < xs.length by omega))
  have h2 := hy _ (List.getElem_mem (show k < ys.length by omega))
  exact ⟨xorI_nonneg _ _, xorI_255 h1.2 h2.2⟩

/-- The first k places taken together, the rest as they were. -/
def part (xs ys : List Int) (k : Nat) : List Int := List.zipWith xorI (xs.take k) (ys.take k) ++ xs.drop k
theorem part_zero (xs ys : List Int) : part xs ys 0 = xs := by simp [part]
theorem part_all {xs ys : List Int} (h : xs.length = ys.length) : part xs ys xs.length = List.zipWith xorI xs ys := by
  unfold part
  rw [List.take_of_length_le (Nat.le_refl _), List.take_of_length_le (by omega), List.drop_of_length_le (Nat.le_refl _), List.append_nil]
theorem part_len {xs ys : List Int} (h : xs.length = ys.length) {k : Nat} (hk : k ≤ xs.length) : (part xs ys k).length = xs.length := by
  unfold part
  rw [List.length_append, List.length_zipWith, List.length_take, List.length_take, List.length_drop]; omega
theorem part_get {xs ys : List Int} (h : xs.length = ys.length) {k : Nat} (hk : k < xs.length) : (part xs ys k)[k]?.getD 0 = xs[k]?.getD 0 := by
  unfold part
  have hl : (List.zipWith xorI (xs.take k) (ys.take k)).length = k := by rw [List.length_zipWith, List.length_take, List.length_take]; omega
  rw [List.getElem?_append_right (by omega), hl, Nat.sub_self, List.getElem?_drop]; rfl
theorem part_set {xs ys : List Int} (h : xs.length = ys.length) {k : Nat} (hk : k < xs.length) : (part xs ys k).set k (xorI (xs[k]?.getD 0) (ys[k]?.getD 0)) = part xs ys (k + 1) := by
  have hl : (List.zipWith xorI (xs.take k) (ys.take k)).length = k := by rw [List.length_zipWith, List.length_take, List.length_take]; omega
  unfold part
  rw [List.set_append_right _ _ (by omega), hl, Nat.sub_self, List.drop_eq_getElem_cons hk, List.set_cons_zero, List.take_succ_eq_append_getElem hk,
    List.take_succ_eq_append_getElem (show k < ys.length by omega), List.zipWith_append (by rw [List.length_take, List.length_take]; omega)]
  rw [List.getElem?_eq_getElem hk, List.getElem?_eq_getElem (show k < ys.length by omega)]
  simp

set_option maxHeartbeats 2000000 in
theorem pxor_any (A : Option Addr) (n c : Nat) (xs : List Int) (B : Option Addr) (d : Nat) (ys : List Int) (w : World) (hA : Sl w A n c xs) (hB : Rd w B n ys) (hn : n ≤ 100000)
    (hx : ∀ x ∈ xs, 0 ≤ x ∧ x ≤ 255) (hy : ∀ y ∈ ys, 0 ≤ y ∧ y ≤ 255) :
    Calls Try.prog 41 #[.slice A n c, .slice B n d] w fun e w' => (∃ C c', e = .returned (.slice C n c') ∧ Own w' w.heap.size (.slice C n c') n (List.zipWith xorI xs ys)) ∧ Below w.heap.size w w' := by
  have hlx := hA.1.len
  have hly := hB.len
  have HX := Lib.hid (And.intro hlx (And.intro hly (And.intro hx hy)))
  clear hlx hly hx hy
  go_enter Try.func41, Try.ntmps41
  go_wp2_with fail
  with_reducible refine (clone_any A n c xs _ hA hn).mono ?_
  rintro e w1 ⟨⟨C, c1, rfl, hown1⟩, hB1⟩
  go_wp2
  go_loopw [6, 11] (fun v i wr => ∃ k : Nat, k ≤ n ∧ i = .int .i64 k ∧ Own wr w.heap.size (.slice C n c1) n (part xs ys k) ∧ Below w.heap.size w wr) (fun _ i _ => n - (intOf i).toNat)
  case atStart => exact ⟨0, Nat.zero_le _, rfl, by rw [part_zero]; exact hown1, hB1⟩
  case round =>
    obtain ⟨k, hk, rfl, hown, hbel⟩ := hrel
    by_cases hlt : k < n
    · obtain ⟨b, off, rfl, hbl, hcc⟩ := hB.at_ (by omega)
      obtain ⟨g, rfl, hg0, hg1, hcell, hfr⟩ := hown.at_ (by omega)
      have h1 := hcell k hlt
      have h2 := (hbel.cell (p := ⟨b, off + k, none⟩) hbl).trans (hcc k hlt)
      have f1 := hfr k
      have hxy : xs.length = ys.length := by rw [HX.out.1, HX.out.2.1]
      have hkx : k < xs.length := by rw [HX.out.1]; exact hlt
      rw [part_get hxy hkx] at h1
      have hps := part_set hxy hkx
      have hvx : 0 ≤ xs[k]?.getD 0 ∧ xs[k]?.getD 0 ≤ 255 := by rw [List.getElem?_eq_getElem hkx]; exact HX.out.2.2.1 _ (List.getElem_mem hkx)
      have hvy : 0 ≤ ys[k]?.getD 0 ∧ ys[k]?.getD 0 ≤ 255 := by rw [List.getElem?_eq_getElem (show k < ys.length by omega)]; exact HX.out.2.2.2 _ (List.getElem_mem (show k < ys.length by omega))
      obtain ⟨x, hxe⟩ : ∃ x, xs[k]?.getD 0 = x := ⟨_, rfl⟩
      obtain ⟨y, hye⟩ : ∃ y, ys[k]?.getD 0 = y := ⟨_, rfl⟩
      rw [hxe] at h1 hps hvx
      rw [hye] at h2 hps hvy
      obtain ⟨hx0, hx1⟩ := hvx
      obtain ⟨hy0, hy1⟩ := hvy
      have hbx := bits_xorI (x := x) (y := y) hx0 (by omega) hy0 (by omega)
      have hkI : (k : Int) < (n : Int) := by omega
      have hown2 := hown.set k (xorI x y)
      have hq2 := hbel.setCell (p := ⟨g, k, none⟩) hg0 (.int .i64 (xorI x y))
      have HPS := Lib.hid hps
      clear hps hxe hye hcc hcell hfr hkx hxy
      go_wp2
      go_region
      go_wp2
      go_roundw
      case rel => exact ⟨k + 1, by omega, by go_num, by rw [← HPS.out]; exact hown2, hq2.drew⟩
      case measure => simp [intOf]; omega
    · obtain rfl : k = n := by omega
      have hfin : part xs ys k = List.zipWith xorI xs ys := by
        have := part_all (xs := xs) (ys := ys) (by rw [HX.out.1, HX.out.2.1])
        rwa [HX.out.1] at this
      go_wp2
      go_ret
      exact ⟨⟨_, _, rfl, by rw [← hfin]; exact hown⟩, hbel⟩
end Go.Proofs.Ytdhfckdnfppieaa
