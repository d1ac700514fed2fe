/- slices.Clone at []int by its contract. -/
import Derived.Test.YtpleidblnjphmaaDoorOwn
import Derived.Test.YtpleidblnjphmaaDoorBits
import Derived.RegionTactic
import Derived.WalkLawsBesides
import Derived.ChangeAlike
namespace Go.Proofs.YtpleidblnjphmaaDoor
open Go Go.RowKit
set_option maxRecDepth 20000

/-- A slice of ints whose nil form is the one nil. -/
def Sl (w : World) (A : Option Addr) (n c : Nat) (xs : List Int) : Prop := Rd w A n xs ∧ n ≤ c ∧ (A = none → c = 0)
theorem Sl.below {w w' : World} {A : Option Addr} {n c : Nat} {xs : List Int} (h : Sl w A n c xs) (hb : Below w.heap.size w w') : Sl w' A n c xs := ⟨h.1.below hb, h.2⟩
theorem Sl.alloc {w : World} {A : Option Addr} {n c : Nat} {xs : List Int} (h : Sl w A n c xs) (o : Obj) : Sl (w.alloc o) A n c xs := ⟨h.1.alloc o, h.2⟩
theorem Own.sl {w : World} {B n c : Nat} {A : Option Addr} {xs : List Int} (h : Own w B (.slice A n c) n xs) (hn : n ≤ 9223372036854775807)
    (hx : ∀ x ∈ xs, -9223372036854775808 ≤ x ∧ x ≤ 9223372036854775807) : Sl w A n c xs := by
  refine ⟨h.rd hn hx, ?_⟩
  rcases h.2 with ⟨h1, h2⟩ | ⟨g, cap, cur, h1, hh⟩
  · injection h1 with h3 h4 h5
    subst h3; subst h4; subst h5
    exact ⟨Nat.le_refl _, fun _ => rfl⟩
  · injection h1 with h3 h4 h5
    subst h3; subst h5
    exact ⟨hh.2.2.1, fun h => by cases h⟩
theorem Own.zero (w : World) (B : Nat) (hB : B ≤ w.heap.size) : Own (w.alloc (.cells #[] 3)) B (.slice (some ⟨w.heap.size, 0, none⟩) 0 0) 0 [] :=
  ⟨rfl, .inr ⟨w.heap.size, 0, #[], rfl, hB, heap_alloc_new w _, Nat.le_refl _, by unfold maxLen; omega, rfl, rfl⟩⟩

theorem nil_eql (a : Option Addr) (l c : Nat) (W : World) : (binOp .eql 22 (.slice a l c) (.slice none 0 0)).run Tryd.prog W = .ok (.bool a.isNone) W := by
  simp only [binOp]
  simp [run_equal_slice_nil W 22 3 a l c Tryd.underlying22]

set_option maxHeartbeats 1000000 in
theorem clone_any (A : Option Addr) (n c : Nat) (xs : List Int) (w : World) (hA : Sl w A n c xs) (hn : n ≤ 100000) :
    Calls Tryd.prog 41 #[.slice A n c] w fun e w' => (∃ C c', e = .returned (.slice C n c') ∧ Own w' w.heap.size (.slice C n c') n xs) ∧ Below w.heap.size w w' := by
  obtain ⟨hR, hnc, hz⟩ := hA
  rcases A with _ | a
  · obtain rfl := hz rfl
    obtain rfl : n = 0 := by omega
    obtain rfl : xs = [] := List.eq_nil_of_length_eq_zero hR.len
    have hnil : ∀ W, (binOp .eql 22 (.slice none 0 0) (.slice none 0 0)).run Tryd.prog W = .ok (.bool true) W := fun W => nil_eql none 0 0 W
    go_enter Tryd.func41, Tryd.ntmps41
    go_wp2
    go_ret
    exact ⟨⟨_, _, rfl, Own.nil _ _⟩, Below.refl _ _⟩
  · have hnil : ∀ W, (binOp .eql 22 (.slice (some a) n c) (.slice none 0 0)).run Tryd.prog W = .ok (.bool false) W := fun W => nil_eql (some a) n c W
    go_enter Tryd.func41, Tryd.ntmps41
    go_wp2_with (at_builtin; refine wpList_appL rfl _ _ rfl w.heap.size 0 _ [] rfl (Own.zero _ _ (Nat.le_refl _)) (some a) n c xs rfl (hR.alloc _) (by omega) (by simp) ?_; intro A' c1 w3 hown3 hbel3; have hq3 := hbel3 w.heap.size w (Nat.le_refl _) ((Below.refl _ _).alloc (Nat.le_refl _) _); rw [Nat.zero_add] at hown3 ⊢; rw [List.nil_append] at hown3)
    go_ret
    exact ⟨⟨_, _, rfl, hown3⟩, hq3⟩

end Go.Proofs.YtpleidblnjphmaaDoor
