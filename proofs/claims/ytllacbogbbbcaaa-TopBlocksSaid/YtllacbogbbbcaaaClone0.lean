/- Slices of ints whose nil form is the one nil (the head of XClone, for a seat without slices.Clone). -/
import Derived.Test.YtllacbogbbbcaaaOwn
import Derived.RegionTactic
import Derived.WalkLawsBesides
import Derived.ChangeAlike
namespace Go.Proofs.Ytllacbogbbbcaaa
open Go Go.RowKit
set_option maxRecDepth 20000

/-- A slice of ints whose nil form is the one nil. -/
def Sl (w : World) (A : Option Addr) (n c : Nat) (xs : List Int) : Prop := Rd w A n xs ∧ n ≤ c ∧ (A = none → c = 0)
theorem Sl.below {w w' : World} {A : Option Addr} {n c : Nat} {xs : List Int} (h : Sl w A n c xs) (hb : Below w.heap.size w w') : Sl w' A n c xs := ⟨h.1.below hb, h.2⟩
theorem Sl.alloc {w : World} {A : Option Addr} {n c : Nat} {xs : List Int} (h : Sl w A n c xs) (o : Obj) : Sl (w.alloc o) A n c xs := ⟨h.1.alloc o, h.2⟩
theorem Own.sl {w : World} {B n c : Nat} {A : Option Addr} {xs : List Int} (h : Own w B (.slice A n c) n xs) (hn : n ≤ 9223372036854775807)
    (hx : ∀ x ∈ xs, -9223372036854775808 ≤ x ∧ x ≤ 9223372036854775807) : Sl w A n c xs := by
  refine ⟨h.rd hn hx, ?_⟩
  rcases h.2 with ⟨h1, h2⟩ | ⟨g, cap, cur, h1, hh⟩
  · injection h1 with h3 h4 h5
    subst h3; subst h4; subst h5
    exact ⟨Nat.le_refl _, fun _ => rfl⟩
  · injection h1 with h3 h4 h5
    subst h3; subst h5
    exact ⟨hh.2.2.1, fun h => by cases h⟩
end Go.Proofs.Ytllacbogbbbcaaa
