/- From a slice of structs of two one-cell fields among a law's arguments to 'RdP'. -/
import Derived.Test.YtllacbogbbbcaaaDoorExt3
import Derived.Deep.SlicePairs
import Derived.ChangeArms
import Derived.Lib.SmallJoins
namespace Go.Proofs.YtllacbogbbbcaaaDoor
open Go Go.RowKit
set_option maxRecDepth 20000

theorem rdp_of_cells {w : World} {a : Addr} {len cap : Nat} {V0 V1 : Nat → Value} (hlc : len ≤ cap) (hm : cap ≤ maxLen)
    (h : ∀ i, i < len → w.cell? (a.add (i * 2)) = some (V0 i) ∧ w.cell? (a.add (i * 2 + 1)) = some (V1 i)) : RdP w (some a) len ((List.range len).map fun i => (V0 i, V1 i)) := by
  refine ⟨by simp, by unfold maxLen at hm; omega, fun hn => ?_⟩
  obtain ⟨b, off, spot⟩ := a
  have h0 := (h 0 (by omega)).1
  have hspot : spot = none := by simpa [Addr.add] using World.cell?_spot h0
  subst hspot
  refine ⟨b, off, rfl, by simpa [Addr.add] using lt_of_cell h0, fun k hk => ?_⟩
  obtain ⟨h1, h2⟩ := h k (by omega)
  rw [List.getElem?_map, List.getElem?_eq_getElem (by simpa using hk)]
  constructor
  · by_cases hk0 : k = 0
    · subst hk0; simpa [Addr.add] using h1
    · have hk2 : ¬ (k * 2 = 0) := by omega
      simpa [Addr.add, hk2] using h1
  · simpa [Addr.add, Nat.add_assoc] using h2
def iOf : Value → Int
  | .int _ n => n
  | _ => 0
theorem runs_of {w : World} {A : Option Addr} {n : Nat} {V0 V1 : Nat → Value} (h : RdP w A n ((List.range n).map fun i => (V0 i, V1 i)))
    (hv : ∀ i, i < n → ∃ b s, V0 i = .int .i64 b ∧ V1 i = .int .i64 s ∧ (-9223372036854775808 ≤ b ∧ b ≤ 9223372036854775807) ∧ (-9223372036854775808 ≤ s ∧ s ≤ 9223372036854775807)) :
    ∃ l : List (Int × Int), RdP w A n (l.map rv) ∧ ∀ p ∈ l, (-9223372036854775808 ≤ p.1 ∧ p.1 ≤ 9223372036854775807) ∧ (-9223372036854775808 ≤ p.2 ∧ p.2 ≤ 9223372036854775807) := by
  refine ⟨(List.range n).map fun i => (iOf (V0 i), iOf (V1 i)), ?_, fun p hp => ?_⟩
  · rw [List.map_map]
    have e : (List.range n).map (rv ∘ fun i => (iOf (V0 i), iOf (V1 i))) = (List.range n).map fun i => (V0 i, V1 i) := by
      apply List.map_congr_left
      intro i hi
      obtain ⟨b, s, e0, e1, _⟩ := hv i (List.mem_range.1 hi)
      simp [rv, iOf, e0, e1]
    rw [e]; exact h
  · obtain ⟨i, hi, rfl⟩ := List.mem_map.1 hp
    obtain ⟨b, s, e0, e1, e2⟩ := hv i (List.mem_range.1 hi)
    simpa [iOf, e0, e1] using e2
end Go.Proofs.YtllacbogbbbcaaaDoor
