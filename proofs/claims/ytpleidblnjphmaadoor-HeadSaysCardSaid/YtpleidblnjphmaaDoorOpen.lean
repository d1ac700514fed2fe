/- From a slice of ints among a law's arguments to 'Rd'. -/
import Derived.Test.YtpleidblnjphmaaDoorRows
import Derived.Test.YtpleidblnjphmaaDoorSl
import Derived.WalkKit
import Derived.ProofKit
import Derived.OpenShut
import Derived.Below
namespace Go.Proofs.YtpleidblnjphmaaDoor
open Go.ChangeShapes Go.WideShapes Go.ChangeAt Go.RowKit

theorem own : ownKnob Tryd.prog.godebug = none := by kernel_rfl
theorem laidOut : laidOutB Tryd.prog = true := by kernel_rfl

theorem lt_of_cell {w : World} {a : Addr} {v : Value} (h : w.cell? a = some v) : a.block < w.heap.size := by
  rcases Nat.lt_or_ge a.block w.heap.size with hh | hh
  · exact hh
  · simp [World.cell?, Array.getElem?_eq_none hh] at h

theorem wf_range {x : Int} (h : (Lit.int .i64 x).wf = true) : -9223372036854775808 ≤ x ∧ x ≤ 9223372036854775807 := bounds_i64 h

/-- A row of ints that came in reads as 'Rd'. -/
theorem rd_of_cells {w : World} {a : Addr} {len cap : Nat} {zs : List Int} (hl : len ≤ zs.length) (hlc : len ≤ cap) (hm : cap ≤ maxLen)
    (hc : ∀ i, i < zs.length → w.cell? (a.add i) = some (.int .i64 (zs.getD i 0))) (hz : ∀ n ∈ zs, (Lit.int .i64 n).wf = true) : Rd w (some a) len (zs.take len) := by
  refine ⟨by simp; omega, by unfold maxLen at hm; omega, fun x hx => wf_range (hz x (List.mem_of_mem_take hx)), fun hn => ?_⟩
  obtain ⟨b, off, spot⟩ := a
  have h0 := hc 0 (by omega)
  have hspot : spot = none := by simpa [Addr.add] using World.cell?_spot h0
  subst hspot
  refine ⟨b, off, rfl, by simpa [Addr.add] using lt_of_cell h0, fun k hk => ?_⟩
  have := hc k (by omega)
  rw [List.getElem?_take_of_lt hk]
  by_cases hk0 : k = 0
  · subst hk0; simpa [Addr.add] using this
  · simpa [Addr.add, hk0] using this
end Go.Proofs.YtpleidblnjphmaaDoor
