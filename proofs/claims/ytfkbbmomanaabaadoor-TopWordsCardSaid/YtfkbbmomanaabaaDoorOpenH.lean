/- The door's variable hamming.checks (and errors.errorType beside it): from the rows' conditions to the walks' facts, and worlds that meet them. -/
import Derived.Test.YtfkbbmomanaabaaDoorOpenD
import Derived.Test.YtfkbbmomanaabaaDoorHamB
import Derived.Lib.LaidTab
namespace Go.Proofs.YtfkbbmomanaabaaDoor
open Go Go.ChangeShapes Go.WideShapes Go.RowKit

def row4 (a b c d : Int) : DataW Unit := .agg [.lit (.int .i64 a), .lit (.int .i64 b), .lit (.int .i64 c), .lit (.int .i64 d)]
def laidC : List (String × DataW Unit) := [("platterhold/hamming.checks", .agg [row4 1 3 5 7, row4 2 3 6 7, row4 4 5 6 7])]
def laidEC : List (String × DataW Unit) := ("errors.errorType", .iface "internal/reflectlite.rtype" (.agg [.ptr (.lit (.string [101, 114, 114, 111, 114]))])) :: laidC

theorem ckName : Tryd.prog.globalNamed "platterhold/hamming.checks" = some 0 := by kernel_rfl
theorem ckType : (Tryd.prog.globals[0]?).map (·.type) = some 50 := by kernel_rfl
theorem row4_tab (a b c d : Int) : row4 a b c d = Lib.tabData .i64 [a, b, c, d] := rfl

theorem chk_of_laid {W : World} (h : laidMet Tryd.prog laidC W) : ChkT W := by
  obtain ⟨ps, ⟨g, t, cs, fuel, p, q, hg, ht, hvar, hd, _, _⟩, _⟩ := h
  obtain rfl := Option.some.inj (ckName.symm.trans hg)
  obtain rfl := Option.some.inj (ckType.symm.trans ht)
  have c4 : Tryd.prog.cellsOf 49 = 4 := by kernel_rfl
  have c12 : Tryd.prog.cellsOf 50 = 12 := by kernel_rfl
  have ci : Tryd.prog.cellsOf 3 = 1 := by kernel_rfl
  obtain ⟨xs, m, _, hx, hlen, hn, hel⟩ := DataW.trod_array Tryd.underlying50 hd
  rw [c12] at hlen
  simp only [c4] at hel
  simp only [Prod.mk.injEq, DataW.agg.injEq] at hx
  match xs, hn, hx, hel with
  | [x0, x1, x2], _, hx, hel =>
    simp only [List.map_cons, List.map_nil, List.cons.injEq] at hx
    obtain ⟨⟨e0, e1, e2, _⟩, _⟩ := hx
    have r0 := hel 0 (by decide)
    have r1 := hel 1 (by decide)
    have r2 := hel 2 (by decide)
    simp only [List.getElem?_cons_zero, List.getElem?_cons_succ] at r0 r1 r2
    obtain ⟨y0, z0⟩ := x0
    obtain ⟨y1, z1⟩ := x1
    obtain ⟨y2, z2⟩ := x2
    simp only at e0 e1 e2
    subst e0 e1 e2
    rw [row4_tab] at r0 r1 r2
    have k0 := Lib.cells_of_tab Tryd.underlying49 Tryd.underlying3 ci c4 r0
    have k1 := Lib.cells_of_tab Tryd.underlying49 Tryd.underlying3 ci c4 r1
    have k2 := Lib.cells_of_tab Tryd.underlying49 Tryd.underlying3 ci c4 r2
    have hcs : cs.toList = chkCells.toList := by
      have hl : cs.toList = (cs.toList.drop (0 * 4)).take 4 ++ ((cs.toList.drop (1 * 4)).take 4 ++ (cs.toList.drop (2 * 4)).take 4) := by
        match cs.toList, hlen with
        | [a, b, c, d, e, f, g, h, i, j, k, l], _ => rfl
      rw [hl, k0, k1, k2]
      rfl
    intro j v hv
    have := World.var?_cell ckName hvar j
    rw [this]
    rw [← Array.getElem?_toList, hcs, Array.getElem?_toList]
    exact hv

theorem chk_of_laidC {W : World} (h : laidMetH Tryd.prog laidC W) : ChkT W := chk_of_laid h
theorem both_of_laid {W : World} (h : laidMetH Tryd.prog laidEC W) : ErrT W ∧ ChkT W := by
  have h' : laidMet Tryd.prog laidC W ∧ handlesMet Tryd.prog laidE W := h
  refine ⟨?_, chk_of_laid h'.1⟩
  obtain ⟨name, u, ty, e1, e2, e3, e4, e5⟩ := h'.2 _ (List.mem_singleton.2 rfl)
  have en : name = [101, 114, 114, 111, 114] := (Option.some.inj e1).symm
  subst en
  obtain rfl := Option.some.inj (rtType.symm.trans e2)
  have hm : ty ∈ (List.range 113).filter fun t => Tryd.prog.rowNamed t [101, 114, 114, 111, 114] := List.mem_filter.2 ⟨List.mem_range.2 (by rw [← typesSize]; exact e3), e4⟩
  rw [oneRow] at hm
  obtain rfl := List.mem_singleton.1 hm
  have hh : typeHandle Tryd.prog 24 = .pointer (some ⟨2, 24, none⟩) := by kernel_rfl
  rw [hh] at e5
  unfold ErrT
  simpa using World.var?_cell etName e5 0

noncomputable def laidWorldC (os : Os) : World :=
  let w0 := World.holding Tryd.prog os ⟨#[], #[], []⟩
  { w0 with heap := w0.heap.modify 0 fun
      | .cells _ t frozen => .cells chkCells t frozen
      | o => o }
theorem laidWorldC_met (os : Os) (args : Array Value) : laidMetH Tryd.prog laidC ((laidWorldC os).forCall (fun _ _ => 0) ⟨#[], args, []⟩).memory :=
  laidMetH_of_parts (laidMet_of_run' 8 (by kernel_rfl) (by kernel_rfl)) (by kernel_rfl)
noncomputable def laidWorldEC (os : Os) : World :=
  let w0 := laidWorld os
  { w0 with heap := w0.heap.modify 0 fun
      | .cells _ t frozen => .cells chkCells t frozen
      | o => o }
theorem laidWorldEC_met (os : Os) (args : Array Value) : laidMetH Tryd.prog laidEC ((laidWorldEC os).forCall (fun _ _ => 0) ⟨#[], args, []⟩).memory :=
  laidMetH_of_parts (laidMet_of_run' 8 (by kernel_rfl) (by kernel_rfl)) (by kernel_rfl)
end Go.Proofs.YtfkbbmomanaabaaDoor
