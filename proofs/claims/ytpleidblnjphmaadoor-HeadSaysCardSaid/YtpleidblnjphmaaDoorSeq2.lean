/- slices.AppendSeq and Collect over slices.Values, by their contracts. -/
import Derived.Shelf.SlIter.Collect
import Derived.Test.YtpleidblnjphmaaDoorSeq
namespace Go.Proofs.YtpleidblnjphmaaDoor
open Go Go.RowKit Go.Shelf
set_option linter.unusedVariables false
attribute [local go_sem] Oper.semAt_some

/-- The box holds what has come. -/
def Bx (n₀ : Nat) (pre : List Int) (W : World) : Prop := ∃ v, (W.cell? ⟨n₀, 0, none⟩ = some v ∧ W.frozen? ⟨n₀, 0, none⟩ = false) ∧ Own W (n₀ + 1) v pre.length pre
theorem bx_own (n₀ B : Nat) : OwnFrom B (Bx n₀) := fun s W W' row ⟨v, hc, ho⟩ hg hr => by
  refine ⟨v, ⟨cell_kept hc.1 hg (fun r e => (hr r e).2), (frozen_kept hc.1 hg (fun r e => (hr r e).2)).trans hc.2⟩, World.ownsRow.kept ho hg ?_⟩
  rcases ho.2 with ⟨rfl, _⟩ | ⟨g, cap, cur, rfl, _, hgb, _⟩
  · exact .inl rfl
  · refine .inr fun e' => ?_
    obtain ⟨_, o, ho', hno⟩ := hr g (by simpa [Value.ownBlock] using e'.symm)
    rw [hgb] at ho'
    cases ho'
    cases hno

theorem own_cells {w : World} {B n : Nat} {v : Value} {xs : List Int} (h : Own w B v n xs) (j : Nat) (o : Obj) (e : v.ownBlock = some j) (ho : w.heap[j]? = some o) : o.isCells = true := by
  rcases h.2 with ⟨rfl, _⟩ | ⟨g, cap, cur, rfl, _, hgb, _⟩
  · cases e
  · have : g = j := by simpa [Value.ownBlock] using e
    subst this; rw [hgb] at ho; cases ho; rfl
theorem own_putObj {w : World} {B n : Nat} {v : Value} {xs : List Int} (h : Own w B v n xs) (D : Nat) (o o' : Obj) (hD : w.heap[D]? = some o) (ho : o.isCells = false) : Own (w.putObj D o') B v n xs := by
  refine World.ownsRow.kept h (grownBy_putObj' w D o') (.inr fun e => ?_)
  rw [own_cells h D o e hD] at ho
  cases ho
theorem own_mono {w : World} {B B' n : Nat} {v : Value} {xs : List Int} (h : Own w B v n xs) (hB : B' ≤ B) : Own w B' v n xs :=
  ⟨h.1, h.2.imp id fun ⟨g, cap, cur, e, hb, r⟩ => ⟨g, cap, cur, e, Nat.le_trans hB hb, r⟩⟩
theorem own_box {w : World} {B n n₀ : Nat} {v : Value} {xs : List Int} (h : Own w B v n xs) (hB : n₀ < B) (u : Value) : Own (w.setCell ⟨n₀, 0, none⟩ u) B v n xs := by
  refine World.ownsRow.kept h (grownBy_setCell0_a w n₀ u) (.inr fun e => ?_)
  have := World.ownsRow.lt h n₀ e
  omega

set_option maxRecDepth 100000 in
set_option maxHeartbeats 8000000 in
theorem apseq_ok (Bs : Nat) (A : Option Addr) (len cap : Nat) (xs : List Int) (w : World) (hA : Rd w A len xs) (hl : len ≤ 1000) (hBs : Bs < w.heap.size) (hcb : w.cell? ⟨Bs, 0, none⟩ = some (.slice A len cap)) :
    CallsIn Fence.wide 3 Tryd.prog 61 #[.slice none 0 0, .func (.func 56) #[] #[.pointer (some ⟨Bs, 0, none⟩)]] w fun e W' =>
      ∃ v, e = .returned v ∧ Own W' w.heap.size v len xs ∧ Below w.heap.size w W' := by
  obtain ⟨i0, hi, hz0, hz1, hz2⟩ := info_parts infoInt
  refine callsIn_of_wp_marks Tryd.func61 rfl trivial ?_ rfl
  simp only [Tryd.ntmps61, List.size_toArray, List.length_cons, List.length_nil, Nat.reduceAdd, Nat.reduceSub, Array.replicate_succ, Array.replicate_zero, List.push_toArray, List.append_toArray, List.nil_append, List.cons_append]
  gi_wp2
  have hB0 : Below w.heap.size w (w.alloc (.cells #[.slice none 0 0] 22)) := (Below.refl _ w).alloc (Nat.le_refl _) _
  have hsz : (w.alloc (.cells #[.slice none 0 0] 22)).heap.size = w.heap.size + 1 := by simp
  have q0 : (w.alloc (.cells #[.slice none 0 0] 22)).cell? ⟨w.heap.size, 0, none⟩ = some (.slice none 0 0) := by
    rw [World.cell?_alloc_at _ _ _ _ (by simp)]; rfl
  have f0 : (w.alloc (.cells #[.slice none 0 0] 22)).frozen? ⟨w.heap.size, 0, none⟩ = false := by simp
  have qb : (w.alloc (.cells #[.slice none 0 0] 22)).cell? ⟨Bs, 0, none⟩ = some (.slice A len cap) := (hB0.cell (p := ⟨Bs, 0, none⟩) hBs).trans hcb
  obtain ⟨W0, hW0⟩ : ∃ W0, (w.alloc (.cells #[.slice none 0 0] 22)) = W0 := ⟨_, rfl⟩
  rw [hW0] at hB0 hsz q0 f0 qb ⊢
  clear hW0
  refine wpIn_rangeFunc_ownG rfl (by omega) (gf := 56) (lb := #[.pointer (some ⟨Bs, 0, none⟩)]) rfl trivial (enters_of Tryd.func56 (by kernel_rfl) rfl)
    (vals_stops Fence.wide 2 trivial rfl (by omega) Bs w.heap.size A len cap xs hA.len hl W0 (by omega) (by omega) qb (fun hl0 => by
      obtain ⟨b, off, e, hb, hcs⟩ := hA.at_ hl0
      exact ⟨b, off, e, hb, fun j hj => (hB0.cell (p := ⟨b, off + j, none⟩) hb).trans (hcs j hj)⟩)) (fun h k => h.trans k) (belowB_b (by omega)) (Below.refl _ _) (fun _ => rfl)
    (fun pre W => Bx w.heap.size pre W ∧ Below w.heap.size w W)
    (fun _ _ _ => False)
    (OwnFrom.and (bx_own _ _) (ownFrom_below (Nat.le_refl _) (by omega)))
    (fun _ _ _ _ _ hs _ _ => hs)
    ⟨⟨_, ⟨q0, f0⟩, Own.nil _ _⟩, hB0⟩
    (fun p => { tmps := #[.slice none 0 0, .func (.func 56) #[] #[.pointer (some ⟨Bs, 0, none⟩)], .pointer (some ⟨w.heap.size, 0, none⟩), undef, .slice none 0 0, .int .i64 p, .func (.func 56) #[] #[.pointer (some ⟨Bs, 0, none⟩)], .int .i64 p, undef, undef, undef, undef, undef], defers := [] }) ?assign ?body ?done ?stop
  case assign =>
    intro l p W K hK
    gi_wp2
    exact hK
  case body =>
    rintro l pre x W ⟨⟨v, ⟨hv, hfv⟩, hown⟩, hB⟩ hlen
    have hB1 : Below (w.heap.size + 1) W (W.alloc (.cells #[.int .i64 x] 3)) := (Below.refl _ W).alloc (by have := World.block_lt_of_cell? W _ hv; exact this) _
    gi_wp2_with (first
      | (gi_at_builtin; refine wpListIn_append_own _ rfl _ _ 22 rfl (w.heap.size + 1) 3 i0 (.int .i64 0) 1 8 Tryd.underlying22 hi hz0 hz1 hz2 rfl (by decide) v pre.length (pre.map (Value.int .i64)) rfl (World.ownsRow.alloc hown _) ⟨W.heap.size, 0, none⟩ 1 1 [.int .i64 x] rfl rfl (cell_one_new _ _ _) (by simp [Value.oneCell']) (by unfold maxLen; omega) (by omega) (by have := hB.size; simp; omega) ?_; intro v' w3 hown' hg3 hnil3
         have hown3 : Own w3 (w.heap.size + 1) v' (pre.length + 1) (pre ++ [x]) := by unfold Own; rw [List.map_append]; exact hown'
         have hB3 : Below (w.heap.size + 1) W w3 := hB1.grown hg3 (by have := World.block_lt_of_cell? W _ hv; simp at this ⊢; omega) (fun k e => (World.ownsRow.lt hown k e).1)
         have hv3 : w3.cell? ⟨w.heap.size, 0, none⟩ = some v := (hB3.cell (p := ⟨w.heap.size, 0, none⟩) (by simp)).trans hv
         have hf3 : w3.frozen? ⟨w.heap.size, 0, none⟩ = false := (hB3.frozen (p := ⟨w.heap.size, 0, none⟩) (by simp)).trans hfv
         obtain ⟨A', c', rfl, _⟩ := hown3.form
         go_frame))
    have hg3' : (W.alloc (.cells #[.int .i64 x] 3)).grownBy w3 v.ownBlock := hg3
    exact ⟨(((KeepsOthers.alloc W _).trans (KeepsOthers.of_grownBy hg3' (own_cells (Own.alloc hown _)))).trans (KeepsOthers.setCell _ _ _)).from _, (hB3.mono (Nat.le_succ _)).setCell (p := ⟨w.heap.size, 0, none⟩) (Nat.le_refl _) _,
      ⟨_, ⟨World.cell?_setCell_same' _ _ _ (by rw [hv3]; rfl), by rw [World.frozen?_setCell]; exact hf3⟩, by rw [List.length_append]; exact own_box hown3 (Nat.lt_succ_self _) _⟩, (hB.trans (hB3.mono (Nat.le_succ _))).setCell (p := ⟨w.heap.size, 0, none⟩) (Nat.le_refl _) _⟩
  case done =>
    rintro D ys W hD rfl ⟨⟨v, ⟨hv, hfv⟩, hown⟩, hB⟩ hK
    gi_wp2
    refine ⟨by simp, .inl ⟨_, _, rfl, run_takeDeferred hK, ?_⟩⟩
    refine ⟨v, ?_, v, rfl, own_mono (own_putObj (by rw [← hA.len]; exact hown) D _ _ hK rfl) (Nat.le_succ _), hB.trans (belowK_b (w := w) (Nat.le_refl _) W D _ _ (by omega) hK rfl rfl)⟩
    simp [results, Tryd.f61, go_sem]
  case stop =>
    rintro D c pre W _ _ h _
    exact h.elim

set_option maxHeartbeats 1000000 in
theorem collect_ok (Bs : Nat) (A : Option Addr) (len cap : Nat) (xs : List Int) (w : World) (hA : Rd w A len xs) (hl : len ≤ 1000) (hBs : Bs < w.heap.size) (hcb : w.cell? ⟨Bs, 0, none⟩ = some (.slice A len cap)) :
    CallsIn Fence.wide 4 Tryd.prog 54 #[.func (.func 56) #[] #[.pointer (some ⟨Bs, 0, none⟩)]] w fun e W' =>
      ∃ v, e = .returned v ∧ Own W' w.heap.size v len xs ∧ Below w.heap.size w W' := by
  refine callsIn_of_wp Tryd.func54 rfl trivial ?_ rfl
  simp only [Tryd.ntmps54, List.size_toArray, List.length_cons, List.length_nil, Nat.reduceAdd, Nat.reduceSub, Array.replicate_succ, Array.replicate_zero, List.push_toArray, List.append_toArray, List.nil_append, List.cons_append]
  gi_wp2_with (refine ⟨trivial, ?_⟩; gi_at_call 61; refine (apseq_ok Bs A len cap xs _ hA hl hBs hcb).mono ?_; rintro e w' ⟨v, rfl, hown, hb⟩)
  go_ret
  exact ⟨v, rfl, hown, hb⟩
end Go.Proofs.YtpleidblnjphmaaDoor
