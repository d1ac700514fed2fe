/- Slices of ints that the call itself makes: append of one number, and what such a slice reads as. -/
import Derived.Test.YtpleidblnjphmaaDoorProg
import Derived.Test.YtpleidblnjphmaaDoorSl
import Derived.OwnWalk
import Derived.Maps.AppendAt
import Derived.Deep.AppendLies
import Derived.Lib.Hide
namespace Go.Proofs.YtpleidblnjphmaaDoor
open Go Go.RowKit
set_option maxRecDepth 20000

/-- The call owns, from block B on, a slice v of n ints that holds xs. -/
def Own (w : World) (B : Nat) (v : Value) (n : Nat) (xs : List Int) : Prop := w.ownsRow B 3 1 v n (xs.map (Value.int .i64))

theorem Own.nil (w : World) (B : Nat) : Own w B (.slice none 0 0) 0 [] := World.ownsRow_nil w B _ _
theorem Own.len {w : World} {B n : Nat} {v : Value} {xs : List Int} (h : Own w B v n xs) : xs.length = n := by
  have := h.1; simpa using this
theorem Own.form {w : World} {B n : Nat} {v : Value} {xs : List Int} (h : Own w B v n xs) : ∃ A c, v = .slice A n c ∧ n ≤ c := by
  rcases h.2 with ⟨rfl, rfl⟩ | ⟨g, cap, cur, rfl, hh⟩
  · exact ⟨_, _, rfl, Nat.le_refl _⟩
  · exact ⟨_, _, rfl, hh.2.2.1⟩
theorem Own.drew {w : World} {B n : Nat} {v : Value} {xs : List Int} (h : Own w B v n xs) : Own w.drew B v n xs := h
theorem Own.drewN {w : World} {B n : Nat} {v : Value} {xs : List Int} (h : Own w B v n xs) (q : Nat) : Own (w.drewN q) B v n xs := h
theorem Own.alloc {w : World} {B n : Nat} {v : Value} {xs : List Int} (h : Own w B v n xs) (o : Obj) : Own (w.alloc o) B v n xs := World.ownsRow.alloc h o
theorem Own.below {w w' : World} {B n : Nat} {v : Value} {xs : List Int} (h : Own w B v n xs) (hb : Below w.heap.size w w') : Own w' B v n xs :=
  World.ownsRow.kept (row := none) h ⟨hb.os, hb.tape, hb.output, hb.size, fun k hk _ => hb.block k hk⟩ (by
    rcases hv : v.ownBlock with _ | g
    · exact .inl rfl
    · exact .inr (by simp))
theorem Own.rd {w : World} {B n c : Nat} {A : Option Addr} {xs : List Int} (h : Own w B (.slice A n c) n xs) (hn : n ≤ 9223372036854775807)
    (hx : ∀ x ∈ xs, -9223372036854775808 ≤ x ∧ x ≤ 9223372036854775807) : Rd w A n xs := by
  refine ⟨h.len, hn, hx, fun h0 => ?_⟩
  obtain ⟨g, cap, hv, _, hlt⟩ := World.ownsRow.form h h0
  injection hv with hA _ _
  subst hA
  have hc := World.ownsRow.cells h (g := g) rfl
  refine ⟨g, 0, rfl, hlt, fun k hk => ?_⟩
  have := hc k (.int .i64 (xs[k]?.getD 0)) (by
    have hl := h.len
    rw [List.getElem?_map, List.getElem?_eq_getElem (by omega)]; rfl)
  by_cases hk0 : k = 0
  · subst hk0; simpa [Addr.add] using this
  · simpa [Addr.add, hk0] using this

theorem Own.at_ {w : World} {B n c : Nat} {A : Option Addr} {xs : List Int} (h : Own w B (.slice A n c) n xs) (h0 : 0 < n) :
    ∃ g, A = some ⟨g, 0, none⟩ ∧ B ≤ g ∧ g < w.heap.size ∧ (∀ k, k < n → w.cell? ⟨g, k, none⟩ = some (.int .i64 (xs[k]?.getD 0))) ∧ (∀ k, w.frozen? ⟨g, k, none⟩ = false) := by
  obtain ⟨g, cap, hv, hge, hlt⟩ := World.ownsRow.form h h0
  injection hv with hA _ hc
  subst hA
  subst hc
  have hcell := World.ownsRow.cells h (g := g) rfl
  refine ⟨g, rfl, hge, hlt, fun k hk => ?_, fun k => World.ownsRow.frozenAt h k⟩
  have := hcell k (.int .i64 (xs[k]?.getD 0)) (by
    have hl := h.len
    rw [List.getElem?_map, List.getElem?_eq_getElem (by omega)]; rfl)
  by_cases hk0 : k = 0
  · subst hk0; simpa [Addr.add] using this
  · simpa [Addr.add, hk0] using this
theorem Own.set {w : World} {B n c g : Nat} {xs : List Int} (h : Own w B (.slice (some ⟨g, 0, none⟩) n c) n xs) (k : Nat) (y : Int) :
    Own (w.setCell ⟨g, k, none⟩ (.int .i64 y)) B (.slice (some ⟨g, 0, none⟩) n c) n (xs.set k y) := by
  have := (World.ownsRow.stored h k (.int .i64 y)).1
  unfold Own
  rw [List.map_set]
  exact this

theorem infoInt : (Tryd.prog.info? 3).map (fun i => (i.zero, i.size, i.bytes)) = some (some (.int .i64 0), 1, 8) := by kernel_rfl

/-- 'out = append(out, y)' on a slice of the call's own. -/
theorem wpList_app1 {ops : Array Oper} {rest : List Oper} {o : Oper} {a : Act} {w : World} {Q : Exit → Act → World → Prop} (hgd : o.guard = none) (s x : Operand)
    (ho : o.op = .call { callee := .builtin .append, args := #[s, x], argTypes := #[22, 22] })
    (B n : Nat) (v : Value) (xs : List Int) (hs : a.eval s = v) (hown : Own w B v n xs) (g : Nat) (y : Int) (hx : a.eval x = .slice (some ⟨g, 0, none⟩) 1 1)
    (hc : w.cell? ⟨g, 0, none⟩ = some (.int .i64 y)) (hn : n + 1 ≤ 1000000) (hbase : B ≤ w.heap.size)
    (h : ∀ A' c' w', Own w' B (.slice A' (n + 1) c') (n + 1) (xs ++ [y]) → (∀ B0 W0, B0 ≤ B → Below B0 W0 w → Below B0 W0 w') → wpList Tryd.prog ops Q rest (a.put o.dst (.slice A' (n + 1) c')) w') :
    wpList Tryd.prog ops Q (o :: rest) a w := by
  obtain ⟨i0, hi, hz0, hz1, hz2⟩ := info_parts infoInt
  refine wpList_append_own w hgd s x 22 ho B 3 i0 (.int .i64 0) 1 8 Tryd.underlying22 hi hz0 hz1 hz2 rfl (by decide) v n _ hs hown ⟨g, 0, none⟩ 1 1 [.int .i64 y] hx rfl (fun j u hj => ?_) (by simp [Value.oneCell'])
    (by unfold maxLen; omega) (by omega) hbase (fun v' w' h2 h3 _ => ?_)
  · have hj0 : j = 0 := by
      rcases j with _ | j
      · rfl
      · simp at hj
    subst hj0
    simp at hj
    subst hj
    simpa [Addr.add] using hc
  · have h2' : Own w' B v' (n + 1) (xs ++ [y]) := by unfold Own; rw [List.map_append]; exact h2
    obtain ⟨A', c', hv, _⟩ := h2'.form
    subst hv
    exact h A' c' w' h2' (fun B0 W0 hB0 hb => hb.grown h3 (Nat.le_trans hB0 hbase) (fun k hk => Nat.le_trans hB0 (World.ownsRow.lt hown k hk).1))

/-- 'out = append(out, ys...)' on a slice of the call's own, the source any slice that is read. -/
theorem wpList_appL {ops : Array Oper} {rest : List Oper} {o : Oper} {a : Act} {w : World} {Q : Exit → Act → World → Prop} (hgd : o.guard = none) (s x : Operand)
    (ho : o.op = .call { callee := .builtin .append, args := #[s, x], argTypes := #[22, 22] })
    (B n : Nat) (v : Value) (xs : List Int) (hs : a.eval s = v) (hown : Own w B v n xs) (C : Option Addr) (m c : Nat) (ys : List Int) (hx : a.eval x = .slice C m c)
    (hC : Rd w C m ys) (hn : n + m ≤ 1000000) (hbase : B ≤ w.heap.size)
    (h : ∀ A' c' w', Own w' B (.slice A' (n + m) c') (n + m) (xs ++ ys) → (∀ B0 W0, B0 ≤ B → Below B0 W0 w → Below B0 W0 w') → wpList Tryd.prog ops Q rest (a.put o.dst (.slice A' (n + m) c')) w') :
    wpList Tryd.prog ops Q (o :: rest) a w := by
  obtain ⟨i0, hi, hz0, hz1, hz2⟩ := info_parts infoInt
  rcases C with _ | ad
  · have hm : m = 0 := by
      rcases Nat.eq_zero_or_pos m with h0 | h0
      · exact h0
      · obtain ⟨b, off, e, _⟩ := hC.at_ h0
        cases e
    subst hm
    obtain rfl : ys = [] := List.eq_nil_of_length_eq_zero hC.len
    have hrun : (Builtin.append_ #[22, 22] o.type #[v, .slice none 0 c]).run Tryd.prog w = .ok v w := by
      rcases hown.2 with ⟨rfl, _⟩ | ⟨g, cap, cur, rfl, _, _, hnc, _⟩
      · simp [Builtin.append_, run_underlying Tryd.underlying22, sizeOf, typeInfo, hi, Builtin.lenOf, Builtin.firstCells]
      · simp [Builtin.append_, run_underlying Tryd.underlying22, sizeOf, typeInfo, hi, Builtin.lenOf, Builtin.firstCells, hnc, storeCells]
    refine wpList_plain hgd fun K hK => ?_
    unfold Oper.wp
    simp [execOp, ho, resolve, invoke, builtin, hs, hx, hrun, Result.andThen]
    obtain ⟨A', c', hv, _⟩ := hown.form
    subst hv
    exact hK _ _ (h A' c' w (by simpa using hown) (fun _ _ _ hb => hb))
  · refine wpList_append_own w hgd s x 22 ho B 3 i0 (.int .i64 0) 1 8 Tryd.underlying22 hi hz0 hz1 hz2 rfl (by decide) v n _ hs hown ad m c (ys.map (Value.int .i64)) hx (by simp [hC.len]) (fun j u hj => ?_) (by
        intro u hu
        obtain ⟨y, _, rfl⟩ := List.mem_map.1 hu
        rfl)
      (by unfold maxLen; omega) (by omega) hbase (fun v' w' h2 h3 _ => ?_)
    · have hjm : j < m := by
        rcases Nat.lt_or_ge j ys.length with hh | hh
        · have := hC.len; omega
        · rw [List.getElem?_eq_none (by simpa using hh)] at hj; cases hj
      obtain ⟨b, off, e, _, hcell⟩ := hC.at_ (by omega)
      injection e with e
      subst e
      have := hcell j hjm
      rw [List.getElem?_map] at hj
      have hl := hC.len
      rw [List.getElem?_eq_getElem (by omega)] at hj this
      simp at hj this
      subst hj
      by_cases hj0 : j = 0
      · subst hj0; simpa [Addr.add] using this
      · simpa [Addr.add, hj0] using this
    · have h2' : Own w' B v' (n + m) (xs ++ ys) := by unfold Own; rw [List.map_append]; exact h2
      obtain ⟨A', c', hv, _⟩ := h2'.form
      subst hv
      exact h A' c' w' h2' (fun B0 W0 hB0 hb => hb.grown h3 (Nat.le_trans hB0 hbase) (fun k hk => Nat.le_trans hB0 (World.ownsRow.lt hown k hk).1))

/-- The same at a step of a region that draws its order. -/
theorem step_app1 {ops : Array Oper} {o : Oper} {a : Act} {w : World} {K : Act → World → Prop} {Q : Exit → Act → World → Prop} {E : Prop} (hgd : o.guard = none) (s x : Operand)
    (ho : o.op = .call { callee := .builtin .append, args := #[s, x], argTypes := #[22, 22] })
    (B n : Nat) (v : Value) (xs : List Int) (hs : a.eval s = v) (hown : Own w B v n xs) (g : Nat) (y : Int) (hx : a.eval x = .slice (some ⟨g, 0, none⟩) 1 1)
    (hc : w.cell? ⟨g, 0, none⟩ = some (.int .i64 y)) (hn : n + 1 ≤ 1000000) (hbase : B ≤ w.heap.size)
    (h : ∀ A' c' w', Own w' B (.slice A' (n + 1) c') (n + 1) (xs ++ [y]) → (∀ B0 W0, B0 ≤ B → Below B0 W0 w → Below B0 W0 w') → K (a.put o.dst (.slice A' (n + 1) c')) w') :
    if Region.wanted o (yielded ops a.tmps) = true then Oper.wp Tryd.prog o a w K Q else E := by
  have hw : Region.wanted o (yielded ops a.tmps) = true := by simp [Region.wanted, hgd]
  rw [if_pos hw]
  obtain ⟨i0, hi, hz0, hz1, hz2⟩ := info_parts infoInt
  refine wp_append_own w s x 22 ho B 3 i0 (.int .i64 0) 1 8 Tryd.underlying22 hi hz0 hz1 hz2 rfl (by decide) v n _ hs hown ⟨g, 0, none⟩ 1 1 [.int .i64 y] hx rfl (fun j u hj => ?_) (by simp [Value.oneCell'])
    (by unfold maxLen; omega) (by omega) hbase (fun v' w' h2 h3 _ => ?_)
  · have hj0 : j = 0 := by
      rcases j with _ | j
      · rfl
      · simp at hj
    subst hj0
    simp at hj
    subst hj
    simpa [Addr.add] using hc
  · have h2' : Own w' B v' (n + 1) (xs ++ [y]) := by unfold Own; rw [List.map_append]; exact h2
    obtain ⟨A', c', hv, _⟩ := h2'.form
    subst hv
    exact h A' c' w' h2' (fun B0 W0 hB0 hb => hb.grown h3 (Nat.le_trans hB0 hbase) (fun k hk => Nat.le_trans hB0 (World.ownsRow.lt hown k hk).1))
end Go.Proofs.YtpleidblnjphmaaDoor
