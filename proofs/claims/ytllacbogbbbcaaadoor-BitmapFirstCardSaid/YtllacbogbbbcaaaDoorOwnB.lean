/- Slices of bools that the call itself makes. -/
import Derived.Test.YtllacbogbbbcaaaDoorOwn
namespace Go.Proofs.YtllacbogbbbcaaaDoor
open Go Go.RowKit
set_option maxRecDepth 20000

def OwnB (w : World) (B : Nat) (v : Value) (n : Nat) (xs : List Bool) : Prop := w.ownsRow B 4 1 v n (xs.map Value.bool)
theorem OwnB.nil (w : World) (B : Nat) : OwnB w B (.slice none 0 0) 0 [] := World.ownsRow_nil w B _ _
theorem OwnB.len {w : World} {B n : Nat} {v : Value} {xs : List Bool} (h : OwnB w B v n xs) : xs.length = n := by
  have := h.1; simpa using this
theorem OwnB.form {w : World} {B n : Nat} {v : Value} {xs : List Bool} (h : OwnB w B v n xs) : ∃ A c, v = .slice A n c ∧ n ≤ c := by
  rcases h.2 with ⟨rfl, rfl⟩ | ⟨g, cap, cur, rfl, hh⟩
  · exact ⟨_, _, rfl, Nat.le_refl _⟩
  · exact ⟨_, _, rfl, hh.2.2.1⟩
theorem OwnB.alloc {w : World} {B n : Nat} {v : Value} {xs : List Bool} (h : OwnB w B v n xs) (o : Obj) : OwnB (w.alloc o) B v n xs := World.ownsRow.alloc h o
theorem OwnB.at_ {w : World} {B n c : Nat} {A : Option Addr} {xs : List Bool} (h : OwnB w B (.slice A n c) n xs) (h0 : 0 < n) :
    ∃ g, A = some ⟨g, 0, none⟩ ∧ B ≤ g ∧ g < w.heap.size ∧ ∀ k, k < n → w.cell? ⟨g, k, none⟩ = some (.bool (xs[k]?.getD false)) := by
  obtain ⟨g, cap, hv, hge, hlt⟩ := World.ownsRow.form h h0
  injection hv with hA _ hc
  subst hA
  have hcell := World.ownsRow.cells h (g := g) rfl
  refine ⟨g, rfl, hge, hlt, fun k hk => ?_⟩
  have := hcell k (.bool (xs[k]?.getD false)) (by
    have hl := h.len
    rw [List.getElem?_map, List.getElem?_eq_getElem (by omega)]; rfl)
  by_cases hk0 : k = 0
  · subst hk0; simpa [Addr.add] using this
  · simpa [Addr.add, hk0] using this
theorem infoBool : (Tryd.prog.info? 4).map (fun i => (i.zero, i.size, i.bytes)) = some (some (.bool false), 1, 1) := by kernel_rfl
/-- 'out = append(out, y)' on a slice of bools of the call's own. -/
theorem wpList_app1B {ops : Array Oper} {rest : List Oper} {o : Oper} {a : Act} {w : World} {Q : Exit → Act → World → Prop} (hgd : o.guard = none) (s x : Operand)
    (ho : o.op = .call { callee := .builtin .append, args := #[s, x], argTypes := #[57, 57] })
    (B n : Nat) (v : Value) (xs : List Bool) (hs : a.eval s = v) (hown : OwnB w B v n xs) (g : Nat) (y : Bool) (hx : a.eval x = .slice (some ⟨g, 0, none⟩) 1 1)
    (hc : w.cell? ⟨g, 0, none⟩ = some (.bool y)) (hn : n + 1 ≤ 1000000) (hbase : B ≤ w.heap.size)
    (h : ∀ A' c' w', OwnB w' B (.slice A' (n + 1) c') (n + 1) (xs ++ [y]) → (∀ B0 W0, B0 ≤ B → Below B0 W0 w → Below B0 W0 w') → wpList Tryd.prog ops Q rest (a.put o.dst (.slice A' (n + 1) c')) w') :
    wpList Tryd.prog ops Q (o :: rest) a w := by
  obtain ⟨i0, hi, hz0, hz1, hz2⟩ := info_parts infoBool
  refine wpList_append_own w hgd s x 57 ho B 4 i0 (.bool false) 1 1 Tryd.underlying57 hi hz0 hz1 hz2 rfl (by decide) v n _ hs hown ⟨g, 0, none⟩ 1 1 [.bool y] hx rfl (fun j u hj => ?_) (by simp [Value.oneCell'])
    (by unfold maxLen; omega) (by omega) hbase (fun v' w' h2 h3 _ => ?_)
  · have hj0 : j = 0 := by
      rcases j with _ | j
      · rfl
      · simp at hj
    subst hj0
    simp at hj
    subst hj
    simpa [Addr.add] using hc
  · have h2' : OwnB w' B v' (n + 1) (xs ++ [y]) := by unfold OwnB; rw [List.map_append]; exact h2
    obtain ⟨A', c', hv, _⟩ := h2'.form
    subst hv
    exact h A' c' w' h2' (fun B0 W0 hB0 hb => hb.grown h3 (Nat.le_trans hB0 hbase) (fun k hk => Nat.le_trans hB0 (World.ownsRow.lt hown k hk).1))
end Go.Proofs.YtllacbogbbbcaaaDoor
