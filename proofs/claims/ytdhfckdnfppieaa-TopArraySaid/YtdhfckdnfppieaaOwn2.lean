/- Two slices of ints that the call itself makes, each in a block of its own: append to one keeps the other. -/
import Derived.Test.YtdhfckdnfppieaaOwn
namespace Go.Proofs.Ytdhfckdnfppieaa
open Go Go.RowKit
set_option maxRecDepth 20000

def Own2 (w : World) (B : Nat) (v u : Value) (n m : Nat) (xs ys : List Int) : Prop := Own w B v n xs ∧ Own w B u m ys ∧ ∀ g, v.ownBlock = some g → u.ownBlock ≠ some g
theorem Own2.nil (w : World) (B : Nat) : Own2 w B (.slice none 0 0) (.slice none 0 0) 0 0 [] [] := ⟨Own.nil w B, Own.nil w B, fun _ h => by cases h⟩
theorem Own2.swap {w : World} {B n m : Nat} {v u : Value} {xs ys : List Int} (h : Own2 w B v u n m xs ys) : Own2 w B u v m n ys xs := ⟨h.2.1, h.1, fun g h1 h2 => h.2.2 g h2 h1⟩
theorem Own2.alloc {w : World} {B n m : Nat} {v u : Value} {xs ys : List Int} (h : Own2 w B v u n m xs ys) (o : Obj) : Own2 (w.alloc o) B v u n m xs ys := ⟨h.1.alloc o, h.2.1.alloc o, h.2.2⟩
theorem Own2.drew {w : World} {B n m : Nat} {v u : Value} {xs ys : List Int} (h : Own2 w B v u n m xs ys) : Own2 w.drew B v u n m xs ys := h
theorem Own2.below {w w' : World} {B n m : Nat} {v u : Value} {xs ys : List Int} (h : Own2 w B v u n m xs ys) (hb : Below w.heap.size w w') : Own2 w' B v u n m xs ys := ⟨h.1.below hb, h.2.1.below hb, h.2.2⟩
theorem wpList_app2L {ops : Array Oper} {rest : List Oper} {o : Oper} {a : Act} {w : World} {Q : Exit → Act → World → Prop} (hgd : o.guard = none) (s x : Operand)
    (ho : o.op = .call { callee := .builtin .append, args := #[s, x], argTypes := #[29, 29] })
    (B n : Nat) (v : Value) (xs : List Int) (hs : a.eval s = v) (u : Value) (m : Nat) (ys : List Int) (hown : Own2 w B v u n m xs ys) (g : Nat) (y : Int) (hx : a.eval x = .slice (some ⟨g, 0, none⟩) 1 1)
    (hc : w.cell? ⟨g, 0, none⟩ = some (.int .i64 y)) (hn : n + 1 ≤ 1000000) (hbase : B ≤ w.heap.size)
    (h : ∀ A' c' w', Own2 w' B (.slice A' (n + 1) c') u (n + 1) m (xs ++ [y]) ys → (∀ B0 W0, B0 ≤ B → Below B0 W0 w → Below B0 W0 w') → wpList Try.prog ops Q rest (a.put o.dst (.slice A' (n + 1) c')) w') :
    wpList Try.prog ops Q (o :: rest) a w := by
  obtain ⟨i0, hi, hz0, hz1, hz2⟩ := info_parts infoInt
  refine wpList_append_own_at w hgd s x 29 ho B 3 i0 (.int .i64 0) 1 8 Try.underlying29 hi hz0 hz1 hz2 rfl (by decide) v n _ hs hown.1 ⟨g, 0, none⟩ 1 1 [.int .i64 y] hx rfl (fun j u hj => ?_) (by simp [Value.oneCell'])
    (by unfold maxLen; omega) (by omega) hbase (fun v' w' h2 h3 _ h5 => ?_)
  · have hj0 : j = 0 := by
      rcases j with _ | j
      · rfl
      · simp at hj
    subst hj0
    simp at hj
    subst hj
    simpa [Addr.add] using hc
  · have h2' : Own w' B v' (n + 1) (xs ++ [y]) := by unfold Own; rw [List.map_append]; exact h2
    have hu : Own w' B u m ys := World.ownsRow.kept hown.2.1 h3 (by
      rcases e : u.ownBlock with _ | q
      · exact .inl rfl
      · exact .inr fun h => hown.2.2 q h.symm e)
    have hd : ∀ q, v'.ownBlock = some q → u.ownBlock ≠ some q := fun q hq hu2 => by
      rcases h5 with e | e
      · exact hown.2.2 q (e.symm.trans hq) hu2
      · have h6 := (World.ownsRow.lt hown.2.1 q hu2).2
        have h7 := e.symm.trans hq
        injection h7 with h7
        omega
    obtain ⟨A', c', hv, _⟩ := h2'.form
    subst hv
    exact h A' c' w' ⟨h2', hu, hd⟩ (fun B0 W0 hB0 hb => hb.grown h3 (Nat.le_trans hB0 hbase) (fun k hk => Nat.le_trans hB0 (World.ownsRow.lt hown.1 k hk).1))
theorem wpList_app2R {ops : Array Oper} {rest : List Oper} {o : Oper} {a : Act} {w : World} {Q : Exit → Act → World → Prop} (hgd : o.guard = none) (s x : Operand)
    (ho : o.op = .call { callee := .builtin .append, args := #[s, x], argTypes := #[29, 29] })
    (B n : Nat) (v : Value) (xs : List Int) (hs : a.eval s = v) (u : Value) (m : Nat) (ys : List Int) (hown : Own2 w B u v m n ys xs) (g : Nat) (y : Int) (hx : a.eval x = .slice (some ⟨g, 0, none⟩) 1 1)
    (hc : w.cell? ⟨g, 0, none⟩ = some (.int .i64 y)) (hn : n + 1 ≤ 1000000) (hbase : B ≤ w.heap.size)
    (h : ∀ A' c' w', Own2 w' B u (.slice A' (n + 1) c') m (n + 1) ys (xs ++ [y]) → (∀ B0 W0, B0 ≤ B → Below B0 W0 w → Below B0 W0 w') → wpList Try.prog ops Q rest (a.put o.dst (.slice A' (n + 1) c')) w') :
    wpList Try.prog ops Q (o :: rest) a w :=
  wpList_app2L hgd s x ho B n v xs hs u m ys hown.swap g y hx hc hn hbase fun A' c' w' h1 h2 => h A' c' w' h1.swap h2
end Go.Proofs.Ytdhfckdnfppieaa
