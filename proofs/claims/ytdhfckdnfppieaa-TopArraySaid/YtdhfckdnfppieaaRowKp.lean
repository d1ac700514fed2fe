/- Slices of slices of ints of which the call makes the rows, too: what is written into the slice of rows keeps the rows' own numbers. -/
import Derived.Test.YtdhfckdnfppieaaOwnR
namespace Go.Proofs.Ytdhfckdnfppieaa
open Go Go.RowKit
set_option maxRecDepth 20000

/-- Each block of ints stands as it was. -/
def Kp (w w' : World) : Prop := w.heap.size ≤ w'.heap.size ∧ ∀ (k : Nat) cur m, w.heap[k]? = some (.cells cur 3 m) → w'.heap[k]? = some (.cells cur 3 m)
theorem lt_of_heap {w : World} {k : Nat} {o : Obj} (h : w.heap[k]? = some o) : k < w.heap.size := by
  rcases Nat.lt_or_ge k w.heap.size with hh | hh
  · exact hh
  · rw [Array.getElem?_eq_none hh] at h; cases h
theorem Kp.refl (w : World) : Kp w w := ⟨Nat.le_refl _, fun _ _ _ h => h⟩
theorem Kp.trans {a b c : World} (h : Kp a b) (k : Kp b c) : Kp a c := ⟨Nat.le_trans h.1 k.1, fun x y z e => k.2 x y z (h.2 x y z e)⟩
theorem Kp.below {w w' : World} (h : Below w.heap.size w w') : Kp w w' := ⟨h.size, fun k _ _ hk => (h.block k (lt_of_heap hk)).trans hk⟩
theorem Kp.alloc (w : World) (o : Obj) : Kp w (w.alloc o) := Kp.below ((Below.refl _ _).alloc (Nat.le_refl _) o)
theorem Own.kp {w w' : World} {B n : Nat} {v : Value} {xs : List Int} (h : Own w B v n xs) (k : Kp w w') : Own w' B v n xs := by
  refine ⟨h.1, ?_⟩
  rcases h.2 with h | ⟨g, cap, cur, h1, h2, h3, h4⟩
  · exact .inl h
  · exact .inr ⟨g, cap, cur, h1, h2, k.2 _ _ _ h3, h4⟩
theorem kp_grown {w w' : World} {B n : Nat} {v : Value} {rs : List RV} (h : OwnR w B v n rs) (hg : w.grownBy w' v.ownBlock) : Kp w w' := by
  refine ⟨hg.size, fun k cur m hk => (hg.block k (lt_of_heap hk) fun e => ?_).trans hk⟩
  rcases h.2 with ⟨h1, _⟩ | ⟨g, cap, cur', h1, _, h3, _⟩
  · rw [h1] at e; cases e
  · rw [h1] at e
    simp only [Value.ownBlock, Option.some.injEq] at e
    subst e
    rw [h3] at hk
    injection hk with hk
    injection hk with _ h5 _
    exact absurd h5 (by decide)
theorem OwnR.kpSet {w : World} {B n c g : Nat} {rs : List RV} (h : OwnR w B (.slice (some ⟨g, 0, none⟩) n c) n rs) (k : Nat) (r : RV) : Kp w (w.setCell ⟨g, k, none⟩ r.val) :=
  kp_grown h (World.ownsRow.stored h k r.val).2

/-- 'out = append(out, row)', and the rows' own numbers stand. -/
theorem wpList_app1K {ops : Array Oper} {rest : List Oper} {o : Oper} {a : Act} {w : World} {Q : Exit → Act → World → Prop} (hgd : o.guard = none) (s x : Operand)
    (ho : o.op = .call { callee := .builtin .append, args := #[s, x], argTypes := #[39, 39] })
    (B n : Nat) (v : Value) (rs : List RV) (hs : a.eval s = v) (hown : OwnR w B v n rs) (g : Nat) (r : RV) (hx : a.eval x = .slice (some ⟨g, 0, none⟩) 1 1)
    (hc : w.cell? ⟨g, 0, none⟩ = some r.val) (hn : n + 1 ≤ 1000000) (hbase : B ≤ w.heap.size)
    (h : ∀ A' c' w', OwnR w' B (.slice A' (n + 1) c') (n + 1) (rs ++ [r]) → (∀ B0 W0, B0 ≤ B → Below B0 W0 w → Below B0 W0 w') → Kp w w' → wpList Try.prog ops Q rest (a.put o.dst (.slice A' (n + 1) c')) w') :
    wpList Try.prog ops Q (o :: rest) a w := by
  obtain ⟨i0, hi, hz0, hz1, hz2⟩ := info_parts infoRow
  refine wpList_append_own w hgd s x 39 ho B 29 i0 (.slice none 0 0) 1 24 Try.underlying39 hi hz0 hz1 hz2 rfl (by decide) v n _ hs hown ⟨g, 0, none⟩ 1 1 [r.val] hx rfl (fun j u hj => ?_) (by simp [Value.oneCell', RV.val])
    (by unfold maxLen; omega) (by omega) hbase (fun v' w' h2 h3 _ => ?_)
  · have hj0 : j = 0 := by
      rcases j with _ | j
      · rfl
      · simp at hj
    subst hj0
    simp at hj
    subst hj
    simpa [Addr.add] using hc
  · have h2' : OwnR w' B v' (n + 1) (rs ++ [r]) := by unfold OwnR; rw [List.map_append]; exact h2
    obtain ⟨A', c', hv, _⟩ := h2'.form
    subst hv
    exact h A' c' w' h2' (fun B0 W0 hB0 hb => hb.grown h3 (Nat.le_trans hB0 hbase) (fun k hk => Nat.le_trans hB0 (World.ownsRow.lt hown k hk).1)) (kp_grown hown h3)
/-- All rows are the call's own, and read as they should. -/
def OwnK (w : World) (B : Nat) (v : Value) (n : Nat) (rs : List RV) : Prop := OwnR w B v n rs ∧ ∀ r ∈ rs, Own w B r.val r.2.1 r.2.2.2
theorem OwnK.nil (w : World) (B : Nat) : OwnK w B (.slice none 0 0) 0 [] := ⟨OwnR.nil w B, fun _ h => by cases h⟩
theorem OwnK.len {w : World} {B n : Nat} {v : Value} {rs : List RV} (h : OwnK w B v n rs) : rs.length = n := h.1.len
theorem OwnK.below {w w' : World} {B n : Nat} {v : Value} {rs : List RV} (h : OwnK w B v n rs) (hb : Below w.heap.size w w') : OwnK w' B v n rs := ⟨h.1.below hb, fun r hr => (h.2 r hr).below hb⟩
theorem OwnK.alloc {w : World} {B n : Nat} {v : Value} {rs : List RV} (h : OwnK w B v n rs) (o : Obj) : OwnK (w.alloc o) B v n rs := ⟨h.1.alloc o, fun r hr => (h.2 r hr).alloc o⟩
theorem OwnK.drew {w : World} {B n : Nat} {v : Value} {rs : List RV} (h : OwnK w B v n rs) : OwnK w.drew B v n rs := h
theorem OwnK.drewN {w : World} {B n : Nat} {v : Value} {rs : List RV} (h : OwnK w B v n rs) (q : Nat) : OwnK (w.drewN q) B v n rs := h
theorem OwnK.row {w : World} {B n : Nat} {v : Value} {rs : List RV} (h : OwnK w B v n rs) {k : Nat} (hk : k < n) : Own w B (rs[k]?.getD noRow).val (rs[k]?.getD noRow).2.1 (rs[k]?.getD noRow).2.2.2 := by
  rw [List.getElem?_eq_getElem (by rw [h.len]; exact hk)]
  exact h.2 _ (List.getElem_mem _)
theorem OwnK.set {w : World} {B n c g : Nat} {rs : List RV} (h : OwnK w B (.slice (some ⟨g, 0, none⟩) n c) n rs) (k : Nat) {r : RV} (hr : Own w B r.val r.2.1 r.2.2.2) :
    OwnK (w.setCell ⟨g, k, none⟩ r.val) B (.slice (some ⟨g, 0, none⟩) n c) n (rs.set k r) :=
  ⟨h.1.set k r, fun q hq => by
    rcases List.mem_or_eq_of_mem_set hq with h1 | h1
    · exact (h.2 q h1).kp (h.1.kpSet k r)
    · subst h1; exact hr.kp (h.1.kpSet k q)⟩
end Go.Proofs.Ytdhfckdnfppieaa
