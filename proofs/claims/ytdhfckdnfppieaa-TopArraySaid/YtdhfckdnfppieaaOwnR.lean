/- Slices of slices of ints that the call itself makes: append of a row, of rows. -/
import Derived.Test.YtdhfckdnfppieaaRL
namespace Go.Proofs.Ytdhfckdnfppieaa
open Go Go.RowKit
set_option maxRecDepth 20000

def OwnR (w : World) (B : Nat) (v : Value) (n : Nat) (rs : List RV) : Prop := w.ownsRow B 29 1 v n (rs.map RV.val)
theorem OwnR.nil (w : World) (B : Nat) : OwnR w B (.slice none 0 0) 0 [] := World.ownsRow_nil w B _ _
theorem OwnR.len {w : World} {B n : Nat} {v : Value} {rs : List RV} (h : OwnR w B v n rs) : rs.length = n := by
  have := h.1; simpa using this
theorem OwnR.form {w : World} {B n : Nat} {v : Value} {rs : List RV} (h : OwnR w B v n rs) : ∃ A c, v = .slice A n c ∧ n ≤ c := by
  rcases h.2 with ⟨rfl, rfl⟩ | ⟨g, cap, cur, rfl, hh⟩
  · exact ⟨_, _, rfl, Nat.le_refl _⟩
  · exact ⟨_, _, rfl, hh.2.2.1⟩
theorem OwnR.cap {w : World} {B n c : Nat} {A : Option Addr} {rs : List RV} (h : OwnR w B (.slice A n c) n rs) : n ≤ c := by
  obtain ⟨_, _, h1, h2⟩ := h.form
  injection h1 with _ _ h3
  omega
theorem OwnR.alloc {w : World} {B n : Nat} {v : Value} {rs : List RV} (h : OwnR w B v n rs) (o : Obj) : OwnR (w.alloc o) B v n rs := World.ownsRow.alloc h o
theorem OwnR.drewN {w : World} {B n : Nat} {v : Value} {rs : List RV} (h : OwnR w B v n rs) (q : Nat) : OwnR (w.drewN q) B v n rs := h
theorem OwnR.below {w w' : World} {B n : Nat} {v : Value} {rs : List RV} (h : OwnR w B v n rs) (hb : Below w.heap.size w w') : OwnR w' B v n rs :=
  World.ownsRow.kept (row := none) h ⟨hb.os, hb.tape, hb.output, hb.size, fun k hk _ => hb.block k hk⟩ (by
    rcases hv : v.ownBlock with _ | g
    · exact .inl rfl
    · exact .inr (by simp))
theorem OwnR.at_ {w : World} {B n c : Nat} {A : Option Addr} {rs : List RV} (h : OwnR w B (.slice A n c) n rs) (h0 : 0 < n) :
    ∃ g, A = some ⟨g, 0, none⟩ ∧ B ≤ g ∧ g < w.heap.size ∧ (∀ k, k < n → w.cell? ⟨g, k, none⟩ = some ((rs[k]?.getD noRow).val)) ∧ (∀ k, w.frozen? ⟨g, k, none⟩ = false) := by
  obtain ⟨g, cap, hv, hge, hlt⟩ := World.ownsRow.form h h0
  injection hv with hA _ hc
  subst hA
  subst hc
  have hcell := World.ownsRow.cells h (g := g) rfl
  refine ⟨g, rfl, hge, hlt, fun k hk => ?_, fun k => World.ownsRow.frozenAt h k⟩
  have := hcell k ((rs[k]?.getD noRow).val) (by
    have hl := h.len
    rw [List.getElem?_map, List.getElem?_eq_getElem (by omega)]; rfl)
  by_cases hk0 : k = 0
  · subst hk0; simpa [Addr.add] using this
  · simpa [Addr.add, hk0] using this
theorem OwnR.rr {w : World} {B n c : Nat} {A : Option Addr} {rs : List RV} (h : OwnR w B (.slice A n c) n rs) (hn : n ≤ 9223372036854775807) (hs : ∀ r ∈ rs, Sl w r.1 r.2.1 r.2.2.1 r.2.2.2) : RRows w A n rs := by
  refine ⟨h.len, hn, hs, fun h0 => ?_⟩
  obtain ⟨g, hA, _, hg, hc, _⟩ := h.at_ h0
  exact ⟨g, 0, hA, hg, fun k hk => by rw [Nat.zero_add]; exact hc k hk⟩
theorem OwnR.set {w : World} {B n c g : Nat} {rs : List RV} (h : OwnR w B (.slice (some ⟨g, 0, none⟩) n c) n rs) (k : Nat) (r : RV) :
    OwnR (w.setCell ⟨g, k, none⟩ r.val) B (.slice (some ⟨g, 0, none⟩) n c) n (rs.set k r) := by
  have := (World.ownsRow.stored h k r.val).1
  unfold OwnR
  rw [List.map_set]
  exact this

theorem infoRow : (Try.prog.info? 29).map (fun i => (i.zero, i.size, i.bytes)) = some (some (.slice none 0 0), 1, 24) := by kernel_rfl

/-- 'out = append(out, row)'. -/
theorem wpList_app1R {ops : Array Oper} {rest : List Oper} {o : Oper} {a : Act} {w : World} {Q : Exit → Act → World → Prop} (hgd : o.guard = none) (s x : Operand)
    (ho : o.op = .call { callee := .builtin .append, args := #[s, x], argTypes := #[39, 39] })
    (B n : Nat) (v : Value) (rs : List RV) (hs : a.eval s = v) (hown : OwnR w B v n rs) (g : Nat) (r : RV) (hx : a.eval x = .slice (some ⟨g, 0, none⟩) 1 1)
    (hc : w.cell? ⟨g, 0, none⟩ = some r.val) (hn : n + 1 ≤ 1000000) (hbase : B ≤ w.heap.size)
    (h : ∀ A' c' w', OwnR w' B (.slice A' (n + 1) c') (n + 1) (rs ++ [r]) → (∀ B0 W0, B0 ≤ B → Below B0 W0 w → Below B0 W0 w') → wpList Try.prog ops Q rest (a.put o.dst (.slice A' (n + 1) c')) w') :
    wpList Try.prog ops Q (o :: rest) a w := by
  obtain ⟨i0, hi, hz0, hz1, hz2⟩ := info_parts infoRow
  refine wpList_append_own w hgd s x 39 ho B 29 i0 (.slice none 0 0) 1 24 Try.underlying39 hi hz0 hz1 hz2 rfl (by decide) v n _ hs hown ⟨g, 0, none⟩ 1 1 [r.val] hx rfl (fun j u hj => ?_) (by simp [Value.oneCell', RV.val])
    (by unfold maxLen; omega) (by omega) hbase (fun v' w' h2 h3 _ => ?_)
  · have hj0 : j = 0 := by
      rcases j with _ | j
      · rfl
      · simp at hj
    subst hj0
    simp at hj
    subst hj
    simpa [Addr.add] using hc
  · have h2' : OwnR w' B v' (n + 1) (rs ++ [r]) := by unfold OwnR; rw [List.map_append]; exact h2
    obtain ⟨A', c', hv, _⟩ := h2'.form
    subst hv
    exact h A' c' w' h2' (fun B0 W0 hB0 hb => hb.grown h3 (Nat.le_trans hB0 hbase) (fun k hk => Nat.le_trans hB0 (World.ownsRow.lt hown k hk).1))

/-- 'out = append(out, rows...)'. -/
theorem wpList_appLR {ops : Array Oper} {rest : List Oper} {o : Oper} {a : Act} {w : World} {Q : Exit → Act → World → Prop} (hgd : o.guard = none) (s x : Operand)
    (ho : o.op = .call { callee := .builtin .append, args := #[s, x], argTypes := #[39, 39] })
    (B n : Nat) (v : Value) (rs : List RV) (hs : a.eval s = v) (hown : OwnR w B v n rs) (ad : Addr) (m c : Nat) (qs : List RV) (hx : a.eval x = .slice (some ad) m c)
    (hC : RRows w (some ad) m qs) (hn : n + m ≤ 1000000) (hbase : B ≤ w.heap.size)
    (h : ∀ A' c' w', OwnR w' B (.slice A' (n + m) c') (n + m) (rs ++ qs) → (∀ B0 W0, B0 ≤ B → Below B0 W0 w → Below B0 W0 w') → wpList Try.prog ops Q rest (a.put o.dst (.slice A' (n + m) c')) w') :
    wpList Try.prog ops Q (o :: rest) a w := by
  obtain ⟨i0, hi, hz0, hz1, hz2⟩ := info_parts infoRow
  refine wpList_append_own w hgd s x 39 ho B 29 i0 (.slice none 0 0) 1 24 Try.underlying39 hi hz0 hz1 hz2 rfl (by decide) v n _ hs hown ad m c (qs.map RV.val) hx (by simp [hC.len]) (fun j u hj => ?_) (by
      intro u hu
      obtain ⟨y, _, rfl⟩ := List.mem_map.1 hu
      rfl)
    (by unfold maxLen; omega) (by omega) hbase (fun v' w' h2 h3 _ => ?_)
  · have hjm : j < m := by
      rcases Nat.lt_or_ge j qs.length with hh | hh
      · have := hC.len; omega
      · rw [List.getElem?_eq_none (by simpa using hh)] at hj; cases hj
    obtain ⟨b, off, e, _, hcell⟩ := hC.at_ (by omega)
    injection e with e
    subst e
    have := hcell j hjm
    rw [List.getElem?_map] at hj
    have hl := hC.len
    rw [List.getElem?_eq_getElem (by omega)] at hj this
    simp at hj this
    subst hj
    by_cases hj0 : j = 0
    · subst hj0; simpa [Addr.add] using this
    · simpa [Addr.add, hj0] using this
  · have h2' : OwnR w' B v' (n + m) (rs ++ qs) := by unfold OwnR; rw [List.map_append]; exact h2
    obtain ⟨A', c', hv, _⟩ := h2'.form
    subst hv
    exact h A' c' w' h2' (fun B0 W0 hB0 hb => hb.grown h3 (Nat.le_trans hB0 hbase) (fun k hk => Nat.le_trans hB0 (World.ownsRow.lt hown k hk).1))
end Go.Proofs.Ytdhfckdnfppieaa
