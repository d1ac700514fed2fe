/- Slices of structs of two one-cell fields: read, and made by the call. -/
import Derived.Test.YtllacbogbbbcaaaOwn
import Derived.Test.YtllacbogbbbcaaaOpen
import Derived.Deep.SlicePairs
namespace Go.Proofs.Ytllacbogbbbcaaa
open Go Go.RowKit
set_option maxRecDepth 20000
set_option linter.unusedVariables false

abbrev VV := Value × Value
def noVV : VV := (undef, undef)
def flat (ps : List VV) : List Value := ps.flatMap fun p => [p.1, p.2]
theorem flat_len (ps : List VV) : (flat ps).length = ps.length * 2 := by
  induction ps with
  | nil => rfl
  | cons p ps ih =>
    unfold flat at *
    rw [List.flatMap_cons, List.length_append, ih, List.length_cons]; simp; omega
theorem flat_append (a b : List VV) : flat (a ++ b) = flat a ++ flat b := by simp [flat]
theorem flat_get : ∀ (ps : List VV) (k : Nat), k < ps.length → (flat ps)[k * 2]? = some (ps[k]?.getD noVV).1 ∧ (flat ps)[k * 2 + 1]? = some (ps[k]?.getD noVV).2
  | [], k, h => by simp at h
  | p :: ps, 0, _ => by unfold flat; exact ⟨rfl, rfl⟩
  | p :: ps, k + 1, h => by
    have := flat_get ps k (by simpa using h)
    have e : flat (p :: ps) = p.1 :: p.2 :: flat ps := rfl
    rw [e, show (k + 1) * 2 = k * 2 + 1 + 1 from by omega, List.getElem?_cons_succ, List.getElem?_cons_succ, show k * 2 + 1 + 1 + 1 = (k * 2 + 1) + 1 + 1 from rfl, List.getElem?_cons_succ, List.getElem?_cons_succ, List.getElem?_cons_succ]
    exact this

def RdP (w : World) (A : Option Addr) (n : Nat) (ps : List VV) : Prop :=
  ps.length = n ∧ n ≤ 9223372036854775807 ∧
    (0 < n → ∃ b off, A = some ⟨b, off, none⟩ ∧ b < w.heap.size ∧ ∀ k, k < n → w.cell? ⟨b, off + k * 2, none⟩ = some (ps[k]?.getD noVV).1 ∧ w.cell? ⟨b, off + k * 2 + 1, none⟩ = some (ps[k]?.getD noVV).2)
theorem RdP.len {w : World} {A : Option Addr} {n : Nat} {ps : List VV} (h : RdP w A n ps) : ps.length = n := h.1
theorem RdP.max {w : World} {A : Option Addr} {n : Nat} {ps : List VV} (h : RdP w A n ps) : n ≤ 9223372036854775807 := h.2.1
theorem RdP.at_ {w : World} {A : Option Addr} {n : Nat} {ps : List VV} (h : RdP w A n ps) (hn : 0 < n) :
    ∃ b off, A = some ⟨b, off, none⟩ ∧ b < w.heap.size ∧ ∀ k, k < n → w.cell? ⟨b, off + k * 2, none⟩ = some (ps[k]?.getD noVV).1 ∧ w.cell? ⟨b, off + k * 2 + 1, none⟩ = some (ps[k]?.getD noVV).2 := h.2.2 hn
theorem RdP.below {w w' : World} {A : Option Addr} {n : Nat} {ps : List VV} (h : RdP w A n ps) (hb : Below w.heap.size w w') : RdP w' A n ps :=
  ⟨h.1, h.2.1, fun hn => by
    obtain ⟨b, off, e, hlt, hc⟩ := h.2.2 hn
    exact ⟨b, off, e, Nat.lt_of_lt_of_le hlt hb.size, fun k hk => ⟨(hb.cell (p := ⟨b, off + k * 2, none⟩) hlt).trans (hc k hk).1, (hb.cell (p := ⟨b, off + k * 2 + 1, none⟩) hlt).trans (hc k hk).2⟩⟩⟩
theorem RdP.nil (w : World) (A : Option Addr) : RdP w A 0 [] := ⟨rfl, by decide, fun h => absurd h (by decide)⟩
theorem RdP.alloc {w : World} {A : Option Addr} {n : Nat} {ps : List VV} (h : RdP w A n ps) (o : Obj) : RdP (w.alloc o) A n ps := h.below ((Below.refl _ _).alloc (Nat.le_refl _) o)

/-- The call owns, from block B on, a slice v of n structs. -/
def OwnP (w : World) (B : Nat) (v : Value) (n : Nat) (ps : List VV) : Prop := w.ownsRow B 40 2 v n (flat ps)
theorem OwnP.nil (w : World) (B : Nat) : OwnP w B (.slice none 0 0) 0 [] := World.ownsRow_nil w B _ _
theorem OwnP.len {w : World} {B n : Nat} {v : Value} {ps : List VV} (h : OwnP w B v n ps) : ps.length = n := by
  have := h.1; rw [flat_len] at this; omega
theorem OwnP.form {w : World} {B n : Nat} {v : Value} {ps : List VV} (h : OwnP w B v n ps) : ∃ A c, v = .slice A n c ∧ n ≤ c := by
  rcases h.2 with ⟨rfl, rfl⟩ | ⟨g, cap, cur, rfl, hh⟩
  · exact ⟨_, _, rfl, Nat.le_refl _⟩
  · exact ⟨_, _, rfl, hh.2.2.1⟩
theorem OwnP.alloc {w : World} {B n : Nat} {v : Value} {ps : List VV} (h : OwnP w B v n ps) (o : Obj) : OwnP (w.alloc o) B v n ps := World.ownsRow.alloc h o
theorem OwnP.drew {w : World} {B n : Nat} {v : Value} {ps : List VV} (h : OwnP w B v n ps) : OwnP w.drew B v n ps := h
theorem OwnP.drewN {w : World} {B n : Nat} {v : Value} {ps : List VV} (h : OwnP w B v n ps) (q : Nat) : OwnP (w.drewN q) B v n ps := h
theorem OwnP.below {w w' : World} {B n : Nat} {v : Value} {ps : List VV} (h : OwnP w B v n ps) (hb : Below w.heap.size w w') : OwnP w' B v n ps :=
  World.ownsRow.kept (row := none) h ⟨hb.os, hb.tape, hb.output, hb.size, fun k hk _ => hb.block k hk⟩ (by
    rcases hv : v.ownBlock with _ | g
    · exact .inl rfl
    · exact .inr (by simp))
theorem OwnP.mono {w : World} {B B' : Nat} {v : Value} {n : Nat} {ps : List VV} (h : OwnP w B v n ps) (hb : B' ≤ B) : OwnP w B' v n ps := by
  refine ⟨h.1, ?_⟩
  rcases h.2 with h | ⟨g, cap, cur, h1, h2, h3⟩
  · exact .inl h
  · exact .inr ⟨g, cap, cur, h1, Nat.le_trans hb h2, h3⟩
theorem OwnP.at_ {w : World} {B n c : Nat} {A : Option Addr} {ps : List VV} (h : OwnP w B (.slice A n c) n ps) (h0 : 0 < n) :
    ∃ g, A = some ⟨g, 0, none⟩ ∧ B ≤ g ∧ g < w.heap.size ∧ (∀ k, k < n → w.cell? ⟨g, k * 2, none⟩ = some (ps[k]?.getD noVV).1 ∧ w.cell? ⟨g, k * 2 + 1, none⟩ = some (ps[k]?.getD noVV).2) ∧ (∀ k, w.frozen? ⟨g, k, none⟩ = false) := by
  obtain ⟨g, cap, hv, hge, hlt⟩ := World.ownsRow.form h h0
  injection hv with hA _ hc
  subst hA
  subst hc
  have hcell := World.ownsRow.cells h (g := g) rfl
  have hl := h.len
  refine ⟨g, rfl, hge, hlt, fun k hk => ?_, fun k => World.ownsRow.frozenAt h k⟩
  obtain ⟨e1, e2⟩ := flat_get ps k (by omega)
  have c1 := hcell (k * 2) _ e1
  have c2 := hcell (k * 2 + 1) _ e2
  constructor
  · by_cases hk0 : k = 0
    · subst hk0; simpa [Addr.add] using c1
    · have hk2 : ¬ (k * 2 = 0) := by omega
      simpa [Addr.add, hk2] using c1
  · simpa [Addr.add] using c2
theorem OwnP.rd {w : World} {B n c : Nat} {A : Option Addr} {ps : List VV} (h : OwnP w B (.slice A n c) n ps) (hn : n ≤ 9223372036854775807) : RdP w A n ps := by
  refine ⟨h.len, hn, fun h0 => ?_⟩
  obtain ⟨g, hA, _, hg, hc, _⟩ := h.at_ h0
  exact ⟨g, 0, hA, hg, fun k hk => by rw [Nat.zero_add]; exact hc k hk⟩

theorem infoPair : (Try.prog.info? 40).map (fun i => (i.zero, i.size, i.bytes)) = some (some (.agg #[.int .i64 0, .int .i64 0]), 2, 16) := by kernel_rfl

theorem wpList_app1P {ops : Array Oper} {rest : List Oper} {o : Oper} {a : Act} {w : World} {Q : Exit → Act → World → Prop} (hgd : o.guard = none) (s x : Operand)
    (ho : o.op = .call { callee := .builtin .append, args := #[s, x], argTypes := #[38, 38] })
    (B n : Nat) (v : Value) (ps : List VV) (hs : a.eval s = v) (hown : OwnP w B v n ps) (g : Nat) (p : VV) (hx : a.eval x = .slice (some ⟨g, 0, none⟩) 1 1)
    (hc : w.cell? ⟨g, 0, none⟩ = some p.1) (hc2 : w.cell? ⟨g, 1, none⟩ = some p.2) (hp : p.1.oneCell' = true ∧ p.2.oneCell' = true) (hn : n + 1 ≤ 1000000) (hbase : B ≤ w.heap.size)
    (h : ∀ A' c' w', OwnP w' B (.slice A' (n + 1) c') (n + 1) (ps ++ [p]) → (∀ B0 W0, B0 ≤ B → Below B0 W0 w → Below B0 W0 w') → wpList Try.prog ops Q rest (a.put o.dst (.slice A' (n + 1) c')) w') :
    wpList Try.prog ops Q (o :: rest) a w := by
  obtain ⟨i0, hi, hz0, hz1, hz2⟩ := info_parts infoPair
  refine wpList_append_own w hgd s x 38 ho B 40 i0 (.agg #[.int .i64 0, .int .i64 0]) 2 16 Try.underlying38 hi hz0 hz1 hz2 rfl (by decide) v n _ hs hown ⟨g, 0, none⟩ 1 1 [p.1, p.2] hx rfl (fun j u hj => ?_) (by simp [hp.1, hp.2])
    (by unfold maxLen; omega) (by omega) hbase (fun v' w' h2 h3 _ => ?_)
  · rcases j with _ | _ | j
    · simp at hj; subst hj; simpa [Addr.add] using hc
    · simp at hj; subst hj; simpa [Addr.add] using hc2
    · simp at hj
  · have h2' : OwnP w' B v' (n + 1) (ps ++ [p]) := by unfold OwnP; rw [flat_append]; exact h2
    obtain ⟨A', c', hv, _⟩ := h2'.form
    subst hv
    exact h A' c' w' h2' (fun B0 W0 hB0 hb => hb.grown h3 (Nat.le_trans hB0 hbase) (fun k hk => Nat.le_trans hB0 (World.ownsRow.lt hown k hk).1))
theorem step_app1P {ops : Array Oper} {o : Oper} {a : Act} {w : World} {K : Act → World → Prop} {Q : Exit → Act → World → Prop} {E : Prop} (hgd : o.guard = none) (s x : Operand)
    (ho : o.op = .call { callee := .builtin .append, args := #[s, x], argTypes := #[38, 38] })
    (B n : Nat) (v : Value) (ps : List VV) (hs : a.eval s = v) (hown : OwnP w B v n ps) (g : Nat) (p : VV) (hx : a.eval x = .slice (some ⟨g, 0, none⟩) 1 1)
    (hc : w.cell? ⟨g, 0, none⟩ = some p.1) (hc2 : w.cell? ⟨g, 1, none⟩ = some p.2) (hp : p.1.oneCell' = true ∧ p.2.oneCell' = true) (hn : n + 1 ≤ 1000000) (hbase : B ≤ w.heap.size)
    (h : ∀ A' c' w', OwnP w' B (.slice A' (n + 1) c') (n + 1) (ps ++ [p]) → (∀ B0 W0, B0 ≤ B → Below B0 W0 w → Below B0 W0 w') → K (a.put o.dst (.slice A' (n + 1) c')) w') :
    if Region.wanted o (yielded ops a.tmps) = true then Oper.wp Try.prog o a w K Q else E := by
  have hw : Region.wanted o (yielded ops a.tmps) = true := by simp [Region.wanted, hgd]
  rw [if_pos hw]
  obtain ⟨i0, hi, hz0, hz1, hz2⟩ := info_parts infoPair
  refine wp_append_own w s x 38 ho B 40 i0 (.agg #[.int .i64 0, .int .i64 0]) 2 16 Try.underlying38 hi hz0 hz1 hz2 rfl (by decide) v n _ hs hown ⟨g, 0, none⟩ 1 1 [p.1, p.2] hx rfl (fun j u hj => ?_) (by simp [hp.1, hp.2])
    (by unfold maxLen; omega) (by omega) hbase (fun v' w' h2 h3 _ => ?_)
  · rcases j with _ | _ | j
    · simp at hj; subst hj; simpa [Addr.add] using hc
    · simp at hj; subst hj; simpa [Addr.add] using hc2
    · simp at hj
  · have h2' : OwnP w' B v' (n + 1) (ps ++ [p]) := by unfold OwnP; rw [flat_append]; exact h2
    obtain ⟨A', c', hv, _⟩ := h2'.form
    subst hv
    exact h A' c' w' h2' (fun B0 W0 hB0 hb => hb.grown h3 (Nat.le_trans hB0 hbase) (fun k hk => Nat.le_trans hB0 (World.ownsRow.lt hown k hk).1))
end Go.Proofs.Ytllacbogbbbcaaa
