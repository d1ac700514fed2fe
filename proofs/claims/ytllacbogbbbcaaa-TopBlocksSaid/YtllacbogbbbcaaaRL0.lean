/- Words for slices of slices of ints that are read: 'RRows w A n rs'. -/
import Derived.Test.YtllacbogbbbcaaaClone0
import Derived.Test.YtllacbogbbbcaaaOpen
import Derived.Deep.Matrix
namespace Go.Proofs.Ytllacbogbbbcaaa
open Go Go.RowKit
set_option maxRecDepth 20000

/-- A row: its address, length, capacity and numbers. -/
abbrev RV := Option Addr × Nat × Nat × List Int
def RV.val (r : RV) : Value := .slice r.1 r.2.1 r.2.2.1
def noRow : RV := (none, 0, 0, [])
def RRows (w : World) (A : Option Addr) (n : Nat) (rs : List RV) : Prop :=
  rs.length = n ∧ n ≤ 9223372036854775807 ∧ (∀ r ∈ rs, Sl w r.1 r.2.1 r.2.2.1 r.2.2.2) ∧
    (0 < n → ∃ b off, A = some ⟨b, off, none⟩ ∧ b < w.heap.size ∧ ∀ k, k < n → w.cell? ⟨b, off + k, none⟩ = some ((rs[k]?.getD noRow).val))
/-- The numbers alone. -/
def dat (rs : List RV) : List (List Int) := rs.map (·.2.2.2)

theorem RRows.len {w : World} {A : Option Addr} {n : Nat} {rs : List RV} (h : RRows w A n rs) : rs.length = n := h.1
theorem RRows.max {w : World} {A : Option Addr} {n : Nat} {rs : List RV} (h : RRows w A n rs) : n ≤ 9223372036854775807 := h.2.1
theorem RRows.sl {w : World} {A : Option Addr} {n : Nat} {rs : List RV} (h : RRows w A n rs) {k : Nat} (hk : k < n) :
    Sl w (rs[k]?.getD noRow).1 (rs[k]?.getD noRow).2.1 (rs[k]?.getD noRow).2.2.1 (rs[k]?.getD noRow).2.2.2 := by
  rw [List.getElem?_eq_getElem (by rw [h.1]; exact hk)]
  exact h.2.2.1 _ (List.getElem_mem _)
theorem RRows.at_ {w : World} {A : Option Addr} {n : Nat} {rs : List RV} (h : RRows w A n rs) (hn : 0 < n) :
    ∃ b off, A = some ⟨b, off, none⟩ ∧ b < w.heap.size ∧ ∀ k, k < n → w.cell? ⟨b, off + k, none⟩ = some ((rs[k]?.getD noRow).val) := h.2.2.2 hn
theorem RRows.below {w w' : World} {A : Option Addr} {n : Nat} {rs : List RV} (h : RRows w A n rs) (hb : Below w.heap.size w w') : RRows w' A n rs :=
  ⟨h.1, h.2.1, fun r hr => (h.2.2.1 r hr).below hb, fun hn => by
    obtain ⟨b, off, e, hlt, hc⟩ := h.2.2.2 hn
    exact ⟨b, off, e, Nat.lt_of_lt_of_le hlt hb.size, fun k hk => (hb.cell (p := ⟨b, off + k, none⟩) hlt).trans (hc k hk)⟩⟩
theorem RRows.cut {w : World} {A : Option Addr} {n : Nat} {rs : List RV} (h : RRows w A n rs) {cap k : Nat} (hcap : n ≤ cap) (hk : k ≤ n) : RRows w (cutA A cap k) (n - k) (rs.drop k) := by
  refine ⟨by rw [List.length_drop, h.1], Nat.le_trans (Nat.sub_le _ _) h.2.1, fun x hx => h.2.2.1 x (List.mem_of_mem_drop hx), fun hn => ?_⟩
  obtain ⟨b, off, rfl, hlt, hc⟩ := h.2.2.2 (by omega)
  refine ⟨b, off + k, ?_, hlt, fun j hj => ?_⟩
  · unfold cutA
    rw [if_neg (by omega)]
    by_cases h0 : k = 0 <;> simp [Addr.add, h0]
  · rw [show off + k + j = off + (k + j) from by omega, hc (k + j) (by omega), List.getElem?_drop]
theorem dat_len (rs : List RV) : (dat rs).length = rs.length := by simp [dat]
theorem dat_get (rs : List RV) (k : Nat) : (dat rs)[k]?.getD [] = (rs[k]?.getD noRow).2.2.2 := by
  unfold dat
  rw [List.getElem?_map]
  cases rs[k]? <;> rfl

theorem rrows_of_cells {w : World} {a : Addr} {len cap : Nat} {A : Nat → Option Addr} {L C : Nat → Nat} {Z : Nat → List Int} (hlc : len ≤ cap) (hm : cap ≤ maxLen)
    (h : ∀ r, r < cap → w.cell? (a.add r) = some (.slice (A r) (L r) (C r)) ∧ L r ≤ C r ∧ C r ≤ maxLen ∧ (Z r).length = C r ∧ (∀ n ∈ Z r, (Lit.int .i64 n).wf = true) ∧ (A r = none → C r = 0) ∧
      ∀ a', A r = some a' → 0 ≤ a'.block ∧ ∀ c, c < C r → w.cell? (a'.add c) = some (.int .i64 ((Z r).getD c 0))) :
    RRows w (some a) len ((List.range len).map fun r => (A r, L r, C r, (Z r).take (L r))) := by
  refine ⟨by simp, by unfold maxLen at hm; omega, fun r hr => ?_, fun hn => ?_⟩
  · obtain ⟨k, hk, rfl⟩ := List.mem_map.1 hr
    have hk := List.mem_range.1 hk
    obtain ⟨_, h1, h2, h3, h4, h5, h6⟩ := h k (by omega)
    refine ⟨?_, h1, h5⟩
    show Rd w (A k) (L k) ((Z k).take (L k))
    rcases hA : A k with _ | a'
    · have := h5 hA
      obtain h0 : L k = 0 := by omega
      rw [h0, List.take_zero]
      exact Rd.nil _ _
    · exact rd_of_cells (by omega) h1 h2 (fun i hi => (h6 a' hA).2 i (by omega)) h4
  · obtain ⟨b, off, spot⟩ := a
    have h0 := (h 0 (by omega)).1
    have hspot : spot = none := by simpa [Addr.add] using World.cell?_spot h0
    subst hspot
    refine ⟨b, off, rfl, by simpa [Addr.add] using lt_of_cell h0, fun k hk => ?_⟩
    have := (h k (by omega)).1
    rw [List.getElem?_map, List.getElem?_eq_getElem (by simpa using hk)]
    by_cases hk0 : k = 0
    · subst hk0; simpa [Addr.add, RV.val] using this
    · simpa [Addr.add, hk0, RV.val] using this
theorem rrows_nil (w : World) (A : Option Addr) : RRows w A 0 [] := ⟨rfl, by decide, by simp, fun h => absurd h (by decide)⟩
end Go.Proofs.Ytllacbogbbbcaaa
