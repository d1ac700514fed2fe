/- The reference's Factors by its contract: unknowns taken away one after the other. -/
import Derived.Test.YtdhfckdnfppieaaDoorGaussP
import Derived.Test.YtdhfckdnfppieaaDoorRowKp
import Derived.Deep.RegionHeld3
namespace Go.Proofs.YtdhfckdnfppieaaDoor
open Go Go.RowKit
set_option maxRecDepth 100000
set_option linter.unusedVariables false

theorem dat_setK (rs : List RV) (k : Nat) (r : RV) : dat (rs.set k r) = (dat rs).set k r.2.2.2 := by simp [dat, List.map_set]
theorem dat_app1 (rs : List RV) (r : RV) : dat (rs ++ [r]) = dat rs ++ [r.2.2.2] := by simp [dat]
theorem OwnK.read {w : World} {B n c g i L : Nat} {rs : List RV} (h : OwnK w B (.slice (some ⟨g, 0, none⟩) n c) n rs) (hi : i < n) (hl : ((dat rs)[i]?.getD []).length = L) (hL : 0 < L) :
    ∃ b d, rs[i]?.getD noRow = (some ⟨b, 0, none⟩, L, d, (dat rs)[i]?.getD []) ∧ w.cell? ⟨g, i, none⟩ = some (.slice (some ⟨b, 0, none⟩) L d) ∧ Own w B (.slice (some ⟨b, 0, none⟩) L d) L ((dat rs)[i]?.getD []) ∧ b < w.heap.size ∧
      ∀ j, j < L → w.cell? ⟨b, j, none⟩ = some (.int .i64 (entI (dat rs) i j)) := by
  have hr := h.row hi
  obtain ⟨g', hA, _, _, hc, _⟩ := h.1.at_ (by omega)
  injection hA with hA
  injection hA with hA _ _
  subst hA
  have hci := hc i hi
  have hd := dat_get rs i
  rcases hrv : rs[i]?.getD noRow with ⟨A, L', d, zs⟩
  rw [hrv] at hr hci hd
  change (dat rs)[i]?.getD [] = zs at hd
  have hlen : zs.length = L' := Own.len hr
  rw [hd] at hl
  obtain rfl : L' = L := by omega
  obtain ⟨b, rfl, _, hb, hcell, _⟩ := Own.at_ (show Own w B (.slice A L' d) L' zs from hr) hL
  refine ⟨b, d, by rw [hd], hci, by rw [hd]; exact hr, hb, fun j hj => ?_⟩
  unfold entI
  rw [hd]; exact hcell j hj
theorem OwnR.lt {w : World} {B n c g : Nat} {rs : List RV} (h : OwnR w B (.slice (some ⟨g, 0, none⟩) n c) n rs) (hn : 0 < n) : g < w.heap.size := by
  obtain ⟨g', hA, _, h2, _, _⟩ := h.at_ hn
  injection hA with hA
  injection hA with hA _ _
  subst hA
  exact h2
theorem own_ne {w : World} {B B' n c g b L d : Nat} {rs : List RV} {zs : List Int} (h : OwnR w B (.slice (some ⟨g, 0, none⟩) n c) n rs) (h2 : Own w B' (.slice (some ⟨b, 0, none⟩) L d) L zs) : b ≠ g := by
  rintro rfl
  rcases h.2 with ⟨h1, _⟩ | ⟨g1, _, _, h1, _, h3, _⟩
  · cases h1
  · rcases h2.2 with ⟨k1, _⟩ | ⟨g2, _, _, k1, _, k3, _⟩
    · cases k1
    · injection h1 with h1
      injection h1 with h1
      injection h1 with h1
      injection k1 with k1
      injection k1 with k1
      injection k1 with k1
      rw [← h1] at h3
      rw [← k1, h3] at k3
      injection k3 with k3
      injection k3 with _ h5 _
      exact absurd h5 (by decide)
/-- What holds of the rows, k unknowns taken away. -/
def FacI (w wr : World) (g c n k : Nat) (xs ys : List Int) (rs : List RV) : Prop := OwnK wr w.heap.size (.slice (some ⟨g, 0, none⟩) n c) n rs ∧ GP xs ys n k (dat rs) ∧ Below w.heap.size w wr
/-- In the middle of the next: the rows before the i-th are done. -/
def FacJ (w wr : World) (g c n k i : Nat) (xs ys : List Int) (rs : List RV) (r : RV) : Prop := FacI w wr g c n k xs ys rs ∧ rs[k]?.getD noRow = r ∧ Mx (dat rs) k k = 1 ∧ ∀ a, a < i → a ≠ k → Mx (dat rs) a k = 0
theorem FacI.read {w wr : World} {g c n k : Nat} {xs ys : List Int} {rs : List RV} (h : FacI w wr g c n k xs ys rs) {i : Nat} (hi : i < n) :
    ∃ b d, rs[i]?.getD noRow = (some ⟨b, 0, none⟩, n + 1, d, (dat rs)[i]?.getD []) ∧ wr.cell? ⟨g, i, none⟩ = some (.slice (some ⟨b, 0, none⟩) (n + 1) d) ∧ Own wr w.heap.size (.slice (some ⟨b, 0, none⟩) (n + 1) d) (n + 1) ((dat rs)[i]?.getD []) ∧ b < wr.heap.size ∧
      (∀ j, j < n + 1 → wr.cell? ⟨b, j, none⟩ = some (.int .i64 (entI (dat rs) i j))) ∧ ∀ j, Byte (entI (dat rs) i j) := by
  obtain ⟨b, d, h1, h2, h3, h4, h5⟩ := h.1.read hi (h.2.1.row i hi).1 (by omega)
  exact ⟨b, d, h1, h2, h3, h4, h5, fun j => h.2.1.ent hi j⟩
theorem FacI.below {w wr w' : World} {g c n k : Nat} {xs ys : List Int} {rs : List RV} (h : FacI w wr g c n k xs ys rs) (hb : Below wr.heap.size wr w') : FacI w w' g c n k xs ys rs :=
  ⟨h.1.below hb, h.2.1, h.2.2.trans (hb.mono h.2.2.size)⟩
theorem FacI.base {w wr : World} {g c n k : Nat} {xs ys : List Int} {rs : List RV} (h : FacI w wr g c n k xs ys rs) (hn : 0 < n) : w.heap.size ≤ g ∧ g < wr.heap.size ∧ ∀ j, wr.frozen? ⟨g, j, none⟩ = false := by
  obtain ⟨g', hA, h1, h2, _, h3⟩ := h.1.1.at_ hn
  injection hA with hA
  injection hA with hA _ _
  subst hA
  exact ⟨h1, h2, h3⟩

/-- The factors come to the values. -/
def FacOk (xs ys : List Int) (n : Nat) (fs : List Int) : Prop := ∃ rs, GP xs ys n n rs ∧ fs = (List.range n).map fun j => entI rs j n
theorem FacOk.horn {xs ys : List Int} {n : Nat} {fs : List Int} (h : FacOk xs ys n fs) (hx : ∀ x ∈ xs, 0 ≤ x ∧ x ≤ 255) (hd : xs.Nodup) (hn : xs.length = n) (hy : ∀ y ∈ ys, 0 ≤ y ∧ y ≤ 255) {a : Nat} (ha : a < 256) :
    fs.length = n ∧ (∀ f ∈ fs, 0 ≤ f ∧ f ≤ 255) ∧ horn (a : Int) fs = thrI xs ys (a : Int) n := by
  obtain ⟨rs, hg, rfl⟩ := h
  have hb : ∀ f ∈ (List.range n).map fun j => entI rs j n, 0 ≤ f ∧ f ≤ 255 := fun f hf => by
    obtain ⟨j, hj, rfl⟩ := List.mem_map.1 hf
    exact hg.ent (List.mem_range.1 hj) n
  refine ⟨by simp, hb, ?_⟩
  rw [hornR_eval hb, fac_thr (c := fun j => Mx rs j n) hx hd hn hy (fun j hj => hg.lt hj n) (hg.done hx hn hy) ha]
  congr 2
  unfold natsR
  rw [List.map_map]; rfl
end Go.Proofs.YtdhfckdnfppieaaDoor
