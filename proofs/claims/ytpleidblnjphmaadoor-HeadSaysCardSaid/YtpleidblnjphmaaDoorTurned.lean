/- slices.Sort, Reverse, Delete, Index, Sorted on slices of the call's own, out of the shelf's contracts. -/
import Derived.Sort.OwnSortedInts
import Derived.Test.YtpleidblnjphmaaDoorShelf
import Derived.Test.YtpleidblnjphmaaDoorSeq2
namespace Go.Proofs.YtpleidblnjphmaaDoor
open Go Go.RowKit Go.Shelf Go.Sort
set_option linter.unusedVariables false

def sortL (xs : List Int) : List Int := xs.mergeSort fun x y => decide (x ≤ y)
theorem sortL_length (xs : List Int) : (sortL xs).length = xs.length := List.length_mergeSort _

theorem own_holds {w : World} {B n g c : Nat} {xs : List Int} (h : Own w B (.slice (some ⟨g, 0, none⟩) n c) n xs) : Holds (Value.int .i64) w g 0 xs.toArray ∧ g < w.heap.size ∧ n ≤ c ∧ c ≤ maxLen := by
  have hl := h.len
  rcases h.2 with ⟨h0, _⟩ | ⟨g', cap, cur, hv, _, hgb, r1, r2, r3, r4⟩
  · cases h0
  · cases hv
    exact ⟨holds_of_blockI hgb (by rw [hl]; simpa using r4), (Array.getElem?_eq_some_iff.1 hgb).1, r1, r2⟩
theorem own_put {w : World} {B n g c : Nat} {xs : List Int} (h : Own w B (.slice (some ⟨g, 0, none⟩) n c) n xs) (ys : List Int) (hy : ys.length = n) (q : Nat) (os : Array Obj) :
    Own (grow (putRow (Value.int .i64) (Sort.ahead w q) g 0 ys.toArray) os) B (.slice (some ⟨g, 0, none⟩) n c) n ys := by
  have hl := h.len
  rcases h.2 with ⟨h0, _⟩ | ⟨g', cap, cur, hv, hb, hgb, r1, r2, r3, r4⟩
  · cases h0
  · cases hv
    subst hl
    exact ownsRow_sortedI hy hb hgb r1 r2 r3
theorem own_some {w : World} {B n : Nat} {v : Value} {xs : List Int} (h : Own w B v n xs) : (v = .slice none 0 0 ∧ n = 0 ∧ xs = []) ∨ ∃ g c, v = .slice (some ⟨g, 0, none⟩) n c := by
  have hl := h.len
  rcases h.2 with ⟨h0, h1⟩ | ⟨g', cap, cur, hv, _⟩
  · exact .inl ⟨h0, h1, List.eq_nil_of_length_eq_zero (by omega)⟩
  · exact .inr ⟨_, _, hv⟩

theorem sort_own {w : World} {B n : Nat} {v : Value} {xs : List Int} (h : Own w B v n xs) (hn : n ≤ 1000) :
    Calls Tryd.prog 55 #[v] w fun e w' => e = .returned (.tuple #[]) ∧ Own w' B v n (sortL xs) ∧ w.grownBy w' v.ownBlock := by
  have hl := h.len
  rcases own_some h with ⟨rfl, rfl, rfl⟩ | ⟨g, c, rfl⟩
  · refine (Tryd.slices_Sort_int_none none 0 w).mono ?_
    rintro e w' ⟨rfl, rfl⟩
    exact ⟨rfl, by simpa [sortL] using h, ⟨rfl, rfl, rfl, Nat.le_refl _, fun _ _ _ => rfl⟩⟩
  · obtain ⟨hH, hg, h1, h2⟩ := own_holds h
    have := Tryd.slices_Sort_int g 0 c xs w hH hg (by omega)
    rw [hl] at this
    refine this.mono ?_
    rintro e w' ⟨rfl, q, os, rfl⟩
    exact ⟨rfl, own_put h _ (by rw [← hl]; exact sortL_length xs) q os, grownBy_sortedI _⟩
theorem reverse_own {w : World} {B n : Nat} {v : Value} {xs : List Int} (h : Own w B v n xs) (hn : n ≤ 1000) :
    Calls Tryd.prog 51 #[v] w fun e w' => e = .returned (.tuple #[]) ∧ Own w' B v n xs.reverse ∧ w.grownBy w' v.ownBlock := by
  have hl := h.len
  rcases own_some h with ⟨rfl, rfl, rfl⟩ | ⟨g, c, rfl⟩
  · refine (Tryd.slices_Reverse_int_empty none 0 w).mono ?_
    rintro e w' ⟨rfl, rfl⟩
    exact ⟨rfl, h, ⟨rfl, rfl, rfl, Nat.le_refl _, fun _ _ _ => rfl⟩⟩
  · obtain ⟨hH, hg, h1, h2⟩ := own_holds h
    have := Tryd.slices_Reverse_int g 0 c xs w hH (by omega)
    rw [hl] at this
    refine this.mono ?_
    rintro e w' ⟨rfl, q, rfl⟩
    rw [← grow_empty (putRow _ _ _ _ _)]
    exact ⟨rfl, own_put h _ (by simpa using hl) q _, grownBy_sortedI _⟩
theorem own_cut {w : World} {B n m g c : Nat} {xs : List Int} (h : Own w B (.slice (some ⟨g, 0, none⟩) n c) n xs) (hm : m ≤ n) : Own w B (.slice (some ⟨g, 0, none⟩) m c) m (xs.take m) := by
  have hl := h.len
  rcases h.2 with ⟨h0, _⟩ | ⟨g', cap, cur, hv, hb, hgb, r1, r2, r3, r4⟩
  · cases h0
  · cases hv
    refine ⟨by simp; omega, .inr ⟨g, c, cur, rfl, hb, hgb, by omega, r2, r3, ?_⟩⟩
    rw [List.map_take, ← r4, List.take_take]
    congr 1
    omega
theorem delete_own {w : World} {B n g c i : Nat} {xs : List Int} (h : Own w B (.slice (some ⟨g, 0, none⟩) n c) n xs) (hi : i < n) :
    Calls Tryd.prog 48 #[.slice (some ⟨g, 0, none⟩) n c, .int .i64 i, .int .i64 ((i + 1 : Nat) : Int)] w fun e w' =>
      e = .returned (.slice (some ⟨g, 0, none⟩) (n - 1) c) ∧ Own w' B (.slice (some ⟨g, 0, none⟩) (n - 1) c) (n - 1) (xs.eraseIdx i) ∧ w.grownBy w' (some g) := by
  have hl := h.len
  obtain ⟨hH, hg, h1, h2⟩ := own_holds h
  have := Tryd.slices_Delete_int g 0 c i (i + 1) xs w hH (by omega) (by unfold maxLen at h2; omega) (by omega) (by omega)
  rw [hl] at this
  refine this.mono ?_
  rintro e w' ⟨rfl, q, rfl⟩
  have e1 : n - (i + 1 - i) = n - 1 := by omega
  rw [e1, ← grow_empty (putRow _ _ _ _ _)]
  have hlen : (xs.take i ++ xs.drop (i + 1) ++ List.replicate (i + 1 - i) 0).length = n := by simp; omega
  refine ⟨rfl, ?_, grownBy_sortedI _⟩
  have := own_cut (own_put h _ hlen q #[]) (m := n - 1) (by omega)
  rw [List.eraseIdx_eq_take_drop_succ]
  have ht : (xs.take i ++ xs.drop (i + 1) ++ List.replicate (i + 1 - i) 0).take (n - 1) = xs.take i ++ xs.drop (i + 1) := by
    have h2 : (xs.take i ++ xs.drop (i + 1)).length = n - 1 := by simp; omega
    rw [← h2, List.take_left']
    rfl
  rwa [ht] at this

theorem own_grow {w w' : World} {B B' n m : Nat} {v u : Value} {xs ys : List Int} (h : Own w B v n xs) (hu : Own w B' u m ys) (hB : B' > w.heap.size ∨ v.ownBlock ≠ u.ownBlock) (hg : w.grownBy w' u.ownBlock) : Own w' B v n xs := by
  refine World.ownsRow.kept h hg ?_
  rcases hB with hB | hB
  · rcases hv : u.ownBlock with _ | k
    · rcases hw : v.ownBlock with _ | k'
      · exact .inl rfl
      · exact .inr (by simp)
    · have := World.ownsRow.lt hu k hv
      omega
  · exact .inr hB

set_option maxHeartbeats 1000000 in
theorem sorted_ok (Bs : Nat) (A : Option Addr) (len cap : Nat) (xs : List Int) (w : World) (hA : Rd w A len xs) (hl : len ≤ 1000) (hBs : Bs < w.heap.size) (hcb : w.cell? ⟨Bs, 0, none⟩ = some (.slice A len cap)) :
    Calls Tryd.prog 49 #[.func (.func 56) #[] #[.pointer (some ⟨Bs, 0, none⟩)]] w fun e W' =>
      ∃ v, e = .returned v ∧ Own W' w.heap.size v len (sortL xs) ∧ Below w.heap.size w W' := by
  refine (callsIn_wide (n := 5)).1 ?_
  refine callsIn_of_wp Tryd.func49 rfl trivial ?_ rfl
  simp only [Tryd.ntmps49, List.size_toArray, List.length_cons, List.length_nil, Nat.reduceAdd, Nat.reduceSub, Array.replicate_succ, Array.replicate_zero, List.push_toArray, List.append_toArray, List.nil_append, List.cons_append]
  gi_wp2_with (first
    | (refine ⟨trivial, ?_⟩; gi_at_call 54; refine (collect_ok Bs A len cap xs _ hA hl hBs hcb).mono ?_; rintro e w1 ⟨v, rfl, hown, hb⟩)
    | (refine ⟨trivial, ?_⟩; gi_at_call 55; refine (callsIn_wide.2 (sort_own hown hl)).mono ?_; rintro e w2 ⟨rfl, hown2, hg2⟩))
  go_ret
  exact ⟨v, rfl, hown2, hb.grown hg2 hb.size (fun k e => (World.ownsRow.lt hown k e).1)⟩
end Go.Proofs.YtpleidblnjphmaaDoor
