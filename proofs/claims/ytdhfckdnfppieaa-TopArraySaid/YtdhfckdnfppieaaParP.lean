/- Rows taken together by exclusive or: plain laws. No program in sight. And the closed fact of the parity laws. -/
import Derived.Test.YtdhfckdnfppieaaParOf
import Derived.Test.YtdhfckdnfppieaaOwnR
namespace Go.Proofs.Ytdhfckdnfppieaa
open Go Go.RowKit
set_option maxRecDepth 20000
set_option linter.unusedVariables false

def zx (a b : List Int) : List Int := List.zipWith xorI a b
theorem zx_comm : ∀ (a b : List Int), zx a b = zx b a
  | [], [] => rfl
  | [], _ :: _ => rfl
  | _ :: _, [] => rfl
  | x :: a, y :: b => by
    have := zx_comm a b
    unfold zx at *
    rw [List.zipWith_cons_cons, List.zipWith_cons_cons, xorI_comm, this]
theorem zx_assoc : ∀ (a b c : List Int), zx (zx a b) c = zx a (zx b c)
  | [], _, _ => rfl
  | _ :: _, [], _ => rfl
  | _ :: _, _ :: _, [] => rfl
  | x :: a, y :: b, z :: c => by
    have := zx_assoc a b c
    unfold zx at *
    simp only [List.zipWith_cons_cons, xorI_assoc, this]
def zeros (m : Nat) : List Int := List.replicate m 0
theorem zx_zeros : ∀ {m : Nat} {a : List Int}, Bytes m a → zx (zeros m) a = a
  | 0, a, h => by
    rw [List.eq_nil_of_length_eq_zero h.1]; rfl
  | m + 1, [], h => by have := h.1; simp at this
  | m + 1, x :: a, h => by
    have ht : Bytes m a := ⟨by have := h.1; simpa using this, fun y hy => h.2 y (by simp [hy])⟩
    have := zx_zeros ht
    unfold zx zeros at *
    rw [List.replicate_succ, List.zipWith_cons_cons, this, zero_xorI (h.2 x (by simp)).1]
theorem zx_self : ∀ {m : Nat} {a : List Int}, a.length = m → zx a a = zeros m
  | 0, a, h => by rw [List.eq_nil_of_length_eq_zero h]; rfl
  | m + 1, [], h => by simp at h
  | m + 1, x :: a, h => by
    have := zx_self (m := m) (a := a) (by simpa using h)
    unfold zx zeros at *
    rw [List.replicate_succ, List.zipWith_cons_cons, this, xorI_self]
theorem zeros_bytes (m : Nat) : Bytes m (zeros m) := ⟨by simp [zeros], fun x hx => by rw [List.eq_of_mem_replicate hx]; decide⟩
def parF (m : Nat) (l : List (List Int)) : List Int := l.foldl zx (zeros m)
theorem fold_zx (a : List Int) : ∀ (l : List (List Int)) (b : List Int), l.foldl zx (zx a b) = zx a (l.foldl zx b)
  | [], _ => rfl
  | x :: l, b => by rw [List.foldl_cons, List.foldl_cons, zx_assoc]; exact fold_zx a l (zx b x)
theorem parF_cons {m : Nat} {x : List Int} (l : List (List Int)) : parF m (x :: l) = zx x (parF m l) := by
  unfold parF
  rw [List.foldl_cons, zx_comm, fold_zx]
theorem parF_snoc {m : Nat} {x : List Int} (l : List (List Int)) : parF m (l ++ [x]) = zx (parF m l) x := by
  unfold parF
  rw [List.foldl_append]; rfl
theorem parF_nil (m : Nat) : parF m [] = zeros m := rfl
theorem parF_append {m : Nat} (l r : List (List Int)) (hr : ∀ x ∈ r, Bytes m x) : parF m (l ++ r) = zx (parF m l) (parF m r) := by
  unfold parF
  rw [List.foldl_append]
  have := fold_zx (l.foldl zx (zeros m)) r (zeros m)
  by_cases h0 : l = []
  · subst h0
    rw [List.foldl_nil] at *
    rw [← this, zx_zeros (zeros_bytes m)]
  · rw [← this]
    congr 1
    have hz : zx (l.foldl zx (zeros m)) (zeros m) = l.foldl zx (zeros m) := by
      rw [zx_comm, ← fold_zx, zx_zeros (zeros_bytes m)]
    exact hz.symm
theorem parF_reverse {m : Nat} : ∀ (l : List (List Int)), parF m l.reverse = parF m l
  | [] => rfl
  | x :: l => by rw [List.reverse_cons, parF_snoc, parF_reverse l, parF_cons, zx_comm]
theorem parI_eq {m : Nat} {l : List (List Int)} (h0 : 0 < l.length) (h : ∀ r ∈ l, Bytes m r) : parI l = parF m l := by
  cases l with
  | nil => simp at h0
  | cons x rest =>
    unfold parF
    rw [List.foldl_cons, zx_zeros (h x (by simp))]
    rfl
theorem parF_bytes {m : Nat} {l : List (List Int)} (h : ∀ r ∈ l, Bytes m r) : Bytes m (parF m l) := fold_bytes (zeros_bytes m) h

/-- Rows of one width that are bytes are rows that Check takes. -/
theorem rowsE_ok {m : Nat} {l : List (List Int)} (h0 : 0 < l.length) (h8 : l.length ≤ 8) (hm : m ≤ 16) (h : ∀ r ∈ l, Bytes m r) : rowsE l = 0 ∧ (l[0]?.getD []).length = m := by
  have hf : (l[0]?.getD []).length = m := by
    rw [List.getElem?_eq_getElem h0]
    exact (h _ (List.getElem_mem h0)).1
  refine ⟨rowsE_zero.2 ⟨h0, h8, fun r hr => ?_⟩, hf⟩
  have hb := h r hr
  exact ⟨bytesE_zero.2 ⟨by have := hb.1; omega, allB_mem.2 hb.2⟩, by rw [hb.1, hf]⟩
theorem dat_append (a b : List RV) : dat (a ++ b) = dat a ++ dat b := by simp [dat]
theorem dat_reverse (a : List RV) : dat a.reverse = (dat a).reverse := by simp [dat]
theorem sl_new {w : World} {b n : Nat} {xs : List Int} (hl : xs.length = n) (hn : n ≤ 100000) (hb : b < w.heap.size)
    (hx : ∀ x ∈ xs, -9223372036854775808 ≤ x ∧ x ≤ 9223372036854775807) (hc : ∀ k, k < n → w.cell? ⟨b, k, none⟩ = some (.int .i64 (xs[k]?.getD 0))) : Sl w (some ⟨b, 0, none⟩) n n xs :=
  ⟨Rd.new hl (by omega) hb hx hc, Nat.le_refl _, fun h => by cases h⟩

set_option maxHeartbeats 1000000 in
theorem parityFact_any (w : World) : Calls Try.prog 24 #[] w fun e w' => e = .returned (.bool true) ∧ Below w.heap.size w w' := by
  obtain ⟨w1, hw1⟩ : ∃ w1, w.alloc (.cells #[.int .i64 1, .int .i64 2] 3) = w1 := ⟨_, rfl⟩
  obtain ⟨w2, hw2⟩ : ∃ w2, w1.alloc (.cells #[.int .i64 3, .int .i64 255] 3) = w2 := ⟨_, rfl⟩
  obtain ⟨w3, hw3⟩ : ∃ w3, w2.alloc (.cells #[.slice (some ⟨w.heap.size, 0, none⟩) 2 2, .slice (some ⟨w1.heap.size, 0, none⟩) 2 2] 29) = w3 := ⟨_, rfl⟩
  have s1 : w1.heap.size = w.heap.size + 1 := by rw [← hw1]; simp
  have s2 : w2.heap.size = w1.heap.size + 1 := by rw [← hw2]; simp
  have s3 : w3.heap.size = w2.heap.size + 1 := by rw [← hw3]; simp
  have b1 : Below w.heap.size w w1 := by rw [← hw1]; exact (Below.refl _ _).alloc (Nat.le_refl _) _
  have b2 : Below w1.heap.size w1 w2 := by rw [← hw2]; exact (Below.refl _ _).alloc (Nat.le_refl _) _
  have b3 : Below w2.heap.size w2 w3 := by rw [← hw3]; exact (Below.refl _ _).alloc (Nat.le_refl _) _
  have r1 : Sl w1 (some ⟨w.heap.size, 0, none⟩) 2 2 [1, 2] := sl_new rfl (by decide) (by omega) (by simp) (fun k hk => by
    rw [← hw1]
    rcases (by omega : k = 0 ∨ k = 1) with rfl | rfl <;> simp)
  have r2 : Sl w2 (some ⟨w1.heap.size, 0, none⟩) 2 2 [3, 255] := sl_new rfl (by decide) (by omega) (by simp) (fun k hk => by
    rw [← hw2]
    rcases (by omega : k = 0 ∨ k = 1) with rfl | rfl <;> simp)
  have hR : RRows w3 (some ⟨w2.heap.size, 0, none⟩) 2 [(some ⟨w.heap.size, 0, none⟩, 2, 2, [1, 2]), (some ⟨w1.heap.size, 0, none⟩, 2, 2, [3, 255])] := by
    refine ⟨rfl, by decide, fun r hr => ?_, fun _ => ⟨w2.heap.size, 0, rfl, by omega, fun k hk => ?_⟩⟩
    · simp only [List.mem_cons, List.not_mem_nil, or_false] at hr
      rcases hr with rfl | rfl
      · exact (r1.below b2).below b3
      · exact r2.below b3
    · rw [← hw3]
      rcases (by omega : k = 0 ∨ k = 1) with rfl | rfl <;> simp [RV.val]
  have hok := of_ok _ 2 2 _ w3 hR (Nat.le_refl _) (show rowsE [[1, 2], [3, 255]] = 0 by decide) 2 rfl
  have hB3 : Below w.heap.size w w3 := (b1.trans (b2.mono b1.size)).trans (b3.mono (by omega))
  have hpar : parI (dat [(some ⟨w.heap.size, 0, none⟩, 2, 2, [1, 2]), (some ⟨w1.heap.size, 0, none⟩, 2, 2, [3, 255])]) = [2, 253] := by
    show parI [[1, 2], [3, 255]] = [2, 253]
    decide
  rw [hpar, s2, s1] at hok
  rw [s1] at hw3
  rw [← hw3, ← hw2, ← hw1] at hok hB3
  have H := Lib.hid hok
  have HB := Lib.hid hB3
  clear r1 r2 hR hok b1 b2 b3 hw1 hw2 hw3 s1 s2 s3 hpar hB3
  go_enter Try.func24, Try.ntmps24
  go_wp2_with fail
  refine H.out.mono ?_
  rintro e w4 ⟨⟨C, c, rfl, hown⟩, k4⟩
  have hB4 := HB.out.trans (k4.mono HB.out.size)
  have hR4 := hown.rd (by decide) (by simp)
  have hX := Rd.new (w := w4.alloc (.cells #[.int .i64 2, .int .i64 253] 3)) (b := w4.heap.size) (n := 2) (xs := [2, 253]) rfl (by decide) (by simp) (by simp) (fun k hk => by
    rcases (by omega : k = 0 ∨ k = 1) with rfl | rfl <;> simp)
  clear H HB k4 hown
  go_wp2_with fail
  with_reducible refine (ints_any _ _ _ _ _ _ [2, 253] [2, 253] _ (hR4.alloc _) hX).mono ?_
  rintro e w' ⟨rfl, q, rfl⟩
  rw [show decide (([2, 253] : List Int) = [2, 253]) = true from by decide]
  go_wp2
  go_ret
  exact ⟨rfl, below_drewN_of (hB4.alloc hB4.size _) q⟩
end Go.Proofs.Ytdhfckdnfppieaa
