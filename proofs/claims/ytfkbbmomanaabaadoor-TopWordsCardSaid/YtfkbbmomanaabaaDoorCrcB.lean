/- The plain law of bursts: good bytes in which up to eight bits beside each other are turned are not good. No program in sight. -/
import Derived.Test.YtfkbbmomanaabaaDoorCrcP
namespace Go.Proofs.YtfkbbmomanaabaaDoor
open Go Go.RowKit

theorem afterN_inj {x y : Nat} (hx : x < 256) (hy : y < 256) (h : afterN x = afterN y) : x = y := by
  have : afterN (x ^^^ y) = 0 := by rw [afterN_xor hx hy, h, Nat.xor_self]
  rw [afterN_zero (xor_lt hx hy)] at this
  exact xor_eq_zero.1 this
theorem xor_right {s t b : Nat} (h : s ^^^ b = t ^^^ b) : s = t := by
  have h2 : s ^^^ b ^^^ b = t ^^^ b ^^^ b := by rw [h]
  rwa [Nat.xor_assoc, Nat.xor_assoc, Nat.xor_self, Nat.xor_zero, Nat.xor_zero] at h2
theorem crcF_inj {l : List Nat} (hl : ∀ b ∈ l, b < 256) {s t : Nat} (hs : s < 256) (ht : t < 256) (h : crcF s l = crcF t l) : s = t := by
  induction l generalizing s t with
  | nil => rw [crcF_nil, crcF_nil] at h; exact h
  | cons b l ih =>
    have hb := hl b (by simp)
    rw [crcF_cons, crcF_cons] at h
    have h1 := xor_lt hs hb
    have h2 := xor_lt ht hb
    exact xor_right (afterN_inj h1 h2 (ih (fun c hc => hl c (by simp [hc])) (afterN_lt h1) (afterN_lt h2) h))
theorem two_seen {P S : List Nat} {x y d r : Nat} (hP : ∀ b ∈ P, b < 256) (hS : ∀ b ∈ S, b < 256) (hx : x < 256) (hy : y < 256) (hd : d < 256) (hr : r < 256)
    (h0 : crcF 0 (P ++ x :: y :: S) = 0) (hdr : afterN d ≠ r) : crcF 0 (P ++ (x ^^^ d) :: (y ^^^ r) :: S) ≠ 0 := by
  intro h
  have hs := crcF_lt (s := 0) (by decide) hP
  have hxd := xor_lt hx hd
  have hyr := xor_lt hy hr
  rw [crcF_append, crcF_cons, crcF_cons] at h h0
  generalize crcF 0 P = s at *
  have a1 := afterN_lt (xor_lt hs hx)
  have a2 := afterN_lt (xor_lt hs hxd)
  have e := crcF_inj hS (afterN_lt (xor_lt a2 hyr)) (afterN_lt (xor_lt a1 hy)) (h.trans h0.symm)
  have e2 := afterN_inj (xor_lt a2 hyr) (xor_lt a1 hy) e
  rw [← Nat.xor_assoc s x d, afterN_xor (xor_lt hs hx) hd, xor_swap] at e2
  generalize afterN (s ^^^ x) ^^^ y = q at e2
  have : q ^^^ (q ^^^ (afterN d ^^^ r)) = q ^^^ q := by rw [e2]
  rw [← Nat.xor_assoc, Nat.xor_self, Nat.zero_xor] at this
  exact hdr (xor_eq_zero.1 this)
theorem one_seen {P : List Nat} {x d : Nat} (hP : ∀ b ∈ P, b < 256) (hx : x < 256) (hd : d < 256) (h0 : crcF 0 (P ++ [x]) = 0) (hd0 : d ≠ 0) : crcF 0 (P ++ [x ^^^ d]) ≠ 0 := by
  intro h
  have hs := crcF_lt (s := 0) (by decide) hP
  rw [crcF_append, crcF_cons, crcF_nil] at h h0
  generalize crcF 0 P = s at *
  have e := afterN_inj (xor_lt hs (xor_lt hx hd)) (xor_lt hs hx) (h.trans h0.symm)
  rw [← Nat.xor_assoc] at e
  generalize s ^^^ x = q at e
  have : q ^^^ (q ^^^ d) = q ^^^ q := by rw [e]
  rw [← Nat.xor_assoc, Nat.xor_self, Nat.zero_xor] at this
  exact hd0 this

/-! ### On ints, by place -/
theorem split2 {Z : List Int} {k : Nat} (hk : k + 1 < Z.length) : Z = Z.take k ++ Z[k]?.getD 0 :: Z[k + 1]?.getD 0 :: Z.drop (k + 2) := by
  conv => lhs; rw [← List.take_append_drop k Z, List.drop_eq_getElem_cons (by omega), List.drop_eq_getElem_cons hk]
  rw [List.getElem?_eq_getElem (by omega), List.getElem?_eq_getElem hk]; rfl
theorem split1 {Z : List Int} {k : Nat} (hk : k + 1 = Z.length) : Z = Z.take k ++ [Z[k]?.getD 0] := by
  conv => lhs; rw [← List.take_append_drop k Z, List.drop_eq_getElem_cons (by omega), List.drop_eq_nil_of_le (by omega)]
  rw [List.getElem?_eq_getElem (by omega)]; rfl
theorem set2 {Z : List Int} {k : Nat} (hk : k + 1 < Z.length) (u v : Int) : (Z.set k u).set (k + 1) v = Z.take k ++ u :: v :: Z.drop (k + 2) := by
  conv => lhs; rw [split2 hk]
  have hl : (Z.take k).length = k := by rw [List.length_take]; omega
  rw [List.set_append_right _ _ (by omega), hl, Nat.sub_self, List.set_cons_zero, List.set_append_right _ _ (by omega), hl, Nat.add_sub_cancel_left]
  rfl
theorem set1 {Z : List Int} {k : Nat} (hk : k + 1 = Z.length) (u : Int) : Z.set k u = Z.take k ++ [u] := by
  conv => lhs; rw [split1 hk]
  have hl : (Z.take k).length = k := by rw [List.length_take]; omega
  rw [List.set_append_right _ _ (by omega), hl, Nat.sub_self]
  rfl
theorem nat_byt {zs : List Int} (h : ∀ x ∈ zs, 0 ≤ x ∧ x ≤ 255) : ∀ b ∈ zs.map Int.toNat, b < 256 := fun b hb => by
  obtain ⟨x, hx, rfl⟩ := List.mem_map.1 hb
  have := h x hx; omega
theorem crcI_zero {zs : List Int} : crcI zs = 0 ↔ crcF 0 (zs.map Int.toNat) = 0 := by unfold crcI; omega
theorem getD_byt {Z : List Int} (hZ : ∀ x ∈ Z, 0 ≤ x ∧ x ≤ 255) (k : Nat) : 0 ≤ Z[k]?.getD 0 ∧ Z[k]?.getD 0 ≤ 255 := by
  rcases Nat.lt_or_ge k Z.length with h | h
  · rw [List.getElem?_eq_getElem h]; exact hZ _ (List.getElem_mem h)
  · rw [List.getElem?_eq_none h]; decide
theorem burst_two {Z : List Int} (hZ : ∀ x ∈ Z, 0 ≤ x ∧ x ≤ 255) (h0 : crcI Z = 0) {k : Nat} (hk : k + 1 < Z.length) {d r : Int} (hd0 : 0 ≤ d) (hd : d ≤ 255) (hr0 : 0 ≤ r) (hr : r ≤ 255)
    (hdr : afterN d.toNat ≠ r.toNat) : crcI ((Z.set k (xorI (Z[k]?.getD 0) d)).set (k + 1) (xorI (Z[k + 1]?.getD 0) r)) ≠ 0 := by
  intro h
  rw [set2 hk, crcI_zero, List.map_append, List.map_cons, List.map_cons, xorI_toNat, xorI_toNat] at h
  have e := split2 hk
  rw [crcI_zero] at h0
  rw [e, List.map_append, List.map_cons, List.map_cons] at h0
  have hx := getD_byt hZ k
  have hy := getD_byt hZ (k + 1)
  exact two_seen (nat_byt (fun x hx => hZ x (List.mem_of_mem_take hx))) (nat_byt (fun x hx => hZ x (List.mem_of_mem_drop hx))) (by omega) (by omega) (by omega) (by omega) h0 hdr h
theorem burst_one {Z : List Int} (hZ : ∀ x ∈ Z, 0 ≤ x ∧ x ≤ 255) (h0 : crcI Z = 0) {k : Nat} (hk : k + 1 = Z.length) {d : Int} (hd0 : 0 < d) (hd : d ≤ 255) :
    crcI (Z.set k (xorI (Z[k]?.getD 0) d)) ≠ 0 := by
  intro h
  rw [set1 hk, crcI_zero, List.map_append, List.map_cons, List.map_nil, xorI_toNat] at h
  have e := split1 hk
  rw [crcI_zero] at h0
  rw [e, List.map_append, List.map_cons, List.map_nil] at h0
  have hx := getD_byt hZ k
  exact one_seen (nat_byt (fun x hx => hZ x (List.mem_of_mem_take hx))) (by omega) (by omega) h0 (by omega) h
/-- The pattern, so many places further behind. -/
theorem pattern {b s : Nat} (hb0 : 0 < b) (hb : b < 256) (hs : s < 8) : afterN (b / 2 ^ s) ≠ b * 2 ^ (8 - s) % 256 := by
  have key : ∀ (x : Fin 256) (t : Fin 8), 0 < x.val → afterN (x.val / 2 ^ t.val) ≠ x.val * 2 ^ (8 - t.val) % 256 := by decide +kernel
  exact key ⟨b, hb⟩ ⟨s, hs⟩ hb0
theorem crcI_good {xs : List Int} (hx : ∀ x ∈ xs, 0 ≤ x ∧ x ≤ 255) : crcI (xs ++ [crcI xs]) = 0 := by
  have := crcI_range hx
  rw [crcI_snoc, xorI_self]; rfl
end Go.Proofs.YtfkbbmomanaabaaDoor
