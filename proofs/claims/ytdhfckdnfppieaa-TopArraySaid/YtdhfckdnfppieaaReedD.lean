/- Shards that are lost, wrong, or of other data, plainly. -/
import Derived.Test.YtdhfckdnfppieaaReed3
namespace Go.Proofs.Ytdhfckdnfppieaa
open Go Go.RowKit
set_option linter.unusedVariables false

/-! ### How many are there -/
def thereN (s : List Int) : Nat → Nat
  | 0 => 0
  | k + 1 => thereN s k + if 0 ≤ s[k]?.getD 0 then 1 else 0
theorem there_le (s : List Int) : ∀ k, thereN s k ≤ k
  | 0 => Nat.le_refl _
  | k + 1 => by
    have := there_le s k
    show thereN s k + _ ≤ _
    split <;> omega
theorem there_all {s : List Int} (h : ∀ j, j < s.length → 0 ≤ s[j]?.getD 0) : ∀ k, k ≤ s.length → thereN s k = k
  | 0, _ => rfl
  | k + 1, hk => by
    show thereN s k + _ = _
    rw [there_all h k (by omega), if_pos (h k (by omega))]
theorem there_congr {s t : List Int} : ∀ k, (∀ j, j < k → s[j]?.getD 0 = t[j]?.getD 0) → thereN s k = thereN t k
  | 0, _ => rfl
  | k + 1, h => by
    show thereN s k + (if 0 ≤ s[k]?.getD 0 then 1 else 0) = thereN t k + (if 0 ≤ t[k]?.getD 0 then 1 else 0)
    rw [there_congr k fun j hj => h j (by omega), h k (by omega)]
theorem get_set_self {s : List Int} {i : Nat} (hi : i < s.length) (y : Int) : (s.set i y)[i]?.getD 0 = y := by rw [List.getElem?_set_self hi]; rfl
theorem get_set_ne {s : List Int} {i j : Nat} (h : j ≠ i) (y : Int) : (s.set i y)[j]?.getD 0 = s[j]?.getD 0 := by rw [List.getElem?_set_ne (fun e => h e.symm)]
theorem there_lost {s : List Int} {i : Nat} (hi : i < s.length) (h0 : 0 ≤ s[i]?.getD 0) : ∀ k, i < k → thereN (s.set i (-1)) k + 1 = thereN s k
  | 0, h => absurd h (Nat.not_lt_zero _)
  | k + 1, h => by
    show thereN (s.set i (-1)) k + (if 0 ≤ (s.set i (-1))[k]?.getD 0 then 1 else 0) + 1 = thereN s k + (if 0 ≤ s[k]?.getD 0 then 1 else 0)
    by_cases e : i = k
    · subst e
      rw [get_set_self hi, if_neg (by decide), if_pos h0, there_congr (s := s.set i (-1)) (t := s) i fun j hj => get_set_ne (by omega) _]
    · rw [get_set_ne (fun h => e h.symm)]
      have := there_lost hi h0 k (by omega)
      omega
theorem got_count (s : List Int) (d : Nat) : ∀ k, (gotI s d k).1.length = min d (thereN s k)
  | 0 => by show 0 = min d 0; omega
  | k + 1 => by
    have ih := got_count s d k
    have e : thereN s (k + 1) = thereN s k + if 0 ≤ s[k]?.getD 0 then 1 else 0 := rfl
    rw [e]
    by_cases h : 0 ≤ s[k]?.getD 0 ∧ (gotI s d k).1.length < d
    · rw [got_yes h.1 h.2, if_pos h.1, List.length_append, ih]
      have := h.2
      rw [ih] at this
      simp; omega
    · rw [got_no h, ih]
      split
      · next h0 =>
        have : ¬ (gotI s d k).1.length < d := fun h1 => h ⟨h0, h1⟩
        rw [ih] at this
        omega
      · omega

/-! ### What Again makes of shards that are right where they are there -/
theorem got_byte {s : List Int} {d n : Nat} (hn : n ≤ 256) : ∀ x ∈ (gotI s d n).1, 0 ≤ x ∧ x ≤ 255 := fun x hx => by
  obtain ⟨j, h1, h2, _⟩ := got_mem s d n x hx
  omega
theorem ag_poly {s : List Int} {d : Nat} (hs : ∀ x ∈ s, -1 ≤ x ∧ x ≤ 255) (hn : s.length ≤ 256) (hq : (gotI s d s.length).1.length = d) :
    PolyF d fun a => thrN (nts (gotI s d s.length).1) (nts (gotI s d s.length).2) a d := by
  have h := thrN_poly (X := nts (gotI s d s.length).1) (Y := nts (gotI s d s.length).2) (nts_byt (got_byte hn)) (nts_byt (got_bytes hs d _ (Nat.le_refl _))) d (by rw [nts_len, hq]; exact Nat.le_refl _)
  rw [nts_len, hq] at h
  exact h
theorem ag_nat {s : List Int} {d : Nat} (hq : (gotI s d s.length).1.length = d) (i : Nat) : agI s d i = ((thrN (nts (gotI s d s.length).1) (nts (gotI s d s.length).2) i d : Nat) : Int) := by
  unfold agI
  rw [thrI_nat, hq, Int.toNat_natCast]
theorem got_at {s : List Int} {d : Nat} (hs : ∀ x ∈ s, -1 ≤ x ∧ x ≤ 255) (hn : s.length ≤ 256) (hq : (gotI s d s.length).1.length = d) : ∀ r ∈ nts (gotI s d s.length).1,
    thrN (nts (gotI s d s.length).1) (nts (gotI s d s.length).2) r d = (s[r]?.getD 0).toNat ∧ r < s.length ∧ 0 ≤ s[r]?.getD 0 := fun r hr => by
  obtain ⟨i, hi, rfl⟩ := List.mem_iff_getElem.1 hr
  have hi' : i < (gotI s d s.length).1.length := by simpa [nts_len] using hi
  have hxi : (nts (gotI s d s.length).1)[i] = (((gotI s d s.length).1)[i]?.getD 0).toNat := by
    rw [← nts_get, List.getElem?_eq_getElem hi]; rfl
  have hin := thrN_in (X := nts (gotI s d s.length).1) (Y := nts (gotI s d s.length).2) (nts_byt (got_byte hn)) (nts_byt (got_bytes hs d _ (Nat.le_refl _))) (nts_nodup (got_byte hn) (got_nodup s d _)) (m := i) (by rw [nts_len]; exact hi')
  rw [nts_get, nts_get, nts_len, hq, got_val s d _ i hi'] at hin
  obtain ⟨j, h1, h2, h3⟩ := got_mem s d s.length _ (List.getElem_mem hi')
  have h1' : ((gotI s d s.length).1)[i]?.getD 0 = (j : Int) := by rw [List.getElem?_eq_getElem hi']; exact h1
  rw [hxi]
  rw [h1', Int.toNat_natCast] at hin ⊢
  exact ⟨hin, h2, h3⟩
/-- If the shards that are there are those of the data, all are made again. -/
theorem ag_right {s xs : List Int} (hs : ∀ x ∈ s, -1 ≤ x ∧ x ≤ 255) (hx : ∀ x ∈ xs, 0 ≤ x ∧ x ≤ 255) (h256 : xs.length ≤ 256) (hn : s.length ≤ 256) (hq : (gotI s xs.length s.length).1.length = xs.length)
    (h : ∀ j, j < s.length → 0 ≤ s[j]?.getD 0 → s[j]?.getD 0 = valI xs j) {i : Nat} (hi : i < 256) : agI s xs.length i = valI xs i := by
  rw [ag_nat hq, valI_nat]
  have := poly_same (ag_poly hs hn hq) (valN_poly hx h256) (nts_nodup (got_byte hn) (got_nodup s xs.length _)) (nts_byt (got_byte hn)) (by rw [nts_len, hq]; exact Nat.le_refl _) (fun r hr => by
    obtain ⟨h1, h2, h3⟩ := got_at hs hn hq r hr
    show thrN _ _ r _ = valN xs r
    rw [h1, h r h2 h3, valI_nat, Int.toNat_natCast]) i hi
  exact congrArg Int.ofNat this
theorem out_shards {s xs : List Int} {p : Nat} (hx : ∀ x ∈ xs, 0 ≤ x ∧ x ≤ 255) (h256 : xs.length + p ≤ 256) (h : ∀ i, i < xs.length + p → agI s xs.length i = valI xs i) : outI s xs.length (xs.length + p) = shards xs p := by
  refine getD_ext (by rw [outI_len, shards_len]) fun k hk => ?_
  rw [outI_len] at hk
  rw [shards_get hx (by omega) hk, ← h k hk]
  unfold outI
  rw [List.getElem?_map, List.getElem?_range hk]; rfl

/-! ### Shards of which some were taken away -/
structure Left (xs : List Int) (p m : Nat) (zs : List Int) : Prop where
  len : zs.length = xs.length + p
  is : ∀ j, j < xs.length + p → zs[j]?.getD 0 = (shards xs p)[j]?.getD 0 ∨ zs[j]?.getD 0 = -1
  many : thereN zs (xs.length + p) + m = xs.length + p
theorem get_sh {xs : List Int} (hx : ∀ x ∈ xs, 0 ≤ x ∧ x ≤ 255) {p : Nat} (j : Nat) : 0 ≤ (shards xs p)[j]?.getD 0 ∧ (shards xs p)[j]?.getD 0 ≤ 255 := by
  by_cases hj : j < (shards xs p).length
  · rw [List.getElem?_eq_getElem hj]; exact shards_bytes hx p _ (List.getElem_mem hj)
  · rw [List.getElem?_eq_none (by omega)]; exact ⟨by decide, by decide⟩
theorem Left.first {xs : List Int} (hx : ∀ x ∈ xs, 0 ≤ x ∧ x ≤ 255) (p : Nat) : Left xs p 0 (shards xs p) :=
  ⟨shards_len xs p, fun j _ => .inl rfl, by
    have := there_all (s := shards xs p) (fun j _ => (get_sh hx j).1) (xs.length + p) (by rw [shards_len]; exact Nat.le_refl _)
    omega⟩
theorem Left.next {xs : List Int} {p m : Nat} {zs : List Int} (h : Left xs p m zs) {i : Nat} (hi : i < xs.length + p) (h0 : 0 ≤ zs[i]?.getD 0) : Left xs p (m + 1) (zs.set i (-1)) := by
  have hl := h.len
  refine ⟨by rw [List.length_set]; exact hl, fun j hj => ?_, ?_⟩
  · by_cases e : j = i
    · subst e; exact .inr (get_set_self (by omega) _)
    · rw [get_set_ne e]; exact h.is j hj
  · have h1 := there_lost (s := zs) (i := i) (by omega) h0 (xs.length + p) hi
    have h2 := h.many
    omega
theorem Left.bytes {xs : List Int} {p m : Nat} {zs : List Int} (h : Left xs p m zs) (hx : ∀ x ∈ xs, 0 ≤ x ∧ x ≤ 255) : ∀ z ∈ zs, -1 ≤ z ∧ z ≤ 255 := fun z hz => by
  obtain ⟨j, hj, rfl⟩ := List.mem_iff_getElem.1 hz
  have hl := h.len
  have := h.is j (by omega)
  rw [List.getElem?_eq_getElem hj] at this
  have hb := get_sh hx (p := p) j
  rcases this with e | e
  · change zs[j] = _ at e; omega
  · change zs[j] = _ at e; omega
theorem Left.got {xs : List Int} {p m : Nat} {zs : List Int} (h : Left xs p m zs) (hm : m ≤ p) : (gotI zs xs.length zs.length).1.length = xs.length := by
  have h1 := h.many
  rw [got_count, h.len]
  omega
theorem Left.ag {xs : List Int} {p m : Nat} {zs : List Int} (h : Left xs p m zs) (hx : ∀ x ∈ xs, 0 ≤ x ∧ x ≤ 255) (h256 : xs.length + p ≤ 256) (hm : m ≤ p) {i : Nat} (hi : i < xs.length + p) : agI zs xs.length i = valI xs i := by
  have hl := h.len
  refine ag_right (h.bytes hx) hx (by omega) (by omega) (h.got hm) (fun j hj h0 => ?_) (by omega)
  rcases h.is j (by omega) with e | e
  · rw [e, shards_get hx (by omega) (by omega)]
  · omega
theorem Left.good {xs : List Int} {p m : Nat} {zs : List Int} (h : Left xs p m zs) (hx : ∀ x ∈ xs, 0 ≤ x ∧ x ≤ 255) (h256 : xs.length + p ≤ 256) (hm : m ≤ p) : ∀ i, i < xs.length + p → ¬ badAt zs xs.length i := fun i hi hb => by
  rcases h.is i hi with e | e
  · exact hb.2 (by rw [e, h.ag hx h256 hm hi, shards_get hx (by omega) hi])
  · have := hb.1; omega

/-! ### A shard that is wrong -/
theorem wrong_bad {xs : List Int} {p k : Nat} {y : Int} (hx : ∀ x ∈ xs, 0 ≤ x ∧ x ≤ 255) (h256 : xs.length + p ≤ 256) (hp : 1 ≤ p) (hk : k < xs.length + p) (hy : 0 ≤ y ∧ y ≤ 255) (hne : (shards xs p)[k]?.getD 0 ≠ y) :
    (gotI ((shards xs p).set k y) xs.length (xs.length + p)).1.length = xs.length ∧ ∃ i, i < xs.length + p ∧ badAt ((shards xs p).set k y) xs.length i := by
  have hl : ((shards xs p).set k y).length = xs.length + p := by rw [List.length_set, shards_len]
  have hget : ∀ j, j < xs.length + p → 0 ≤ ((shards xs p).set k y)[j]?.getD 0 ∧ ((shards xs p).set k y)[j]?.getD 0 ≤ 255 := fun j hj => by
    by_cases e : j = k
    · subst e; rw [get_set_self (by rw [shards_len]; exact hj)]; exact hy
    · rw [get_set_ne e]; exact get_sh hx j
  have hs : ∀ z ∈ (shards xs p).set k y, -1 ≤ z ∧ z ≤ 255 := fun z hz => by
    obtain ⟨j, hj, rfl⟩ := List.mem_iff_getElem.1 hz
    have := hget j (by omega)
    rw [List.getElem?_eq_getElem hj] at this
    change 0 ≤ ((shards xs p).set k y)[j] ∧ _ at this
    have h2 : ((shards xs p).set k y)[j] ≤ 255 := this.2
    omega
  have hq : (gotI ((shards xs p).set k y) xs.length (xs.length + p)).1.length = xs.length := by
    rw [got_count, there_all (fun j hj => (hget j (by omega)).1) _ (by omega)]
    omega
  refine ⟨hq, ?_⟩
  apply Classical.byContradiction
  intro hno
  have hall : ∀ j, j < xs.length + p → ((shards xs p).set k y)[j]?.getD 0 = agI ((shards xs p).set k y) xs.length j := fun j hj => by
    apply Classical.byContradiction
    intro hh
    exact hno ⟨j, hj, (hget j hj).1, hh⟩
  rw [← hl] at hq
  have hsame := poly_same (ag_poly hs (by omega) hq) (valN_poly hx (by omega)) (rs := (List.range (xs.length + p)).erase k) (List.nodup_range.erase k) (fun r hr => by
      have := List.mem_range.1 (List.mem_of_mem_erase hr); omega) (by
      rw [List.length_erase_of_mem (List.mem_range.2 hk), List.length_range]; omega) (fun r hr => by
      obtain ⟨h1, h2⟩ := (List.nodup_range.mem_erase_iff).1 hr
      have hrl := List.mem_range.1 h2
      have h3 := hall r hrl
      rw [ag_nat hq, get_set_ne h1, shards_get hx (by omega) hrl, valI_nat] at h3
      show thrN _ _ r _ = valN xs r
      omega) k (by omega)
  have h4 := hall k hk
  rw [ag_nat hq, get_set_self (by rw [shards_len]; exact hk)] at h4
  apply hne
  rw [shards_get hx (by omega) hk, valI_nat, h4]
  exact congrArg Int.ofNat hsame.symm

/-! ### Shards of other data -/
def diffN (s t : List Int) : Nat → Nat
  | 0 => 0
  | k + 1 => diffN s t k + if s[k]?.getD 0 = t[k]?.getD 0 then 0 else 1
def sameL (s t : List Int) : Nat → List Nat
  | 0 => []
  | k + 1 => if s[k]?.getD 0 = t[k]?.getD 0 then k :: sameL s t k else sameL s t k
theorem same_len (s t : List Int) : ∀ k, (sameL s t k).length + diffN s t k = k
  | 0 => rfl
  | k + 1 => by
    have := same_len s t k
    show (if _ then k :: sameL s t k else sameL s t k).length + (diffN s t k + if _ then 0 else 1) = _
    split
    · rw [List.length_cons]; omega
    · omega
theorem same_mem (s t : List Int) : ∀ k, ∀ r ∈ sameL s t k, r < k ∧ s[r]?.getD 0 = t[r]?.getD 0
  | 0 => fun r h => by cases h
  | k + 1 => fun r h => by
    unfold sameL at h
    split at h
    · next e =>
      rcases List.mem_cons.1 h with rfl | h
      · exact ⟨by omega, e⟩
      · have := same_mem s t k r h; exact ⟨by omega, this.2⟩
    · have := same_mem s t k r h; exact ⟨by omega, this.2⟩
theorem same_nodup (s t : List Int) : ∀ k, (sameL s t k).Nodup
  | 0 => List.nodup_nil
  | k + 1 => by
    unfold sameL
    split
    · exact List.nodup_cons.2 ⟨fun h => by have := same_mem s t k k h; omega, same_nodup s t k⟩
    · exact same_nodup s t k
theorem diff_self (s : List Int) : ∀ k, diffN s s k = 0
  | 0 => rfl
  | k + 1 => by show diffN s s k + _ = 0; rw [diff_self s k, if_pos rfl]
theorem diff_le (s t : List Int) : ∀ k, diffN s t k ≤ k
  | 0 => Nat.le_refl _
  | k + 1 => by
    have := diff_le s t k
    show diffN s t k + _ ≤ _
    split <;> omega
theorem apart_all {xs ys : List Int} {p : Nat} (hl : xs.length = ys.length) (hx : ∀ x ∈ xs, 0 ≤ x ∧ x ≤ 255) (hy : ∀ x ∈ ys, 0 ≤ x ∧ x ≤ 255) (h256 : xs.length + p ≤ 256)
    (h : diffN (shards xs p) (shards ys p) (xs.length + p) ≤ p) : xs = ys := by
  have h1 := same_len (shards xs p) (shards ys p) (xs.length + p)
  have hp2 := valN_poly hy (by omega)
  rw [← hl] at hp2
  have hv := poly_same (valN_poly hx (by omega)) hp2 (same_nodup _ _ _) (fun r hr => by
    have := (same_mem _ _ _ r hr).1; omega) (show xs.length ≤ (sameL (shards xs p) (shards ys p) (xs.length + p)).length by omega) (fun r hr => by
    obtain ⟨h2, h3⟩ := same_mem _ _ _ r hr
    rw [shards_get hx (by omega) h2, shards_get hy (by omega) (by omega), valI_nat, valI_nat] at h3
    omega)
  refine getD_ext hl fun k hk => ?_
  have h4 := hv k (by omega)
  rw [valN_data hx (by omega) hk, valN_data hy (by omega) (by omega)] at h4
  have h5 := hx _ (List.getElem_mem hk)
  have h6 := hy _ (List.getElem_mem (show k < ys.length by omega))
  rw [List.getElem?_eq_getElem hk, List.getElem?_eq_getElem (show k < ys.length by omega)] at h4 ⊢
  change (xs[k]).toNat = (ys[k]).toNat at h4
  show xs[k] = ys[k]
  omega
end Go.Proofs.Ytdhfckdnfppieaa
