/- Unknowns taken away one after the other, plainly: what the reference's Factors comes to. No program in sight. -/
import Derived.Test.YtdhfckdnfppieaaDoorReedP
import Derived.Test.YtdhfckdnfppieaaDoorRGf
namespace Go.Proofs.YtdhfckdnfppieaaDoor
open Go Go.RowKit
set_option linter.unusedVariables false

/-! ### Sums of products -/
def dotN (r c : Nat → Nat) : Nat → Nat
  | 0 => 0
  | k + 1 => dotN r c k ^^^ mulN (r k) (c k)
def Byf (f : Nat → Nat) : Prop := ∀ j, f j < 256
theorem dot_lt {r c : Nat → Nat} {k : Nat} (hr : ∀ j, j < k → r j < 256) : dotN r c k < 256 := by
  induction k with
  | zero => show 0 < 256; decide
  | succ k ih => exact xor_lt (ih fun j hj => hr j (by omega)) (mul_lt (hr k (by omega)))
theorem dot_congr {r s c d : Nat → Nat} {k : Nat} (h : ∀ j, j < k → r j = s j ∧ c j = d j) : dotN r c k = dotN s d k := by
  induction k with
  | zero => rfl
  | succ k ih =>
    show dotN r c k ^^^ _ = dotN s d k ^^^ _
    rw [ih fun j hj => h j (by omega), (h k (by omega)).1, (h k (by omega)).2]
theorem dot_scale {r s c : Nat → Nat} {m k : Nat} (hr : ∀ j, j < k → r j < 256) (hc : Byf c) (hm : m < 256) (h : ∀ j, j < k → s j = mulN (r j) m) : dotN s c k = mulN (dotN r c k) m := by
  induction k with
  | zero => show 0 = mulN 0 m; rw [zero_mul]
  | succ k ih =>
    have hk := hr k (by omega)
    show dotN s c k ^^^ mulN (s k) (c k) = mulN (dotN r c k ^^^ mulN (r k) (c k)) m
    rw [ih (fun j hj => hr j (by omega)) (fun j hj => h j (by omega)), h k (by omega), mul_left (dot_lt fun j hj => hr j (by omega)) (mul_lt hk), mul_assoc hk hm (hc k), mul_comm hm (hc k), ← mul_assoc hk (hc k) hm]
theorem dot_plus {r o s c : Nat → Nat} {m k : Nat} (hr : ∀ j, j < k → r j < 256) (ho : ∀ j, j < k → o j < 256) (hc : Byf c) (hm : m < 256) (h : ∀ j, j < k → s j = r j ^^^ mulN (o j) m) : dotN s c k = dotN r c k ^^^ mulN (dotN o c k) m := by
  induction k with
  | zero => show 0 = 0 ^^^ mulN 0 m; rw [zero_mul]; rfl
  | succ k ih =>
    have hk := ho k (by omega)
    show dotN s c k ^^^ mulN (s k) (c k) = (dotN r c k ^^^ mulN (r k) (c k)) ^^^ mulN (dotN o c k ^^^ mulN (o k) (c k)) m
    rw [ih (fun j hj => hr j (by omega)) (fun j hj => ho j (by omega)) (fun j hj => h j (by omega)), h k (by omega), mul_left (hr k (by omega)) (mul_lt hk),
      mul_left (dot_lt fun j hj => ho j (by omega)) (mul_lt hk), mul_assoc hk hm (hc k), mul_comm hm (hc k), ← mul_assoc hk (hc k) hm, xor_swap]
theorem dot_delta {r c : Nat → Nat} {i k : Nat} (hc : Byf c) (h : ∀ j, j < k → r j = if i = j then 1 else 0) : dotN r c k = if i < k then c i else 0 := by
  induction k with
  | zero => rfl
  | succ k ih =>
    show dotN r c k ^^^ mulN (r k) (c k) = _
    rw [ih fun j hj => h j (by omega), h k (by omega)]
    by_cases hik : i = k
    · subst hik
      rw [if_neg (by omega), if_pos rfl, if_pos (by omega), one_mul (hc i), Nat.zero_xor]
    · rw [if_neg hik, zero_mul, Nat.xor_zero]
      by_cases hlt : i < k
      · rw [if_pos hlt, if_pos (by omega)]
      · rw [if_neg hlt, if_neg (by omega)]
theorem dot_rest {r c : Nat → Nat} {k : Nat} : ∀ m, (∀ j, k ≤ j → j < k + m → c j = 0) → dotN r c (k + m) = dotN r c k
  | 0, _ => rfl
  | m + 1, h => by
    show dotN r c (k + m) ^^^ mulN (r (k + m)) (c (k + m)) = _
    rw [dot_rest m fun j h1 h2 => h j h1 (by omega), h (k + m) (by omega) (by omega), mul_zero, Nat.xor_zero]
theorem eval_dot {c : Nat → Nat} {x : Nat} (hc : Byf c) (hx : x < 256) : ∀ m, evalN ((List.range m).map c) x = dotN (powN x) c m
  | 0 => rfl
  | m + 1 => by
    rw [List.range_succ, List.map_append]
    show evalN (_ ++ [c m]) x = dotN _ _ m ^^^ mulN (powN x m) (c m)
    rw [evalN_snoc hx (fun b hb => by obtain ⟨j, _, rfl⟩ := List.mem_map.1 hb; exact hc j) (hc m), eval_dot hc hx m, List.length_map, List.length_range, mul_comm (hc m) (powN_lt hx m)]

/-! ### Rows of numbers -/
def entI (rs : List (List Int)) (i j : Nat) : Int := (rs[i]?.getD [])[j]?.getD 0
def Mx (rs : List (List Int)) (i j : Nat) : Nat := (entI rs i j).toNat
def Zz (n : Nat) (M : Nat → Nat → Nat) (c : Nat → Nat) : Prop := ∀ i, i < n → dotN (M i) c (n + 1) = 0
/-- The rows at first: powers, and the value. -/
def vanI (xs ys : List Int) (n i : Nat) : Nat → Nat := fun j => if j < n then powN (xs[i]?.getD 0).toNat j else (ys[i]?.getD 0).toNat
def RowOk (n : Nat) (r : List Int) : Prop := r.length = n + 1 ∧ ∀ x ∈ r, 0 ≤ x ∧ x ≤ 255
structure GP (xs ys : List Int) (n k : Nat) (rs : List (List Int)) : Prop where
  len : rs.length = n
  row : ∀ i, i < n → RowOk n (rs[i]?.getD [])
  sol : ∀ c, Byf c → (Zz n (Mx rs) c ↔ Zz n (vanI xs ys n) c)
  col : ∀ j, j < k → ∀ i, i < n → Mx rs i j = if i = j then 1 else 0
theorem row_byte {n : Nat} {r : List Int} (h : RowOk n r) (j : Nat) : 0 ≤ r[j]?.getD 0 ∧ r[j]?.getD 0 ≤ 255 := by
  by_cases hj : j < r.length
  · rw [List.getElem?_eq_getElem hj]; exact h.2 _ (List.getElem_mem hj)
  · rw [List.getElem?_eq_none (by omega)]; exact ⟨by decide, by decide⟩
theorem GP.ent {xs ys : List Int} {n k : Nat} {rs : List (List Int)} (h : GP xs ys n k rs) {i : Nat} (hi : i < n) (j : Nat) : 0 ≤ entI rs i j ∧ entI rs i j ≤ 255 := row_byte (h.row i hi) j
theorem GP.lt {xs ys : List Int} {n k : Nat} {rs : List (List Int)} (h : GP xs ys n k rs) {i : Nat} (hi : i < n) (j : Nat) : Mx rs i j < 256 := by
  have := h.ent hi j; unfold Mx; omega
theorem van_lt {xs ys : List Int} (hx : ∀ x ∈ xs, 0 ≤ x ∧ x ≤ 255) (hy : ∀ y ∈ ys, 0 ≤ y ∧ y ≤ 255) (n i j : Nat) : vanI xs ys n i j < 256 := by
  have hb : ∀ {l : List Int}, (∀ x ∈ l, 0 ≤ x ∧ x ≤ 255) → ((l[i]?.getD 0).toNat) < 256 := fun {l} h => by
    by_cases hi : i < l.length
    · rw [List.getElem?_eq_getElem hi]
      have := h _ (List.getElem_mem hi)
      show (l[i]).toNat < 256
      omega
    · rw [List.getElem?_eq_none (by omega)]; decide
  unfold vanI
  split
  · exact powN_lt (hb hx) j
  · exact hb hy

/-- There is a row with which one can go on. -/
theorem GP.pivot {xs ys : List Int} {n k : Nat} {rs : List (List Int)} (h : GP xs ys n k rs) (hx : ∀ x ∈ xs, 0 ≤ x ∧ x ≤ 255) (hd : xs.Nodup) (hn : xs.length = n) (hk : k < n) (h0 : ∀ i, k ≤ i → i < n → Mx rs i k = 0) : False := by
  let c : Nat → Nat := fun j => if j < k then Mx rs j k else if j = k then 1 else 0
  have hc : Byf c := fun j => by
    show (if j < k then Mx rs j k else if j = k then 1 else 0) < 256
    split
    · exact h.lt (by omega) k
    · split <;> decide
  have hck : c k = 1 := by show (if k < k then _ else if k = k then 1 else 0) = 1; rw [if_neg (by omega), if_pos rfl]
  have hc0 : ∀ j, k + 1 ≤ j → c j = 0 := fun j hj => by show (if j < k then _ else if j = k then 1 else 0) = 0; rw [if_neg (by omega), if_neg (by omega)]
  have hz : Zz n (Mx rs) c := fun i hi => by
    obtain ⟨m, rfl⟩ : ∃ m, n = k + m := ⟨n - k, by omega⟩
    rw [show k + m + 1 = (k + 1) + m by omega, dot_rest m fun j h1 _ => hc0 j h1]
    show dotN (Mx rs i) c k ^^^ mulN (Mx rs i k) (c k) = 0
    rw [dot_delta hc fun j hj => h.col j hj i hi, hck, mul_one (h.lt hi k)]
    by_cases hik : i < k
    · rw [if_pos hik]
      have : c i = Mx rs i k := by show (if i < k then _ else _) = _; rw [if_pos hik]
      rw [this, Nat.xor_self]
    · rw [if_neg hik, h0 i (by omega) hi]; rfl
  have hv := (h.sol c hc).1 hz
  have hl : ¬ AllZ ((List.range n).map c) := fun hh => by
    have := hh (c k) (List.mem_map.2 ⟨k, List.mem_range.2 hk, rfl⟩)
    rw [hck] at this; exact absurd this (by decide)
  have hlt := roots_lt n (l := (List.range n).map c) (rs := nts xs) (by simp) (fun b hb => by obtain ⟨j, _, rfl⟩ := List.mem_map.1 hb; exact hc j) hl (nts_nodup hx hd) (nts_byt hx) (fun r hr => by
    obtain ⟨i, hi, rfl⟩ := List.mem_iff_getElem.1 hr
    have hin : i < n := by rw [← hn]; simpa [nts_len] using hi
    have h1 := hv i hin
    have h2 : dotN (vanI xs ys n i) c (n + 1) = dotN (powN (xs[i]?.getD 0).toNat) c n ^^^ mulN (vanI xs ys n i n) (c n) := by
      show dotN _ c n ^^^ _ = _
      rw [dot_congr (r := vanI xs ys n i) (s := powN (xs[i]?.getD 0).toNat) (d := c) fun j hj => ⟨by unfold vanI; rw [if_pos hj], rfl⟩]
    rw [h2, hc0 n (by omega), mul_zero, Nat.xor_zero] at h1
    have hxi : (nts xs)[i] = (xs[i]?.getD 0).toNat := by
      rw [← nts_get, List.getElem?_eq_getElem hi]; rfl
    have hx256 : (xs[i]?.getD 0).toNat < 256 := by rw [← hxi]; exact nts_byt hx _ (List.getElem_mem hi)
    rw [hxi, eval_dot hc hx256]
    exact h1)
  rw [nts_len, hn] at hlt
  omega

/-! ### Setting rows -/
theorem ent_set {rs : List (List Int)} {i : Nat} (hi : i < rs.length) (r : List Int) (a j : Nat) : entI (rs.set i r) a j = if a = i then r[j]?.getD 0 else entI rs a j := by
  unfold entI
  by_cases h : a = i
  · subst h
    rw [if_pos rfl, List.getElem?_set_self hi]; rfl
  · rw [if_neg h, List.getElem?_set_ne (fun e => h e.symm)]
theorem row_set {n : Nat} {rs : List (List Int)} {i : Nat} (hi : i < rs.length) {r : List Int} (hr : RowOk n r) (h : ∀ a, a < n → RowOk n (rs[a]?.getD [])) : ∀ a, a < n → RowOk n ((rs.set i r)[a]?.getD []) := fun a ha => by
  by_cases e : a = i
  · subst e
    rw [List.getElem?_set_self hi]; exact hr
  · rw [List.getElem?_set_ne (fun h => e h.symm)]; exact h a ha
/-- The row that leads is divided by its first, and changes places. -/
theorem GP.lead {xs ys : List Int} {n k : Nat} {rs : List (List Int)} (h : GP xs ys n k rs) {p : Nat} (hk : k < n) (hkp : k ≤ p) (hp : p < n) (h0 : entI rs p k ≠ 0) {one : List Int} (ho : RowOk n one) (ho2 : ∀ j, j ≤ n → one[j]?.getD 0 = mulI (entI rs p j) (invI (entI rs p k))) :
    GP xs ys n k ((rs.set p (rs[k]?.getD [])).set k one) ∧ Mx ((rs.set p (rs[k]?.getD [])).set k one) k k = 1 := by
  have hl := h.len
  have e : ∀ a j, entI ((rs.set p (rs[k]?.getD [])).set k one) a j = if a = k then one[j]?.getD 0 else if a = p then entI rs k j else entI rs a j := fun a j => by
    rw [ent_set (by rw [List.length_set]; omega), ent_set (by omega)]; rfl
  have h0N : Mx rs p k ≠ 0 := by have := h.ent hp k; unfold Mx; omega
  have hone : ∀ j, j ≤ n → (one[j]?.getD 0).toNat = mulN (Mx rs p j) (invN (Mx rs p k)) := fun j hj => by
    rw [ho2 j hj]; unfold mulI invI Mx; rw [Int.toNat_natCast, Int.toNat_natCast]
  have eN : ∀ a j, j ≤ n → Mx ((rs.set p (rs[k]?.getD [])).set k one) a j = if a = k then mulN (Mx rs p j) (invN (Mx rs p k)) else if a = p then Mx rs k j else Mx rs a j := fun a j hj => by
    show (entI _ a j).toNat = _
    rw [e]
    split
    · exact hone j hj
    · split <;> rfl
  have hs : invN (Mx rs p k) < 256 := inv_lt (h.lt hp k)
  refine ⟨⟨by rw [List.length_set, List.length_set]; exact hl, row_set (by rw [List.length_set]; omega) ho (row_set (by omega) (h.row k hk) h.row), fun c hc => ?_, fun j hj i hi => ?_⟩, ?_⟩
  · rw [← h.sol c hc]
    have d1 : dotN (Mx ((rs.set p (rs[k]?.getD [])).set k one) k) c (n + 1) = mulN (dotN (Mx rs p) c (n + 1)) (invN (Mx rs p k)) :=
      dot_scale (fun j _ => h.lt hp j) hc hs (fun j hj => by rw [eN k j (by omega), if_pos rfl])
    have d2 : ∀ a, a ≠ k → dotN (Mx ((rs.set p (rs[k]?.getD [])).set k one) a) c (n + 1) = dotN (Mx rs (if a = p then k else a)) c (n + 1) := fun a ha =>
      dot_congr fun j hj => ⟨by rw [eN a j (by omega), if_neg ha]; split <;> rfl, rfl⟩
    constructor
    · intro hz i hi
      have hpz : dotN (Mx rs p) c (n + 1) = 0 := by
        have := hz k hk
        rw [d1] at this
        rcases (mul_eq_zero (dot_lt fun j _ => h.lt hp j) hs).1 this with h1 | h1
        · exact h1
        · have := mul_inv (h.lt hp k) h0N
          rw [h1, mul_zero] at this
          exact absurd this (by decide)
      by_cases hip : i = p
      · rw [hip]; exact hpz
      · by_cases hik : i = k
        · subst hik
          have := hz p hp
          rw [d2 p (fun e => hip e.symm), if_pos rfl] at this
          exact this
        · have := hz i hi
          rw [d2 i hik, if_neg hip] at this
          exact this
    · intro hz i hi
      by_cases hik : i = k
      · subst hik
        rw [d1, hz p hp, zero_mul]
      · rw [d2 i hik]
        split
        · exact hz k hk
        · exact hz i hi
  · rw [eN i j (by omega)]
    by_cases hik : i = k
    · subst hik
      rw [if_pos rfl, if_neg (by omega), h.col j hj p hp, if_neg (by omega), zero_mul]
    · rw [if_neg hik]
      by_cases hip : i = p
      · subst hip
        rw [if_pos rfl, h.col j hj k hk, if_neg (by omega), if_neg (by omega)]
      · rw [if_neg hip]; exact h.col j hj i hi
  · rw [eN k k (by omega), if_pos rfl, mul_inv (h.lt hp k) h0N]
/-- So much of the leading row is taken from another that its own first is 0. -/
theorem GP.away {xs ys : List Int} {n k : Nat} {rs : List (List Int)} (h : GP xs ys n k rs) {i : Nat} (hk : k < n) (hi : i < n) (hik : i ≠ k) (h1 : Mx rs k k = 1) {next : List Int} (ho : RowOk n next) (ho2 : ∀ j, j ≤ n → next[j]?.getD 0 = xorI (entI rs i j) (mulI (entI rs k j) (entI rs i k))) :
    GP xs ys n k (rs.set i next) ∧ (∀ a, Mx (rs.set i next) a k = if a = i then 0 else Mx rs a k) := by
  have hl := h.len
  have hnx : ∀ j, j ≤ n → (next[j]?.getD 0).toNat = Mx rs i j ^^^ mulN (Mx rs k j) (Mx rs i k) := fun j hj => by
    rw [ho2 j hj]; unfold xorI mulI Mx; rw [Int.toNat_natCast, Int.toNat_natCast]
  have eN : ∀ a j, j ≤ n → Mx (rs.set i next) a j = if a = i then Mx rs i j ^^^ mulN (Mx rs k j) (Mx rs i k) else Mx rs a j := fun a j hj => by
    show (entI _ a j).toNat = _
    rw [ent_set (by omega)]
    split
    · exact hnx j hj
    · rfl
  refine ⟨⟨by rw [List.length_set]; exact hl, row_set (by omega) ho h.row, fun c hc => ?_, fun j hj a ha => ?_⟩, fun a => ?_⟩
  · rw [← h.sol c hc]
    have d1 : dotN (Mx (rs.set i next) i) c (n + 1) = dotN (Mx rs i) c (n + 1) ^^^ mulN (dotN (Mx rs k) c (n + 1)) (Mx rs i k) :=
      dot_plus (fun j _ => h.lt hi j) (fun j _ => h.lt hk j) hc (h.lt hi k) (fun j hj => by rw [eN i j (by omega), if_pos rfl])
    have d2 : ∀ a, a ≠ i → dotN (Mx (rs.set i next) a) c (n + 1) = dotN (Mx rs a) c (n + 1) := fun a ha =>
      dot_congr fun j hj => ⟨by rw [eN a j (by omega), if_neg ha], rfl⟩
    constructor
    · intro hz a ha
      by_cases hai : a = i
      · subst hai
        have h2 := hz k hk
        rw [d2 k (fun e => hik e.symm)] at h2
        have h3 := hz a ha
        rw [d1, h2, zero_mul, Nat.xor_zero] at h3
        exact h3
      · have := hz a ha
        rw [d2 a hai] at this
        exact this
    · intro hz a ha
      by_cases hai : a = i
      · subst hai
        rw [d1, hz a ha, hz k hk, zero_mul]; rfl
      · rw [d2 a hai]; exact hz a ha
  · rw [eN a j (by omega)]
    split
    · next e =>
      subst e
      rw [h.col j hj a ha, h.col j hj k hk, if_neg (show ¬ k = j by omega), zero_mul, Nat.xor_zero]
    · exact h.col j hj a ha
  · rw [eN a k (by omega)]
    split
    · rw [h1, one_mul (h.lt hi k), Nat.xor_self]
    · rfl
theorem GP.next {xs ys : List Int} {n k : Nat} {rs : List (List Int)} (h : GP xs ys n k rs) (h1 : Mx rs k k = 1) (h0 : ∀ i, i < n → i ≠ k → Mx rs i k = 0) : GP xs ys n (k + 1) rs :=
  ⟨h.len, h.row, h.sol, fun j hj i hi => by
    by_cases hjk : j = k
    · subst hjk
      by_cases e : i = j
      · subst e; rw [if_pos rfl, h1]
      · rw [if_neg e, h0 i hi e]
    · exact h.col j (by omega) i hi⟩
/-- What is left in the end are factors that come to the values. -/
theorem GP.done {xs ys : List Int} {n : Nat} {rs : List (List Int)} (h : GP xs ys n n rs) (hx : ∀ x ∈ xs, 0 ≤ x ∧ x ≤ 255) (hn : xs.length = n) (hy : ∀ y ∈ ys, 0 ≤ y ∧ y ≤ 255) :
    ∀ i, i < n → evalN ((List.range n).map fun j => Mx rs j n) (xs[i]?.getD 0).toNat = (ys[i]?.getD 0).toNat := by
  let c : Nat → Nat := fun j => if j < n then Mx rs j n else if j = n then 1 else 0
  have hc : Byf c := fun j => by
    show (if j < n then Mx rs j n else if j = n then 1 else 0) < 256
    split
    · exact h.lt (by omega) n
    · split <;> decide
  have hcn : c n = 1 := by show (if n < n then _ else if n = n then 1 else 0) = 1; rw [if_neg (by omega), if_pos rfl]
  have hz : Zz n (Mx rs) c := fun i hi => by
    show dotN (Mx rs i) c n ^^^ mulN (Mx rs i n) (c n) = 0
    rw [dot_delta hc fun j hj => h.col j hj i hi, hcn, mul_one (h.lt hi n), if_pos hi]
    have : c i = Mx rs i n := by show (if i < n then _ else _) = _; rw [if_pos hi]
    rw [this, Nat.xor_self]
  have hv := (h.sol c hc).1 hz
  intro i hi
  have hx256 : (xs[i]?.getD 0).toNat < 256 := by
    rw [List.getElem?_eq_getElem (by omega)]
    have := hx _ (List.getElem_mem (show i < xs.length by omega))
    show (xs[i]).toNat < 256
    omega
  have h1 := hv i hi
  have h2 : dotN (vanI xs ys n i) c (n + 1) = dotN (powN (xs[i]?.getD 0).toNat) c n ^^^ mulN (vanI xs ys n i n) (c n) := by
    show dotN _ c n ^^^ _ = _
    rw [dot_congr (r := vanI xs ys n i) (s := powN (xs[i]?.getD 0).toNat) (d := c) fun j hj => ⟨by unfold vanI; rw [if_pos hj], rfl⟩]
  have h3 : vanI xs ys n i n = (ys[i]?.getD 0).toNat := by unfold vanI; rw [if_neg (by omega)]
  rw [h2, hcn, mul_one (van_lt hx hy n i n), h3] at h1
  have h4 := eval_dot hc hx256 n
  have h5 : (List.range n).map c = (List.range n).map fun j => Mx rs j n := List.map_congr_left fun j hj => by
    show (if j < n then _ else _) = _; rw [if_pos (List.mem_range.1 hj)]
  rw [← h5, h4]
  exact xor_eq_zero.1 h1
/-- The rows at first. -/
def rowI (x y : Int) (n : Nat) : List Int := ((List.range n).map fun j => powI x j) ++ [y]
theorem GP.first {xs ys : List Int} {n : Nat} {rs : List (List Int)} (hx : ∀ x ∈ xs, 0 ≤ x ∧ x ≤ 255) (hn : xs.length = n) (hy : ∀ y ∈ ys, 0 ≤ y ∧ y ≤ 255) (hl : rs.length = n) (h : ∀ i, i < n → rs[i]?.getD [] = rowI (xs[i]?.getD 0) (ys[i]?.getD 0) n) : GP xs ys n 0 rs := by
  have hb : ∀ {l : List Int} (i : Nat), (∀ x ∈ l, 0 ≤ x ∧ x ≤ 255) → Byte (l[i]?.getD 0) := fun {l} i h => by
    by_cases hi : i < l.length
    · rw [List.getElem?_eq_getElem hi]; exact h _ (List.getElem_mem hi)
    · rw [List.getElem?_eq_none (by omega)]; exact ⟨by decide, by decide⟩
  refine ⟨hl, fun i hi => ?_, fun c hc => ?_, fun j hj => absurd hj (Nat.not_lt_zero _)⟩
  · rw [h i hi]
    refine ⟨by simp [rowI], fun x hm => ?_⟩
    rcases List.mem_append.1 hm with hm | hm
    · obtain ⟨j, _, rfl⟩ := List.mem_map.1 hm
      exact powI_byte (hb i hx) j
    · simp at hm
      subst hm; exact hb i hy
  · have e : ∀ i, i < n → dotN (Mx rs i) c (n + 1) = dotN (vanI xs ys n i) c (n + 1) := fun i hi => dot_congr fun j hj => ⟨by
      unfold Mx entI vanI
      rw [h i hi]
      unfold rowI
      by_cases hjn : j < n
      · rw [if_pos hjn, List.getElem?_append_left (by simpa using hjn), List.getElem?_map, List.getElem?_range hjn]
        show (powI (xs[i]?.getD 0) j).toNat = _
        unfold powI; rw [Int.toNat_natCast]
      · have : j = n := by omega
        subst this
        rw [if_neg hjn, List.getElem?_append_right (by simp)]
        simp, rfl⟩
    constructor
    · intro hz i hi; rw [← e i hi]; exact hz i hi
    · intro hz i hi; rw [e i hi]; exact hz i hi

/-! ### The shards by such factors are the shards by interpolation -/
theorem fac_poly {c : Nat → Nat} {n : Nat} (hc : ∀ j, j < n → c j < 256) : PolyF n fun a => evalN ((List.range n).map c) a :=
  ⟨(List.range n).map c, fun b hb => by obtain ⟨j, hj, rfl⟩ := List.mem_map.1 hb; exact hc j (List.mem_range.1 hj), by simp, fun x _ => rfl⟩
theorem fac_thr {xs ys : List Int} {n : Nat} {c : Nat → Nat} (hx : ∀ x ∈ xs, 0 ≤ x ∧ x ≤ 255) (hd : xs.Nodup) (hn : xs.length = n) (hy : ∀ y ∈ ys, 0 ≤ y ∧ y ≤ 255) (hc : ∀ j, j < n → c j < 256)
    (h : ∀ i, i < n → evalN ((List.range n).map c) (xs[i]?.getD 0).toNat = (ys[i]?.getD 0).toNat) {a : Nat} (ha : a < 256) : thrI xs ys (a : Int) n = ((evalN ((List.range n).map c) a : Nat) : Int) := by
  rw [thrI_nat, Int.toNat_natCast]
  have hp := thrN_poly (X := nts xs) (Y := nts ys) (nts_byt hx) (nts_byt hy) n (by rw [nts_len, hn]; exact Nat.le_refl _)
  rw [nts_len, hn] at hp
  have := poly_same hp (fac_poly hc) (nts_nodup hx hd) (nts_byt hx) (by rw [nts_len, hn]; exact Nat.le_refl _) (fun r hr => by
    obtain ⟨i, hi, rfl⟩ := List.mem_iff_getElem.1 hr
    have hin : i < n := by rw [← hn]; simpa [nts_len] using hi
    have hxi : (nts xs)[i] = (xs[i]?.getD 0).toNat := by
      rw [← nts_get, List.getElem?_eq_getElem hi]; rfl
    show thrN (nts xs) (nts ys) (nts xs)[i] n = evalN _ (nts xs)[i]
    rw [hxi, h i hin]
    have := thrN_in (X := nts xs) (Y := nts ys) (nts_byt hx) (nts_byt hy) (nts_nodup hx hd) (m := i) (by rw [nts_len, hn]; exact hin)
    rw [nts_get, nts_get, nts_len, hn] at this
    exact this) a ha
  rw [this]
end Go.Proofs.YtdhfckdnfppieaaDoor
