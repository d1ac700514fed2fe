/- Shards by interpolation, plainly: the polynomial through given bytes, its values, and that it is the only one. No program in sight. -/
import Derived.Test.YtdhfckdnfppieaaGalois2
import Derived.Test.YtdhfckdnfppieaaBytes
namespace Go.Proofs.Ytdhfckdnfppieaa
open Go Go.RowKit
set_option linter.unusedVariables false

/-! ### Functions that are polynomials of fewer than d + 1 factors -/
def PolyF (d : Nat) (f : Nat → Nat) : Prop := ∃ l : List Nat, Byt l ∧ l.length ≤ d ∧ ∀ x, x < 256 → f x = evalN l x
def addL : List Nat → List Nat → List Nat
  | [], b => b
  | x :: a, [] => x :: a
  | x :: a, y :: b => (x ^^^ y) :: addL a b
theorem addL_len : ∀ (a b : List Nat) {d : Nat}, a.length ≤ d → b.length ≤ d → (addL a b).length ≤ d
  | [], b, _, _, h => h
  | x :: a, [], _, h, _ => h
  | x :: a, y :: b, 0, h, _ => by simp at h
  | x :: a, y :: b, d + 1, h1, h2 => by
    have := addL_len a b (d := d) (by simpa using h1) (by simpa using h2)
    simpa [addL] using this
theorem addL_byt : ∀ {a b : List Nat}, Byt a → Byt b → Byt (addL a b)
  | [], b, _, h => h
  | x :: a, [], h, _ => h
  | x :: a, y :: b, h1, h2 => fun z hz => by
    rcases List.mem_cons.1 hz with rfl | hz
    · exact xor_lt h1.head h2.head
    · exact addL_byt h1.tail h2.tail z hz
theorem addL_eval {x : Nat} (hx : x < 256) : ∀ {a b : List Nat}, Byt a → Byt b → evalN (addL a b) x = evalN a x ^^^ evalN b x
  | [], b, _, _ => by show evalN b x = 0 ^^^ evalN b x; rw [Nat.zero_xor]
  | u :: a, [], _, _ => by show evalN (u :: a) x = evalN (u :: a) x ^^^ 0; rw [Nat.xor_zero]
  | u :: a, v :: b, h1, h2 => by
    show (u ^^^ v) ^^^ mulN (evalN (addL a b) x) x = (u ^^^ mulN (evalN a x) x) ^^^ (v ^^^ mulN (evalN b x) x)
    rw [addL_eval hx h1.tail h2.tail, mul_left (evalN_lt h1.tail hx) (evalN_lt h2.tail hx), xor_swap]
theorem scale_byt {a : List Nat} (h : Byt a) (c : Nat) : Byt (a.map fun z => mulN z c) := by
  intro z hz
  obtain ⟨y, hy, rfl⟩ := List.mem_map.1 hz
  exact mul_lt (h y hy)
theorem scale_eval {x c : Nat} (hx : x < 256) (hc : c < 256) : ∀ {a : List Nat}, Byt a → evalN (a.map fun z => mulN z c) x = mulN (evalN a x) c
  | [], _ => by show 0 = mulN 0 c; rw [zero_mul]
  | u :: a, h => by
    have he := evalN_lt h.tail hx
    show mulN u c ^^^ mulN (evalN (a.map fun z => mulN z c) x) x = mulN (u ^^^ mulN (evalN a x) x) c
    rw [scale_eval hx hc h.tail, mul_left h.head (mul_lt he), mul_assoc he hc hx, mul_assoc he hx hc, mul_comm hc hx]
theorem PolyF.lt {d : Nat} {f : Nat → Nat} (h : PolyF d f) {x : Nat} (hx : x < 256) : f x < 256 := by
  obtain ⟨l, h1, h2, h3⟩ := h
  rw [h3 x hx]; exact evalN_lt h1 hx
theorem PolyF.mono {d e : Nat} {f : Nat → Nat} (h : PolyF d f) (hde : d ≤ e) : PolyF e f := by
  obtain ⟨l, h1, h2, h3⟩ := h
  exact ⟨l, h1, Nat.le_trans h2 hde, h3⟩
theorem poly_zero (d : Nat) : PolyF d fun _ => 0 := ⟨[], (fun _ h => by cases h), Nat.zero_le _, fun _ _ => rfl⟩
theorem poly_const {y : Nat} (hy : y < 256) : PolyF 1 fun _ => y :=
  ⟨[y], (fun z hz => by simp at hz; omega), Nat.le_refl _, fun x _ => by show y = y ^^^ mulN 0 x; rw [zero_mul, Nat.xor_zero]⟩
theorem PolyF.add {d : Nat} {f g : Nat → Nat} (h1 : PolyF d f) (h2 : PolyF d g) : PolyF d fun x => f x ^^^ g x := by
  obtain ⟨a, a1, a2, a3⟩ := h1
  obtain ⟨b, b1, b2, b3⟩ := h2
  exact ⟨addL a b, addL_byt a1 b1, addL_len a b a2 b2, fun x hx => by show f x ^^^ g x = _; rw [a3 x hx, b3 x hx, addL_eval hx a1 b1]⟩
theorem PolyF.scale {d c : Nat} {f : Nat → Nat} (h : PolyF d f) (hc : c < 256) : PolyF d fun x => mulN (f x) c := by
  obtain ⟨a, a1, a2, a3⟩ := h
  exact ⟨_, scale_byt a1 c, by simpa using a2, fun x hx => by show mulN (f x) c = _; rw [a3 x hx, scale_eval hx hc a1]⟩
theorem PolyF.lin {d c : Nat} {f : Nat → Nat} (h : PolyF d f) (hc : c < 256) : PolyF (d + 1) fun x => mulN (f x) (x ^^^ c) := by
  obtain ⟨a, a1, a2, a3⟩ := h
  have hz : Byt (0 :: a) := fun z hz => by
    rcases List.mem_cons.1 hz with rfl | hz
    · decide
    · exact a1 z hz
  refine ⟨addL (0 :: a) (a.map fun z => mulN z c), addL_byt hz (scale_byt a1 c), addL_len _ _ (by simpa using a2) (by simp; omega), fun x hx => ?_⟩
  show mulN (f x) (x ^^^ c) = _
  rw [addL_eval hx hz (scale_byt a1 c), scale_eval hx hc a1, mul_right, a3 x hx]
  show _ = (0 ^^^ mulN (evalN a x) x) ^^^ _
  rw [Nat.zero_xor]
/-- Only one polynomial of d factors goes through d points. -/
theorem poly_same {d : Nat} {f g : Nat → Nat} (h1 : PolyF d f) (h2 : PolyF d g) {rs : List Nat} (hnd : rs.Nodup) (hb : Byt rs) (hl : d ≤ rs.length) (he : ∀ r ∈ rs, f r = g r) :
    ∀ x, x < 256 → f x = g x := by
  obtain ⟨l, l1, l2, l3⟩ := h1.add h2
  have hz : AllZ l := by
    apply Classical.byContradiction
    intro hh
    have := roots_lt l.length rfl l1 hh hnd hb (fun r hr => by rw [← l3 r (hb r hr)]; show f r ^^^ g r = 0; rw [he r hr, Nat.xor_self])
    omega
  intro x hx
  have := l3 x hx
  rw [evalN_zero hz] at this
  exact xor_eq_zero.1 this

/-! ### Lagrange's terms -/
def stepN (X : List Nat) (i a t j : Nat) : Nat := if j = i then t else mulN (mulN t (a ^^^ X[j]?.getD 0)) (invN (X[i]?.getD 0 ^^^ X[j]?.getD 0))
def termN (X : List Nat) (i a y : Nat) : Nat → Nat
  | 0 => y
  | k + 1 => stepN X i a (termN X i a y k) k
def thrN (X Y : List Nat) (a : Nat) : Nat → Nat
  | 0 => 0
  | k + 1 => thrN X Y a k ^^^ termN X k a (Y[k]?.getD 0) X.length
theorem get_byt {X : List Nat} (h : Byt X) (j : Nat) : X[j]?.getD 0 < 256 := by
  by_cases hj : j < X.length
  · rw [List.getElem?_eq_getElem hj]; exact h _ (List.getElem_mem hj)
  · rw [List.getElem?_eq_none (by omega)]; decide
theorem get_ne {X : List Nat} (h : X.Nodup) {i j : Nat} (hi : i < X.length) (hj : j < X.length) (hne : i ≠ j) : X[i]?.getD 0 ≠ X[j]?.getD 0 := by
  rw [List.getElem?_eq_getElem hi, List.getElem?_eq_getElem hj]
  show X[i] ≠ X[j]
  intro e
  exact hne ((List.getElem_inj h).1 e)
theorem stepN_lt {X : List Nat} {i a t j : Nat} (ht : t < 256) : stepN X i a t j < 256 := by
  unfold stepN; split
  · exact ht
  · exact mul_lt (mul_lt ht)
theorem termN_lt {X : List Nat} {i a y : Nat} (hy : y < 256) : ∀ k, termN X i a y k < 256
  | 0 => hy
  | k + 1 => stepN_lt (termN_lt hy k)
theorem thrN_lt {X Y : List Nat} {a : Nat} (hY : Byt Y) : ∀ k, thrN X Y a k < 256
  | 0 => by show 0 < 256; decide
  | k + 1 => xor_lt (thrN_lt hY k) (termN_lt (get_byt hY k) _)
theorem termN_poly {X : List Nat} {i y : Nat} (hX : Byt X) (hy : y < 256) : ∀ k, PolyF (1 + (if i < k then k - 1 else k)) fun a => termN X i a y k
  | 0 => by
    have := poly_const hy
    exact this
  | k + 1 => by
    have ih := termN_poly (i := i) hX hy k
    by_cases hk : k = i
    · have e : (fun a => termN X i a y (k + 1)) = fun a => termN X i a y k := by
        funext a
        show stepN X i a _ k = _
        unfold stepN; rw [if_pos hk]
      rw [e]
      refine ih.mono ?_
      rw [if_neg (by omega), if_pos (by omega)]
      omega
    · have e : (fun a => termN X i a y (k + 1)) = fun a => mulN (mulN (termN X i a y k) (a ^^^ X[k]?.getD 0)) (invN (X[i]?.getD 0 ^^^ X[k]?.getD 0)) := by
        funext a
        show stepN X i a _ k = _
        unfold stepN; rw [if_neg hk]
      rw [e]
      refine ((ih.lin (get_byt hX k)).scale (inv_lt (xor_lt (get_byt hX i) (get_byt hX k)))).mono ?_
      by_cases hi : i < k
      · rw [if_pos hi, if_pos (by omega)]; omega
      · rw [if_neg hi, if_neg (by omega)]; omega
theorem thrN_poly {X Y : List Nat} (hX : Byt X) (hY : Byt Y) : ∀ k, k ≤ X.length → PolyF X.length fun a => thrN X Y a k
  | 0, _ => poly_zero _
  | k + 1, h => by
    refine (thrN_poly hX hY k (by omega)).add ?_
    refine (termN_poly (i := k) hX (get_byt hY k) X.length).mono ?_
    rw [if_pos (by omega)]; omega
theorem termN_far {X : List Nat} {i m y : Nat} (him : i ≠ m) : ∀ k, m < k → termN X i (X[m]?.getD 0) y k = 0
  | 0, h => by omega
  | k + 1, h => by
    show stepN X i _ _ k = 0
    unfold stepN
    by_cases hk : k = m
    · subst hk
      rw [if_neg (by omega), Nat.xor_self, mul_zero, zero_mul]
    · rw [termN_far him k (by omega)]
      split
      · rfl
      · rw [zero_mul, zero_mul]
theorem termN_near {X : List Nat} {m y : Nat} (hX : Byt X) (hnd : X.Nodup) (hm : m < X.length) (hy : y < 256) : ∀ k, k ≤ X.length → termN X m (X[m]?.getD 0) y k = y
  | 0, _ => rfl
  | k + 1, h => by
    show stepN X m _ _ k = y
    unfold stepN
    rw [termN_near hX hnd hm hy k (by omega)]
    split
    · rfl
    · next hk =>
      have hne := get_ne hnd hm (show k < X.length by omega) (fun e => hk e.symm)
      exact mul_div hy (xor_lt (get_byt hX m) (get_byt hX k)) (fun e => hne (xor_eq_zero.1 e))
theorem thrN_at {X Y : List Nat} (hX : Byt X) (hY : Byt Y) (hnd : X.Nodup) {m : Nat} (hm : m < X.length) : ∀ k, k ≤ X.length → thrN X Y (X[m]?.getD 0) k = if m < k then Y[m]?.getD 0 else 0
  | 0, _ => by rw [if_neg (by omega)]; rfl
  | k + 1, h => by
    show thrN X Y _ k ^^^ termN X k _ _ _ = _
    rw [thrN_at hX hY hnd hm k (by omega)]
    by_cases hk : k = m
    · subst hk
      rw [if_neg (by omega), if_pos (by omega), Nat.zero_xor, termN_near hX hnd hm (get_byt hY k) _ (Nat.le_refl _)]
    · rw [termN_far hk _ hm, Nat.xor_zero]
      by_cases h1 : m < k
      · rw [if_pos h1, if_pos (by omega)]
      · rw [if_neg h1, if_neg (by omega)]
theorem thrN_in {X Y : List Nat} (hX : Byt X) (hY : Byt Y) (hnd : X.Nodup) {m : Nat} (hm : m < X.length) : thrN X Y (X[m]?.getD 0) X.length = Y[m]?.getD 0 := by
  rw [thrN_at hX hY hnd hm _ (Nat.le_refl _), if_pos hm]
theorem termN_sum {X : List Nat} {i a y z : Nat} (hy : y < 256) (hz : z < 256) : ∀ k, termN X i a (y ^^^ z) k = termN X i a y k ^^^ termN X i a z k
  | 0 => rfl
  | k + 1 => by
    show stepN X i a _ k = stepN X i a _ k ^^^ stepN X i a _ k
    rw [termN_sum hy hz k]
    unfold stepN
    split
    · rfl
    · rw [mul_left (termN_lt hy k) (termN_lt hz k), mul_left (mul_lt (termN_lt hy k)) (mul_lt (termN_lt hz k))]
theorem thrN_sum {X Y Z S : List Nat} {a : Nat} (hY : Byt Y) (hZ : Byt Z) : ∀ k, (∀ j, j < k → S[j]?.getD 0 = Y[j]?.getD 0 ^^^ Z[j]?.getD 0) → thrN X S a k = thrN X Y a k ^^^ thrN X Z a k
  | 0, _ => by show 0 = 0 ^^^ 0; rfl
  | k + 1, h => by
    show thrN X S a k ^^^ termN X k a _ _ = (thrN X Y a k ^^^ termN X k a _ _) ^^^ (thrN X Z a k ^^^ termN X k a _ _)
    rw [thrN_sum hY hZ k (fun j hj => h j (by omega)), h k (by omega), termN_sum (get_byt hY k) (get_byt hZ k), xor_swap]

/-! ### The same on ints, as the program has it -/
def nts (zs : List Int) : List Nat := zs.map Int.toNat
theorem nts_len (zs : List Int) : (nts zs).length = zs.length := by simp [nts]
theorem nts_byt {zs : List Int} (h : ∀ x ∈ zs, 0 ≤ x ∧ x ≤ 255) : Byt (nts zs) := by
  intro b hb
  obtain ⟨x, hx, rfl⟩ := List.mem_map.1 hb
  have := h x hx; omega
theorem nts_get (zs : List Int) (j : Nat) : (nts zs)[j]?.getD 0 = (zs[j]?.getD 0).toNat := by
  unfold nts
  rw [List.getElem?_map]
  cases zs[j]? <;> rfl
theorem nts_nodup {zs : List Int} (h : ∀ x ∈ zs, 0 ≤ x ∧ x ≤ 255) (hd : zs.Nodup) : (nts zs).Nodup := by
  induction zs with
  | nil => exact List.nodup_nil
  | cons x r ih =>
    have hd' := List.nodup_cons.1 hd
    refine List.nodup_cons.2 ⟨fun hm => ?_, ih (fun y hy => h y (by simp [hy])) hd'.2⟩
    obtain ⟨y, hy, e⟩ := List.mem_map.1 hm
    have h1 := h x (by simp)
    have h2 := h y (by simp [hy])
    have : y = x := by omega
    subst this
    exact hd'.1 hy
def stepI (xs : List Int) (i : Nat) (a t : Int) (j : Nat) : Int := if j = i then t else mulI (mulI t (xorI a (xs[j]?.getD 0))) (invI (xorI (xs[i]?.getD 0) (xs[j]?.getD 0)))
def termI (xs : List Int) (i : Nat) (a y : Int) : Nat → Int
  | 0 => y
  | k + 1 => stepI xs i a (termI xs i a y k) k
def thrI (xs ys : List Int) (a : Int) : Nat → Int
  | 0 => 0
  | k + 1 => xorI (thrI xs ys a k) (termI xs k a (ys[k]?.getD 0) xs.length)
theorem termI_nat (xs : List Int) (i : Nat) (a y : Int) : ∀ k, (termI xs i a y k).toNat = termN (nts xs) i a.toNat y.toNat k
  | 0 => rfl
  | k + 1 => by
    show (stepI xs i a _ k).toNat = stepN _ i _ _ k
    unfold stepI stepN
    rw [← termI_nat xs i a y k, nts_get, nts_get]
    split
    · rfl
    · unfold mulI xorI invI
      simp only [Int.toNat_natCast]
theorem thrI_nat (xs ys : List Int) (a : Int) : ∀ k, thrI xs ys a k = ((thrN (nts xs) (nts ys) a.toNat k : Nat) : Int)
  | 0 => rfl
  | k + 1 => by
    show xorI _ _ = ((thrN _ _ _ k ^^^ termN _ k _ _ _ : Nat) : Int)
    rw [thrI_nat xs ys a k, nts_get, nts_len, ← termI_nat]
    unfold xorI
    rw [Int.toNat_natCast]
theorem termI_byte {xs : List Int} {i : Nat} {a y : Int} (hy : Byte y) : ∀ k, Byte (termI xs i a y k)
  | 0 => hy
  | k + 1 => by
    have ih := termI_byte (xs := xs) (i := i) (a := a) hy k
    show Byte (stepI xs i a _ k)
    unfold stepI
    split
    · exact ih
    · exact ⟨mulI_nonneg _ _, mulI_le (mulI_le ih.2)⟩
theorem thrI_byte {xs ys : List Int} {a : Int} (hy : ∀ y ∈ ys, 0 ≤ y ∧ y ≤ 255) (k : Nat) : Byte (thrI xs ys a k) := by
  rw [thrI_nat]
  have := thrN_lt (X := nts xs) (a := a.toNat) (nts_byt hy) k
  exact ⟨by omega, by omega⟩

/-! ### Shards -/
def iota (n : Nat) : List Int := (List.range n).map fun k : Nat => (k : Int)
theorem iota_len (n : Nat) : (iota n).length = n := by simp [iota]
theorem iota_get {n k : Nat} (h : k < n) : (iota n)[k]?.getD 0 = (k : Int) := by
  unfold iota
  rw [List.getElem?_map, List.getElem?_range h]; rfl
theorem iota_succ (n : Nat) : iota (n + 1) = iota n ++ [(n : Int)] := by simp [iota, List.range_succ]
theorem iota_bytes {n : Nat} (h : n ≤ 256) : ∀ x ∈ iota n, 0 ≤ x ∧ x ≤ 255 := by
  intro x hx
  obtain ⟨k, hk, rfl⟩ := List.mem_map.1 hx
  have := List.mem_range.1 hk
  omega
theorem iota_nodup (n : Nat) : (iota n).Nodup := by
  unfold iota
  rw [List.nodup_iff_pairwise_ne, List.pairwise_map]
  exact List.Pairwise.imp (fun h e => h (by omega)) (List.nodup_iff_pairwise_ne.1 List.nodup_range)
/-- The shard of the data d at place k. -/
def valI (d : List Int) (k : Nat) : Int := thrI (iota d.length) d k d.length
def shards (d : List Int) (m : Nat) : List Int := d ++ (List.range m).map fun j => valI d (d.length + j)
def makeE (d : List Int) (more : Int) : Int := if d.length = 0 then 5 else if bytesE d 8 ≠ 0 then bytesE d 8 else if 0 ≤ more ∧ more ≤ 4 then 0 else 1
theorem shards_zero (d : List Int) : shards d 0 = d := by simp [shards]
theorem shards_succ (d : List Int) (m : Nat) : shards d (m + 1) = shards d m ++ [valI d (d.length + m)] := by simp [shards, List.range_succ]
theorem shards_len (d : List Int) (m : Nat) : (shards d m).length = d.length + m := by simp [shards]
theorem valI_byte {d : List Int} (h : ∀ x ∈ d, 0 ≤ x ∧ x ≤ 255) (k : Nat) : Byte (valI d k) := thrI_byte h _
theorem shards_bytes {d : List Int} (h : ∀ x ∈ d, 0 ≤ x ∧ x ≤ 255) (m : Nat) : ∀ x ∈ shards d m, 0 ≤ x ∧ x ≤ 255 := by
  intro x hx
  rcases List.mem_append.1 hx with hx | hx
  · exact h x hx
  · obtain ⟨j, _, rfl⟩ := List.mem_map.1 hx
    exact valI_byte h _
/-- As a function of naturals. -/
def valN (d : List Int) (k : Nat) : Nat := thrN (nts (iota d.length)) (nts d) k d.length
theorem valI_nat (d : List Int) (k : Nat) : valI d k = ((valN d k : Nat) : Int) := by
  unfold valI valN
  rw [thrI_nat, Int.toNat_natCast]
theorem valN_poly {d : List Int} (h : ∀ x ∈ d, 0 ≤ x ∧ x ≤ 255) (h8 : d.length ≤ 256) : PolyF d.length (valN d) := by
  have := thrN_poly (X := nts (iota d.length)) (nts_byt (iota_bytes h8)) (nts_byt h) d.length (by rw [nts_len, iota_len]; exact Nat.le_refl _)
  rwa [nts_len, iota_len] at this
theorem valN_data {d : List Int} (h : ∀ x ∈ d, 0 ≤ x ∧ x ≤ 255) (h8 : d.length ≤ 256) {k : Nat} (hk : k < d.length) : valN d k = (d[k]?.getD 0).toNat := by
  have hb := iota_bytes h8
  have := thrN_in (X := nts (iota d.length)) (Y := nts d) (nts_byt hb) (nts_byt h) (nts_nodup hb (iota_nodup _)) (m := k) (by rw [nts_len, iota_len]; exact hk)
  rw [nts_get, nts_get, nts_len, iota_len, iota_get hk, Int.toNat_natCast] at this
  exact this
theorem shards_get {d : List Int} (h : ∀ x ∈ d, 0 ≤ x ∧ x ≤ 255) (h8 : d.length ≤ 256) {m k : Nat} (hk : k < d.length + m) : (shards d m)[k]?.getD 0 = valI d k := by
  unfold shards
  by_cases hlt : k < d.length
  · rw [List.getElem?_append_left hlt, valI_nat, valN_data h h8 hlt]
    have : 0 ≤ d[k]?.getD 0 := by rw [List.getElem?_eq_getElem hlt]; exact (h _ (List.getElem_mem hlt)).1
    omega
  · rw [List.getElem?_append_right (by omega), List.getElem?_map, List.getElem?_range (by omega)]
    show valI d (d.length + (k - d.length)) = _
    rw [show d.length + (k - d.length) = k by omega]
end Go.Proofs.Ytdhfckdnfppieaa
