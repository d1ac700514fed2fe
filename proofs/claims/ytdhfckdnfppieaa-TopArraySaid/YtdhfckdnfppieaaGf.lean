/- Bytes as a field, on naturals below 256: products, inverses, powers, polynomials and their roots. No program in sight. -/
import Derived.Test.YtdhfckdnfppieaaBits
namespace Go.Proofs.Ytdhfckdnfppieaa
open Go Go.RowKit

def xtN (a : Nat) : Nat := if 255 < 2 * a then (2 * a) ^^^ 285 else 2 * a
def mulF : Nat → Nat → Nat → Nat
  | 0, _, _ => 0
  | k + 1, a, b => (if b % 2 = 1 then a else 0) ^^^ mulF k (xtN a) (b / 2)
def mulN (a b : Nat) : Nat := mulF 8 a b

theorem xor_lt {x y : Nat} (hx : x < 256) (hy : y < 256) : x ^^^ y < 256 := Nat.xor_lt_two_pow (n := 8) hx hy
theorem xor_swap (a b c d : Nat) : (a ^^^ b) ^^^ (c ^^^ d) = (a ^^^ c) ^^^ (b ^^^ d) := by
  rw [Nat.xor_assoc, Nat.xor_assoc, ← Nat.xor_assoc b c d, Nat.xor_comm b c, Nat.xor_assoc c b d]
theorem xor_cancel (a b : Nat) : a ^^^ (a ^^^ b) = b := by rw [← Nat.xor_assoc, Nat.xor_self, Nat.zero_xor]
theorem two_xor (x y : Nat) : 2 * (x ^^^ y) = (2 * x) ^^^ (2 * y) := by
  have := Nat.shiftLeft_xor_distrib (a := x) (b := y) (i := 1)
  simp only [Nat.shiftLeft_eq, Nat.pow_one] at this
  rw [Nat.mul_comm 2, Nat.mul_comm 2 x, Nat.mul_comm 2 y]
  exact this
theorem div128_xor (x y : Nat) : (x ^^^ y) / 128 = (x / 128) ^^^ (y / 128) := by
  have := Nat.shiftRight_xor_distrib (a := x) (b := y) (i := 7)
  simpa [Nat.shiftRight_eq_div_pow] using this
theorem mul285_xor {u v : Nat} (hu : u < 2) (hv : v < 2) : 285 * (u ^^^ v) = (285 * u) ^^^ (285 * v) := by
  rcases (by omega : u = 0 ∨ u = 1) with rfl | rfl <;> rcases (by omega : v = 0 ∨ v = 1) with rfl | rfl <;> rfl
theorem xt_lt {x : Nat} (h : x < 256) : xtN x < 256 := by
  have key : ∀ y : Fin 256, xtN y.val < 256 := by decide +kernel
  exact key ⟨x, h⟩
theorem xt_eq {x : Nat} (h : x < 256) : xtN x = (2 * x) ^^^ (285 * (x / 128)) := by
  have key : ∀ y : Fin 256, xtN y.val = (2 * y.val) ^^^ (285 * (y.val / 128)) := by decide +kernel
  exact key ⟨x, h⟩
theorem xt_xor {x y : Nat} (hx : x < 256) (hy : y < 256) : xtN (x ^^^ y) = xtN x ^^^ xtN y := by
  rw [xt_eq (xor_lt hx hy), xt_eq hx, xt_eq hy, two_xor, div128_xor, mul285_xor (by omega) (by omega), xor_swap]

theorem mulF_lt (k : Nat) : ∀ {a b : Nat}, a < 256 → mulF k a b < 256 := by
  induction k with
  | zero => intro a b _; exact Nat.zero_lt_succ _
  | succ k ih =>
    intro a b ha
    refine xor_lt ?_ (ih (xt_lt ha))
    split <;> omega
theorem mulF_left (k : Nat) : ∀ {a c b : Nat}, a < 256 → c < 256 → mulF k (a ^^^ c) b = mulF k a b ^^^ mulF k c b := by
  induction k with
  | zero => intro a c b _ _; simp [mulF]
  | succ k ih =>
    intro a c b ha hc
    show (if b % 2 = 1 then a ^^^ c else 0) ^^^ mulF k (xtN (a ^^^ c)) (b / 2) = ((if b % 2 = 1 then a else 0) ^^^ mulF k (xtN a) (b / 2)) ^^^ ((if b % 2 = 1 then c else 0) ^^^ mulF k (xtN c) (b / 2))
    rw [xt_xor ha hc, ih (xt_lt ha) (xt_lt hc), xor_swap (if b % 2 = 1 then a else 0)]
    split <;> rfl
theorem mulF_right (k : Nat) : ∀ {a b d : Nat}, mulF k a (b ^^^ d) = mulF k a b ^^^ mulF k a d := by
  induction k with
  | zero => intro a b d; simp [mulF]
  | succ k ih =>
    intro a b d
    show (if (b ^^^ d) % 2 = 1 then a else 0) ^^^ mulF k (xtN a) ((b ^^^ d) / 2) = ((if b % 2 = 1 then a else 0) ^^^ mulF k (xtN a) (b / 2)) ^^^ ((if d % 2 = 1 then a else 0) ^^^ mulF k (xtN a) (d / 2))
    rw [show (b ^^^ d) / 2 = (b / 2) ^^^ (d / 2) from Nat.xor_div_two, ih, xor_swap (if b % 2 = 1 then a else 0), xor_mod2]
    congr 1
    rcases (by omega : b % 2 = 0 ∨ b % 2 = 1) with hb | hb <;> rcases (by omega : d % 2 = 0 ∨ d % 2 = 1) with hd | hd
    · rw [if_neg (by omega), if_neg (by omega), if_neg (by omega)]; rfl
    · rw [if_pos (by omega), if_neg (by omega), if_pos (by omega), Nat.zero_xor]
    · rw [if_pos (by omega), if_pos (by omega), if_neg (by omega), Nat.xor_zero]
    · rw [if_neg (by omega), if_pos (by omega), if_pos (by omega), Nat.xor_self]
theorem mul_lt {a b : Nat} (ha : a < 256) : mulN a b < 256 := mulF_lt 8 ha
theorem mul_left {a c b : Nat} (ha : a < 256) (hc : c < 256) : mulN (a ^^^ c) b = mulN a b ^^^ mulN c b := mulF_left 8 ha hc
theorem mul_right {a b d : Nat} : mulN a (b ^^^ d) = mulN a b ^^^ mulN a d := mulF_right 8

/-! ### What is linear is known by its values at 1, 2, 4, .. 128 -/
def Lin (f : Nat → Nat) : Prop := ∀ x y, x < 256 → y < 256 → f (x ^^^ y) = f x ^^^ f y
theorem Lin.zero {f : Nat → Nat} (h : Lin f) : f 0 = 0 := by
  have := h 0 0 (by decide) (by decide)
  rw [Nat.xor_self, Nat.xor_self] at this
  exact this
theorem xor_pow (k : Nat) (hk : k < 8) {y : Nat} (hy : y < 2 ^ k) : y ^^^ 2 ^ k = y + 2 ^ k := by
  have key : ∀ (i : Fin 8) (z : Fin 256), z.val < 2 ^ i.val → z.val ^^^ 2 ^ i.val = z.val + 2 ^ i.val := by decide +kernel
  have h8 : (2 : Nat) ^ k ≤ 2 ^ 8 := Nat.pow_le_pow_right (by decide) (by omega)
  exact key ⟨k, hk⟩ ⟨y, by omega⟩ hy
theorem lin_ext {f g : Nat → Nat} (hf : Lin f) (hg : Lin g) (h : ∀ i, i < 8 → f (2 ^ i) = g (2 ^ i)) : ∀ x, x < 256 → f x = g x := by
  have main : ∀ k, k ≤ 8 → ∀ x, x < 2 ^ k → f x = g x := by
    intro k
    induction k with
    | zero =>
      intro _ x hx
      obtain rfl : x = 0 := by simpa using hx
      rw [hf.zero, hg.zero]
    | succ k ih =>
      intro hk x hx
      by_cases hlt : x < 2 ^ k
      · exact ih (by omega) x hlt
      · have h8 : (2 : Nat) ^ (k + 1) ≤ 2 ^ 8 := Nat.pow_le_pow_right (by decide) hk
        have hs : (2 : Nat) ^ (k + 1) = 2 ^ k + 2 ^ k := by rw [Nat.pow_succ]; omega
        have e := xor_pow k (by omega) (y := x - 2 ^ k) (by omega)
        have e2 : x = (x - 2 ^ k) ^^^ 2 ^ k := by omega
        rw [e2, hf _ _ (by omega) (by omega), hg _ _ (by omega) (by omega), ih (by omega) _ (by omega), h k (by omega)]
  exact main 8 (Nat.le_refl _)
theorem lin_left (b : Nat) : Lin fun a => mulN a b := fun _ _ hx hy => mul_left hx hy
theorem lin_right (a : Nat) : Lin fun b => mulN a b := fun _ _ _ _ => mul_right
theorem pow_lt {i : Nat} (h : i < 8) : 2 ^ i < 256 := by
  have : (2 : Nat) ^ i < 2 ^ 8 := Nat.pow_lt_pow_right (by decide) h
  omega

theorem mul_comm {a b : Nat} (ha : a < 256) (hb : b < 256) : mulN a b = mulN b a := by
  have key : ∀ i j : Fin 8, mulN (2 ^ i.val) (2 ^ j.val) = mulN (2 ^ j.val) (2 ^ i.val) := by decide +kernel
  have h1 : ∀ i, i < 8 → ∀ b, b < 256 → mulN (2 ^ i) b = mulN b (2 ^ i) := fun i hi =>
    lin_ext (f := fun b => mulN (2 ^ i) b) (g := fun b => mulN b (2 ^ i)) (lin_right _) (lin_left _) (fun j hj => key ⟨i, hi⟩ ⟨j, hj⟩)
  exact lin_ext (f := fun a => mulN a b) (g := fun a => mulN b a) (lin_left _) (lin_right _) (fun i hi => h1 i hi b hb) a ha
theorem mul_assoc {a b c : Nat} (ha : a < 256) (hb : b < 256) (hc : c < 256) : mulN (mulN a b) c = mulN a (mulN b c) := by
  have key : ∀ i j k : Fin 8, mulN (mulN (2 ^ i.val) (2 ^ j.val)) (2 ^ k.val) = mulN (2 ^ i.val) (mulN (2 ^ j.val) (2 ^ k.val)) := by decide +kernel
  have h1 : ∀ i, i < 8 → ∀ j, j < 8 → ∀ c, c < 256 → mulN (mulN (2 ^ i) (2 ^ j)) c = mulN (2 ^ i) (mulN (2 ^ j) c) := fun i hi j hj =>
    lin_ext (f := fun c => mulN (mulN (2 ^ i) (2 ^ j)) c) (g := fun c => mulN (2 ^ i) (mulN (2 ^ j) c)) (lin_right _)
      (fun x y _ _ => by simp only [mul_right]) (fun k hk => key ⟨i, hi⟩ ⟨j, hj⟩ ⟨k, hk⟩)
  have h2 : ∀ i, i < 8 → ∀ b, b < 256 → mulN (mulN (2 ^ i) b) c = mulN (2 ^ i) (mulN b c) := fun i hi =>
    lin_ext (f := fun b => mulN (mulN (2 ^ i) b) c) (g := fun b => mulN (2 ^ i) (mulN b c))
      (fun x y _ _ => by simp only [mul_right]; exact mul_left (mul_lt (pow_lt hi)) (mul_lt (pow_lt hi)))
      (fun x y hx hy => by simp only [mul_left hx hy, mul_right]) (fun j hj => h1 i hi j hj c hc)
  exact lin_ext (f := fun a => mulN (mulN a b) c) (g := fun a => mulN a (mulN b c))
    (fun x y hx hy => by simp only [mul_left hx hy]; exact mul_left (mul_lt hx) (mul_lt hy))
    (fun x y hx hy => mul_left hx hy) (fun i hi => h2 i hi b hb) a ha
theorem mul_zero (a : Nat) : mulN a 0 = 0 := (lin_right a).zero
theorem zero_mul (b : Nat) : mulN 0 b = 0 := (lin_left b).zero
theorem mul_one {a : Nat} (ha : a < 256) : mulN a 1 = a := by
  have key : ∀ i : Fin 8, mulN (2 ^ i.val) 1 = 2 ^ i.val := by decide +kernel
  exact lin_ext (f := fun a => mulN a 1) (g := fun a => a) (lin_left _) (fun _ _ _ _ => rfl) (fun i hi => key ⟨i, hi⟩) a ha
theorem one_mul {a : Nat} (ha : a < 256) : mulN 1 a = a := by rw [mul_comm (by decide) ha, mul_one ha]

/-! ### Inverses -/
def invF : Nat → Nat → Nat → Nat → Nat
  | 0, out, _, _ => out
  | k + 1, out, a, n => invF k (if n % 2 = 1 then mulN out a else out) (mulN a a) (n / 2)
def invN (a : Nat) : Nat := invF 8 1 a 254
theorem inv_lt {a : Nat} (h : a < 256) : invN a < 256 := by
  have key : ∀ y : Fin 256, invN y.val < 256 := by decide +kernel
  exact key ⟨a, h⟩
theorem mul_inv {a : Nat} (h : a < 256) (h0 : a ≠ 0) : mulN a (invN a) = 1 := by
  have key : ∀ y : Fin 256, y.val ≠ 0 → mulN y.val (invN y.val) = 1 := by decide +kernel
  exact key ⟨a, h⟩ h0
theorem div_mul {a b : Nat} (ha : a < 256) (hb : b < 256) (h0 : b ≠ 0) : mulN (mulN a (invN b)) b = a := by
  rw [mul_assoc ha (inv_lt hb) hb, mul_comm (inv_lt hb) hb, mul_inv hb h0, mul_one ha]
theorem mul_div {a b : Nat} (ha : a < 256) (hb : b < 256) (h0 : b ≠ 0) : mulN (mulN a b) (invN b) = a := by
  rw [mul_assoc ha hb (inv_lt hb), mul_inv hb h0, mul_one ha]
theorem mul_eq_zero {a b : Nat} (ha : a < 256) (hb : b < 256) : mulN a b = 0 ↔ a = 0 ∨ b = 0 := by
  constructor
  · intro h
    by_cases hb0 : b = 0
    · exact .inr hb0
    · left
      rw [← mul_div ha hb hb0, h, zero_mul]
  · rintro (rfl | rfl)
    · exact zero_mul b
    · exact mul_zero a

/-! ### Powers -/
def powN (a : Nat) : Nat → Nat
  | 0 => 1
  | n + 1 => mulN (powN a n) a
theorem powN_lt {a : Nat} (ha : a < 256) : ∀ n, powN a n < 256
  | 0 => by show 1 < 256; decide
  | n + 1 => mul_lt (powN_lt ha n)
theorem powN_add {a : Nat} (ha : a < 256) (n : Nat) : ∀ m, powN a (n + m) = mulN (powN a n) (powN a m)
  | 0 => by rw [Nat.add_zero, powN, mul_one (powN_lt ha n)]
  | m + 1 => by
    rw [← Nat.add_assoc, powN, powN_add ha n m, mul_assoc (powN_lt ha n) (powN_lt ha m) ha]; rfl
def nextP (a p : Nat) : Nat := mulN (mulN p p) a
theorem nextP_pow {a k : Nat} (ha : a < 256) : nextP a (powN a k) = powN a (k + k + 1) := by
  rw [powN, powN_add ha]; rfl
theorem fermat {a : Nat} (ha : a < 256) (h0 : a ≠ 0) : powN a 255 = 1 := by
  have key : ∀ y : Fin 256, y.val ≠ 0 → nextP y.val (nextP y.val (nextP y.val (nextP y.val (nextP y.val (nextP y.val (nextP y.val y.val)))))) = 1 := by decide +kernel
  have h1 : powN a 1 = a := one_mul ha
  have := key ⟨a, ha⟩ h0
  simp only at this
  rw [← h1] at this
  rw [← this]
  conv => rhs; rw [h1]
  have e : a = powN a 1 := h1.symm
  have e3 : nextP a a = powN a 3 := by conv => lhs; arg 2; rw [e]
                                       exact nextP_pow ha
  rw [e3, nextP_pow ha, nextP_pow ha, nextP_pow ha, nextP_pow ha, nextP_pow ha, nextP_pow ha]
theorem zero_pow {n : Nat} (h : 0 < n) : powN 0 n = 0 := by
  cases n with
  | zero => omega
  | succ n => exact mul_zero _

/-! ### Polynomials -/
def evalN : List Nat → Nat → Nat
  | [], _ => 0
  | f :: r, x => f ^^^ mulN (evalN r x) x
def Byt (l : List Nat) : Prop := ∀ b ∈ l, b < 256
theorem Byt.tail {f : Nat} {r : List Nat} (h : Byt (f :: r)) : Byt r := fun b hb => h b (by simp [hb])
theorem Byt.head {f : Nat} {r : List Nat} (h : Byt (f :: r)) : f < 256 := h f (by simp)
theorem evalN_lt {l : List Nat} (hl : Byt l) {x : Nat} (_hx : x < 256) : evalN l x < 256 := by
  induction l with
  | nil => show 0 < 256; decide
  | cons f r ih => exact xor_lt hl.head (mul_lt (ih hl.tail))
/-- What is left by dividing by x - r. -/
def quoN (r : Nat) : List Nat → List Nat
  | [] => []
  | [_] => []
  | _ :: g :: l => evalN (g :: l) r :: quoN r (g :: l)
theorem quoN_length (r : Nat) : ∀ l : List Nat, (quoN r l).length = l.length - 1
  | [] => rfl
  | [_] => rfl
  | _ :: g :: l => by
    show (quoN r (g :: l)).length + 1 = _
    rw [quoN_length r (g :: l)]; simp
theorem quoN_byt {r : Nat} (hr : r < 256) : ∀ {l : List Nat}, Byt l → Byt (quoN r l)
  | [], _ => fun b hb => by cases hb
  | [_], _ => fun b hb => by cases hb
  | _ :: g :: l, h => fun b hb => by
    rcases List.mem_cons.1 hb with rfl | hb
    · exact evalN_lt h.tail hr
    · exact quoN_byt hr h.tail b hb
theorem quoN_eval {r x : Nat} (hr : r < 256) (hx : x < 256) : ∀ {l : List Nat}, Byt l → evalN l x = evalN l r ^^^ mulN (evalN (quoN r l) x) (x ^^^ r)
  | [], _ => by simp [evalN, quoN, zero_mul]
  | [f], _ => by simp [evalN, quoN, zero_mul]
  | f :: g :: l, h => by
    have ih := quoN_eval hr hx h.tail
    have hg := evalN_lt h.tail hr
    have hq := evalN_lt (quoN_byt hr h.tail) hx
    show f ^^^ mulN (evalN (g :: l) x) x = (f ^^^ mulN (evalN (g :: l) r) r) ^^^ mulN (evalN (g :: l) r ^^^ mulN (evalN (quoN r (g :: l)) x) x) (x ^^^ r)
    rw [ih]
    generalize evalN (g :: l) r = G at *
    generalize evalN (quoN r (g :: l)) x = Q at *
    have hxr := xor_lt hx hr
    rw [mul_left hg (mul_lt hq), mul_left hg (mul_lt hq), mul_right (a := G), mul_assoc hq hxr hx, mul_assoc hq hx hxr, mul_comm hxr hx]
    rw [Nat.xor_assoc]
    congr 1
    rw [← Nat.xor_assoc (mulN G r), ← Nat.xor_assoc (mulN G r), Nat.xor_comm (mulN G r) (mulN G x), Nat.xor_assoc (mulN G x), Nat.xor_self, Nat.xor_zero]
def AllZ (l : List Nat) : Prop := ∀ b ∈ l, b = 0
theorem evalN_zero {l : List Nat} (h : AllZ l) (x : Nat) : evalN l x = 0 := by
  induction l with
  | nil => rfl
  | cons f r ih =>
    show f ^^^ mulN (evalN r x) x = 0
    rw [ih (fun b hb => h b (by simp [hb])), zero_mul, h f (by simp)]; rfl
theorem quoN_zero {r : Nat} (hr : r < 256) : ∀ {l : List Nat}, Byt l → evalN l r = 0 → AllZ (quoN r l) → AllZ l
  | [], _, _, _ => fun b hb => by cases hb
  | [f], _, h0, _ => fun b hb => by
    have : f ^^^ mulN 0 r = 0 := h0
    rw [zero_mul, Nat.xor_zero] at this
    simp at hb; omega
  | f :: g :: l, h, h0, hz => by
    have hG : evalN (g :: l) r = 0 := hz _ (List.mem_cons_self ..)
    have ih := quoN_zero hr h.tail hG (fun b hb => hz b (List.mem_cons_of_mem _ hb))
    have hf : f ^^^ mulN (evalN (g :: l) r) r = 0 := h0
    rw [hG, zero_mul, Nat.xor_zero] at hf
    intro b hb
    rcases List.mem_cons.1 hb with rfl | hb
    · exact hf
    · exact ih b hb
/-- LAGRANGE: roots that are different are fewer than factors, unless all factors are 0. -/
theorem roots_lt : ∀ (n : Nat) {l rs : List Nat}, l.length = n → Byt l → ¬ AllZ l → rs.Nodup → Byt rs → (∀ r ∈ rs, evalN l r = 0) → rs.length < n
  | 0, l, rs, hn, _, hz, _, _, _ => by
    exfalso
    obtain rfl := List.eq_nil_of_length_eq_zero hn
    exact hz (fun b hb => by cases hb)
  | n + 1, l, [], _, _, _, _, _, _ => Nat.succ_pos _
  | n + 1, l, r :: rs, hn, hl, hz, hnd, hb, hr => by
    have hr256 := hb.head
    have h0 := hr r (by simp)
    have hnd' := List.nodup_cons.1 hnd
    have := roots_lt n (l := quoN r l) (rs := rs) (by rw [quoN_length, hn]; rfl) (quoN_byt hr256 hl) (fun h => hz (quoN_zero hr256 hl h0 h)) hnd'.2 hb.tail (fun s hs => by
      have hs256 := hb.tail s hs
      have e := quoN_eval hr256 hs256 hl
      rw [hr s (by simp [hs]), h0, Nat.zero_xor] at e
      rcases (mul_eq_zero (evalN_lt (quoN_byt hr256 hl) hs256) (xor_lt hs256 hr256)).1 e.symm with h | h
      · exact h
      · exact absurd (xor_eq_zero.1 h) (fun e => hnd'.1 (e ▸ hs)))
    simpa using this
end Go.Proofs.Ytdhfckdnfppieaa
