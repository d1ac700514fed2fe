/- Words for slices of ints that are read: 'Rd w A n xs' says that the slice of address A and length n reads as the list xs. No program in sight. -/
import Derived.Below
import Derived.Deep.Draws
import Derived.WalkKit
namespace Go.Proofs.YtpleidblnjphmaaDoor
open Go Go.RowKit

/-- The slice of address A and length n reads, in world w, as the list xs of ints. -/
def Rd (w : World) (A : Option Addr) (n : Nat) (xs : List Int) : Prop :=
  xs.length = n ∧ n ≤ 9223372036854775807 ∧ (∀ x ∈ xs, -9223372036854775808 ≤ x ∧ x ≤ 9223372036854775807) ∧
    (0 < n → ∃ b off, A = some ⟨b, off, none⟩ ∧ b < w.heap.size ∧ ∀ k, k < n → w.cell? ⟨b, off + k, none⟩ = some (.int .i64 (xs[k]?.getD 0)))

theorem Rd.len {w : World} {A : Option Addr} {n : Nat} {xs : List Int} (h : Rd w A n xs) : xs.length = n := h.1
theorem Rd.max {w : World} {A : Option Addr} {n : Nat} {xs : List Int} (h : Rd w A n xs) : n ≤ 9223372036854775807 := h.2.1
theorem Rd.at_ {w : World} {A : Option Addr} {n : Nat} {xs : List Int} (h : Rd w A n xs) (hn : 0 < n) :
    ∃ b off, A = some ⟨b, off, none⟩ ∧ b < w.heap.size ∧ ∀ k, k < n → w.cell? ⟨b, off + k, none⟩ = some (.int .i64 (xs[k]?.getD 0)) := h.2.2.2 hn
theorem Rd.range {w : World} {A : Option Addr} {n : Nat} {xs : List Int} (h : Rd w A n xs) (k : Nat) :
    -9223372036854775808 ≤ xs[k]?.getD 0 ∧ xs[k]?.getD 0 ≤ 9223372036854775807 := by
  rcases Nat.lt_or_ge k xs.length with hk | hk
  · rw [List.getElem?_eq_getElem hk]; exact h.2.2.1 _ (List.getElem_mem hk)
  · rw [List.getElem?_eq_none hk]; decide
theorem Rd.below {w w' : World} {A : Option Addr} {n : Nat} {xs : List Int} (h : Rd w A n xs) (hb : Below w.heap.size w w') : Rd w' A n xs :=
  ⟨h.1, h.2.1, h.2.2.1, fun hn => by
    obtain ⟨b, off, e, hlt, hc⟩ := h.2.2.2 hn
    exact ⟨b, off, e, Nat.lt_of_lt_of_le hlt hb.size, fun k hk => (hb.cell (p := ⟨b, off + k, none⟩) hlt).trans (hc k hk)⟩⟩
theorem Rd.drew {w : World} {A : Option Addr} {n : Nat} {xs : List Int} (h : Rd w A n xs) : Rd w.drew A n xs := h
theorem Rd.drewN {w : World} {A : Option Addr} {n : Nat} {xs : List Int} (h : Rd w A n xs) (q : Nat) : Rd (w.drewN q) A n xs := h
theorem Rd.alloc {w : World} {A : Option Addr} {n : Nat} {xs : List Int} (h : Rd w A n xs) (o : Obj) : Rd (w.alloc o) A n xs :=
  h.below ((Below.refl _ _).alloc (Nat.le_refl _) o)
theorem Rd.nil (w : World) (A : Option Addr) : Rd w A 0 [] := ⟨rfl, by decide, by simp, fun h => absurd h (by decide)⟩
theorem Rd.cut {w : World} {A : Option Addr} {n : Nat} {xs : List Int} (h : Rd w A n xs) {k : Nat} (hk : k ≤ n) {B : Option Addr}
    (hB : k < n → B = A.map (·.add k)) : Rd w B (n - k) (xs.drop k) := by
  refine ⟨by rw [List.length_drop, h.1], Nat.le_trans (Nat.sub_le _ _) h.2.1, fun x hx => h.2.2.1 x (List.mem_of_mem_drop hx), fun hn => ?_⟩
  obtain ⟨b, off, rfl, hlt, hc⟩ := h.2.2.2 (by omega)
  refine ⟨b, off + k, ?_, hlt, fun j hj => ?_⟩
  · rw [hB (by omega)]
    by_cases h0 : k = 0 <;> simp [Addr.add, h0]
  · rw [show off + k + j = off + (k + j) from by omega, hc (k + j) (by omega), List.getElem?_drop]
theorem Rd.take {w : World} {A : Option Addr} {n : Nat} {xs : List Int} (h : Rd w A n xs) {k : Nat} (hk : k ≤ n) : Rd w A k (xs.take k) := by
  refine ⟨by rw [List.length_take, h.1]; omega, Nat.le_trans hk h.2.1, fun x hx => h.2.2.1 x (List.mem_of_mem_take hx), fun hn => ?_⟩
  obtain ⟨b, off, rfl, hlt, hc⟩ := h.2.2.2 (by omega)
  exact ⟨b, off, rfl, hlt, fun j hj => by rw [hc j (by omega), List.getElem?_take_of_lt hj]⟩
/-- A row of cells that the walk has just laid, at the head of a block, reads as its list. -/
theorem Rd.new {w : World} {b : Nat} {n : Nat} {xs : List Int} (hl : xs.length = n) (hn : n ≤ 9223372036854775807) (hb : b < w.heap.size)
    (hx : ∀ x ∈ xs, -9223372036854775808 ≤ x ∧ x ≤ 9223372036854775807)
    (hc : ∀ k, k < n → w.cell? ⟨b, k, none⟩ = some (.int .i64 (xs[k]?.getD 0))) : Rd w (some ⟨b, 0, none⟩) n xs :=
  ⟨hl, hn, hx, fun _ => ⟨b, 0, rfl, hb, fun k hk => by rw [Nat.zero_add]; exact hc k hk⟩⟩

/-- The address of a cut 's[lo:]' of a slice of capacity cap. -/
def cutA (A : Option Addr) (cap lo : Nat) : Option Addr := if cap = lo then A else A.map (·.add lo)
theorem Rd.cutA {w : World} {A : Option Addr} {n : Nat} {xs : List Int} (h : Rd w A n xs) {cap k : Nat} (hcap : n ≤ cap) (hk : k ≤ n) : Rd w (cutA A cap k) (n - k) (xs.drop k) :=
  h.cut hk (fun hlt => by unfold Go.Proofs.YtpleidblnjphmaaDoor.cutA; rw [if_neg (by omega)])
theorem run_cut {P : Program} {t : TypeId} (ht : P.underlying t = some (.slice (P.elem t))) (hs : ∀ W, (sizeOf (P.elem t)).run P W = .ok 1 W) (A : Option Addr) (n cap lo : Nat) (hlo : lo ≤ n) (W : World) :
    (Instr.slice t (.slice A n cap) (some (.int .i64 (lo : Int))) none none).run P W = .ok (.slice (cutA A cap lo) (n - lo) (cap - lo)) W := by
  rw [run_slice_l W t A n cap ht .i64 lo (by omega) (by omega)]
  simp [hs, Result.andThen, sliced, cutA]

theorem getD_ext {xs ys : List Int} (hl : xs.length = ys.length) (h : ∀ k, k < xs.length → xs[k]?.getD 0 = ys[k]?.getD 0) : xs = ys := by
  apply List.ext_getElem hl
  intro k h1 h2
  have := h k h1
  rwa [List.getElem?_eq_getElem h1, List.getElem?_eq_getElem h2] at this

theorem below_drewN_of {B : Nat} {a w : World} (h : Below B a w) (n : Nat) : Below B a (w.drewN n) := ⟨h.os, h.tape, h.output, h.size, h.block⟩
theorem chain {w w1 w2 : World} (h : Below w.heap.size w w1) (k : Below w1.heap.size w1 w2) : Below w.heap.size w w2 := h.trans (k.mono h.size)
theorem ret_int {k : IntKind} {a b : Int} (h : a = b) : Ending.returned (.int k a) = .returned (.int k b) := by rw [h]
theorem ret2_int {k : IntKind} {a b : Int} {v : Value} (h : a = b) : Ending.returned (.tuple #[.int k a, v]) = .returned (.tuple #[.int k b, v]) := by rw [h]
theorem ret2_bool {a b : Bool} {v : Value} (h : a = b) : Ending.returned (.tuple #[.bool a, v]) = .returned (.tuple #[.bool b, v]) := by rw [h]
theorem ret_bool {a b : Bool} (h : a = b) : Ending.returned (.bool a) = .returned (.bool b) := by rw [h]
end Go.Proofs.YtpleidblnjphmaaDoor
