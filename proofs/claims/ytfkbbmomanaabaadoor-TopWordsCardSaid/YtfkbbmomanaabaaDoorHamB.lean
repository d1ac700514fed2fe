/- Hamming words: plain definitions, the table, and the contract of bit. -/
import Derived.Test.YtfkbbmomanaabaaDoorCore
import Derived.Test.YtfkbbmomanaabaaDoorBits
import Derived.Laws.Rows
namespace Go.Proofs.YtfkbbmomanaabaaDoor
open Go Go.RowKit

def bitI (v p : Int) : Int := ((v.toNat / 2 ^ (p.toNat - 1) % 2 : Nat) : Int)
theorem bitI_range (v p : Int) : 0 ≤ bitI v p ∧ bitI v p ≤ 1 := by unfold bitI; omega
/-- The place of the bit that was turned, out of the seven bits. -/
def wrongB (b1 b2 b3 b4 b5 b6 b7 : Int) : Int := (b1 + b3 + b5 + b7) % 2 + (b2 + b3 + b6 + b7) % 2 * 2 + (b4 + b5 + b6 + b7) % 2 * 4
def wrongI (v : Int) : Int := wrongB (bitI v 1) (bitI v 2) (bitI v 3) (bitI v 4) (bitI v 5) (bitI v 6) (bitI v 7)

def chkCells : Array Value := #[.int .i64 1, .int .i64 3, .int .i64 5, .int .i64 7, .int .i64 2, .int .i64 3, .int .i64 6, .int .i64 7, .int .i64 4, .int .i64 5, .int .i64 6, .int .i64 7]
/-- The table of the three checks holds what the program's text says. -/
def ChkT (w : World) : Prop := ∀ j v, chkCells[j]? = some v → w.cell? ⟨0, j, none⟩ = some v
theorem ChkT.lt {w : World} (h : ChkT w) : 0 < w.heap.size := by
  have h0 := h 0 (.int .i64 1) rfl
  rcases Nat.lt_or_ge 0 w.heap.size with hh | hh
  · exact hh
  · simp [World.cell?, Array.getElem?_eq_none hh] at h0
theorem ChkT.below {w w' : World} (h : ChkT w) (hb : Below w.heap.size w w') : ChkT w' :=
  fun j v hv => (hb.cell (p := ⟨0, j, none⟩) h.lt).trans (h j v hv)
theorem run_load_chk {w : World} (h : ChkT w) : (loadVar 50 ⟨0, 0, none⟩).run Tryd.prog w = .ok (.agg chkCells) w := by
  have hl : (loadCells ⟨0, 0, none⟩ chkCells.toList.length).run Tryd.prog w = .ok chkCells.toList.toArray w :=
    run_loadCells_list (P := Tryd.prog) w ⟨0, 0, none⟩ chkCells.toList (fun j v hv => by
      have hadd : (⟨0, 0, none⟩ : Addr).add j = ⟨0, j, none⟩ := by unfold Addr.add; split <;> simp_all
      rw [hadd]
      exact h j v (by simpa using hv))
  have hi : (Tryd.prog.info? 50).map (·.size) = some 12 := by kernel_rfl
  cases hq : Tryd.prog.info? 50 with
  | none => simp [hq] at hi
  | some i =>
    have hs : i.size = 12 := by simpa [hq] using hi
    have hagg : (isAgg 50).run Tryd.prog w = .ok true w := by
      unfold isAgg
      rw [Sem.run_bind, run_underlying Tryd.underlying50 w]
      rfl
    have hl' : (loadCells ⟨0, 0, none⟩ 12).run Tryd.prog w = .ok chkCells w := by simpa [chkCells] using hl
    simp [loadVar, Sem.run_bind, hagg, sizeOf, typeInfo, hq, hs, hl']
theorem wpList_load_chk {ops : Array Oper} {rest : List Oper} {o : Oper} {a : Act} {w : World} {Q : Exit → Act → World → Prop} (hgd : o.guard = none) (ho : o.op = .load 50 (.global 0))
    (hT : ChkT w) (h : wpList Tryd.prog ops Q rest (a.put o.dst (.agg chkCells)) w) : wpList Tryd.prog ops Q (o :: rest) a w :=
  wpList_plain hgd fun _ hK => by
    unfold Oper.wp execOp
    simp only [ho, Act.eval, Instr.loadAt, Instr.sureAddr, Sem.run_bind, Sem.run_pure, Result.andThen_ok, run_load_chk hT]
    exact hK _ _ h

theorem par4 {a b c d s0 s1 s2 s3 : Int} (h0 : (0 + a) % 2 = s0) (h1 : (s0 + b) % 2 = s1) (h2 : (s1 + c) % 2 = s2) (h3 : (s2 + d) % 2 = s3) : (a + b + c + d) % 2 = s3 := by
  have e1 : (a + b) % 2 = s1 := by omega
  have e2 : (a + b + c) % 2 = s2 := by omega
  omega
theorem xor_bit (x y : Int) (hx0 : 0 ≤ x) (hx1 : x ≤ 1) (hy0 : 0 ≤ y) (hy1 : y ≤ 1) : ∃ s, (x + y) % 2 = s ∧ 0 ≤ s ∧ s ≤ 1 ∧ bits .xor .i64 x y = s := by
  refine ⟨(x + y) % 2, rfl, by omega, by omega, ?_⟩
  rw [bits_xorI hx0 (by omega) hy0 (by omega)]
  rcases (by omega : x = 0 ∨ x = 1) with rfl | rfl <;> rcases (by omega : y = 0 ∨ y = 1) with rfl | rfl <;> decide

theorem i64_and_nat (a b : Nat) (ha : a < 9223372036854775808) (hb : b < 9223372036854775808) : bits .and .i64 (a : Int) (b : Int) = ((a &&& b : Nat) : Int) := by
  have hx : a &&& b < 2 ^ 63 := Nat.and_lt_two_pow _ (by omega)
  show IntKind.i64.wrap ((BitVec.ofInt 64 (a : Int) &&& BitVec.ofInt 64 (b : Int)).toNat : Int) = _
  rw [BitVec.toNat_and, ofInt_i64 a ha, ofInt_i64 b hb, IntKind.wrap_i64]
  omega
theorem and_one {b : Int} (h0 : 0 ≤ b) (hb : b ≤ 1000000) : bits .and .i64 b 1 = b % 2 := by
  obtain ⟨n, rfl⟩ := Int.eq_ofNat_of_zero_le h0
  have := i64_and_nat n 1 (by omega) (by omega)
  rw [Nat.and_one_is_mod] at this
  exact this

set_option maxHeartbeats 1000000 in
theorem bit_any (v p : Int) (w : World) (hv0 : 0 ≤ v) (hv : v ≤ 127) (hp0 : 1 ≤ p) (hp : p ≤ 7) :
    Calls Tryd.prog 29 #[.int .i64 v, .int .i64 p] w fun e w' => e = .returned (.int .i64 (bitI v p)) ∧ w = w' := by
  have e0 := and_one (b := v) hv0 (by omega)
  have e1 := and_one (b := v / 2) (by omega) (by omega)
  have e2 := and_one (b := v / 4) (by omega) (by omega)
  have e3 := and_one (b := v / 8) (by omega) (by omega)
  have e4 := and_one (b := v / 16) (by omega) (by omega)
  have e5 := and_one (b := v / 32) (by omega) (by omega)
  have e6 := and_one (b := v / 64) (by omega) (by omega)
  rcases (by omega : p = 1 ∨ p = 2 ∨ p = 3 ∨ p = 4 ∨ p = 5 ∨ p = 6 ∨ p = 7) with rfl | rfl | rfl | rfl | rfl | rfl | rfl
  all_goals
    go_enter Tryd.func29, Tryd.ntmps29
    go_wp2
    go_ret
    exact ⟨ret_int (by unfold bitI; simp; omega), rfl⟩
end Go.Proofs.YtfkbbmomanaabaaDoor
