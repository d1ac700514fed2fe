/- parity.Small by its contracts. -/
import Derived.Test.YtdhfckdnfppieaaDoorParP
namespace Go.Proofs.YtdhfckdnfppieaaDoor
open Go Go.RowKit
set_option maxRecDepth 20000
set_option linter.unusedVariables false

theorem three_rows {w : World} {A B D : Option Addr} {n m l c d e : Nat} {xs ys zs : List Int} (hA : Sl w A n c xs) (hB : Sl w B m d ys) (hD : Sl w D l e zs) :
    RRows (w.alloc (.cells #[.slice A n c, .slice B m d, .slice D l e] 31)) (some ⟨w.heap.size, 0, none⟩) 3 [(A, n, c, xs), (B, m, d, ys), (D, l, e, zs)] := by
  refine ⟨rfl, by decide, fun r hr => ?_, fun _ => ⟨w.heap.size, 0, rfl, by simp, fun k hk => ?_⟩⟩
  · simp only [List.mem_cons, List.not_mem_nil, or_false] at hr
    rcases hr with rfl | rfl | rfl
    · exact hA.alloc _
    · exact hB.alloc _
    · exact hD.alloc _
  · rcases (by omega : k = 0 ∨ k = 1 ∨ k = 2) with rfl | rfl | rfl <;> simp [RV.val]

set_option maxHeartbeats 1000000 in
theorem small_bad (A B D : Option Addr) (n m l c d e : Nat) (xs ys zs : List Int) (w : World) (hA : Sl w A n c xs) (hB : Sl w B m d ys) (hD : Sl w D l e zs) (h : rowsE [xs, ys, zs] ≠ 0) :
    Calls Tryd.prog 35 #[.slice A n c, .slice B m d, .slice D l e] w fun e w' => e = .returned (.tuple #[.slice none 0 0, .iface 53 (.int .i64 (rowsE [xs, ys, zs]))]) ∧ Below w.heap.size w w' := by
  have hR := three_rows hA hB hD
  have hc := check_any _ 3 3 _ _ hR
  rw [show dat [(A, n, c, xs), (B, m, d, ys), (D, l, e, zs)] = [xs, ys, zs] from rfl, errV_ne h] at hc
  obtain ⟨E, hE⟩ : ∃ E, rowsE [xs, ys, zs] = E := ⟨_, rfl⟩
  rw [hE] at hc ⊢
  have H := Lib.hid hc
  clear hR hc h hE
  go_enter Tryd.func35, Tryd.ntmps35
  go_wp2_with fail
  refine H.out.mono ?_
  rintro e w' ⟨rfl, rfl⟩
  clear H
  go_wp2
  go_ret2
  exact ⟨rfl, (Below.refl _ _).alloc (Nat.le_refl _) _⟩

set_option maxHeartbeats 1000000 in
theorem small_ok (A B D : Option Addr) (m c d e : Nat) (xs ys zs : List Int) (w : World) (hA : Sl w A m c xs) (hB : Sl w B m d ys) (hD : Sl w D m e zs) (hm : m ≤ 16) (hx : Bytes m xs) (hy : Bytes m ys) (hz : Bytes m zs) :
    Calls Tryd.prog 35 #[.slice A m c, .slice B m d, .slice D m e] w fun e w' => (∃ C c', e = .returned (.tuple #[.slice C m c', .nilIface]) ∧ Own w' w.heap.size (.slice C m c') m (zx (zx xs ys) zs)) ∧ Below w.heap.size w w' := by
  have hR := three_rows hA hB hD
  have hc := check_any _ 3 3 _ _ hR
  have h0 := (rowsE_ok (m := m) (l := [xs, ys, zs]) (by simp) (by simp) hm (by simp [hx, hy, hz])).1
  rw [show dat [(A, m, c, xs), (B, m, d, ys), (D, m, e, zs)] = [xs, ys, zs] from rfl, h0, errV_zero] at hc
  have hxy : Bytes m (zx xs ys) := zip_bytes hx hy
  have H := Lib.hid hc
  have HX := Lib.hid hx.2
  have HY := Lib.hid hy.2
  have HZ := Lib.hid hz.2
  have HXY := Lib.hid hxy.2
  have hA' := hA.alloc (.cells #[.slice A m c, .slice B m d, .slice D m e] 31)
  have hB' := hB.1.alloc (.cells #[.slice A m c, .slice B m d, .slice D m e] 31)
  have hD' := hD.1.alloc (.cells #[.slice A m c, .slice B m d, .slice D m e] 31)
  have hW : Below w.heap.size w (w.alloc (.cells #[.slice A m c, .slice B m d, .slice D m e] 31)) := (Below.refl _ _).alloc (Nat.le_refl _) _
  clear hR hc h0 hx hy hz hxy
  go_enter Tryd.func35, Tryd.ntmps35
  go_wp2_with fail
  refine H.out.mono ?_
  rintro e w' ⟨rfl, rfl⟩
  clear H
  go_wp2_with fail
  with_reducible refine (pxor_any A m c xs B d ys _ hA' hB' (by omega) HX.out HY.out).mono ?_
  rintro e w1 ⟨⟨C, c1, rfl, hown1⟩, k1⟩
  have hb1 := hW.trans (k1.mono hW.size)
  have hS1 := hown1.sl (by omega) (fun x hx => by have := HXY.out x hx; omega)
  have hD1 := hD'.below k1
  go_wp2_with fail
  with_reducible refine (pxor_any C m c1 (zx xs ys) D _ zs _ hS1 hD1 (by omega) HXY.out HZ.out).mono ?_
  rintro e w2 ⟨⟨C2, c2, rfl, hown2⟩, k2⟩
  have hb2 := hb1.trans (k2.mono hb1.size)
  go_wp2
  go_ret2
  exact ⟨⟨_, _, rfl, hown2.mono hb1.size⟩, hb2⟩
end Go.Proofs.YtdhfckdnfppieaaDoor
