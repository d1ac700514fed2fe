/- The functions of package head return what the document specifies: HeadSays answers true at every int, bool and slice of ints; errors.errorType is tied to the program's text. Conditions: none beside those of the statement. -/
import Derived.Test.YtpleidblnjphmaaDoorNear
import Derived.Test.YtpleidblnjphmaaDoorRFar
import Derived.Test.YtpleidblnjphmaaDoorRSw
import Derived.Test.YtpleidblnjphmaaDoorRAll
import Derived.Test.YtpleidblnjphmaaDoorIn
import Derived.Test.YtpleidblnjphmaaDoorInts
import Derived.Test.YtpleidblnjphmaaDoorOpenD
import Derived.Test.YtpleidblnjphmaaDoorTold
namespace Go.Proofs.YtpleidblnjphmaaDoor.headSays
open Go Go.ChangeShapes Go.WideShapes Go.ChangeAt Go.RowKit
set_option linter.unusedVariables false
set_option maxRecDepth 20000

theorem ints_bel (A B : Option Addr) (n m ca cb : Nat) (xs ys : List Int) (w : World) (hA : Rd w A n xs) (hB : Rd w B m ys) :
    Calls Tryd.prog 23 #[.slice A n ca, .slice B m cb] w fun e w' => e = .returned (.bool (decide (xs = ys))) ∧ Below w.heap.size w w' :=
  (ints_any A B n m ca cb xs ys w hA hB).mono (by rintro e w' ⟨rfl, q, rfl⟩; exact ⟨rfl, below_drewN_of (Below.refl _ _) q⟩)
theorem ints_same (A B : Option Addr) (n m ca cb : Nat) (xs : List Int) (w : World) (hA : Rd w A n xs) (hB : Rd w B m xs) :
    Calls Tryd.prog 23 #[.slice A n ca, .slice B m cb] w fun e w' => e = .returned (.bool true) ∧ Below w.heap.size w w' :=
  (ints_bel A B n m ca cb xs xs w hA hB).mono (by rintro e w' ⟨rfl, k⟩; exact ⟨by rw [decide_eq_true rfl], k⟩)
theorem far_nil (a : Int) (c : Nat) (w : World) : Calls Tryd.prog 24 #[.int .i64 a, .slice none 0 c] w fun e w' => e = .returned (.int .i64 0) ∧ w = w' :=
  far_any none 0 c [] a w (Rd.nil _ _) (by omega) (Or.inr rfl) (by simp)
set_option maxHeartbeats 8000000 in
set_option maxRecDepth 100000 in
theorem walk_good (w : World) (a : Int) (ha : -9223372036854775808 ≤ a ∧ a ≤ 9223372036854775807) (up : Bool) (A : Option Addr) (n c : Nat) (xs : List Int) (hS : Sl w A n c xs) (hE : ErrT w) (hz : headE a xs = 0) :
    Calls Tryd.prog 4 #[.int .i64 a, .bool up, .slice A n c] w fun e w' => e = .returned (.bool true) ∧ Below w.heap.size w w' := by
  have hA : Rd w A n xs := hS.1
  obtain ⟨h20, htr, hall⟩ := headE_zero hz
  have hl := hA.len
  have hxr := trk_all hall
  have hn20 : n ≤ 20 := by omega
  have hl1 : ∀ x ∈ nearL a xs, Trk x := fun x hx => hxr x ((nearL_perm a xs).mem_iff.1 hx)
  have hl2 : ∀ x ∈ sweepL a up xs, Trk x := fun x hx => hxr x ((sweepL_perm a up xs x).1 hx)
  have hra := fun wx (h : Rd wx A n xs) => rall_any A n c 0 99 xs wx h
  rw [hall] at hra
  have hin := fun wx => in_yes a 0 99 wx htr.1 htr.2
  have hck := fun wx (h : Rd wx A n xs) => hcheck_ok A n c xs a wx h hz
  have hrn := fun wx (h : Rd wx A n xs) => rnear_any A n c xs a wx h hn20 htr hxr
  have hrs := fun wx (h : Rd wx A n xs) => rsweep_any A n c xs a up wx h hn20 hxr
  have hfi := fun wx (h : Sl wx A n c xs) => first_ok A n c xs a wx h hz
  have hne := fun wx (h : Sl wx A n c xs) => near_ok A n c xs a wx h hz
  have hsw := fun wx (h : Rd wx A n xs) => sweep_ok A n c xs a up wx h hz
  have hf0 := fun B d wx (h : Rd wx B n xs) => far_any B n d xs a wx h hn20 (Or.inl htr) hxr
  have hf1 := fun B d wx (h : Rd wx B n (nearL a xs)) => far_any B n d (nearL a xs) a wx h hn20 (Or.inl htr) hl1
  have hf2 := fun B d wx (h : Rd wx B n (sweepL a up xs)) => far_any B n d (sweepL a up xs) a wx h hn20 (Or.inl htr) hl2
  obtain ⟨L1, e1⟩ : ∃ L, nearL a xs = L := ⟨_, rfl⟩
  obtain ⟨L2, e2⟩ : ∃ L, sweepL a up xs = L := ⟨_, rfl⟩
  rw [e1] at hl1 hrn hne hf1
  rw [e2] at hl2 hrs hsw hf2
  obtain ⟨F0, f0⟩ : ∃ F, farI a xs = F := ⟨_, rfl⟩
  obtain ⟨F1, f1⟩ : ∃ F, farI a L1 = F := ⟨_, rfl⟩
  obtain ⟨F2, f2⟩ : ∃ F, farI a L2 = F := ⟨_, rfl⟩
  rw [f0] at hfi hf0
  rw [f1] at hne hf1
  rw [f2] at hsw hf2
  have hir : ∀ (L : List Int), (∀ x ∈ L, Trk x) → ∀ x ∈ L, -9223372036854775808 ≤ x ∧ x ≤ 9223372036854775807 := fun L h x hx => by have := h x hx; unfold Trk at this; omega
  have HR := Lib.hid (And.intro (hir xs hxr) (And.intro (hir L1 hl1) (hir L2 hl2)))
  have HC := Lib.hid (And.intro hra (And.intro hin (And.intro hck (And.intro hrn (And.intro hrs (And.intro hfi (And.intro hne hsw)))))))
  have HF := Lib.hid (And.intro hf0 (And.intro hf1 hf2))
  have HE := Lib.hid hE
  have HS := Lib.hid hS
  have hnI : ¬ (n : Int) > 20 := by omega
  have hF0 : (F0 == F0) = true := by simp
  have hF1 : (F1 == F1) = true := by simp
  have hF2 : (F2 == F2) = true := by simp
  clear hra hin hck hrn hrs hfi hne hsw hf0 hf1 hf2 e1 e2 f0 f1 f2 hir hl1 hl2 hE hS hz h20 htr hall hl hxr ha
  have hB : Below w.heap.size w w := Below.refl _ _
  go_enter Tryd.func4, Tryd.ntmps4
  go_wp2_with fail
  with_reducible refine (HC.out.2.1 _).mono ?_
  rintro e w' ⟨rfl, rfl⟩
  go_wp2_with fail
  with_reducible refine (HC.out.1 _ hA).mono ?_
  rintro e w' ⟨rfl, rfl⟩
  go_wp2_with fail
  with_reducible refine (HC.out.2.2.1 _ hA).mono ?_
  rintro e w' ⟨rfl, rfl⟩
  go_wp2_with fail
  with_reducible refine (error_nil 0 _).mono ?_
  rintro e w' ⟨rfl, rfl⟩
  go_wp2_with fail
  with_reducible refine (HC.out.2.2.2.1 _ hA).mono ?_
  rintro e w1 ⟨⟨A1, c1, rfl, ho⟩, k⟩
  have hB := chain hB k
  have hb := ho.rd (by omega) HR.out.2.1
  clear k ho
  go_wp2_with fail
  with_reducible refine (HC.out.2.2.2.2.1 _ (hA.below hB)).mono ?_
  rintro e w2 ⟨⟨A2, c2, rfl, ho⟩, k⟩
  have hb := hb.below k
  have hB := chain hB k
  have hc := ho.rd (by omega) HR.out.2.2
  clear k ho
  go_wp2_with fail
  with_reducible refine (HC.out.2.2.2.2.2.1 _ (HS.out.below hB)).mono ?_
  rintro e w3 ⟨A3, c3, rfl, ho, k⟩
  have hb := hb.below k
  have hc := hc.below k
  have hB := chain hB k
  have hl := ho.rd (by omega) HR.out.1
  clear k ho
  go_wp2_with fail
  with_reducible refine (error_nil 0 _).mono ?_
  rintro e w' ⟨rfl, rfl⟩
  go_wp2_with fail
  with_reducible refine (ints_same A3 A n n c3 c xs _ hl (hA.below hB)).mono ?_
  rintro e w4 ⟨rfl, k⟩
  have hb := hb.below k
  have hc := hc.below k
  have hB := chain hB k
  clear k
  go_wp2_with fail
  with_reducible refine (HF.out.1 A c _ (hA.below hB)).mono ?_
  rintro e w' ⟨rfl, rfl⟩
  clear hl
  go_wp2_with fail
  with_reducible refine (HC.out.2.2.2.2.2.2.1 _ (HS.out.below hB)).mono ?_
  rintro e w5 ⟨A5, c5, rfl, ho, k⟩
  have hb := hb.below k
  have hc := hc.below k
  have hB := chain hB k
  have hl := ho.rd (by omega) HR.out.2.1
  clear k ho
  go_wp2_with fail
  with_reducible refine (error_nil 0 _).mono ?_
  rintro e w' ⟨rfl, rfl⟩
  go_wp2_with fail
  with_reducible refine (ints_same A5 A1 n n c5 c1 L1 _ hl hb).mono ?_
  rintro e w6 ⟨rfl, k⟩
  have hb := hb.below k
  have hc := hc.below k
  have hB := chain hB k
  clear k
  go_wp2_with fail
  with_reducible refine (HF.out.2.1 A1 c1 _ hb).mono ?_
  rintro e w' ⟨rfl, rfl⟩
  clear hl hb
  go_wp2_with fail
  with_reducible refine (HC.out.2.2.2.2.2.2.2 _ (hA.below hB)).mono ?_
  rintro e w7 ⟨A7, c7, rfl, ho, k⟩
  have hc := hc.below k
  have hB := chain hB k
  have hl := ho.rd (by omega) HR.out.2.2
  clear k ho
  go_wp2_with fail
  with_reducible refine (error_nil 0 _).mono ?_
  rintro e w' ⟨rfl, rfl⟩
  go_wp2_with fail
  with_reducible refine (ints_same A7 A2 n n c7 c2 L2 _ hl hc).mono ?_
  rintro e w8 ⟨rfl, k⟩
  have hc := hc.below k
  have hB := chain hB k
  clear k
  go_wp2_with fail
  with_reducible refine (HF.out.2.2 A2 c2 _ hc).mono ?_
  rintro e w' ⟨rfl, rfl⟩
  go_wp2
  go_ret
  exact ⟨rfl, hB⟩

set_option maxHeartbeats 8000000 in
set_option maxRecDepth 100000 in
theorem walk_full (w : World) (a : Int) (ha : -9223372036854775808 ≤ a ∧ a ≤ 9223372036854775807) (up : Bool) (A : Option Addr) (n c : Nat) (xs : List Int) (hS : Sl w A n c xs) (hE : ErrT w) (hz : headE a xs ≠ 0) (hv : headE a xs = 4) (hn : 20 < n) :
    Calls Tryd.prog 4 #[.int .i64 a, .bool up, .slice A n c] w fun e w' => e = .returned (.bool true) ∧ Below w.heap.size w w' := by
  have hA : Rd w A n xs := hS.1
  have hnI : (n : Int) > 20 := by omega
  have hck := fun wx (h : Rd wx A n xs) => hcheck_bad A n c xs a wx h hz
  have hfi := fun wx (h : Rd wx A n xs) => first_bad A n c xs a wx h hz
  have hne := fun wx (h : Rd wx A n xs) => near_bad A n c xs a wx h hz
  have hsw := fun wx (h : Rd wx A n xs) => sweep_bad A n c xs a up wx h hz
  rw [hv] at hck hfi hne hsw
  have HC := Lib.hid (And.intro hck (And.intro hfi (And.intro hne hsw)))
  have HE := Lib.hid hE
  clear hck hfi hne hsw hE hS hz hv ha
  have hB : Below w.heap.size w w := Below.refl _ _
  go_enter Tryd.func4, Tryd.ntmps4
  go_wp2_with fail
  with_reducible refine (HC.out.1 _ hA).mono ?_
  rintro e w' ⟨rfl, rfl⟩
  go_wp2_with fail
  with_reducible refine (error_err 4 4 _ (HE.out.below hB)).mono ?_
  rintro e w1 ⟨rfl, k⟩
  have hB := chain hB k
  clear k
  go_wp2_with fail
  with_reducible refine (HC.out.2.1 _ (hA.below hB)).mono ?_
  rintro e w' ⟨rfl, rfl⟩
  go_wp2_with fail
  with_reducible refine (error_err 4 4 _ (HE.out.below hB)).mono ?_
  rintro e w2 ⟨rfl, k⟩
  have hB := chain hB k
  clear k
  go_wp2_with fail
  with_reducible refine (ints_same none none 0 0 0 0 [] _ (Rd.nil _ _) (Rd.nil _ _)).mono ?_
  rintro e w3 ⟨rfl, k⟩
  have hB := chain hB k
  clear k
  go_wp2_with fail
  with_reducible refine (far_nil a 0 _).mono ?_
  rintro e w' ⟨rfl, rfl⟩
  go_wp2_with fail
  with_reducible refine (HC.out.2.2.1 _ (hA.below hB)).mono ?_
  rintro e w' ⟨rfl, rfl⟩
  go_wp2_with fail
  with_reducible refine (error_err 4 4 _ (HE.out.below hB)).mono ?_
  rintro e w4 ⟨rfl, k⟩
  have hB := chain hB k
  clear k
  go_wp2_with fail
  with_reducible refine (ints_same none none 0 0 0 0 [] _ (Rd.nil _ _) (Rd.nil _ _)).mono ?_
  rintro e w5 ⟨rfl, k⟩
  have hB := chain hB k
  clear k
  go_wp2_with fail
  with_reducible refine (far_nil a 0 _).mono ?_
  rintro e w' ⟨rfl, rfl⟩
  go_wp2_with fail
  with_reducible refine (HC.out.2.2.2 _ (hA.below hB)).mono ?_
  rintro e w' ⟨rfl, rfl⟩
  go_wp2_with fail
  with_reducible refine (error_err 4 4 _ (HE.out.below hB)).mono ?_
  rintro e w6 ⟨rfl, k⟩
  have hB := chain hB k
  clear k
  go_wp2_with fail
  with_reducible refine (ints_same none none 0 0 0 0 [] _ (Rd.nil _ _) (Rd.nil _ _)).mono ?_
  rintro e w7 ⟨rfl, k⟩
  have hB := chain hB k
  clear k
  go_wp2_with fail
  with_reducible refine (far_nil a 0 _).mono ?_
  rintro e w' ⟨rfl, rfl⟩
  go_wp2
  go_ret
  exact ⟨rfl, hB⟩

set_option maxHeartbeats 8000000 in
set_option maxRecDepth 100000 in
theorem walk_at (w : World) (a : Int) (ha : -9223372036854775808 ≤ a ∧ a ≤ 9223372036854775807) (up : Bool) (A : Option Addr) (n c : Nat) (xs : List Int) (hS : Sl w A n c xs) (hE : ErrT w) (hz : headE a xs ≠ 0) (hv : headE a xs = 1) (hn : n ≤ 20) (ho : a < 0 ∨ 99 < a) :
    Calls Tryd.prog 4 #[.int .i64 a, .bool up, .slice A n c] w fun e w' => e = .returned (.bool true) ∧ Below w.heap.size w w' := by
  have hA : Rd w A n xs := hS.1
  have hnI : ¬ (n : Int) > 20 := by omega
  have hin := fun wx => in_no a 0 99 wx ho
  have HIN := Lib.hid hin
  clear hin ho
  have hck := fun wx (h : Rd wx A n xs) => hcheck_bad A n c xs a wx h hz
  have hfi := fun wx (h : Rd wx A n xs) => first_bad A n c xs a wx h hz
  have hne := fun wx (h : Rd wx A n xs) => near_bad A n c xs a wx h hz
  have hsw := fun wx (h : Rd wx A n xs) => sweep_bad A n c xs a up wx h hz
  rw [hv] at hck hfi hne hsw
  have HC := Lib.hid (And.intro hck (And.intro hfi (And.intro hne hsw)))
  have HE := Lib.hid hE
  clear hck hfi hne hsw hE hS hz hv ha
  have hB : Below w.heap.size w w := Below.refl _ _
  go_enter Tryd.func4, Tryd.ntmps4
  go_wp2_with fail
  with_reducible refine (HIN.out _).mono ?_
  rintro e w' ⟨rfl, rfl⟩
  go_wp2_with fail
  with_reducible refine (HC.out.1 _ hA).mono ?_
  rintro e w' ⟨rfl, rfl⟩
  go_wp2_with fail
  with_reducible refine (error_err 1 1 _ (HE.out.below hB)).mono ?_
  rintro e w1 ⟨rfl, k⟩
  have hB := chain hB k
  clear k
  go_wp2_with fail
  with_reducible refine (HC.out.2.1 _ (hA.below hB)).mono ?_
  rintro e w' ⟨rfl, rfl⟩
  go_wp2_with fail
  with_reducible refine (error_err 1 1 _ (HE.out.below hB)).mono ?_
  rintro e w2 ⟨rfl, k⟩
  have hB := chain hB k
  clear k
  go_wp2_with fail
  with_reducible refine (ints_same none none 0 0 0 0 [] _ (Rd.nil _ _) (Rd.nil _ _)).mono ?_
  rintro e w3 ⟨rfl, k⟩
  have hB := chain hB k
  clear k
  go_wp2_with fail
  with_reducible refine (far_nil a 0 _).mono ?_
  rintro e w' ⟨rfl, rfl⟩
  go_wp2_with fail
  with_reducible refine (HC.out.2.2.1 _ (hA.below hB)).mono ?_
  rintro e w' ⟨rfl, rfl⟩
  go_wp2_with fail
  with_reducible refine (error_err 1 1 _ (HE.out.below hB)).mono ?_
  rintro e w4 ⟨rfl, k⟩
  have hB := chain hB k
  clear k
  go_wp2_with fail
  with_reducible refine (ints_same none none 0 0 0 0 [] _ (Rd.nil _ _) (Rd.nil _ _)).mono ?_
  rintro e w5 ⟨rfl, k⟩
  have hB := chain hB k
  clear k
  go_wp2_with fail
  with_reducible refine (far_nil a 0 _).mono ?_
  rintro e w' ⟨rfl, rfl⟩
  go_wp2_with fail
  with_reducible refine (HC.out.2.2.2 _ (hA.below hB)).mono ?_
  rintro e w' ⟨rfl, rfl⟩
  go_wp2_with fail
  with_reducible refine (error_err 1 1 _ (HE.out.below hB)).mono ?_
  rintro e w6 ⟨rfl, k⟩
  have hB := chain hB k
  clear k
  go_wp2_with fail
  with_reducible refine (ints_same none none 0 0 0 0 [] _ (Rd.nil _ _) (Rd.nil _ _)).mono ?_
  rintro e w7 ⟨rfl, k⟩
  have hB := chain hB k
  clear k
  go_wp2_with fail
  with_reducible refine (far_nil a 0 _).mono ?_
  rintro e w' ⟨rfl, rfl⟩
  go_wp2
  go_ret
  exact ⟨rfl, hB⟩

set_option maxHeartbeats 8000000 in
set_option maxRecDepth 100000 in
theorem walk_all (w : World) (a : Int) (ha : -9223372036854775808 ≤ a ∧ a ≤ 9223372036854775807) (up : Bool) (A : Option Addr) (n c : Nat) (xs : List Int) (hS : Sl w A n c xs) (hE : ErrT w) (hz : headE a xs ≠ 0) (hv : headE a xs = 1) (hn : n ≤ 20) (h0 : 0 ≤ a) (h1 : a ≤ 99) (hall : allB xs 0 99 = false) :
    Calls Tryd.prog 4 #[.int .i64 a, .bool up, .slice A n c] w fun e w' => e = .returned (.bool true) ∧ Below w.heap.size w w' := by
  have hA : Rd w A n xs := hS.1
  have hnI : ¬ (n : Int) > 20 := by omega
  have hin := fun wx => in_yes a 0 99 wx h0 h1
  have hra := fun wx (h : Rd wx A n xs) => rall_any A n c 0 99 xs wx h
  rw [hall] at hra
  have HIN := Lib.hid (And.intro hin hra)
  clear hin hra hall
  have hck := fun wx (h : Rd wx A n xs) => hcheck_bad A n c xs a wx h hz
  have hfi := fun wx (h : Rd wx A n xs) => first_bad A n c xs a wx h hz
  have hne := fun wx (h : Rd wx A n xs) => near_bad A n c xs a wx h hz
  have hsw := fun wx (h : Rd wx A n xs) => sweep_bad A n c xs a up wx h hz
  rw [hv] at hck hfi hne hsw
  have HC := Lib.hid (And.intro hck (And.intro hfi (And.intro hne hsw)))
  have HE := Lib.hid hE
  clear hck hfi hne hsw hE hS hz hv ha
  have hB : Below w.heap.size w w := Below.refl _ _
  go_enter Tryd.func4, Tryd.ntmps4
  go_wp2_with fail
  with_reducible refine (HIN.out.1 _).mono ?_
  rintro e w' ⟨rfl, rfl⟩
  go_wp2_with fail
  with_reducible refine (HIN.out.2 _ hA).mono ?_
  rintro e w' ⟨rfl, rfl⟩
  go_wp2_with fail
  with_reducible refine (HC.out.1 _ hA).mono ?_
  rintro e w' ⟨rfl, rfl⟩
  go_wp2_with fail
  with_reducible refine (error_err 1 1 _ (HE.out.below hB)).mono ?_
  rintro e w1 ⟨rfl, k⟩
  have hB := chain hB k
  clear k
  go_wp2_with fail
  with_reducible refine (HC.out.2.1 _ (hA.below hB)).mono ?_
  rintro e w' ⟨rfl, rfl⟩
  go_wp2_with fail
  with_reducible refine (error_err 1 1 _ (HE.out.below hB)).mono ?_
  rintro e w2 ⟨rfl, k⟩
  have hB := chain hB k
  clear k
  go_wp2_with fail
  with_reducible refine (ints_same none none 0 0 0 0 [] _ (Rd.nil _ _) (Rd.nil _ _)).mono ?_
  rintro e w3 ⟨rfl, k⟩
  have hB := chain hB k
  clear k
  go_wp2_with fail
  with_reducible refine (far_nil a 0 _).mono ?_
  rintro e w' ⟨rfl, rfl⟩
  go_wp2_with fail
  with_reducible refine (HC.out.2.2.1 _ (hA.below hB)).mono ?_
  rintro e w' ⟨rfl, rfl⟩
  go_wp2_with fail
  with_reducible refine (error_err 1 1 _ (HE.out.below hB)).mono ?_
  rintro e w4 ⟨rfl, k⟩
  have hB := chain hB k
  clear k
  go_wp2_with fail
  with_reducible refine (ints_same none none 0 0 0 0 [] _ (Rd.nil _ _) (Rd.nil _ _)).mono ?_
  rintro e w5 ⟨rfl, k⟩
  have hB := chain hB k
  clear k
  go_wp2_with fail
  with_reducible refine (far_nil a 0 _).mono ?_
  rintro e w' ⟨rfl, rfl⟩
  go_wp2_with fail
  with_reducible refine (HC.out.2.2.2 _ (hA.below hB)).mono ?_
  rintro e w' ⟨rfl, rfl⟩
  go_wp2_with fail
  with_reducible refine (error_err 1 1 _ (HE.out.below hB)).mono ?_
  rintro e w6 ⟨rfl, k⟩
  have hB := chain hB k
  clear k
  go_wp2_with fail
  with_reducible refine (ints_same none none 0 0 0 0 [] _ (Rd.nil _ _) (Rd.nil _ _)).mono ?_
  rintro e w7 ⟨rfl, k⟩
  have hB := chain hB k
  clear k
  go_wp2_with fail
  with_reducible refine (far_nil a 0 _).mono ?_
  rintro e w' ⟨rfl, rfl⟩
  go_wp2
  go_ret
  exact ⟨rfl, hB⟩

theorem walk (w : World) (a : Int) (ha : -9223372036854775808 ≤ a ∧ a ≤ 9223372036854775807) (up : Bool) (A : Option Addr) (n c : Nat) (xs : List Int) (hS : Sl w A n c xs) (hE : ErrT w) :
    Calls Tryd.prog 4 #[.int .i64 a, .bool up, .slice A n c] w fun e w' => e = .returned (.bool true) ∧ Below w.heap.size w w' := by
  have hl : xs.length = n := hS.1.len
  by_cases h : headE a xs = 0
  · exact walk_good w a ha up A n c xs hS hE h
  · by_cases hn : 20 < n
    · exact walk_full w a ha up A n c xs hS hE h (by unfold headE; rw [if_pos (by omega)]) hn
    · by_cases h0 : a < 0 ∨ 99 < a
      · exact walk_at w a ha up A n c xs hS hE h (by unfold headE; rw [if_neg (by omega), if_neg (by omega)]) (by omega) h0
      · have hb : allB xs 0 99 = false := by
          cases hb : allB xs 0 99
          · rfl
          · exact absurd (by unfold headE; rw [if_neg (by omega), if_pos ⟨by omega, hb⟩]) h
        exact walk_all w a ha up A n c xs hS hE h (by unfold headE; rw [if_neg (by omega), if_neg (by rw [hb]; simp)]) (by omega) (by omega) (by omega) hb

set_option maxRecDepth 100000 in
theorem lifted (os : Os) (started : os.Started) (H : Type) (enc : TypeId × Value → H) :
    ReturnsInHanded {} Tryd.checked os 4 .any (fun w args => (Rows.headSaysSpec.pre enc Tryd.prog Tryd.f4 [] false w args ∧ laidMetH Tryd.prog Rows.headSaysRow.laid w) ∧ sizedMet enc Tryd.prog Tryd.f4 (OpenSpec.ofChange Rows.headSaysSpec) false w args)
      (Rows.headSaysSpec.post enc Tryd.prog Tryd.f4 false true false false) := by
  refine returnsInHanded_of_change_and (C := Tryd.checked) (X := fun w _ => laidMetH Tryd.prog Rows.headSaysRow.laid w) (fun _ _ _ hh h => h.of_heap hh) own started (by kernel_rfl) Tryd.func4
    (ChangeSpec.witness_at (enc := enc) (C := Tryd.checked) (os := os) (X := fun w _ => laidMetH Tryd.prog Rows.headSaysRow.laid w) false (laidWorld os) #[.int .i64 0, .bool false, .slice none 0 0] 8 rfl (by kernel_rfl) (by kernel_rfl) (by kernel_rfl) (by kernel_rfl) (by kernel_rfl) (laidWorld_met os _)) ?_
  intro W base args ds gs before hval0 hW _ _ hL _
  have hval : ∀ (j : Nat) t v, Tryd.f4.params[j]? = some t → args[j]? = some v → Value.okWide Tryd.prog W .any base t v := hval0
  have hW' := hW
  obtain ⟨p, q, hA0, hV, rfl, hfz, hnd⟩ := hW
  have hA : DataW.TrodAll enc Tryd.prog W 0 (fun _ => true) true Tryd.f4.params.toList args.toList ds p := hA0
  rw [Tryd.params4] at hA hval
  obtain ⟨v0, vs0, d0, ds0, p0, q0, hargs, rfl, rfl, h0, r0⟩ := trodAll_cons hA
  obtain ⟨v1, vs1, d1, ds1, p1, q1, rfl, rfl, rfl, h1, r1⟩ := trodAll_cons r0
  obtain ⟨v2, vs2, d2, ds2, p2, q2, rfl, rfl, rfl, h2, r2⟩ := trodAll_cons r1
  obtain ⟨rfl, rfl, rfl⟩ := trodAll_nil r2
  obtain rfl : args = #[v0, v1, v2] := by cases args; simp_all
  obtain ⟨rfl, rfl⟩ := trodVars_none hV
  have k0 := h0
  have lt0 : ∀ x ∈ p0, x.block < W.heap.size := by obtain ⟨m, hm⟩ := k0; exact DataW.trod_lt m _ _ _ hm
  obtain ⟨a0, rfl, rfl, rfl, w0⟩ := open_int Tryd.underlying3 (hval 0 3 v0 rfl rfl) h0
  have k1 := h1
  have lt1 : ∀ x ∈ p1, x.block < W.heap.size := by obtain ⟨m, hm⟩ := k1; exact DataW.trod_lt m _ _ _ hm
  obtain ⟨a1, rfl, rfl, rfl⟩ := open_bool Tryd.underlying4 (hval 1 4 v1 rfl rfl) h1
  have k2 := h2
  have lt2 : ∀ x ∈ p2, x.block < W.heap.size := by obtain ⟨m, hm⟩ := k2; exact DataW.trod_lt m _ _ _ hm
  obtain ⟨A2, n2, c2, rfl⟩ := okWide_slice Tryd.underlying22 (hval 2 22 v2 rfl rfl)
  obtain ⟨xs2, w2⟩ : ∃ xs, Sl W A2 n2 c2 xs := by
    obtain ⟨fuel, hf⟩ := h2
    rcases open_ints Tryd.underlying22 Tryd.underlying3 (by kernel_rfl) hf with ⟨hcs, _⟩ | ⟨x, l, c, zs, hcs, _, hl, hm, hz, _, hcell, hwz⟩
    · simp [Value.cells] at hcs
      obtain ⟨rfl, rfl, rfl⟩ := hcs
      exact ⟨[], Rd.nil _ _, Nat.le_refl _, fun _ => rfl⟩
    · simp [Value.cells] at hcs
      obtain ⟨rfl, rfl, rfl⟩ := hcs
      exact ⟨_, rd_of_cells (by simp at hz; omega) hl hm hcell hwz, hl, fun h => by cases h⟩
  clear hA0 hval0
  refine (walk W a0 (wf_range w0) a1 A2 n2 c2 xs2 w2 (handle_of_laid hL)).mono fun e W' ⟨he, bel⟩ => ?_
  subst he
  exact ⟨_, rfl, _, _, _, [], _, [], hW', trodAll_mk1 (shut_bool Tryd.underlying4 _), (trodAll_cons_mk (Below.trod laidOut (by kernel_rfl) (of_decide_eq_true (by kernel_rfl)) k0 bel lt0) (trodAll_cons_mk (Below.trod laidOut (by kernel_rfl) (of_decide_eq_true (by kernel_rfl)) k1 bel lt1) (trodAll_cons_mk (Below.trod laidOut (by kernel_rfl) (of_decide_eq_true (by kernel_rfl)) k2 bel lt2) trodAll_mk0))), rfl, bel.frame _, fun h => by cases h⟩

theorem over : Rows.headSaysRow.holds Tryd.pinned (OpenSpec.ofChange Rows.headSaysSpec) :=
  OpenClaim.holds_of_wide 4 Tryd.f4 rfl rfl rfl rfl rfl rfl rfl ⟨rfl, rfl, rfl, rfl, rfl⟩ rfl rfl rfl rfl rfl (by kernel_rfl) Tryd.func4 (by kernel_rfl)
    (of_decide_eq_true (by kernel_rfl)) (by unfold Func.isWrapper; first | (rw [if_pos (by decide +kernel)]; kernel_rfl) | (rw [if_neg (by decide +kernel)]; exact ⟨rfl, rfl⟩))
    (fun os started H enc _ => lifted os started H enc)

theorem card_holds : Rows.HeadSaysCardSaid :=
  Claim7.holds_tied_plain_at .later [] [.handle] true Rows.headSaysCard.stood.harness Rows.headSaysCard.stood.looks
    over (fun _ h => by cases h) (by kernel_rfl) (fun _ h => by cases h) headSays_row_tie rfl ⟨rfl, rfl⟩ (by kernel_rfl) rfl
    (fun f fn hf hfn => by
      obtain rfl : f = 4 := Option.some.inj ((show Tryd.prog.funcNamed "platterhold/platterholdlaw1.HeadSays" = some 4 by kernel_rfl).symm.trans hf) |>.symm
      obtain rfl : fn = Tryd.f4 := (Option.some.inj (Tryd.func4.symm.trans hfn)).symm
      exact ⟨by kernel_rfl, fun j t ht => by
        rw [Tryd.params4] at ht
        have hm : t ∈ [3, 4, 22] := by simpa using Array.mem_of_getElem? ht
        have hall : ([3, 4, 22].all fun u => !Tryd.prog.wantsStandIn u) = true := by kernel_rfl
        exact (show Tryd.prog.wantsStandIn t = false by simpa using List.all_eq_true.1 hall t hm)⟩)
    (by kernel_rfl)
theorem proved : Rows.HeadSaysCardSaid := card_holds
#print axioms proved
end Go.Proofs.YtpleidblnjphmaaDoor.headSays
