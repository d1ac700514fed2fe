/- The reference's Count, Make and Again by their contracts; reed.Make and reed.Again in the same words. -/
import Derived.Test.YtdhfckdnfppieaaDoorRFacW
import Derived.Test.YtdhfckdnfppieaaDoorReed3
import Derived.Test.YtdhfckdnfppieaaDoorRBytes
import Derived.Test.YtdhfckdnfppieaaDoorTold
namespace Go.Proofs.YtdhfckdnfppieaaDoor
open Go Go.RowKit
set_option maxRecDepth 20000
set_option linter.unusedVariables false

/-- An error as the program has it. -/
def errV (E : Int) : Value := if E = 0 then .nilIface else .iface 53 (.int .i64 E)
theorem errV_zero : errV 0 = .nilIface := by unfold errV; rw [if_pos rfl]
theorem errV_ne {E : Int} (h : E ≠ 0) : errV E = .iface 53 (.int .i64 E) := by unfold errV; rw [if_neg h]
theorem error_same (E : Int) (w : World) (hE : ErrT w) : Calls Tryd.prog 12 #[errV E, .int .i64 E] w fun e w' => e = .returned (.bool true) ∧ Below w.heap.size w w' := by
  by_cases h : E = 0
  · subst h
    rw [errV_zero]
    exact (error_nil 0 w).mono fun e w' h => by
      obtain ⟨h1, h2⟩ := h
      subst h2
      exact ⟨h1, Below.refl _ _⟩
  · rw [errV_ne h]
    exact (error_err E E w hE).mono fun e w' h => by
      obtain ⟨h1, h2⟩ := h
      exact ⟨by rw [h1]; simp, h2⟩

set_option maxHeartbeats 1000000 in
theorem rcount_any (n : Nat) (w : World) (hn : n ≤ 100000) : Calls Tryd.prog 47 #[.int .i64 n] w fun e w' => (∃ C c', e = .returned (.slice C n c') ∧ Own w' w.heap.size (.slice C n c') n (iota n)) ∧ Below w.heap.size w w' := by
  go_enter Tryd.func47, Tryd.ntmps47
  go_wp2
  go_loopw [3, 4] (fun v i wr => ∃ (k : Nat) (C : Option Addr) (c' : Nat), k ≤ n ∧ i = .int .i64 k ∧ v = .slice C k c' ∧ Own wr w.heap.size (.slice C k c') k (iota k) ∧ Below w.heap.size w wr) (fun _ i _ => n - (intOf i).toNat)
  case atStart => exact ⟨0, none, 0, Nat.zero_le _, rfl, rfl, Own.nil _ _, Below.refl _ _⟩
  case round =>
    obtain ⟨k, C, c', hk, rfl, rfl, hown, hbel⟩ := hrel
    by_cases hlt : k < n
    · have hkI : (k : Int) < (n : Int) := by omega
      go_wp2_with (at_builtin; refine wpList_app1 rfl _ _ rfl w.heap.size k _ (iota k) rfl (hown.alloc _) wr.heap.size (k : Int) rfl (by simp) (by omega) (by have := hbel.size; simp; omega) ?_; intro A2 c2 w4 hown4 hbel4)
      have hq4 := hbel4 w.heap.size w (Nat.le_refl _) (hbel.alloc hbel.size _)
      go_roundw
      case rel => exact ⟨k + 1, A2, c2, by omega, by go_num, rfl, by rw [iota_succ]; exact hown4, hq4⟩
      case measure => simp [intOf]; omega
    · obtain rfl : n = k := by omega
      have hkI : ¬ (n : Int) < (n : Int) := by omega
      go_wp2
      go_ret
      exact ⟨⟨_, _, rfl, hown⟩, hbel⟩

/-! ### Make -/
def mkL (xs : List Int) (more : Int) : List Int := if makeE xs more = 0 then shards xs more.toNat else []
theorem mkL_len (xs : List Int) (p : Nat) (h : makeE xs p = 0) : mkL xs p = shards xs p := by unfold mkL; rw [if_pos h, Int.toNat_natCast]
theorem mkL_bad {xs : List Int} {more : Int} (h : makeE xs more ≠ 0) : mkL xs more = [] := by unfold mkL; rw [if_neg h]
def MkPost (ev : Int → Value) (xs : List Int) (more : Int) (w : World) (e : Ending) (w' : World) : Prop :=
  (∃ C k c', e = .returned (.tuple #[.slice C k c', ev (makeE xs more)]) ∧ Rd w' C k (mkL xs more)) ∧ Below w.heap.size w w'
def intV (E : Int) : Value := .int .i64 E
def valL (xs : List Int) (k : Nat) : List Int := (List.range k).map fun j => valI xs j
theorem valL_succ (xs : List Int) (k : Nat) : valL xs (k + 1) = valL xs k ++ [valI xs k] := by simp [valL, List.range_succ]
theorem valL_all {xs : List Int} (hx : ∀ x ∈ xs, 0 ≤ x ∧ x ≤ 255) {p : Nat} (h : xs.length + p ≤ 256) : valL xs (xs.length + p) = shards xs p := by
  refine getD_ext (by simp [valL, shards_len]) fun k hk => ?_
  have hk : k < xs.length + p := by simpa [valL] using hk
  rw [shards_get hx (by omega) hk]
  unfold valL
  rw [List.getElem?_map, List.getElem?_range hk]; rfl

theorem pmake_any (A : Option Addr) (n c : Nat) (xs : List Int) (more : Int) (w : World) (hA : Sl w A n c xs) :
    Calls Tryd.prog 23 #[.slice A n c, .int .i64 more] w (MkPost errV xs more w) := by
  by_cases he : makeE xs more = 0
  · obtain ⟨_, h8, hall, hm0, hm4⟩ := makeE_zero he
    obtain ⟨p, rfl⟩ := Int.eq_ofNat_of_zero_le hm0
    have hl := hA.1.len
    have hx := shards_bytes (allB_mem.1 hall) p
    exact (make_ok A n c xs p w hA he).mono fun e w' h => by
      obtain ⟨⟨C, c', h1, h2⟩, h3⟩ := h
      refine ⟨⟨C, n + p, c', by rw [he, errV_zero]; exact h1, ?_⟩, h3⟩
      rw [mkL_len xs p he]
      exact h2.rd (by omega) (fun x h => by have := hx x h; omega)
  · exact (make_bad A n c xs more w hA.1 he).mono fun e w' h => by
      obtain ⟨h1, h2⟩ := h
      subst h2
      refine ⟨⟨none, 0, 0, by rw [errV_ne he]; exact h1, ?_⟩, Below.refl _ _⟩
      rw [mkL_bad he]
      exact Rd.nil _ _

set_option maxHeartbeats 4000000 in
theorem rmake_ok (A : Option Addr) (n c : Nat) (xs : List Int) (p : Nat) (w : World) (hA : Rd w A n xs) (hE : makeE xs p = 0) :
    Calls Tryd.prog 22 #[.slice A n c, .int .i64 p] w fun e w' => (∃ C c', e = .returned (.tuple #[.slice C (n + p) c', .int .i64 0]) ∧ Own w' w.heap.size (.slice C (n + p) c') (n + p) (shards xs p)) ∧ Below w.heap.size w w' := by
  have hl := hA.len
  obtain ⟨h0, h8, hall, _, hm4⟩ := makeE_zero hE
  rw [hl] at h0 h8
  have hm4' : p ≤ 4 := by omega
  have hb0 : bytesE xs 8 = 0 := bytesE_zero.2 ⟨by rw [hl]; omega, hall⟩
  have hn0 : ((n : Int) == 0) = false := by simp; omega
  have hx := allB_mem.1 hall
  have HX := Lib.hid (And.intro hl (And.intro hx hb0))
  have hin : (decide ((0 : Int) ≤ (p : Int)) && decide ((p : Int) ≤ 4)) = true := by simp; omega
  have HIN := Lib.hid hin
  clear hl hx hall hb0 hE hm4 hin
  go_enter Tryd.func22, Tryd.ntmps22
  go_wp2_with fail
  with_reducible refine (rbytes_any A n c 8 xs _ hA).mono ?_
  rintro e w' ⟨rfl, rfl⟩
  rw [HX.out.2.2]
  go_wp2_with fail
  with_reducible refine (rin_any _ _ _ _).mono ?_
  rintro e w' ⟨rfl, rfl⟩
  rw [HIN.out]
  go_wp2_with fail
  with_reducible refine (rcount_any n _ (by omega)).mono ?_
  rintro e w1 ⟨⟨I, ci, rfl, hownI⟩, k1⟩
  have hRI : Rd w1 I n (iota n) := hownI.rd (by omega) (fun x hx => by have := iota_bytes (n := n) (by omega) x hx; omega)
  have hRA := hA.below k1
  clear hownI
  go_wp2_with fail
  with_reducible refine (factors_any I n ci (iota n) A c xs _ hRI hRA (by omega) (by omega) (iota_bytes (by omega)) HX.out.2.1 (iota_nodup n)).mono ?_
  rintro e w2 ⟨⟨F, cf, rfl, fs, hownF, hfac⟩, k2⟩
  have hB2 := k1.trans (k2.mono k1.size)
  have hfl : fs.length = n := hownF.len
  have hfh := fun a ha => hfac.horn (a := a) (iota_bytes (by omega)) (iota_nodup n) (iota_len n) HX.out.2.1 ha
  have hfb : ∀ f ∈ fs, 0 ≤ f ∧ f ≤ 255 := (hfh 0 (by decide)).2.1
  have hRF : Rd w2 F n fs := hownF.rd (by omega) (fun x hx => by have := hfb x hx; omega)
  have hval : ∀ a : Nat, a < 256 → horn (a : Int) fs = valI xs a := fun a ha => by
    rw [(hfh a ha).2.2]; unfold valI; rw [HX.out.1]
  have HF := Lib.hid (And.intro hfb hval)
  clear hownF hfac hfl hfh hfb hval k1 k2
  go_wp2
  go_loopw [8, 9] (fun v i wr => ∃ (k : Nat) (C : Option Addr) (c' : Nat), k ≤ n + p ∧ i = .int .i64 k ∧ v = .slice C k c' ∧ Own wr w2.heap.size (.slice C k c') k (valL xs k) ∧ Below w2.heap.size w2 wr) (fun _ i _ => n + p - (intOf i).toNat)
  case atStart => exact ⟨0, none, 0, Nat.zero_le _, rfl, rfl, Own.nil _ _, Below.refl _ _⟩
  case round =>
    obtain ⟨k, C, c', hk, rfl, rfl, hown, hbel⟩ := hrel
    by_cases hlt : k < n + p
    · have hkI : (k : Int) < (n : Int) + (p : Int) := by omega
      have hRq := hRF.below hbel
      have hat := fun wx h => rat_any F n cf fs (k : Int) wx h (by omega) (allB_mem.2 HF.out.1) ⟨by omega, by omega⟩
      rw [HF.out.2 k (by omega)] at hat
      have hsn := valL_succ xs k
      obtain ⟨V, hV⟩ : ∃ V, valI xs k = V := ⟨_, rfl⟩
      rw [hV] at hat hsn
      have HAT := Lib.hid hat
      have HSN := Lib.hid hsn
      clear hat hsn hV
      go_wp2_with fail
      with_reducible refine (HAT.out _ hRq).mono ?_
      rintro e w3 ⟨rfl, k3⟩
      have hown3 := hown.below k3
      have hB3 := hbel.trans (k3.mono hbel.size)
      clear k3
      go_wp2_with (at_builtin; refine wpList_app1 rfl _ _ rfl w2.heap.size k _ (valL xs k) rfl (hown3.alloc _) w3.heap.size V rfl (by simp) (by omega) (by have := hB3.size; simp; omega) ?_; intro A2 c2 w4 hown4 hbel4)
      have hq4 := hbel4 w2.heap.size w2 (Nat.le_refl _) (hB3.alloc hB3.size _)
      go_roundw
      case rel => exact ⟨k + 1, A2, c2, by omega, by go_num, rfl, by rw [HSN.out]; exact hown4, hq4⟩
      case measure => simp [intOf]; omega
    · obtain rfl : k = n + p := by omega
      have hkI : ¬ ((n + p : Nat) : Int) < (n : Int) + (p : Int) := by omega
      have hva := valL_all HX.out.2.1 (p := p) (by rw [HX.out.1]; omega)
      rw [HX.out.1] at hva
      rw [hva] at hown
      clear hva
      go_wp2
      go_ret2
      exact ⟨⟨_, _, rfl, hown.monoR hB2.size⟩, hB2.trans (hbel.mono hB2.size)⟩
theorem rmake_none (A : Option Addr) (c : Nat) (more : Int) (w : World) :
    Calls Tryd.prog 22 #[.slice A 0 c, .int .i64 more] w fun e w' => e = .returned (.tuple #[.slice none 0 0, .int .i64 5]) ∧ w = w' := by
  go_enter Tryd.func22, Tryd.ntmps22
  go_wp2
  go_ret2
  exact ⟨rfl, rfl⟩
theorem rmake_bad (A : Option Addr) (n c : Nat) (xs : List Int) (more : Int) (w : World) (hA : Rd w A n xs) (hE : makeE xs more ≠ 0) :
    Calls Tryd.prog 22 #[.slice A n c, .int .i64 more] w fun e w' => e = .returned (.tuple #[.slice none 0 0, .int .i64 (makeE xs more)]) ∧ w = w' := by
  have hl := hA.len
  by_cases h0 : n = 0
  · subst h0
    have e : makeE xs more = 5 := by unfold makeE; rw [if_pos hl]
    rw [e]
    exact rmake_none A c more w
  · have hn0 : ((n : Int) == 0) = false := by simp; omega
    by_cases hb : bytesE xs 8 = 0
    · have hr : ¬ (0 ≤ more ∧ more ≤ 4) := by
        intro h; apply hE; unfold makeE
        rw [if_neg (by omega), if_neg (by simp [hb]), if_pos h]
      have e : makeE xs more = 1 := by
        unfold makeE
        rw [if_neg (by omega), if_neg (by simp [hb]), if_neg hr]
      rw [e]
      have hin : (decide ((0 : Int) ≤ more) && decide (more ≤ 4)) = false := by
        rw [Bool.eq_false_iff]; intro h; simp at h; exact hr h
      have HB := Lib.hid hb
      have HIN := Lib.hid hin
      clear hE e hb hl hin hr
      go_enter Tryd.func22, Tryd.ntmps22
      go_wp2_with fail
      with_reducible refine (rbytes_any A n c 8 xs _ hA).mono ?_
      rintro e w' ⟨rfl, rfl⟩
      rw [HB.out]
      go_wp2_with fail
      with_reducible refine (rin_any _ _ _ _).mono ?_
      rintro e w' ⟨rfl, rfl⟩
      rw [HIN.out]
      go_wp2
      go_ret2
      exact ⟨rfl, rfl⟩
    · have e : makeE xs more = bytesE xs 8 := by
        unfold makeE; rw [if_neg (by omega), if_pos hb]
      rw [e]
      have hbb := fun wx hx => rbytes_any A n c 8 xs wx hx
      obtain ⟨E, hEe⟩ : ∃ E, bytesE xs 8 = E := ⟨_, rfl⟩
      rw [hEe] at hbb hb ⊢
      have hEb : (E != 0) = true := by simp [hb]
      have HB := Lib.hid hbb
      clear hE e hEe hbb hl hb
      go_enter Tryd.func22, Tryd.ntmps22
      go_wp2_with fail
      with_reducible refine (HB.out _ hA).mono ?_
      rintro e w' ⟨rfl, rfl⟩
      go_wp2
      go_ret2
      exact ⟨rfl, rfl⟩
theorem rmake_any (A : Option Addr) (n c : Nat) (xs : List Int) (more : Int) (w : World) (hA : Rd w A n xs) :
    Calls Tryd.prog 22 #[.slice A n c, .int .i64 more] w (MkPost intV xs more w) := by
  by_cases he : makeE xs more = 0
  · obtain ⟨_, h8, hall, hm0, hm4⟩ := makeE_zero he
    obtain ⟨p, rfl⟩ := Int.eq_ofNat_of_zero_le hm0
    have hl := hA.len
    have hx := shards_bytes (allB_mem.1 hall) p
    exact (rmake_ok A n c xs p w hA he).mono fun e w' h => by
      obtain ⟨⟨C, c', h1, h2⟩, h3⟩ := h
      refine ⟨⟨C, n + p, c', by rw [he]; exact h1, ?_⟩, h3⟩
      rw [mkL_len xs p he]
      exact h2.rd (by omega) (fun x h => by have := hx x h; omega)
  · exact (rmake_bad A n c xs more w hA he).mono fun e w' h => by
      obtain ⟨h1, h2⟩ := h
      subst h2
      refine ⟨⟨none, 0, 0, h1, ?_⟩, Below.refl _ _⟩
      rw [mkL_bad he]
      exact Rd.nil _ _
end Go.Proofs.YtdhfckdnfppieaaDoor
