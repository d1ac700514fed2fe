/- merkle: leaf, node, half, root, Check, Root, Leaf by their contracts. -/
import Derived.Test.YtpleidblnjphmaaDoorMerP
import Derived.Test.YtpleidblnjphmaaDoorCore
import Derived.Deep.QuietTactic
import Derived.BigQuiet
import Derived.Deep.RegionWith
import Derived.Lib.Hide
namespace Go.Proofs.YtpleidblnjphmaaDoor
open Go Go.RowKit
set_option maxRecDepth 20000
set_option linter.unusedVariables false

theorem leaf_any (v : Int) (w : World) (h0 : 0 ≤ v) (h1 : v ≤ 1000) : Calls Tryd.prog 28 #[.int .i64 v] w fun e w' => e = .returned (.int .i64 (leafI v)) ∧ w = w' := by
  go_enter Tryd.func28, Tryd.ntmps28
  go_wp2
  go_ret
  exact ⟨rfl, rfl⟩
theorem node_any (a b : Int) (w : World) (h0 : 0 ≤ a) (h1 : a ≤ 9972) (h2 : 0 ≤ b) (h3 : b ≤ 9972) : Calls Tryd.prog 30 #[.int .i64 a, .int .i64 b] w fun e w' => e = .returned (.int .i64 (nodeI a b)) ∧ w = w' := by
  go_enter Tryd.func30, Tryd.ntmps30
  go_wp2
  go_ret
  exact ⟨rfl, rfl⟩
theorem half_end {n k : Nat} (h16 : n ≤ 16) (hk : k = 1 ∨ k = 2 ∨ k = 4 ∨ k = 8) (h1 : k = 1 ∨ k < n) (h : ¬ 2 * k < n) : k = halfN n := by
  unfold halfN; split <;> (try split) <;> (try split) <;> omega
theorem half_any (n : Nat) (w : World) (h16 : n ≤ 16) : Calls Tryd.prog 35 #[.int .i64 n] w fun e w' => e = .returned (.int .i64 (halfN n : Nat)) ∧ w = w' := by
  go_enter Tryd.func35, Tryd.ntmps35
  go_wp2
  go_loop [3] (fun i => ∃ k : Nat, i = .int .i64 k ∧ (k = 1 ∨ k = 2 ∨ k = 4 ∨ k = 8) ∧ (k = 1 ∨ k < n)) (fun i => n - (intOf i).toNat)
  case atStart => exact ⟨1, rfl, .inl rfl, .inl rfl⟩
  case round =>
    obtain ⟨k, rfl, hk, hk1⟩ := hrel
    have HK := Lib.hid (And.intro hk hk1)
    have hk8 : k ≤ 8 := by omega
    have hk0 : 1 ≤ k := by omega
    clear hk hk1
    by_cases hlt : 2 * k < n
    · have hI : (2 : Int) * (k : Int) < (n : Int) := by omega
      go_wp2
      go_round
      case rel => exact ⟨k * 2, by go_num, by have := HK.out; omega, .inr (by omega)⟩
      case measure => simp [intOf]; omega
    · have hI : ¬ (2 : Int) * (k : Int) < (n : Int) := by omega
      have HE := Lib.hid (half_end h16 HK.out.1 HK.out.2 hlt)
      go_wp2
      go_ret
      exact ⟨by rw [← HE.out]; rfl, rfl⟩

/-- What Check says of values. -/
def valE (l : List Int) : Int := if l.length = 0 then 5 else if 16 < l.length then 4 else if allB l 0 1000 = true then 0 else 1
theorem valE_zero {l : List Int} : valE l = 0 ↔ 1 ≤ l.length ∧ l.length ≤ 16 ∧ allB l 0 1000 = true := by
  unfold valE
  by_cases h0 : l.length = 0
  · simp [h0]
  · by_cases h1 : 16 < l.length
    · rw [if_neg h0, if_pos h1]; constructor
      · intro h; omega
      · rintro ⟨_, h, _⟩; omega
    · rw [if_neg h0, if_neg h1]
      by_cases h2 : allB l 0 1000 = true
      · rw [if_pos h2]; simp [h2]; omega
      · rw [if_neg h2]; simp [h2]
theorem mcheck_ok (A : Option Addr) (n c : Nat) (xs : List Int) (w : World) (hA : Rd w A n xs) (h1 : 1 ≤ n) (h2 : n ≤ 16) (h : allB xs 0 1000 = true) :
    Calls Tryd.prog 12 #[.slice A n c] w fun e w' => e = .returned .nilIface ∧ w = w' := by
  have hn : ((n : Int) == 0) = false := by simp; omega
  have H := Lib.hid h
  clear h
  go_enter Tryd.func12, Tryd.ntmps12
  go_wp2_with fail
  with_reducible refine (all_any _ _ _ _ _ xs _ hA).mono ?_
  rintro e w' ⟨rfl, rfl⟩
  rw [H.out]
  go_wp2
  go_ret
  exact ⟨rfl, rfl⟩
theorem mcheck_bad (A : Option Addr) (n c : Nat) (xs : List Int) (w : World) (hA : Rd w A n xs) (h : valE xs ≠ 0) :
    Calls Tryd.prog 12 #[.slice A n c] w fun e w' => e = .returned (.iface 53 (.int .i64 (valE xs))) ∧ w = w' := by
  have hl := hA.len
  obtain ⟨E, hE⟩ : ∃ E, valE xs = E := ⟨_, rfl⟩
  rw [hE] at h ⊢
  unfold valE at hE
  rw [hl] at hE
  by_cases h0 : n = 0
  · rw [if_pos h0] at hE
    subst h0; subst hE
    clear h hl
    go_enter Tryd.func12, Tryd.ntmps12
    go_wp2
    go_ret
    exact ⟨rfl, rfl⟩
  · rw [if_neg h0] at hE
    have hn : ((n : Int) == 0) = false := by simp; omega
    by_cases h1 : 16 < n
    · rw [if_pos h1] at hE
      subst hE
      clear h hl h0
      go_enter Tryd.func12, Tryd.ntmps12
      go_wp2
      go_ret
      exact ⟨rfl, rfl⟩
    · rw [if_neg h1] at hE
      by_cases h2 : allB xs 0 1000 = true
      · rw [if_pos h2] at hE; exact absurd hE.symm h
      · rw [if_neg h2] at hE
        subst hE
        have H := Lib.hid (show allB xs 0 1000 = false by simpa using h2)
        clear h hl h0 h2
        go_enter Tryd.func12, Tryd.ntmps12
        go_wp2_with fail
        with_reducible refine (all_any _ _ _ _ _ xs _ hA).mono ?_
        rintro e w' ⟨rfl, rfl⟩
        rw [H.out]
        go_wp2
        go_ret
        exact ⟨rfl, rfl⟩
theorem allB_take {xs : List Int} {lo hi : Int} (h : ∀ x ∈ xs, lo ≤ x ∧ x ≤ hi) (k : Nat) : ∀ x ∈ xs.take k, lo ≤ x ∧ x ≤ hi := fun x hx => h x (List.mem_of_mem_take hx)

set_option maxHeartbeats 2000000 in
theorem root_any : ∀ (f : Nat) (A : Option Addr) (n c : Nat) (xs : List Int) (w : World), Rd w A n xs → n ≤ c → 1 ≤ n → n ≤ f → n ≤ 16 → (∀ x ∈ xs, 0 ≤ x ∧ x ≤ 1000) →
    Calls Tryd.prog 33 #[.slice A n c] w fun e w' => e = .returned (.int .i64 (rootF f xs)) ∧ ∃ q, w' = w.drewN q := by
  intro f
  induction f with
  | zero => intro A n c xs w _ _ h1 h2; omega
  | succ f ih =>
    intro A n c xs w hA hc h1 hf h16 hx
    have hl := hA.len
    by_cases hn1 : n = 1
    · subst hn1
      have he : rootF (f + 1) xs = leafI (xs[0]?.getD 0) := by rw [rootF_succ, if_pos hl]
      rw [he]
      have hv : (0 : Int) ≤ xs[0]?.getD 0 ∧ xs[0]?.getD 0 ≤ (1000 : Int) := by rw [List.getElem?_eq_getElem (by omega)]; exact hx _ (List.getElem_mem _)
      obtain ⟨b, off, rfl, _, hcc⟩ := hA.at_ (by omega)
      have h0 := hcc 0 (by omega)
      rw [Nat.add_zero] at h0
      obtain ⟨v, hve⟩ : ∃ v, xs[0]?.getD 0 = v := ⟨_, rfl⟩
      rw [hve] at h0 hv ⊢
      obtain ⟨hv0, hv1⟩ := hv
      clear hcc hve he ih hx
      go_enter Tryd.func33, Tryd.ntmps33
      go_wp2_with fail
      with_reducible refine (leaf_any _ _ hv0 hv1).mono ?_
      rintro e w' ⟨rfl, rfl⟩
      go_wp2
      go_ret
      exact ⟨rfl, 0, rfl⟩
    · have he : rootF (f + 1) xs = nodeI (rootF f (xs.take (halfN n))) (rootF f (xs.drop (halfN n))) := by
        rw [rootF_succ, hl, if_neg hn1]
      rw [he]
      have p := halfN_pos n
      have q := halfN_lt (n := n) (by omega)
      have hne : ((n : Int) == 1) = false := by simp; omega
      have hh := half_any n w h16
      obtain ⟨k, hk⟩ : ∃ k, halfN n = k := ⟨_, rfl⟩
      rw [hk] at p q hh ⊢
      have hT := hA.take (k := k) (by omega)
      have hD := hA.cutA hc (show k ≤ n by omega)
      have hcut : ∀ W, _ := run_cut (P := Tryd.prog) Tryd.underlying22 (fun _ => by kernel_rfl) A n c k (by omega)
      obtain ⟨D, hDe⟩ : ∃ D, cutA A c k = D := ⟨_, rfl⟩
      rw [hDe] at hD hcut
      have r1 := root_range f (xs.take k)
      have r2 := root_range f (xs.drop k)
      have ht := fun q' => ih A k c (xs.take k) (w.drewN q') (hT.drewN q') (by omega) p (by omega) (by omega) (fun x hx' => hx x (List.mem_of_mem_take hx'))
      have hd := fun q' => ih D (n - k) (c - k) (xs.drop k) (w.drewN q') (hD.drewN q') (by omega) (by omega) (by omega) (by omega) (fun x hx' => hx x (List.mem_of_mem_drop hx'))
      obtain ⟨R1, hR1⟩ : ∃ R, rootF f (xs.take k) = R := ⟨_, rfl⟩
      obtain ⟨R2, hR2⟩ : ∃ R, rootF f (xs.drop k) = R := ⟨_, rfl⟩
      rw [hR1] at r1 ht ⊢
      rw [hR2] at r2 hd ⊢
      obtain ⟨r10, r11⟩ := r1
      obtain ⟨r20, r21⟩ := r2
      have hkc : (k : Int) ≤ (c : Int) := by omega
      have hkn : (k : Int) ≤ (n : Int) := by omega
      have HT := Lib.hid ht
      have HD := Lib.hid hd
      have HH := Lib.hid hh
      clear ih hx he hk hT hD hDe hR1 hR2 ht hd hh
      go_enter Tryd.func33, Tryd.ntmps33
      go_wp2_with fail
      refine HH.out.mono ?_
      rintro e w' ⟨rfl, rfl⟩
      clear HH
      go_wp2_with fail
      go_quiet (first
        | (go_at_call_of 33 (Value.slice A k c); exact Calls.quiet_of (HT.out _))
        | (go_at_call_of 33 (Value.slice D (n - k) (c - k)); exact Calls.quiet_of (HD.out _))
        | (go_at_call 30; exact Calls.quiet_of_same ((node_any R1 R2 _ r10 r11 r20 r21).mono fun _ _ h => ⟨h.1, h.2.symm⟩)))
      go_wp2_with fail
      go_ret
      exact ⟨rfl, nq, rfl⟩

theorem mroot_ok (A : Option Addr) (n c : Nat) (xs : List Int) (w : World) (hA : Rd w A n xs) (hc : n ≤ c) (h1 : 1 ≤ n) (h2 : n ≤ 16) (h : allB xs 0 1000 = true) :
    Calls Tryd.prog 14 #[.slice A n c] w fun e w' => e = .returned (.tuple #[.int .i64 (rootF 16 xs), .nilIface]) ∧ Below w.heap.size w w' := by
  have H := Lib.hid h
  have hx := allB_mem.1 h
  have HX := Lib.hid hx
  clear h hx
  go_enter Tryd.func14, Tryd.ntmps14
  go_wp2_with fail
  with_reducible refine (mcheck_ok _ _ _ xs _ hA h1 h2 H.out).mono ?_
  rintro e w' ⟨rfl, rfl⟩
  go_wp2_with fail
  with_reducible refine (root_any 16 _ _ _ xs _ hA hc h1 h2 h2 HX.out).mono ?_
  rintro e w' ⟨rfl, q, rfl⟩
  go_wp2
  go_ret2
  exact ⟨rfl, below_drewN_of (Below.refl _ _) q⟩
theorem mroot_bad (A : Option Addr) (n c : Nat) (xs : List Int) (w : World) (hA : Rd w A n xs) (h : valE xs ≠ 0) :
    Calls Tryd.prog 14 #[.slice A n c] w fun e w' => e = .returned (.tuple #[.int .i64 0, .iface 53 (.int .i64 (valE xs))]) ∧ w = w' := by
  obtain ⟨E, hE⟩ : ∃ E, valE xs = E := ⟨_, rfl⟩
  have hb := mcheck_bad A n c xs w hA h
  rw [hE] at hb ⊢
  have HB := Lib.hid hb
  clear hb hE h
  go_enter Tryd.func14, Tryd.ntmps14
  go_wp2_with fail
  refine HB.out.mono ?_
  rintro e w' ⟨rfl, rfl⟩
  go_wp2
  go_ret2
  exact ⟨rfl, rfl⟩
theorem mleaf_ok (v : Int) (w : World) (h0 : 0 ≤ v) (h1 : v ≤ 1000) : Calls Tryd.prog 7 #[.int .i64 v] w fun e w' => e = .returned (.tuple #[.int .i64 (leafI v), .nilIface]) ∧ w = w' := by
  go_enter Tryd.func7, Tryd.ntmps7
  go_wp2_with fail
  with_reducible refine (within_yes _ _ _ _ h0 h1).mono ?_
  rintro e w' ⟨rfl, rfl⟩
  go_wp2_with fail
  with_reducible refine (leaf_any _ _ h0 h1).mono ?_
  rintro e w' ⟨rfl, rfl⟩
  go_wp2
  go_ret2
  exact ⟨rfl, rfl⟩
theorem mleaf_bad (v : Int) (w : World) (h : v < 0 ∨ 1000 < v) : Calls Tryd.prog 7 #[.int .i64 v] w fun e w' => e = .returned (.tuple #[.int .i64 0, .iface 53 (.int .i64 1)]) ∧ w = w' := by
  go_enter Tryd.func7, Tryd.ntmps7
  go_wp2_with fail
  with_reducible refine (within_no _ _ _ _ h).mono ?_
  rintro e w' ⟨rfl, rfl⟩
  go_wp2
  go_ret2
  exact ⟨rfl, rfl⟩
end Go.Proofs.YtpleidblnjphmaaDoor
