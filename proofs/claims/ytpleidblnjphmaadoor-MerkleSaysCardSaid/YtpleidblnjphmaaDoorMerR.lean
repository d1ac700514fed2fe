/- The reference's trees of sums by their contracts: Leaf, Join, Half, Root, Way, Values. -/
import Derived.Test.YtpleidblnjphmaaDoorMerS
import Derived.Test.YtpleidblnjphmaaDoorRAll
import Derived.Deep.RegionHeld3
namespace Go.Proofs.YtpleidblnjphmaaDoor
open Go Go.RowKit
set_option maxRecDepth 20000
set_option linter.unusedVariables false

theorem rleaf_any (v : Int) (w : World) (h0 : 0 ≤ v) (h1 : v ≤ 1000) : Calls Tryd.prog 6 #[.int .i64 v] w fun e w' => e = .returned (.int .i64 (leafI v)) ∧ w = w' := by
  go_enter Tryd.func6, Tryd.ntmps6
  go_wp2
  go_ret
  exact ⟨by unfold leafI; rw [Int.mul_comm v 7]; rfl, rfl⟩
theorem rjoin_any (a b : Int) (w : World) (h0 : 0 ≤ a) (h1 : a ≤ 9972) (h2 : 0 ≤ b) (h3 : b ≤ 9972) : Calls Tryd.prog 9 #[.int .i64 a, .int .i64 b] w fun e w' => e = .returned (.int .i64 (nodeI a b)) ∧ w = w' := by
  go_enter Tryd.func9, Tryd.ntmps9
  go_wp2
  go_ret
  exact ⟨by unfold nodeI; rw [Int.mul_comm a 31, Int.mul_comm b 57]; rfl, rfl⟩
theorem rhalf_any (n : Nat) (w : World) (h16 : n ≤ 16) : Calls Tryd.prog 32 #[.int .i64 n] w fun e w' => e = .returned (.int .i64 (halfN n : Nat)) ∧ w = w' := by
  go_enter Tryd.func32, Tryd.ntmps32
  go_wp2
  go_loop [3] (fun i => ∃ k : Nat, i = .int .i64 k ∧ (k = 1 ∨ k = 2 ∨ k = 4 ∨ k = 8) ∧ (k = 1 ∨ k < n)) (fun i => n - (intOf i).toNat)
  case atStart => exact ⟨1, rfl, .inl rfl, .inl rfl⟩
  case round =>
    obtain ⟨k, rfl, hk, hk1⟩ := hrel
    have HK := Lib.hid (And.intro hk hk1)
    have hk8 : k ≤ 8 := by omega
    have hk0 : 1 ≤ k := by omega
    clear hk hk1
    by_cases hlt : 2 * k < n
    · have hI : (2 : Int) * (k : Int) < (n : Int) := by omega
      go_wp2
      go_round
      case rel => exact ⟨k * 2, by go_num, by have := HK.out; omega, .inr (by omega)⟩
      case measure => simp [intOf]; omega
    · have hI : ¬ (2 : Int) * (k : Int) < (n : Int) := by omega
      have HE := Lib.hid (half_end h16 HK.out.1 HK.out.2 hlt)
      go_wp2
      go_ret
      exact ⟨by rw [← HE.out]; rfl, rfl⟩
set_option maxHeartbeats 2000000 in
theorem rroot_any : ∀ (f : Nat) (A : Option Addr) (n c : Nat) (xs : List Int) (w : World), Rd w A n xs → n ≤ c → 1 ≤ n → n ≤ f → n ≤ 16 → (∀ x ∈ xs, 0 ≤ x ∧ x ≤ 1000) →
    Calls Tryd.prog 13 #[.slice A n c] w fun e w' => e = .returned (.int .i64 (rootF f xs)) ∧ ∃ q, w' = w.drewN q := by
  intro f
  induction f with
  | zero => intro A n c xs w _ _ h1 h2; omega
  | succ f ih =>
    intro A n c xs w hA hc h1 hf h16 hx
    have hl := hA.len
    by_cases hn1 : n = 1
    · subst hn1
      have he : rootF (f + 1) xs = leafI (xs[0]?.getD 0) := by rw [rootF_succ, if_pos hl]
      rw [he]
      have hv : (0 : Int) ≤ xs[0]?.getD 0 ∧ xs[0]?.getD 0 ≤ (1000 : Int) := by rw [List.getElem?_eq_getElem (by omega)]; exact hx _ (List.getElem_mem _)
      obtain ⟨b, off, rfl, _, hcc⟩ := hA.at_ (by omega)
      have h0 := hcc 0 (by omega)
      rw [Nat.add_zero] at h0
      obtain ⟨v, hve⟩ : ∃ v, xs[0]?.getD 0 = v := ⟨_, rfl⟩
      rw [hve] at h0 hv ⊢
      obtain ⟨hv0, hv1⟩ := hv
      clear hcc hve he ih hx
      go_enter Tryd.func13, Tryd.ntmps13
      go_wp2_with fail
      with_reducible refine (rleaf_any _ _ hv0 hv1).mono ?_
      rintro e w' ⟨rfl, rfl⟩
      go_wp2
      go_ret
      exact ⟨rfl, 0, rfl⟩
    · have he : rootF (f + 1) xs = nodeI (rootF f (xs.take (halfN n))) (rootF f (xs.drop (halfN n))) := by
        rw [rootF_succ, hl, if_neg hn1]
      rw [he]
      have p := halfN_pos n
      have q := halfN_lt (n := n) (by omega)
      have hne : ((n : Int) == 1) = false := by simp; omega
      have hh := rhalf_any n w h16
      obtain ⟨k, hk⟩ : ∃ k, halfN n = k := ⟨_, rfl⟩
      rw [hk] at p q hh ⊢
      have hT := hA.take (k := k) (by omega)
      have hD := hA.cutA hc (show k ≤ n by omega)
      have hcut : ∀ W, _ := run_cut (P := Tryd.prog) Tryd.underlying22 (fun _ => by kernel_rfl) A n c k (by omega)
      obtain ⟨D, hDe⟩ : ∃ D, cutA A c k = D := ⟨_, rfl⟩
      rw [hDe] at hD hcut
      have r1 := root_range f (xs.take k)
      have r2 := root_range f (xs.drop k)
      have ht := fun q' => ih A k c (xs.take k) (w.drewN q') (hT.drewN q') (by omega) p (by omega) (by omega) (fun x hx' => hx x (List.mem_of_mem_take hx'))
      have hd := fun q' => ih D (n - k) (c - k) (xs.drop k) (w.drewN q') (hD.drewN q') (by omega) (by omega) (by omega) (by omega) (fun x hx' => hx x (List.mem_of_mem_drop hx'))
      obtain ⟨R1, hR1⟩ : ∃ R, rootF f (xs.take k) = R := ⟨_, rfl⟩
      obtain ⟨R2, hR2⟩ : ∃ R, rootF f (xs.drop k) = R := ⟨_, rfl⟩
      rw [hR1] at r1 ht ⊢
      rw [hR2] at r2 hd ⊢
      obtain ⟨r10, r11⟩ := r1
      obtain ⟨r20, r21⟩ := r2
      have hkc : (k : Int) ≤ (c : Int) := by omega
      have hkn : (k : Int) ≤ (n : Int) := by omega
      have HT := Lib.hid ht
      have HD := Lib.hid hd
      have HH := Lib.hid hh
      clear ih hx he hk hT hD hDe hR1 hR2 ht hd hh
      go_enter Tryd.func13, Tryd.ntmps13
      go_wp2_with fail
      refine HH.out.mono ?_
      rintro e w' ⟨rfl, rfl⟩
      clear HH
      go_wp2_with fail
      go_quiet (first
        | (go_at_call_of 13 (Value.slice A k c); exact Calls.quiet_of (HT.out _))
        | (go_at_call_of 13 (Value.slice D (n - k) (c - k)); exact Calls.quiet_of (HD.out _))
        | (go_at_call 9; exact Calls.quiet_of_same ((rjoin_any R1 R2 _ r10 r11 r20 r21).mono fun _ _ h => ⟨h.1, h.2.symm⟩)))
      go_wp2_with fail
      go_ret
      exact ⟨rfl, nq, rfl⟩

set_option maxHeartbeats 4000000 in
theorem rway_any : ∀ (f : Nat) (A : Option Addr) (n c : Nat) (xs : List Int) (i : Nat) (w : World), Rd w A n xs → n ≤ c → 1 ≤ n → n ≤ f → n ≤ 16 → (∀ x ∈ xs, 0 ≤ x ∧ x ≤ 1000) → i < n →
    Calls Tryd.prog 15 #[.slice A n c, .int .i64 i] w fun e w' => (∃ C m c', e = .returned (.slice C m c') ∧ m ≤ 16 ∧ OwnP w' w.heap.size (.slice C m c') m ((wayF f xs i).map sv)) ∧ Below w.heap.size w w' := by
  intro f
  induction f with
  | zero => intro A n c xs i w _ _ h1 h2; omega
  | succ f ih =>
    intro A n c xs i w hA hc h1 hf h16 hx hi
    have hl := hA.len
    by_cases hn1 : n = 1
    · subst hn1
      rw [way_one hl]
      clear ih hx
      go_enter Tryd.func15, Tryd.ntmps15
      go_wp2
      go_ret
      exact ⟨⟨none, 0, 0, rfl, by omega, OwnP.nil _ _⟩, Below.refl _ _⟩
    · have hne : ((n : Int) == 1) = false := by simp; omega
      have pp := halfN_pos n
      have qq := halfN_lt (n := n) (by omega)
      have hh := rhalf_any n w h16
      have hw16 := way_16 (f := f + 1) (l := xs) (i := i) (by omega) (by omega) (by omega)
      have hwe := wayF_succ f xs i
      rw [hl, if_neg hn1] at hwe
      obtain ⟨k, hk⟩ : ∃ k, halfN n = k := ⟨_, rfl⟩
      rw [hk] at pp qq hh hwe
      have hT := hA.take (k := k) (by omega)
      have hD := hA.cutA hc (show k ≤ n by omega)
      have hcut : ∀ W, _ := run_cut (P := Tryd.prog) Tryd.underlying22 (fun _ => by kernel_rfl) A n c k (by omega)
      obtain ⟨D, hDe⟩ : ∃ D, cutA A c k = D := ⟨_, rfl⟩
      rw [hDe] at hD hcut
      have hkc : (k : Int) ≤ (c : Int) := by omega
      have hkn : (k : Int) ≤ (n : Int) := by omega
      by_cases hik : i < k
      · rw [if_pos hik] at hwe
        have r2 := root_range f (xs.drop k)
        have hw : ∀ wc, Below w.heap.size w wc → Calls Tryd.prog 15 #[.slice A k c, .int .i64 i] wc fun e w' =>
            (∃ C m c', e = .returned (.slice C m c') ∧ m ≤ 16 ∧ OwnP w' w.heap.size (.slice C m c') m ((wayF f (xs.take k) i).map sv)) ∧ Below wc.heap.size wc w' ∧ Below w.heap.size w w' := fun wc hS =>
          (ih A k c (xs.take k) i wc (hT.below hS) (by omega) pp (by omega) (by omega) (fun x hx' => hx x (List.mem_of_mem_take hx')) hik).mono
            (by rintro e w' ⟨⟨C, m, c', rfl, hm, ho⟩, hb⟩; exact ⟨⟨C, m, c', rfl, hm, ho.mono hS.size⟩, hb, hS.trans (hb.mono hS.size)⟩)
        have hr : ∀ wc, Below w.heap.size w wc → Calls Tryd.prog 13 #[.slice D (n - k) (c - k)] wc fun e w' =>
            e = .returned (.int .i64 (rootF f (xs.drop k))) ∧ Below wc.heap.size wc w' ∧ Below w.heap.size w w' := fun wc hS =>
          (rroot_any f D (n - k) (c - k) (xs.drop k) wc (hD.below hS) (by omega) (by omega) (by omega) (by omega) (fun x hx' => hx x (List.mem_of_mem_drop hx'))).mono
            (by rintro e w' ⟨rfl, q, rfl⟩; exact ⟨rfl, below_drewN_of (Below.refl _ _) q, hS.trans ((below_drewN_of (Below.refl _ _) q).mono hS.size)⟩)
        obtain ⟨R, hR⟩ : ∃ R, rootF f (xs.drop k) = R := ⟨_, rfl⟩
        obtain ⟨W, hW⟩ : ∃ W, wayF f (xs.take k) i = W := ⟨_, rfl⟩
        rw [hR] at hr hwe r2
        rw [hW] at hw hwe
        have hwl : W.length ≤ 15 := by rw [hwe] at hw16; simp at hw16; omega
        obtain ⟨r20, r21⟩ := r2
        have HW := Lib.hid hw
        have HR := Lib.hid hr
        have HH := Lib.hid hh
        have HWE := Lib.hid hwe
        have hikI : (i : Int) < (k : Int) := by omega
        clear ih hx hk hT hD hDe hR hW hw hr hh hwe hw16
        go_enter Tryd.func15, Tryd.ntmps15
        go_wp2_with fail
        refine HH.out.mono ?_
        rintro e w' ⟨rfl, rfl⟩
        clear HH
        go_wp2_with fail
        go_region_held3 (fun w' => Below w.heap.size w w')
          (first | exact (Below.refl _ _).drew | exact hq | exact hS2.alloc hS2.size _ | exact hS2 | exact hS1 | fail)
          (first
            | (go_at_call 15; (with_reducible refine (HW.out _ ?_).mono ?_); assumption; rintro e w1 ⟨⟨C, m, c', rfl, hm, hown1⟩, k1, hS1⟩)
            | (go_at_call 13; (with_reducible refine (HR.out _ ?_).mono ?_); assumption; rintro e w2 ⟨rfl, k2, hS2⟩)
            | (refine step_app1P rfl _ _ rfl w.heap.size m _ (W.map sv) rfl ?_ _ (.bool false, .int .i64 R) rfl ?_ ?_ ⟨rfl, rfl⟩ ?_ ?_ ?_; exact (hown1.below k2).alloc _; (simp); (simp); omega; (have hz := hS2.size; simp; omega); intro A' c3 w3 hown3 hbel3; have hq := hbel3 w.heap.size w (Nat.le_refl _) (hS2.alloc hS2.size _))
            | fail)
        go_wp2
        go_ret
        exact ⟨⟨_, _, _, rfl, by have hz := hown3.len; simp at hz; omega, by rw [HWE.out, List.map_append]; exact hown3⟩, hq⟩
      · rw [if_neg hik] at hwe
        obtain ⟨j, hj⟩ : ∃ j, i - k = j := ⟨_, rfl⟩
        rw [hj] at hwe
        have hjI : IntKind.i64.wrap ((i : Int) - (k : Int)) = (j : Int) := by rw [IntKind.wrap_i64]; omega
        have hjn : j < n - k := by omega
        have r2 := root_range f (xs.take k)
        have hw : ∀ wc, Below w.heap.size w wc → Calls Tryd.prog 15 #[.slice D (n - k) (c - k), .int .i64 (IntKind.i64.wrap ((i : Int) - (k : Int)))] wc fun e w' =>
            (∃ C m c', e = .returned (.slice C m c') ∧ m ≤ 16 ∧ OwnP w' w.heap.size (.slice C m c') m ((wayF f (xs.drop k) j).map sv)) ∧ Below wc.heap.size wc w' ∧ Below w.heap.size w w' := fun wc hS => by
          rw [hjI]
          exact (ih D (n - k) (c - k) (xs.drop k) j wc (hD.below hS) (by omega) (by omega) (by omega) (by omega) (fun x hx' => hx x (List.mem_of_mem_drop hx')) hjn).mono
            (by rintro e w' ⟨⟨C, m, c', rfl, hm, ho⟩, hb⟩; exact ⟨⟨C, m, c', rfl, hm, ho.mono hS.size⟩, hb, hS.trans (hb.mono hS.size)⟩)
        have hr : ∀ wc, Below w.heap.size w wc → Calls Tryd.prog 13 #[.slice A k c] wc fun e w' =>
            e = .returned (.int .i64 (rootF f (xs.take k))) ∧ Below wc.heap.size wc w' ∧ Below w.heap.size w w' := fun wc hS =>
          (rroot_any f A k c (xs.take k) wc (hT.below hS) (by omega) pp (by omega) (by omega) (fun x hx' => hx x (List.mem_of_mem_take hx'))).mono
            (by rintro e w' ⟨rfl, q, rfl⟩; exact ⟨rfl, below_drewN_of (Below.refl _ _) q, hS.trans ((below_drewN_of (Below.refl _ _) q).mono hS.size)⟩)
        obtain ⟨R, hR⟩ : ∃ R, rootF f (xs.take k) = R := ⟨_, rfl⟩
        obtain ⟨W, hW⟩ : ∃ W, wayF f (xs.drop k) j = W := ⟨_, rfl⟩
        rw [hR] at hr hwe r2
        rw [hW] at hw hwe
        have hwl : W.length ≤ 15 := by rw [hwe] at hw16; simp at hw16; omega
        obtain ⟨r20, r21⟩ := r2
        have HW := Lib.hid hw
        have HR := Lib.hid hr
        have HH := Lib.hid hh
        have HWE := Lib.hid hwe
        have hikI : ¬ (i : Int) < (k : Int) := by omega
        clear hjI
        clear ih hx hk hj hT hD hDe hR hW hw hr hh hwe hw16
        go_enter Tryd.func15, Tryd.ntmps15
        go_wp2_with fail
        refine HH.out.mono ?_
        rintro e w' ⟨rfl, rfl⟩
        clear HH
        go_wp2_with fail
        go_region_held3 (fun w' => Below w.heap.size w w')
          (first | exact (Below.refl _ _).drew | exact hq | exact hS2.alloc hS2.size _ | exact hS2 | exact hS1 | fail)
          (first
            | (go_at_call 15; (with_reducible refine (HW.out _ ?_).mono ?_); assumption; rintro e w1 ⟨⟨C, m, c', rfl, hm, hown1⟩, k1, hS1⟩)
            | (go_at_call 13; (with_reducible refine (HR.out _ ?_).mono ?_); assumption; rintro e w2 ⟨rfl, k2, hS2⟩)
            | (refine step_app1P rfl _ _ rfl w.heap.size m _ (W.map sv) rfl ?_ _ (.bool true, .int .i64 R) rfl ?_ ?_ ⟨rfl, rfl⟩ ?_ ?_ ?_; exact (hown1.below k2).alloc _; (simp); (simp); omega; (have hz := hS2.size; simp; omega); intro A' c3 w3 hown3 hbel3; have hq := hbel3 w.heap.size w (Nat.le_refl _) (hS2.alloc hS2.size _))
            | fail)
        go_wp2
        go_ret
        exact ⟨⟨_, _, _, rfl, by have hz := hown3.len; simp at hz; omega, by rw [HWE.out, List.map_append]; exact hown3⟩, hq⟩

theorem rvalues_any (A : Option Addr) (n c : Nat) (xs : List Int) (w : World) (hA : Rd w A n xs) :
    Calls Tryd.prog 11 #[.slice A n c] w fun e w' => e = .returned (.int .i64 (valE xs)) ∧ w = w' := by
  have hl := hA.len
  obtain ⟨E, hE⟩ : ∃ E, valE xs = E := ⟨_, rfl⟩
  rw [hE]
  unfold valE at hE
  rw [hl] at hE
  by_cases h0 : n = 0
  · rw [if_pos h0] at hE
    subst h0; subst hE
    clear hl
    go_enter Tryd.func11, Tryd.ntmps11
    go_wp2
    go_ret
    exact ⟨rfl, rfl⟩
  · rw [if_neg h0] at hE
    have hn : ((n : Int) == 0) = false := by simp; omega
    by_cases h1 : 16 < n
    · rw [if_pos h1] at hE
      subst hE
      clear hl h0
      go_enter Tryd.func11, Tryd.ntmps11
      go_wp2
      go_ret
      exact ⟨rfl, rfl⟩
    · rw [if_neg h1] at hE
      obtain ⟨q, hq⟩ : ∃ q, allB xs 0 1000 = q := ⟨_, rfl⟩
      rw [hq] at hE
      have HQ := Lib.hid hq
      have HE := Lib.hid hE
      clear hl hq hE
      go_enter Tryd.func11, Tryd.ntmps11
      go_wp2_with fail
      with_reducible refine (rall_any _ _ _ _ _ xs _ hA).mono ?_
      rintro e w' ⟨rfl, rfl⟩
      rw [HQ.out]
      cases q
      · have hE := HE.out
        simp at hE
        subst hE
        go_wp2
        go_ret
        exact ⟨rfl, rfl⟩
      · have hE := HE.out
        simp at hE
        subst hE
        go_wp2
        go_ret
        exact ⟨rfl, rfl⟩
end Go.Proofs.YtpleidblnjphmaaDoor
