/- reed.Make by its contracts. -/
import Derived.Test.YtdhfckdnfppieaaReed1
import Derived.Test.YtdhfckdnfppieaaClone
import Derived.Test.YtdhfckdnfppieaaBytes
namespace Go.Proofs.Ytdhfckdnfppieaa
open Go Go.RowKit
set_option maxRecDepth 20000
set_option linter.unusedVariables false

theorem Own.monoR {w : World} {B B' : Nat} {v : Value} {n : Nat} {xs : List Int} (h : Own w B v n xs) (hb : B' ≤ B) : Own w B' v n xs := by
  refine ⟨h.1, ?_⟩
  rcases h.2 with h | ⟨g, cap, cur, h1, h2, h3⟩
  · exact .inl h
  · exact .inr ⟨g, cap, cur, h1, Nat.le_trans hb h2, h3⟩
theorem makeE_zero {d : List Int} {more : Int} (h : makeE d more = 0) : 0 < d.length ∧ d.length ≤ 8 ∧ allB d 0 255 = true ∧ 0 ≤ more ∧ more ≤ 4 := by
  unfold makeE at h
  split at h
  · cases h
  · split at h
    · contradiction
    · next h1 h2 =>
      split at h
      · next h3 =>
        have h2' : bytesE d 8 = 0 := by
          apply Classical.byContradiction; exact h2
        obtain ⟨h4, h5⟩ := bytesE_zero.1 h2'
        exact ⟨by omega, by omega, h5, h3⟩
      · cases h

set_option maxHeartbeats 4000000 in
theorem make_ok (A : Option Addr) (n c : Nat) (xs : List Int) (m : Nat) (w : World) (hA : Sl w A n c xs) (hE : makeE xs m = 0) :
    Calls Try.prog 20 #[.slice A n c, .int .i64 m] w fun e w' => (∃ C c', e = .returned (.tuple #[.slice C (n + m) c', .nilIface]) ∧ Own w' w.heap.size (.slice C (n + m) c') (n + m) (shards xs m)) ∧ Below w.heap.size w w' := by
  have hl := hA.1.len
  obtain ⟨h0, h8, hall, _, hm4⟩ := makeE_zero hE
  rw [hl] at h0 h8
  have hm4' : m ≤ 4 := by omega
  have hm4i : (m : Int) ≤ 4 := hm4
  have hm0i : (0 : Int) ≤ (m : Int) := by omega
  have h8i : (n : Int) ≤ 8 := by omega
  have hn0 : ((n : Int) == 0) = false := by simp; omega
  have hx := allB_mem.1 hall
  have HX := Lib.hid (And.intro hl (And.intro hx (And.intro hall hA)))
  have hR := hA.1
  clear hl hx hall hA hE hm4
  go_enter Try.func20, Try.ntmps20
  go_wp2_with fail
  with_reducible refine (bytes_ok A n c 8 xs _ hR h8i HX.out.2.2.1).mono ?_
  rintro e w' ⟨rfl, rfl⟩
  go_wp2_with fail
  with_reducible refine (within_yes _ _ _ _ hm0i hm4i).mono ?_
  rintro e w' ⟨rfl, rfl⟩
  go_wp2
  go_loopw [7, 26] (fun v i wr => ∃ (k : Nat) (C : Option Addr) (c' : Nat), k ≤ n ∧ i = .int .i64 k ∧ v = .slice C k c' ∧ Own wr w.heap.size (.slice C k c') k (iota k) ∧ Below w.heap.size w wr) (fun _ i _ => n - (intOf i).toNat)
  case atStart => exact ⟨0, none, 0, Nat.zero_le _, rfl, rfl, Own.nil _ _, Below.refl _ _⟩
  case round =>
    obtain ⟨k, C, c', hk, rfl, rfl, hown, hbel⟩ := hrel
    by_cases hlt : k < n
    · have hkI : (k : Int) < (n : Int) := by omega
      go_wp2_with (at_builtin; refine wpList_app1 rfl _ _ rfl w.heap.size k _ (iota k) rfl (hown.alloc _) wr.heap.size (k : Int) rfl (by simp) (by omega) (by have := hbel.size; simp; omega) ?_; intro A2 c2 w4 hown4 hbel4)
      have hq4 := hbel4 w.heap.size w (Nat.le_refl _) (hbel.alloc hbel.size _)
      go_roundw
      case rel => exact ⟨k + 1, A2, c2, by omega, by go_num, rfl, by rw [iota_succ]; exact hown4, hq4⟩
      case measure => simp [intOf]; omega
    · obtain rfl : k = n := by omega
      obtain ⟨W1, rfl⟩ : ∃ W, W = wr := ⟨wr, rfl⟩
      have hkI : ¬ (k : Int) < (k : Int) := by omega
      have hI : Rd W1 C k (iota k) := hown.rd (by omega) (fun x hx => by have := iota_bytes (n := k) (by omega) x hx; omega)
      go_wp2_with fail
      with_reducible refine (clone_any A k c xs _ (HX.out.2.2.2.below hbel) (by omega)).mono ?_
      rintro e w1 ⟨⟨D, d, rfl, hownD⟩, k1⟩
      have hI1 := hI.below k1
      have hB1 := hbel.trans (k1.mono hbel.size)
      have hR1 := hR.below hB1
      go_wp2
      go_loopw [9, 37] (fun v i wq => ∃ (j : Nat) (D : Option Addr) (d : Nat), j ≤ m ∧ i = .int .i64 j ∧ v = .slice D (k + j) d ∧ Own wq W1.heap.size (.slice D (k + j) d) (k + j) (shards xs j) ∧ Below W1.heap.size W1 wq) (fun _ i _ => m - (intOf i).toNat)
      case atStart => exact ⟨0, D, d, Nat.zero_le _, rfl, rfl, by rw [shards_zero]; exact hownD, k1⟩
      case round =>
        obtain ⟨j, D, d, hj, rfl, rfl, hown2, hbel2⟩ := hrel
        by_cases hjm : j < m
        · have hjI : (j : Int) < (m : Int) := by omega
          have hsn := shards_succ xs j
          have hval : valI xs (xs.length + j) = thrI (iota k) xs ((k : Int) + (j : Int)) k := by
            unfold valI
            rw [HX.out.1]
            rfl
          rw [hval] at hsn
          have hth := fun wx hx1 hx2 => through_any C k c' (iota k) A c xs ((k : Int) + (j : Int)) wx hx1 hx2 (by omega) (iota_bytes (by omega)) HX.out.2.1 (iota_nodup _) ⟨by omega, by omega⟩
          obtain ⟨V, hV⟩ : ∃ V, thrI (iota k) xs ((k : Int) + (j : Int)) k = V := ⟨_, rfl⟩
          rw [hV] at hth hsn
          have HTH := Lib.hid hth
          have HSN := Lib.hid hsn
          have hIq := hI.below hbel2
          have hRq := hR.below (hbel.trans (hbel2.mono hbel.size))
          clear hth hsn hval hV hR1 hI1 hB1 k1 hownD
          go_wp2_with fail
          with_reducible refine (HTH.out _ hIq hRq).mono ?_
          rintro e w3 ⟨rfl, k3⟩
          have hown3 := hown2.below k3
          have hB3 := hbel2.trans (k3.mono hbel2.size)
          go_wp2_with (at_builtin; refine wpList_app1 rfl _ _ rfl W1.heap.size (k + j) _ (shards xs j) rfl (hown3.alloc _) w3.heap.size V rfl (by simp) (by omega) (by have := hB3.size; simp; omega) ?_; intro A2 c2 w4 hown4 hbel4)
          have hq4 := hbel4 W1.heap.size W1 (Nat.le_refl _) (hB3.alloc hB3.size _)
          go_roundw
          case rel => exact ⟨j + 1, A2, c2, by omega, by go_num, rfl, by rw [HSN.out]; exact hown4, hq4⟩
          case measure => simp [intOf]; omega
        · obtain rfl : j = m := by omega
          have hjI : ¬ (j : Int) < (j : Int) := by omega
          go_wp2
          go_ret2
          exact ⟨⟨_, _, rfl, hown2.monoR hbel.size⟩, hbel.trans (hbel2.mono hbel.size)⟩

theorem make_none (A : Option Addr) (c : Nat) (more : Int) (w : World) :
    Calls Try.prog 20 #[.slice A 0 c, .int .i64 more] w fun e w' => e = .returned (.tuple #[.slice none 0 0, .iface 47 (.int .i64 5)]) ∧ w = w' := by
  go_enter Try.func20, Try.ntmps20
  go_wp2
  go_ret2
  exact ⟨rfl, rfl⟩
theorem make_bad (A : Option Addr) (n c : Nat) (xs : List Int) (more : Int) (w : World) (hA : Rd w A n xs) (hE : makeE xs more ≠ 0) :
    Calls Try.prog 20 #[.slice A n c, .int .i64 more] w fun e w' => e = .returned (.tuple #[.slice none 0 0, .iface 47 (.int .i64 (makeE xs more))]) ∧ w = w' := by
  have hl := hA.len
  by_cases h0 : n = 0
  · subst h0
    have e : makeE xs more = 5 := by unfold makeE; rw [if_pos hl]
    rw [e]
    exact make_none A c more w
  · have hn0 : ((n : Int) == 0) = false := by simp; omega
    by_cases hb : bytesE xs 8 = 0
    · have hr : ¬ (0 ≤ more ∧ more ≤ 4) := by
        intro h; apply hE; unfold makeE
        rw [if_neg (by omega), if_neg (by simp [hb]), if_pos h]
      have e : makeE xs more = 1 := by
        unfold makeE
        rw [if_neg (by omega), if_neg (by simp [hb]), if_neg hr]
      rw [e]
      obtain ⟨h8, hall⟩ := bytesE_zero.1 hb
      rw [hl] at h8
      have HALL := Lib.hid hall
      have hno : more < 0 ∨ 4 < more := by omega
      have HNO := Lib.hid hno
      clear hE hb hr e hall hno hl
      go_enter Try.func20, Try.ntmps20
      go_wp2_with fail
      with_reducible refine (bytes_ok A n c 8 xs _ hA h8 HALL.out).mono ?_
      rintro e w' ⟨rfl, rfl⟩
      go_wp2_with fail
      with_reducible refine (within_no _ _ _ _ HNO.out).mono ?_
      rintro e w' ⟨rfl, rfl⟩
      go_wp2
      go_ret2
      exact ⟨rfl, rfl⟩
    · have e : makeE xs more = bytesE xs 8 := by
        unfold makeE; rw [if_neg (by omega), if_pos hb]
      rw [e]
      have hbb := fun wx hx => bytes_bad A n c 8 xs wx hx hb
      obtain ⟨E, hEe⟩ : ∃ E, bytesE xs 8 = E := ⟨_, rfl⟩
      rw [hEe] at hbb ⊢
      have HB := Lib.hid hbb
      clear hE hb e hEe hbb hl
      go_enter Try.func20, Try.ntmps20
      go_wp2_with fail
      with_reducible refine (HB.out _ hA).mono ?_
      rintro e w' ⟨rfl, rfl⟩
      go_wp2
      go_ret2
      exact ⟨rfl, rfl⟩
end Go.Proofs.Ytdhfckdnfppieaa
