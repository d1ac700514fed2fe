/- extent: one, Check, has, Has, Size by their contracts. -/
import Derived.Test.YtllacbogbbbcaaaExtP
import Derived.Test.YtllacbogbbbcaaaRun
import Derived.Test.YtllacbogbbbcaaaCore
import Derived.Deep.QuietTactic
import Derived.BigQuiet
import Derived.Lib.Hide
namespace Go.Proofs.Ytllacbogbbbcaaa
open Go Go.RowKit
set_option maxRecDepth 20000
set_option linter.unusedVariables false

def rv (p : Int × Int) : VV := (.int .i64 p.1, .int .i64 p.2)
theorem rv_get {l : List (Int × Int)} {k : Nat} (h : k < l.length) : (l.map rv)[k]?.getD noVV = rv l[k] := by rw [List.getElem?_map, List.getElem?_eq_getElem h]; rfl
/-- The error of a number: none at 0. -/
def errR (e : Int) : Value := if e = 0 then .nilIface else .iface 23 (.int .i64 e)
theorem errR_zero : errR 0 = .nilIface := rfl
theorem errR_ne {e : Int} (h : e ≠ 0) : errR e = .iface 23 (.int .i64 e) := by unfold errR; rw [if_neg h]

theorem one_any (a b : Int) (w : World) : Calls Try.prog 34 #[.agg #[.int .i64 a, .int .i64 b]] w fun e w' => e = .returned (errR (oneE (a, b))) ∧ Below w.heap.size w w' := by
  have hB := (Below.refl w.heap.size w).alloc (Nat.le_refl _) (.cells #[.int .i64 a, .int .i64 b] 40)
  by_cases ha : a < 0 ∨ 999 < a
  · have he : oneE (a, b) = 1 := by
      unfold oneE
      rw [if_neg (by rintro ⟨h1, h2, _⟩; simp at h1 h2; omega)]
    rw [he, errR_ne (by decide)]
    clear he
    go_enter Try.func34, Try.ntmps34
    go_wp2_with fail
    with_reducible refine (within_no _ _ _ _ ha).mono ?_
    rintro e w' ⟨rfl, rfl⟩
    go_wp2
    go_ret
    exact ⟨rfl, hB⟩
  · have ha0 : 0 ≤ a := by omega
    have ha1 : a ≤ 999 := by omega
    by_cases hb : b < 1 ∨ 1000 - a < b
    · have he : oneE (a, b) = 1 := by
        unfold oneE
        rw [if_neg (by rintro ⟨_, _, h1, h2⟩; simp at h1 h2; omega)]
      rw [he, errR_ne (by decide)]
      clear he
      go_enter Try.func34, Try.ntmps34
      go_wp2_with fail
      with_reducible refine (within_yes _ _ _ _ ha0 ha1).mono ?_
      rintro e w' ⟨rfl, rfl⟩
      go_wp2_with fail
      with_reducible refine (within_no _ _ _ _ hb).mono ?_
      rintro e w' ⟨rfl, rfl⟩
      go_wp2
      go_ret
      exact ⟨rfl, hB⟩
    · have hb0 : 1 ≤ b := by omega
      have hb1 : b ≤ 1000 - a := by omega
      have he : oneE (a, b) = 0 := by
        unfold oneE
        rw [if_pos ⟨ha0, ha1, hb0, hb1⟩]
      rw [he, errR_zero]
      clear he
      go_enter Try.func34, Try.ntmps34
      go_wp2_with fail
      with_reducible refine (within_yes _ _ _ _ ha0 ha1).mono ?_
      rintro e w' ⟨rfl, rfl⟩
      go_wp2_with fail
      with_reducible refine (within_yes _ _ _ _ hb0 hb1).mono ?_
      rintro e w' ⟨rfl, rfl⟩
      go_wp2
      go_ret
      exact ⟨rfl, hB⟩

theorem hasp_any (a b p : Int) (q : Addr) (w : World) (hq : w.cell? q = some (.int .i64 p)) (h : okR (a, b)) :
    Calls Try.prog 40 #[.agg #[.int .i64 a, .int .i64 b], .pointer (some q)] w fun e w' => e = .returned (.bool (inR (a, b) p)) ∧ Below w.heap.size w w' := by
  have hB := (Below.refl w.heap.size w).alloc (Nat.le_refl _) (.cells #[.int .i64 a, .int .i64 b] 40)
  obtain ⟨h1, h2, h3, h4⟩ := h
  simp only at h1 h2 h3 h4
  have hql := World.block_lt_of_cell? _ _ hq
  have hq2 : (w.alloc (.cells #[.int .i64 a, .int .i64 b] 40)).cell? q = some (.int .i64 p) := by rw [World.cell?_alloc_lt _ _ q hql]; exact hq
  by_cases hp1 : a ≤ p
  · by_cases hp2 : p < a + b
    · have he : inR (a, b) p = true := inR_iff.2 ⟨hp1, hp2⟩
      rw [he]
      clear he
      go_enter Try.func40, Try.ntmps40
      go_wp2
      go_ret
      exact ⟨rfl, hB⟩
    · have he : inR (a, b) p = false := by
        rw [Bool.eq_false_iff]; intro h; exact hp2 (inR_iff.1 h).2
      have hd : decide (p < a + b) = false := by simp; omega
      rw [he]
      clear he
      go_enter Try.func40, Try.ntmps40
      go_wp2
      go_ret
      exact ⟨rfl, hB⟩
  · have he : inR (a, b) p = false := by
      rw [Bool.eq_false_iff]; intro h; exact hp1 (inR_iff.1 h).1
    have hd : decide (a ≤ p) = false := by simp; omega
    rw [he]
    clear he
    go_enter Try.func40, Try.ntmps40
    go_wp2
    go_ret
    exact ⟨rfl, hB⟩

theorem hasB_false {l : List Rn} {p : Int} : hasB l p = false ↔ ∀ r ∈ l, inR r p = false := by simp [hasB]

set_option maxHeartbeats 2000000 in
theorem index_any (A : Option Addr) (n c : Nat) (l : List (Int × Int)) (p : Int) (q : Addr) (w : World) (hA : RdP w A n (l.map rv)) (hq : w.cell? q = some (.int .i64 p)) (hok : ∀ r ∈ l, okR r) :
    Calls Try.prog 41 #[.slice A n c, .func (.func 40) #[] #[.pointer (some q)]] w fun e w' => (∃ ix : Int, e = .returned (.int .i64 ix) ∧ decide (0 ≤ ix) = hasB l p) ∧ Below w.heap.size w w' := by
  have hlen : l.length = n := by have := hA.len; simpa using this
  have hm := hA.max
  have hql := World.block_lt_of_cell? _ _ hq
  have HN := Lib.hid (And.intro hlen hok)
  clear hlen hok
  go_enter Try.func41, Try.ntmps41
  go_wp2
  go_loopw [8] (fun i wr => ∃ k : Nat, k ≤ n ∧ i = .int .i64 k ∧ hasB (l.take k) p = false ∧ Below w.heap.size w wr) (fun i _ => n - (intOf i).toNat)
  case atStart => exact ⟨0, Nat.zero_le _, rfl, rfl, Below.refl _ _⟩
  case round =>
    obtain ⟨k, hk, rfl, hno, hbel⟩ := hrel
    by_cases hlt : k < n
    · obtain ⟨b, off, rfl, hbl, hcc⟩ := hA.at_ (by omega)
      obtain ⟨c1, c2⟩ := hcc k hlt
      have hkl : k < l.length := by rw [HN.out.1]; exact hlt
      rw [rv_get hkl] at c1 c2
      have hsn : l.take (k + 1) = l.take k ++ [l[k]] := List.take_succ_eq_append_getElem hkl
      have hmem : l[k] ∈ l := List.getElem_mem _
      obtain ⟨r, hr⟩ : ∃ r, l[k] = r := ⟨_, rfl⟩
      rw [hr] at c1 c2 hsn hmem
      obtain ⟨ra, rb⟩ := r
      have d1 := (hbel.cell (p := ⟨b, off + k * 2, none⟩) hbl).trans c1
      have d2 := (hbel.cell (p := ⟨b, off + k * 2 + 1, none⟩) hbl).trans c2
      have dq := (hbel.cell hql).trans hq
      change wr.cell? ⟨b, off + k * 2, none⟩ = some (.int .i64 ra) at d1
      change wr.cell? ⟨b, off + k * 2 + 1, none⟩ = some (.int .i64 rb) at d2
      have HH := Lib.hid (And.intro hno (And.intro hsn (And.intro hmem (HN.out.2 _ hmem))))
      have hkI : (k : Int) < (n : Int) := by omega
      obtain ⟨v, hv⟩ : ∃ v, inR (ra, rb) p = v := ⟨_, rfl⟩
      have HV := Lib.hid hv
      clear hcc hno hsn hmem hr c1 c2 hkl hv
      go_wp2_with fail
      with_reducible refine (hasp_any ra rb p q _ dq HH.out.2.2.2).mono ?_
      rintro e w2 ⟨rfl, k2⟩
      rw [HV.out]
      have hB2 := hbel.trans (k2.mono hbel.size)
      cases v
      · have hno2 : hasB (l.take (k + 1)) p = false := by
          rw [HH.out.2.1, hasB_snoc, HH.out.1, HV.out]; rfl
        have HNO := Lib.hid hno2
        clear hno2
        go_wp2
        go_roundw
        case rel => exact ⟨k + 1, by omega, by go_num, HNO.out, hB2⟩
        case measure => simp [intOf]; omega
      · have hyes : hasB l p = true := by
          unfold hasB
          rw [List.any_eq_true]
          exact ⟨_, HH.out.2.2.1, HV.out⟩
        have HY := Lib.hid hyes
        clear hyes
        go_wp2
        go_ret
        exact ⟨⟨k, rfl, by rw [HY.out]; simp⟩, hB2⟩
    · obtain rfl : k = n := by omega
      rw [List.take_of_length_le (by rw [HN.out.1]; omega)] at hno
      have HNO := Lib.hid hno
      have hkI : ¬ (k : Int) < (k : Int) := by omega
      clear hno
      go_wp2
      go_ret
      exact ⟨⟨-1, rfl, by rw [HNO.out]; rfl⟩, hbel⟩

theorem contains_any (A : Option Addr) (n c : Nat) (l : List (Int × Int)) (p : Int) (q : Addr) (w : World) (hA : RdP w A n (l.map rv)) (hq : w.cell? q = some (.int .i64 p)) (hok : ∀ r ∈ l, okR r) :
    Calls Try.prog 39 #[.slice A n c, .func (.func 40) #[] #[.pointer (some q)]] w fun e w' => e = .returned (.bool (hasB l p)) ∧ Below w.heap.size w w' := by
  have HO := Lib.hid hok
  clear hok
  go_enter Try.func39, Try.ntmps39
  go_wp2_with fail
  with_reducible refine (index_any _ _ _ l p q _ hA hq HO.out).mono ?_
  rintro e w2 ⟨⟨ix, rfl, hix⟩, k2⟩
  have HX := Lib.hid hix
  clear hix
  go_wp2
  go_ret
  exact ⟨ret_bool (by rw [← HX.out]), k2⟩

set_option maxHeartbeats 1000000 in
theorem has_any (A : Option Addr) (n c : Nat) (l : List (Int × Int)) (p : Int) (w : World) (hA : RdP w A n (l.map rv)) (hok : ∀ r ∈ l, okR r) :
    Calls Try.prog 36 #[.slice A n c, .int .i64 p] w fun e w' => e = .returned (.bool (hasB l p)) ∧ Below w.heap.size w w' := by
  have hmf : ∀ (fn : Fn) (first cap : Array Value) (w : World), (Instr.makeFunc fn first cap).run Try.prog w = .ok (.func fn first cap) w := fun _ _ _ _ => rfl
  have hB := (Below.refl w.heap.size w).alloc (Nat.le_refl _) (.cells #[.int .i64 p] 3)
  have hA1 := hA.alloc (.cells #[.int .i64 p] 3)
  have hq : (w.alloc (.cells #[.int .i64 p] 3)).cell? ⟨w.heap.size, 0, none⟩ = some (.int .i64 p) := by simp
  have HC := Lib.hid (contains_any A n c l p ⟨w.heap.size, 0, none⟩ _ hA1 hq hok)
  clear hA1 hq hok
  go_enter Try.func36, Try.ntmps36
  go_wp2_with fail
  refine HC.out.mono ?_
  rintro e w2 ⟨rfl, k2⟩
  clear HC
  go_wp2
  go_ret
  exact ⟨rfl, hB.trans (k2.mono hB.size)⟩
end Go.Proofs.Ytllacbogbbbcaaa
