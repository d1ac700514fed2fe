/- extent: change, Add, Cut by their contracts. -/
import Derived.Test.YtllacbogbbbcaaaExt2
namespace Go.Proofs.Ytllacbogbbbcaaa
open Go Go.RowKit
set_option maxRecDepth 20000
set_option linter.unusedVariables false

theorem add_any (a b : Bool) (w : World) : Calls Try.prog 33 #[.bool a, .bool b] w fun e w' => e = .returned (.bool (addB a b)) ∧ w = w' := by
  cases a <;> cases b
  all_goals
    go_enter Try.func33, Try.ntmps33
    go_wp2
    go_ret
    exact ⟨rfl, rfl⟩
theorem cutf_any (a b : Bool) (w : World) : Calls Try.prog 35 #[.bool a, .bool b] w fun e w' => e = .returned (.bool (cutB a b)) ∧ w = w' := by
  cases a <;> cases b
  all_goals
    go_enter Try.func35, Try.ntmps35
    go_wp2
    go_ret
    exact ⟨rfl, rfl⟩
/-- What comes back. -/
def ChOut (op : Bool → Bool → Bool) (l : List Rn) (r : Rn) (w : World) (e : Ending) (w' : World) : Prop :=
  (chE op l r = 0 ∧ ∃ C m c', e = .returned (.tuple #[.slice C m c', .nilIface]) ∧ m ≤ 16 ∧ OwnP w' w.heap.size (.slice C m c') m ((chL op l r).map rv)) ∨
    (chE op l r ≠ 0 ∧ e = .returned (.tuple #[.slice none 0 0, .iface 23 (.int .i64 (chE op l r))]))
theorem scan_step (f : Nat → Bool) (P : Nat) : scanS f (P + 1) = if f P then (if (scanS f P).2 < 0 then ((scanS f P).1, (P : Int)) else ((scanS f P).1, (scanS f P).2)) else (if 0 ≤ (scanS f P).2 then ((scanS f P).1 ++ [((scanS f P).2, (P : Int) - (scanS f P).2)], -1) else ((scanS f P).1, (scanS f P).2)) := rfl

set_option maxHeartbeats 8000000 in
set_option maxRecDepth 100000 in
theorem changeAdd_any (A : Option Addr) (n c : Nat) (l : List (Int × Int)) (a b : Int) (w : World) (hA : RdP w A n (l.map rv)) (hbd : ∀ p ∈ l, (-9223372036854775808 ≤ p.1 ∧ p.1 ≤ 9223372036854775807) ∧ (-9223372036854775808 ≤ p.2 ∧ p.2 ≤ 9223372036854775807)) :
    Calls Try.prog 32 #[.slice A n c, .agg #[.int .i64 a, .int .i64 b], .func (.func 33) #[] #[]] w fun e w' => ChOut addB l (a, b) w e w' ∧ Below w.heap.size w w' := by
  have HBD := Lib.hid hbd
  have hB := (Below.refl w.heap.size w).alloc (Nat.le_refl _) (.cells #[.int .i64 a, .int .i64 b] 40)
  have hA1 := hA.alloc (.cells #[.int .i64 a, .int .i64 b] 40)
  have e1 : (w.alloc (.cells #[.int .i64 a, .int .i64 b] 40)).cell? ⟨w.heap.size, 0, none⟩ = some (.int .i64 a) := by simp
  have e2 : (w.alloc (.cells #[.int .i64 a, .int .i64 b] 40)).cell? ⟨w.heap.size, 1, none⟩ = some (.int .i64 b) := by simp
  have EE := Lib.hid (And.intro e1 e2)
  clear e1 e2 hbd
  by_cases hE : runsE l = 0
  · by_cases hok : okR (a, b)
    · have hls := okR_mem (runsE_zero.1 hE).2
      have hone : errR (oneE (a, b)) = .nilIface := by unfold oneE; rw [if_pos hok]; rfl
      obtain ⟨o1, o2, o3, o4⟩ := id hok
      simp only at o1 o2 o3 o4
      obtain ⟨g, hg⟩ : ∃ g, gP addB l (a, b) = g := ⟨_, rfl⟩
      have hgl : ∀ P : Nat, P < 1000 → g P = addB (hasB l P) (inR (a, b) P) := fun P hP => by rw [← hg]; unfold gP; rw [decide_eq_true hP]; rfl
      have hg0 : g 1000 = false := by rw [← hg]; exact gP_1000 _ _ _
      have hchl : chL addB l (a, b) = (scanS g 1001).1 := by rw [← hg]; rfl
      have HH := Lib.hid (And.intro hE (And.intro hls (And.intro hone (And.intro hgl (And.intro hg0 (And.intro hchl hok))))))
      clear hE hls hone hg hgl hg0 hchl hok
      go_enter Try.func32, Try.ntmps32
      go_wp2_with fail
      with_reducible refine (xcheck_any _ _ _ l _ hA1 HBD.out).mono ?_
      rintro e wC ⟨rfl, kC⟩
      rw [HH.out.1, errR_zero]
      have c1 := (kC.cell (p := ⟨w.heap.size, 0, none⟩) (by simp)).trans EE.out.1
      have c2 := (kC.cell (p := ⟨w.heap.size, 1, none⟩) (by simp)).trans EE.out.2
      have hBC := hB.trans (kC.mono hB.size)
      have hlt1 : w.heap.size < wC.heap.size := by have := kC.size; simp at this; omega
      go_wp2_with fail
      with_reducible refine (one_any a b _).mono ?_
      rintro e wD ⟨rfl, kD⟩
      rw [HH.out.2.2.1]
      have d1 := (kD.cell (p := ⟨w.heap.size, 0, none⟩) hlt1).trans c1
      have d2 := (kD.cell (p := ⟨w.heap.size, 1, none⟩) hlt1).trans c2
      have hBD := hBC.trans (kD.mono hBC.size)
      have hltD : w.heap.size < wD.heap.size := by have := kD.size; omega
      have hAD := hA.below hBD
      have HD := Lib.hid (And.intro d1 (And.intro d2 hAD))
      clear c1 c2 d1 d2 hAD kC kD hA1 hB
      go_wp2
      go_loopw [10, 11, 25] (fun u v i wr => ∃ (P : Nat) (C : Option Addr) (m c' : Nat), P ≤ 1001 ∧ i = .int .i64 P ∧ u = .slice C m c' ∧ v = .int .i64 (scanS g P).2 ∧ OwnP wr wD.heap.size (.slice C m c') m ((scanS g P).1.map rv) ∧ Below wD.heap.size wD wr) (fun _ _ i _ => 1001 - (intOf i).toNat)
      case atStart => exact ⟨0, none, 0, 0, Nat.zero_le _, rfl, rfl, rfl, OwnP.nil _ _, Below.refl _ _⟩
      case round =>
        obtain ⟨P, C, m, c', hP, rfl, rfl, rfl, hown, hbel⟩ := hrel
        have hml : (scanS g P).1.length = m := by have := hown.len; simpa using this
        have hmP := scan_len (f := g) P
        have hqb := scan_bounds (f := g) P
        have hsc0 := scan_step g P
        obtain ⟨O, hO⟩ : ∃ O, (scanS g P).1 = O := ⟨_, rfl⟩
        obtain ⟨q, hq⟩ : ∃ q, (scanS g P).2 = q := ⟨_, rfl⟩
        rw [hO] at hml hmP hown hsc0
        rw [hq] at hqb hsc0 ⊢
        obtain ⟨hq0, hq1⟩ := hqb
        have hm1 : m ≤ 1001 := by omega
        have HSC := Lib.hid hsc0
        have HO := Lib.hid (And.intro hO hml)
        clear hml hmP hsc0 hO hq
        have f1 := (hbel.cell (p := ⟨w.heap.size, 0, none⟩) hltD).trans HD.out.1
        have f2 := (hbel.cell (p := ⟨w.heap.size, 1, none⟩) hltD).trans HD.out.2.1
        by_cases hlt : P < 1000
        · have hPI : (P : Int) < 1000 := by omega
          have hPI2 : (P : Int) < 1001 := by omega
          have hAr := HD.out.2.2.below hbel
          have hgP := HH.out.2.2.2.1 P hlt
          obtain ⟨hv, hhv⟩ : ∃ hv, hasB l (P : Int) = hv := ⟨_, rfl⟩
          rw [hhv] at hgP
          have HHV := Lib.hid hhv
          clear hhv
          by_cases h1 : a ≤ (P : Int)
          · by_cases h2 : (P : Int) < a + b
            · skip
              have hin : inR (a, b) (P : Int) = true := inR_iff.2 ⟨h1, h2⟩
              rw [hin] at hgP
              obtain ⟨nb, hnb⟩ : ∃ nb, addB hv true = nb := ⟨_, rfl⟩
              rw [hnb] at hgP
              have HGP := Lib.hid hgP
              have HNB := Lib.hid hnb
              clear hgP hin hnb
              go_wp2_with fail
              with_reducible refine (has_any _ _ _ l (P : Int) _ hAr HH.out.2.1).mono ?_
              rintro e w2 ⟨rfl, k2⟩
              rw [HHV.out]
              have hB2 := hbel.trans (k2.mono hbel.size)
              have hown2 := hown.below k2
              clear hown hbel k2 f1 f2 hAr
              go_wp2_with fail
              with_reducible refine (add_any hv true _).mono ?_
              rintro e w' ⟨rfl, rfl⟩
              rw [HNB.out]
              have hnb := True.intro
              cases nb
              · by_cases ho : 0 ≤ q
                · have hsc : scanS g (P + 1) = (O ++ [(q, (P : Int) - q)], -1) := by rw [HSC.out, HGP.out]; simp [ho]
                  have HS2 := Lib.hid hsc
                  have hd0 : decide (0 ≤ q) = true := decide_eq_true ho
                  have hd1 : decide (q < 0) = false := decide_eq_false (by omega)
                  clear hsc hnb
                  go_wp2_with (at_builtin; refine wpList_app1P rfl _ _ rfl wD.heap.size m _ (O.map rv) rfl (hown2.alloc _) w2.heap.size (.int .i64 q, .int .i64 ((P : Int) - q)) rfl (by simp) (by simp) ⟨rfl, rfl⟩ (by omega) (by have := hB2.size; simp; omega) ?_; intro A' c2 w4 hown4 hbel4)
                  have hq4 := hbel4 wD.heap.size wD (Nat.le_refl _) (hB2.alloc hB2.size _)
                  go_roundw
                  case rel => exact ⟨P + 1, A', m + 1, c2, by omega, by go_num, rfl, by rw [HS2.out], by rw [HS2.out, List.map_append]; exact hown4, hq4⟩
                  case measure => simp [intOf]; omega
                · have hsc : scanS g (P + 1) = (O, q) := by rw [HSC.out, HGP.out]; simp [ho]
                  have HS2 := Lib.hid hsc
                  have hd0 : decide (0 ≤ q) = false := decide_eq_false ho
                  have hd1 : decide (q < 0) = true := decide_eq_true (by omega)
                  clear hsc hnb
                  go_wp2
                  go_roundw
                  case rel => exact ⟨P + 1, C, m, c', by omega, by go_num, rfl, by rw [HS2.out], by rw [HS2.out]; exact hown2, hB2⟩
                  case measure => simp [intOf]; omega
              · by_cases ho : 0 ≤ q
                · have hsc : scanS g (P + 1) = (O, q) := by rw [HSC.out, HGP.out]; simp <;> omega
                  have HS2 := Lib.hid hsc
                  have hd0 : decide (0 ≤ q) = true := decide_eq_true ho
                  have hd1 : decide (q < 0) = false := decide_eq_false (by omega)
                  clear hsc hnb
                  go_wp2
                  go_roundw
                  case rel => exact ⟨P + 1, C, m, c', by omega, by go_num, rfl, by rw [HS2.out], by rw [HS2.out]; exact hown2, hB2⟩
                  case measure => simp [intOf]; omega
                · have hsc : scanS g (P + 1) = (O, (P : Int)) := by rw [HSC.out, HGP.out]; simp <;> omega
                  have HS2 := Lib.hid hsc
                  have hd0 : decide (0 ≤ q) = false := decide_eq_false ho
                  have hd1 : decide (q < 0) = true := decide_eq_true (by omega)
                  clear hsc hnb
                  go_wp2
                  go_roundw
                  case rel => exact ⟨P + 1, C, m, c', by omega, by go_num, rfl, by rw [HS2.out], by rw [HS2.out]; exact hown2, hB2⟩
                  case measure => simp [intOf]; omega
            · skip
              have hin : inR (a, b) (P : Int) = false := by rw [Bool.eq_false_iff]; intro h; exact h2 (inR_iff.1 h).2
              have hdb : decide ((P : Int) < a + b) = false := decide_eq_false h2
              rw [hin] at hgP
              obtain ⟨nb, hnb⟩ : ∃ nb, addB hv false = nb := ⟨_, rfl⟩
              rw [hnb] at hgP
              have HGP := Lib.hid hgP
              have HNB := Lib.hid hnb
              clear hgP hin hnb
              go_wp2_with fail
              with_reducible refine (has_any _ _ _ l (P : Int) _ hAr HH.out.2.1).mono ?_
              rintro e w2 ⟨rfl, k2⟩
              rw [HHV.out]
              have hB2 := hbel.trans (k2.mono hbel.size)
              have hown2 := hown.below k2
              clear hown hbel k2 f1 f2 hAr
              go_wp2_with fail
              with_reducible refine (add_any hv false _).mono ?_
              rintro e w' ⟨rfl, rfl⟩
              rw [HNB.out]
              have hnb := True.intro
              cases nb
              · by_cases ho : 0 ≤ q
                · have hsc : scanS g (P + 1) = (O ++ [(q, (P : Int) - q)], -1) := by rw [HSC.out, HGP.out]; simp [ho]
                  have HS2 := Lib.hid hsc
                  have hd0 : decide (0 ≤ q) = true := decide_eq_true ho
                  have hd1 : decide (q < 0) = false := decide_eq_false (by omega)
                  clear hsc hnb
                  go_wp2_with (at_builtin; refine wpList_app1P rfl _ _ rfl wD.heap.size m _ (O.map rv) rfl (hown2.alloc _) w2.heap.size (.int .i64 q, .int .i64 ((P : Int) - q)) rfl (by simp) (by simp) ⟨rfl, rfl⟩ (by omega) (by have := hB2.size; simp; omega) ?_; intro A' c2 w4 hown4 hbel4)
                  have hq4 := hbel4 wD.heap.size wD (Nat.le_refl _) (hB2.alloc hB2.size _)
                  go_roundw
                  case rel => exact ⟨P + 1, A', m + 1, c2, by omega, by go_num, rfl, by rw [HS2.out], by rw [HS2.out, List.map_append]; exact hown4, hq4⟩
                  case measure => simp [intOf]; omega
                · have hsc : scanS g (P + 1) = (O, q) := by rw [HSC.out, HGP.out]; simp [ho]
                  have HS2 := Lib.hid hsc
                  have hd0 : decide (0 ≤ q) = false := decide_eq_false ho
                  have hd1 : decide (q < 0) = true := decide_eq_true (by omega)
                  clear hsc hnb
                  go_wp2
                  go_roundw
                  case rel => exact ⟨P + 1, C, m, c', by omega, by go_num, rfl, by rw [HS2.out], by rw [HS2.out]; exact hown2, hB2⟩
                  case measure => simp [intOf]; omega
              · by_cases ho : 0 ≤ q
                · have hsc : scanS g (P + 1) = (O, q) := by rw [HSC.out, HGP.out]; simp <;> omega
                  have HS2 := Lib.hid hsc
                  have hd0 : decide (0 ≤ q) = true := decide_eq_true ho
                  have hd1 : decide (q < 0) = false := decide_eq_false (by omega)
                  clear hsc hnb
                  go_wp2
                  go_roundw
                  case rel => exact ⟨P + 1, C, m, c', by omega, by go_num, rfl, by rw [HS2.out], by rw [HS2.out]; exact hown2, hB2⟩
                  case measure => simp [intOf]; omega
                · have hsc : scanS g (P + 1) = (O, (P : Int)) := by rw [HSC.out, HGP.out]; simp <;> omega
                  have HS2 := Lib.hid hsc
                  have hd0 : decide (0 ≤ q) = false := decide_eq_false ho
                  have hd1 : decide (q < 0) = true := decide_eq_true (by omega)
                  clear hsc hnb
                  go_wp2
                  go_roundw
                  case rel => exact ⟨P + 1, C, m, c', by omega, by go_num, rfl, by rw [HS2.out], by rw [HS2.out]; exact hown2, hB2⟩
                  case measure => simp [intOf]; omega
          · skip
            have hin : inR (a, b) (P : Int) = false := by rw [Bool.eq_false_iff]; intro h; exact h1 (inR_iff.1 h).1
            have hda : decide (a ≤ (P : Int)) = false := decide_eq_false h1
            rw [hin] at hgP
            obtain ⟨nb, hnb⟩ : ∃ nb, addB hv false = nb := ⟨_, rfl⟩
            rw [hnb] at hgP
            have HGP := Lib.hid hgP
            have HNB := Lib.hid hnb
            clear hgP hin hnb
            go_wp2_with fail
            with_reducible refine (has_any _ _ _ l (P : Int) _ hAr HH.out.2.1).mono ?_
            rintro e w2 ⟨rfl, k2⟩
            rw [HHV.out]
            have hB2 := hbel.trans (k2.mono hbel.size)
            have hown2 := hown.below k2
            clear hown hbel k2 f1 f2 hAr
            go_wp2_with fail
            with_reducible refine (add_any hv false _).mono ?_
            rintro e w' ⟨rfl, rfl⟩
            rw [HNB.out]
            have hnb := True.intro
            cases nb
            · by_cases ho : 0 ≤ q
              · have hsc : scanS g (P + 1) = (O ++ [(q, (P : Int) - q)], -1) := by rw [HSC.out, HGP.out]; simp [ho]
                have HS2 := Lib.hid hsc
                have hd0 : decide (0 ≤ q) = true := decide_eq_true ho
                have hd1 : decide (q < 0) = false := decide_eq_false (by omega)
                clear hsc hnb
                go_wp2_with (at_builtin; refine wpList_app1P rfl _ _ rfl wD.heap.size m _ (O.map rv) rfl (hown2.alloc _) w2.heap.size (.int .i64 q, .int .i64 ((P : Int) - q)) rfl (by simp) (by simp) ⟨rfl, rfl⟩ (by omega) (by have := hB2.size; simp; omega) ?_; intro A' c2 w4 hown4 hbel4)
                have hq4 := hbel4 wD.heap.size wD (Nat.le_refl _) (hB2.alloc hB2.size _)
                go_roundw
                case rel => exact ⟨P + 1, A', m + 1, c2, by omega, by go_num, rfl, by rw [HS2.out], by rw [HS2.out, List.map_append]; exact hown4, hq4⟩
                case measure => simp [intOf]; omega
              · have hsc : scanS g (P + 1) = (O, q) := by rw [HSC.out, HGP.out]; simp [ho]
                have HS2 := Lib.hid hsc
                have hd0 : decide (0 ≤ q) = false := decide_eq_false ho
                have hd1 : decide (q < 0) = true := decide_eq_true (by omega)
                clear hsc hnb
                go_wp2
                go_roundw
                case rel => exact ⟨P + 1, C, m, c', by omega, by go_num, rfl, by rw [HS2.out], by rw [HS2.out]; exact hown2, hB2⟩
                case measure => simp [intOf]; omega
            · by_cases ho : 0 ≤ q
              · have hsc : scanS g (P + 1) = (O, q) := by rw [HSC.out, HGP.out]; simp <;> omega
                have HS2 := Lib.hid hsc
                have hd0 : decide (0 ≤ q) = true := decide_eq_true ho
                have hd1 : decide (q < 0) = false := decide_eq_false (by omega)
                clear hsc hnb
                go_wp2
                go_roundw
                case rel => exact ⟨P + 1, C, m, c', by omega, by go_num, rfl, by rw [HS2.out], by rw [HS2.out]; exact hown2, hB2⟩
                case measure => simp [intOf]; omega
              · have hsc : scanS g (P + 1) = (O, (P : Int)) := by rw [HSC.out, HGP.out]; simp <;> omega
                have HS2 := Lib.hid hsc
                have hd0 : decide (0 ≤ q) = false := decide_eq_false ho
                have hd1 : decide (q < 0) = true := decide_eq_true (by omega)
                clear hsc hnb
                go_wp2
                go_roundw
                case rel => exact ⟨P + 1, C, m, c', by omega, by go_num, rfl, by rw [HS2.out], by rw [HS2.out]; exact hown2, hB2⟩
                case measure => simp [intOf]; omega
        · by_cases hP1 : P = 1000
          · subst hP1
            have hz : ((1000 : Nat) : Int) = 1000 := rfl
            rw [hz] at HSC hq1 ⊢
            have h1 : a ≤ 1000 := by omega
            have hdb : decide ((1000 : Int) < a + b) = false := decide_eq_false (by omega)
            have hB2 := hbel
            have hown2 := hown
            have hg := HH.out.2.2.2.2.1
            by_cases ho : 0 ≤ q
            · have hsc : scanS g (1000 + 1) = (O ++ [(q, (1000 : Int) - q)], -1) := by rw [HSC.out, hg]; simp [ho]
              have HS2 := Lib.hid hsc
              have hd0 : decide (0 ≤ q) = true := decide_eq_true ho
              have hd1 : decide (q < 0) = false := decide_eq_false (by omega)
              clear hsc hg
              go_wp2_with (at_builtin; refine wpList_app1P rfl _ _ rfl wD.heap.size m _ (O.map rv) rfl (hown2.alloc _) wr.heap.size (.int .i64 q, .int .i64 ((1000 : Int) - q)) rfl (by simp) (by simp) ⟨rfl, rfl⟩ (by omega) (by have := hB2.size; simp; omega) ?_; intro A' c2 w4 hown4 hbel4)
              have hq4 := hbel4 wD.heap.size wD (Nat.le_refl _) (hB2.alloc hB2.size _)
              go_roundw
              case rel => exact ⟨1000 + 1, A', m + 1, c2, by omega, by go_num, rfl, by rw [HS2.out], by rw [HS2.out, List.map_append]; exact hown4, hq4⟩
              case measure => simp [intOf]
            · have hsc : scanS g (1000 + 1) = (O, q) := by rw [HSC.out, hg]; simp [ho]
              have HS2 := Lib.hid hsc
              have hd0 : decide (0 ≤ q) = false := decide_eq_false ho
              have hd1 : decide (q < 0) = true := decide_eq_true (by omega)
              clear hsc hg
              go_wp2
              go_roundw
              case rel => exact ⟨1000 + 1, C, m, c', by omega, by go_num, rfl, by rw [HS2.out], by rw [HS2.out]; exact hown2, hB2⟩
              case measure => simp [intOf]
          · have hP2 : P = 1001 := by omega
            subst hP2
            have hz : ((1001 : Nat) : Int) = 1001 := rfl
            have hOe : chL addB l (a, b) = O := by rw [HH.out.2.2.2.2.2.1, HO.out.1]
            have hc0 : 16 < m → chE addB l (a, b) = 4 := fun h => by
              unfold chE
              rw [HH.out.1, if_neg (by simp), if_neg (by simpa using HH.out.2.2.2.2.2.2), if_pos (by rw [hOe, HO.out.2]; exact h)]
            have hc1 : ¬ 16 < m → chE addB l (a, b) = 0 := fun h => chE_zero.2 ⟨HH.out.1, HH.out.2.2.2.2.2.2, by rw [hOe, HO.out.2]; omega⟩
            have HC := Lib.hid (And.intro hOe (And.intro hc0 hc1))
            have hBw := hBD.trans (hbel.mono hBD.size)
            rw [hz]
            clear hOe hc0 hc1 f1 f2
            by_cases h16 : 16 < m
            · have hmI : (16 : Int) < (m : Int) := by omega
              have he := HC.out.2.1 h16
              have HE4 := Lib.hid he
              clear he
              go_wp2
              go_ret2
              exact ⟨.inr ⟨by rw [HE4.out]; decide, by rw [HE4.out]; rfl⟩, hBw⟩
            · have hmI : ¬ (16 : Int) < (m : Int) := by omega
              have he := HC.out.2.2 h16
              have HE4 := Lib.hid he
              clear he
              go_wp2
              go_ret2
              exact ⟨.inl ⟨HE4.out, C, m, c', rfl, by omega, by rw [HC.out.1]; exact hown.mono (by omega)⟩, hBw⟩
    · have hone : errR (oneE (a, b)) = .iface 23 (.int .i64 1) := by unfold oneE; rw [if_neg hok]; rfl
      have hch : chE addB l (a, b) = 1 := by unfold chE; rw [hE, if_neg (by simp), if_pos hok]
      have HH := Lib.hid (And.intro hE (And.intro hone hch))
      clear hE hone hch hok
      go_enter Try.func32, Try.ntmps32
      go_wp2_with fail
      with_reducible refine (xcheck_any _ _ _ l _ hA1 HBD.out).mono ?_
      rintro e wC ⟨rfl, kC⟩
      rw [HH.out.1, errR_zero]
      have c1 := (kC.cell (p := ⟨w.heap.size, 0, none⟩) (by simp)).trans EE.out.1
      have c2 := (kC.cell (p := ⟨w.heap.size, 1, none⟩) (by simp)).trans EE.out.2
      have hBC := hB.trans (kC.mono hB.size)
      go_wp2_with fail
      with_reducible refine (one_any a b _).mono ?_
      rintro e wD ⟨rfl, kD⟩
      rw [HH.out.2.1]
      have hBD := hBC.trans (kD.mono hBC.size)
      clear c1 c2
      go_wp2
      go_ret2
      exact ⟨.inr ⟨by rw [HH.out.2.2]; decide, by rw [HH.out.2.2]; rfl⟩, hBD⟩
  · have hch : chE addB l (a, b) = runsE l := by unfold chE; rw [if_pos hE]
    obtain ⟨E, hEE⟩ : ∃ E, runsE l = E := ⟨_, rfl⟩
    rw [hEE] at hE hch
    have HH := Lib.hid (And.intro hEE (And.intro hE hch))
    clear hE hEE hch
    go_enter Try.func32, Try.ntmps32
    go_wp2_with fail
    with_reducible refine (xcheck_any _ _ _ l _ hA1 HBD.out).mono ?_
    rintro e wC ⟨rfl, kC⟩
    rw [HH.out.1, errR_ne HH.out.2.1]
    have hBC := hB.trans (kC.mono hB.size)
    go_wp2
    go_ret2
    exact ⟨.inr ⟨by rw [HH.out.2.2]; exact HH.out.2.1, by rw [HH.out.2.2]; rfl⟩, hBC⟩
theorem xAdd_any (A : Option Addr) (n c : Nat) (l : List (Int × Int)) (a b : Int) (w : World) (hA : RdP w A n (l.map rv)) (hbd : ∀ p ∈ l, (-9223372036854775808 ≤ p.1 ∧ p.1 ≤ 9223372036854775807) ∧ (-9223372036854775808 ≤ p.2 ∧ p.2 ≤ 9223372036854775807)) :
    Calls Try.prog 18 #[.slice A n c, .agg #[.int .i64 a, .int .i64 b]] w fun e w' => ChOut addB l (a, b) w e w' ∧ Below w.heap.size w w' := by
  have HBD := Lib.hid hbd
  have hB := (Below.refl w.heap.size w).alloc (Nat.le_refl _) (.cells #[.int .i64 a, .int .i64 b] 40)
  have hA1 := hA.alloc (.cells #[.int .i64 a, .int .i64 b] 40)
  clear hbd
  go_enter Try.func18, Try.ntmps18
  go_wp2_with fail
  with_reducible refine (changeAdd_any _ _ _ l a b _ hA1 HBD.out).mono ?_
  rintro e w2 ⟨hout, k2⟩
  have hB2 := hB.trans (k2.mono hB.size)
  rcases hout with ⟨h0, C, m, c', rfl, hm, hown⟩ | ⟨h0, rfl⟩
  · have ho := hown.mono (B' := w.heap.size) hB.size
    have H0 := Lib.hid h0
    clear h0 hown
    go_wp2
    go_ret2
    exact ⟨.inl ⟨H0.out, C, m, c', rfl, hm, ho⟩, hB2⟩
  · have H0 := Lib.hid h0
    obtain ⟨E, hE⟩ : ∃ E, chE addB l (a, b) = E := ⟨_, rfl⟩
    have HE := Lib.hid hE
    rw [hE]
    clear h0 hE
    go_wp2
    go_ret2
    exact ⟨.inr ⟨H0.out, by rw [HE.out]; rfl⟩, hB2⟩

set_option maxHeartbeats 8000000 in
set_option maxRecDepth 100000 in
theorem changeCut_any (A : Option Addr) (n c : Nat) (l : List (Int × Int)) (a b : Int) (w : World) (hA : RdP w A n (l.map rv)) (hbd : ∀ p ∈ l, (-9223372036854775808 ≤ p.1 ∧ p.1 ≤ 9223372036854775807) ∧ (-9223372036854775808 ≤ p.2 ∧ p.2 ≤ 9223372036854775807)) :
    Calls Try.prog 32 #[.slice A n c, .agg #[.int .i64 a, .int .i64 b], .func (.func 35) #[] #[]] w fun e w' => ChOut cutB l (a, b) w e w' ∧ Below w.heap.size w w' := by
  have HBD := Lib.hid hbd
  have hB := (Below.refl w.heap.size w).alloc (Nat.le_refl _) (.cells #[.int .i64 a, .int .i64 b] 40)
  have hA1 := hA.alloc (.cells #[.int .i64 a, .int .i64 b] 40)
  have e1 : (w.alloc (.cells #[.int .i64 a, .int .i64 b] 40)).cell? ⟨w.heap.size, 0, none⟩ = some (.int .i64 a) := by simp
  have e2 : (w.alloc (.cells #[.int .i64 a, .int .i64 b] 40)).cell? ⟨w.heap.size, 1, none⟩ = some (.int .i64 b) := by simp
  have EE := Lib.hid (And.intro e1 e2)
  clear e1 e2 hbd
  by_cases hE : runsE l = 0
  · by_cases hok : okR (a, b)
    · have hls := okR_mem (runsE_zero.1 hE).2
      have hone : errR (oneE (a, b)) = .nilIface := by unfold oneE; rw [if_pos hok]; rfl
      obtain ⟨o1, o2, o3, o4⟩ := id hok
      simp only at o1 o2 o3 o4
      obtain ⟨g, hg⟩ : ∃ g, gP cutB l (a, b) = g := ⟨_, rfl⟩
      have hgl : ∀ P : Nat, P < 1000 → g P = cutB (hasB l P) (inR (a, b) P) := fun P hP => by rw [← hg]; unfold gP; rw [decide_eq_true hP]; rfl
      have hg0 : g 1000 = false := by rw [← hg]; exact gP_1000 _ _ _
      have hchl : chL cutB l (a, b) = (scanS g 1001).1 := by rw [← hg]; rfl
      have HH := Lib.hid (And.intro hE (And.intro hls (And.intro hone (And.intro hgl (And.intro hg0 (And.intro hchl hok))))))
      clear hE hls hone hg hgl hg0 hchl hok
      go_enter Try.func32, Try.ntmps32
      go_wp2_with fail
      with_reducible refine (xcheck_any _ _ _ l _ hA1 HBD.out).mono ?_
      rintro e wC ⟨rfl, kC⟩
      rw [HH.out.1, errR_zero]
      have c1 := (kC.cell (p := ⟨w.heap.size, 0, none⟩) (by simp)).trans EE.out.1
      have c2 := (kC.cell (p := ⟨w.heap.size, 1, none⟩) (by simp)).trans EE.out.2
      have hBC := hB.trans (kC.mono hB.size)
      have hlt1 : w.heap.size < wC.heap.size := by have := kC.size; simp at this; omega
      go_wp2_with fail
      with_reducible refine (one_any a b _).mono ?_
      rintro e wD ⟨rfl, kD⟩
      rw [HH.out.2.2.1]
      have d1 := (kD.cell (p := ⟨w.heap.size, 0, none⟩) hlt1).trans c1
      have d2 := (kD.cell (p := ⟨w.heap.size, 1, none⟩) hlt1).trans c2
      have hBD := hBC.trans (kD.mono hBC.size)
      have hltD : w.heap.size < wD.heap.size := by have := kD.size; omega
      have hAD := hA.below hBD
      have HD := Lib.hid (And.intro d1 (And.intro d2 hAD))
      clear c1 c2 d1 d2 hAD kC kD hA1 hB
      go_wp2
      go_loopw [10, 11, 25] (fun u v i wr => ∃ (P : Nat) (C : Option Addr) (m c' : Nat), P ≤ 1001 ∧ i = .int .i64 P ∧ u = .slice C m c' ∧ v = .int .i64 (scanS g P).2 ∧ OwnP wr wD.heap.size (.slice C m c') m ((scanS g P).1.map rv) ∧ Below wD.heap.size wD wr) (fun _ _ i _ => 1001 - (intOf i).toNat)
      case atStart => exact ⟨0, none, 0, 0, Nat.zero_le _, rfl, rfl, rfl, OwnP.nil _ _, Below.refl _ _⟩
      case round =>
        obtain ⟨P, C, m, c', hP, rfl, rfl, rfl, hown, hbel⟩ := hrel
        have hml : (scanS g P).1.length = m := by have := hown.len; simpa using this
        have hmP := scan_len (f := g) P
        have hqb := scan_bounds (f := g) P
        have hsc0 := scan_step g P
        obtain ⟨O, hO⟩ : ∃ O, (scanS g P).1 = O := ⟨_, rfl⟩
        obtain ⟨q, hq⟩ : ∃ q, (scanS g P).2 = q := ⟨_, rfl⟩
        rw [hO] at hml hmP hown hsc0
        rw [hq] at hqb hsc0 ⊢
        obtain ⟨hq0, hq1⟩ := hqb
        have hm1 : m ≤ 1001 := by omega
        have HSC := Lib.hid hsc0
        have HO := Lib.hid (And.intro hO hml)
        clear hml hmP hsc0 hO hq
        have f1 := (hbel.cell (p := ⟨w.heap.size, 0, none⟩) hltD).trans HD.out.1
        have f2 := (hbel.cell (p := ⟨w.heap.size, 1, none⟩) hltD).trans HD.out.2.1
        by_cases hlt : P < 1000
        · have hPI : (P : Int) < 1000 := by omega
          have hPI2 : (P : Int) < 1001 := by omega
          have hAr := HD.out.2.2.below hbel
          have hgP := HH.out.2.2.2.1 P hlt
          obtain ⟨hv, hhv⟩ : ∃ hv, hasB l (P : Int) = hv := ⟨_, rfl⟩
          rw [hhv] at hgP
          have HHV := Lib.hid hhv
          clear hhv
          by_cases h1 : a ≤ (P : Int)
          · by_cases h2 : (P : Int) < a + b
            · skip
              have hin : inR (a, b) (P : Int) = true := inR_iff.2 ⟨h1, h2⟩
              rw [hin] at hgP
              obtain ⟨nb, hnb⟩ : ∃ nb, cutB hv true = nb := ⟨_, rfl⟩
              rw [hnb] at hgP
              have HGP := Lib.hid hgP
              have HNB := Lib.hid hnb
              clear hgP hin hnb
              go_wp2_with fail
              with_reducible refine (has_any _ _ _ l (P : Int) _ hAr HH.out.2.1).mono ?_
              rintro e w2 ⟨rfl, k2⟩
              rw [HHV.out]
              have hB2 := hbel.trans (k2.mono hbel.size)
              have hown2 := hown.below k2
              clear hown hbel k2 f1 f2 hAr
              go_wp2_with fail
              with_reducible refine (cutf_any hv true _).mono ?_
              rintro e w' ⟨rfl, rfl⟩
              rw [HNB.out]
              have hnb := True.intro
              cases nb
              · by_cases ho : 0 ≤ q
                · have hsc : scanS g (P + 1) = (O ++ [(q, (P : Int) - q)], -1) := by rw [HSC.out, HGP.out]; simp [ho]
                  have HS2 := Lib.hid hsc
                  have hd0 : decide (0 ≤ q) = true := decide_eq_true ho
                  have hd1 : decide (q < 0) = false := decide_eq_false (by omega)
                  clear hsc hnb
                  go_wp2_with (at_builtin; refine wpList_app1P rfl _ _ rfl wD.heap.size m _ (O.map rv) rfl (hown2.alloc _) w2.heap.size (.int .i64 q, .int .i64 ((P : Int) - q)) rfl (by simp) (by simp) ⟨rfl, rfl⟩ (by omega) (by have := hB2.size; simp; omega) ?_; intro A' c2 w4 hown4 hbel4)
                  have hq4 := hbel4 wD.heap.size wD (Nat.le_refl _) (hB2.alloc hB2.size _)
                  go_roundw
                  case rel => exact ⟨P + 1, A', m + 1, c2, by omega, by go_num, rfl, by rw [HS2.out], by rw [HS2.out, List.map_append]; exact hown4, hq4⟩
                  case measure => simp [intOf]; omega
                · have hsc : scanS g (P + 1) = (O, q) := by rw [HSC.out, HGP.out]; simp [ho]
                  have HS2 := Lib.hid hsc
                  have hd0 : decide (0 ≤ q) = false := decide_eq_false ho
                  have hd1 : decide (q < 0) = true := decide_eq_true (by omega)
                  clear hsc hnb
                  go_wp2
                  go_roundw
                  case rel => exact ⟨P + 1, C, m, c', by omega, by go_num, rfl, by rw [HS2.out], by rw [HS2.out]; exact hown2, hB2⟩
                  case measure => simp [intOf]; omega
              · by_cases ho : 0 ≤ q
                · have hsc : scanS g (P + 1) = (O, q) := by rw [HSC.out, HGP.out]; simp <;> omega
                  have HS2 := Lib.hid hsc
                  have hd0 : decide (0 ≤ q) = true := decide_eq_true ho
                  have hd1 : decide (q < 0) = false := decide_eq_false (by omega)
                  clear hsc hnb
                  go_wp2
                  go_roundw
                  case rel => exact ⟨P + 1, C, m, c', by omega, by go_num, rfl, by rw [HS2.out], by rw [HS2.out]; exact hown2, hB2⟩
                  case measure => simp [intOf]; omega
                · have hsc : scanS g (P + 1) = (O, (P : Int)) := by rw [HSC.out, HGP.out]; simp <;> omega
                  have HS2 := Lib.hid hsc
                  have hd0 : decide (0 ≤ q) = false := decide_eq_false ho
                  have hd1 : decide (q < 0) = true := decide_eq_true (by omega)
                  clear hsc hnb
                  go_wp2
                  go_roundw
                  case rel => exact ⟨P + 1, C, m, c', by omega, by go_num, rfl, by rw [HS2.out], by rw [HS2.out]; exact hown2, hB2⟩
                  case measure => simp [intOf]; omega
            · skip
              have hin : inR (a, b) (P : Int) = false := by rw [Bool.eq_false_iff]; intro h; exact h2 (inR_iff.1 h).2
              have hdb : decide ((P : Int) < a + b) = false := decide_eq_false h2
              rw [hin] at hgP
              obtain ⟨nb, hnb⟩ : ∃ nb, cutB hv false = nb := ⟨_, rfl⟩
              rw [hnb] at hgP
              have HGP := Lib.hid hgP
              have HNB := Lib.hid hnb
              clear hgP hin hnb
              go_wp2_with fail
              with_reducible refine (has_any _ _ _ l (P : Int) _ hAr HH.out.2.1).mono ?_
              rintro e w2 ⟨rfl, k2⟩
              rw [HHV.out]
              have hB2 := hbel.trans (k2.mono hbel.size)
              have hown2 := hown.below k2
              clear hown hbel k2 f1 f2 hAr
              go_wp2_with fail
              with_reducible refine (cutf_any hv false _).mono ?_
              rintro e w' ⟨rfl, rfl⟩
              rw [HNB.out]
              have hnb := True.intro
              cases nb
              · by_cases ho : 0 ≤ q
                · have hsc : scanS g (P + 1) = (O ++ [(q, (P : Int) - q)], -1) := by rw [HSC.out, HGP.out]; simp [ho]
                  have HS2 := Lib.hid hsc
                  have hd0 : decide (0 ≤ q) = true := decide_eq_true ho
                  have hd1 : decide (q < 0) = false := decide_eq_false (by omega)
                  clear hsc hnb
                  go_wp2_with (at_builtin; refine wpList_app1P rfl _ _ rfl wD.heap.size m _ (O.map rv) rfl (hown2.alloc _) w2.heap.size (.int .i64 q, .int .i64 ((P : Int) - q)) rfl (by simp) (by simp) ⟨rfl, rfl⟩ (by omega) (by have := hB2.size; simp; omega) ?_; intro A' c2 w4 hown4 hbel4)
                  have hq4 := hbel4 wD.heap.size wD (Nat.le_refl _) (hB2.alloc hB2.size _)
                  go_roundw
                  case rel => exact ⟨P + 1, A', m + 1, c2, by omega, by go_num, rfl, by rw [HS2.out], by rw [HS2.out, List.map_append]; exact hown4, hq4⟩
                  case measure => simp [intOf]; omega
                · have hsc : scanS g (P + 1) = (O, q) := by rw [HSC.out, HGP.out]; simp [ho]
                  have HS2 := Lib.hid hsc
                  have hd0 : decide (0 ≤ q) = false := decide_eq_false ho
                  have hd1 : decide (q < 0) = true := decide_eq_true (by omega)
                  clear hsc hnb
                  go_wp2
                  go_roundw
                  case rel => exact ⟨P + 1, C, m, c', by omega, by go_num, rfl, by rw [HS2.out], by rw [HS2.out]; exact hown2, hB2⟩
                  case measure => simp [intOf]; omega
              · by_cases ho : 0 ≤ q
                · have hsc : scanS g (P + 1) = (O, q) := by rw [HSC.out, HGP.out]; simp <;> omega
                  have HS2 := Lib.hid hsc
                  have hd0 : decide (0 ≤ q) = true := decide_eq_true ho
                  have hd1 : decide (q < 0) = false := decide_eq_false (by omega)
                  clear hsc hnb
                  go_wp2
                  go_roundw
                  case rel => exact ⟨P + 1, C, m, c', by omega, by go_num, rfl, by rw [HS2.out], by rw [HS2.out]; exact hown2, hB2⟩
                  case measure => simp [intOf]; omega
                · have hsc : scanS g (P + 1) = (O, (P : Int)) := by rw [HSC.out, HGP.out]; simp <;> omega
                  have HS2 := Lib.hid hsc
                  have hd0 : decide (0 ≤ q) = false := decide_eq_false ho
                  have hd1 : decide (q < 0) = true := decide_eq_true (by omega)
                  clear hsc hnb
                  go_wp2
                  go_roundw
                  case rel => exact ⟨P + 1, C, m, c', by omega, by go_num, rfl, by rw [HS2.out], by rw [HS2.out]; exact hown2, hB2⟩
                  case measure => simp [intOf]; omega
          · skip
            have hin : inR (a, b) (P : Int) = false := by rw [Bool.eq_false_iff]; intro h; exact h1 (inR_iff.1 h).1
            have hda : decide (a ≤ (P : Int)) = false := decide_eq_false h1
            rw [hin] at hgP
            obtain ⟨nb, hnb⟩ : ∃ nb, cutB hv false = nb := ⟨_, rfl⟩
            rw [hnb] at hgP
            have HGP := Lib.hid hgP
            have HNB := Lib.hid hnb
            clear hgP hin hnb
            go_wp2_with fail
            with_reducible refine (has_any _ _ _ l (P : Int) _ hAr HH.out.2.1).mono ?_
            rintro e w2 ⟨rfl, k2⟩
            rw [HHV.out]
            have hB2 := hbel.trans (k2.mono hbel.size)
            have hown2 := hown.below k2
            clear hown hbel k2 f1 f2 hAr
            go_wp2_with fail
            with_reducible refine (cutf_any hv false _).mono ?_
            rintro e w' ⟨rfl, rfl⟩
            rw [HNB.out]
            have hnb := True.intro
            cases nb
            · by_cases ho : 0 ≤ q
              · have hsc : scanS g (P + 1) = (O ++ [(q, (P : Int) - q)], -1) := by rw [HSC.out, HGP.out]; simp [ho]
                have HS2 := Lib.hid hsc
                have hd0 : decide (0 ≤ q) = true := decide_eq_true ho
                have hd1 : decide (q < 0) = false := decide_eq_false (by omega)
                clear hsc hnb
                go_wp2_with (at_builtin; refine wpList_app1P rfl _ _ rfl wD.heap.size m _ (O.map rv) rfl (hown2.alloc _) w2.heap.size (.int .i64 q, .int .i64 ((P : Int) - q)) rfl (by simp) (by simp) ⟨rfl, rfl⟩ (by omega) (by have := hB2.size; simp; omega) ?_; intro A' c2 w4 hown4 hbel4)
                have hq4 := hbel4 wD.heap.size wD (Nat.le_refl _) (hB2.alloc hB2.size _)
                go_roundw
                case rel => exact ⟨P + 1, A', m + 1, c2, by omega, by go_num, rfl, by rw [HS2.out], by rw [HS2.out, List.map_append]; exact hown4, hq4⟩
                case measure => simp [intOf]; omega
              · have hsc : scanS g (P + 1) = (O, q) := by rw [HSC.out, HGP.out]; simp [ho]
                have HS2 := Lib.hid hsc
                have hd0 : decide (0 ≤ q) = false := decide_eq_false ho
                have hd1 : decide (q < 0) = true := decide_eq_true (by omega)
                clear hsc hnb
                go_wp2
                go_roundw
                case rel => exact ⟨P + 1, C, m, c', by omega, by go_num, rfl, by rw [HS2.out], by rw [HS2.out]; exact hown2, hB2⟩
                case measure => simp [intOf]; omega
            · by_cases ho : 0 ≤ q
              · have hsc : scanS g (P + 1) = (O, q) := by rw [HSC.out, HGP.out]; simp <;> omega
                have HS2 := Lib.hid hsc
                have hd0 : decide (0 ≤ q) = true := decide_eq_true ho
                have hd1 : decide (q < 0) = false := decide_eq_false (by omega)
                clear hsc hnb
                go_wp2
                go_roundw
                case rel => exact ⟨P + 1, C, m, c', by omega, by go_num, rfl, by rw [HS2.out], by rw [HS2.out]; exact hown2, hB2⟩
                case measure => simp [intOf]; omega
              · have hsc : scanS g (P + 1) = (O, (P : Int)) := by rw [HSC.out, HGP.out]; simp <;> omega
                have HS2 := Lib.hid hsc
                have hd0 : decide (0 ≤ q) = false := decide_eq_false ho
                have hd1 : decide (q < 0) = true := decide_eq_true (by omega)
                clear hsc hnb
                go_wp2
                go_roundw
                case rel => exact ⟨P + 1, C, m, c', by omega, by go_num, rfl, by rw [HS2.out], by rw [HS2.out]; exact hown2, hB2⟩
                case measure => simp [intOf]; omega
        · by_cases hP1 : P = 1000
          · subst hP1
            have hz : ((1000 : Nat) : Int) = 1000 := rfl
            rw [hz] at HSC hq1 ⊢
            have h1 : a ≤ 1000 := by omega
            have hdb : decide ((1000 : Int) < a + b) = false := decide_eq_false (by omega)
            have hB2 := hbel
            have hown2 := hown
            have hg := HH.out.2.2.2.2.1
            by_cases ho : 0 ≤ q
            · have hsc : scanS g (1000 + 1) = (O ++ [(q, (1000 : Int) - q)], -1) := by rw [HSC.out, hg]; simp [ho]
              have HS2 := Lib.hid hsc
              have hd0 : decide (0 ≤ q) = true := decide_eq_true ho
              have hd1 : decide (q < 0) = false := decide_eq_false (by omega)
              clear hsc hg
              go_wp2_with (at_builtin; refine wpList_app1P rfl _ _ rfl wD.heap.size m _ (O.map rv) rfl (hown2.alloc _) wr.heap.size (.int .i64 q, .int .i64 ((1000 : Int) - q)) rfl (by simp) (by simp) ⟨rfl, rfl⟩ (by omega) (by have := hB2.size; simp; omega) ?_; intro A' c2 w4 hown4 hbel4)
              have hq4 := hbel4 wD.heap.size wD (Nat.le_refl _) (hB2.alloc hB2.size _)
              go_roundw
              case rel => exact ⟨1000 + 1, A', m + 1, c2, by omega, by go_num, rfl, by rw [HS2.out], by rw [HS2.out, List.map_append]; exact hown4, hq4⟩
              case measure => simp [intOf]
            · have hsc : scanS g (1000 + 1) = (O, q) := by rw [HSC.out, hg]; simp [ho]
              have HS2 := Lib.hid hsc
              have hd0 : decide (0 ≤ q) = false := decide_eq_false ho
              have hd1 : decide (q < 0) = true := decide_eq_true (by omega)
              clear hsc hg
              go_wp2
              go_roundw
              case rel => exact ⟨1000 + 1, C, m, c', by omega, by go_num, rfl, by rw [HS2.out], by rw [HS2.out]; exact hown2, hB2⟩
              case measure => simp [intOf]
          · have hP2 : P = 1001 := by omega
            subst hP2
            have hz : ((1001 : Nat) : Int) = 1001 := rfl
            have hOe : chL cutB l (a, b) = O := by rw [HH.out.2.2.2.2.2.1, HO.out.1]
            have hc0 : 16 < m → chE cutB l (a, b) = 4 := fun h => by
              unfold chE
              rw [HH.out.1, if_neg (by simp), if_neg (by simpa using HH.out.2.2.2.2.2.2), if_pos (by rw [hOe, HO.out.2]; exact h)]
            have hc1 : ¬ 16 < m → chE cutB l (a, b) = 0 := fun h => chE_zero.2 ⟨HH.out.1, HH.out.2.2.2.2.2.2, by rw [hOe, HO.out.2]; omega⟩
            have HC := Lib.hid (And.intro hOe (And.intro hc0 hc1))
            have hBw := hBD.trans (hbel.mono hBD.size)
            rw [hz]
            clear hOe hc0 hc1 f1 f2
            by_cases h16 : 16 < m
            · have hmI : (16 : Int) < (m : Int) := by omega
              have he := HC.out.2.1 h16
              have HE4 := Lib.hid he
              clear he
              go_wp2
              go_ret2
              exact ⟨.inr ⟨by rw [HE4.out]; decide, by rw [HE4.out]; rfl⟩, hBw⟩
            · have hmI : ¬ (16 : Int) < (m : Int) := by omega
              have he := HC.out.2.2 h16
              have HE4 := Lib.hid he
              clear he
              go_wp2
              go_ret2
              exact ⟨.inl ⟨HE4.out, C, m, c', rfl, by omega, by rw [HC.out.1]; exact hown.mono (by omega)⟩, hBw⟩
    · have hone : errR (oneE (a, b)) = .iface 23 (.int .i64 1) := by unfold oneE; rw [if_neg hok]; rfl
      have hch : chE cutB l (a, b) = 1 := by unfold chE; rw [hE, if_neg (by simp), if_pos hok]
      have HH := Lib.hid (And.intro hE (And.intro hone hch))
      clear hE hone hch hok
      go_enter Try.func32, Try.ntmps32
      go_wp2_with fail
      with_reducible refine (xcheck_any _ _ _ l _ hA1 HBD.out).mono ?_
      rintro e wC ⟨rfl, kC⟩
      rw [HH.out.1, errR_zero]
      have c1 := (kC.cell (p := ⟨w.heap.size, 0, none⟩) (by simp)).trans EE.out.1
      have c2 := (kC.cell (p := ⟨w.heap.size, 1, none⟩) (by simp)).trans EE.out.2
      have hBC := hB.trans (kC.mono hB.size)
      go_wp2_with fail
      with_reducible refine (one_any a b _).mono ?_
      rintro e wD ⟨rfl, kD⟩
      rw [HH.out.2.1]
      have hBD := hBC.trans (kD.mono hBC.size)
      clear c1 c2
      go_wp2
      go_ret2
      exact ⟨.inr ⟨by rw [HH.out.2.2]; decide, by rw [HH.out.2.2]; rfl⟩, hBD⟩
  · have hch : chE cutB l (a, b) = runsE l := by unfold chE; rw [if_pos hE]
    obtain ⟨E, hEE⟩ : ∃ E, runsE l = E := ⟨_, rfl⟩
    rw [hEE] at hE hch
    have HH := Lib.hid (And.intro hEE (And.intro hE hch))
    clear hE hEE hch
    go_enter Try.func32, Try.ntmps32
    go_wp2_with fail
    with_reducible refine (xcheck_any _ _ _ l _ hA1 HBD.out).mono ?_
    rintro e wC ⟨rfl, kC⟩
    rw [HH.out.1, errR_ne HH.out.2.1]
    have hBC := hB.trans (kC.mono hB.size)
    go_wp2
    go_ret2
    exact ⟨.inr ⟨by rw [HH.out.2.2]; exact HH.out.2.1, by rw [HH.out.2.2]; rfl⟩, hBC⟩
theorem xCut_any (A : Option Addr) (n c : Nat) (l : List (Int × Int)) (a b : Int) (w : World) (hA : RdP w A n (l.map rv)) (hbd : ∀ p ∈ l, (-9223372036854775808 ≤ p.1 ∧ p.1 ≤ 9223372036854775807) ∧ (-9223372036854775808 ≤ p.2 ∧ p.2 ≤ 9223372036854775807)) :
    Calls Try.prog 21 #[.slice A n c, .agg #[.int .i64 a, .int .i64 b]] w fun e w' => ChOut cutB l (a, b) w e w' ∧ Below w.heap.size w w' := by
  have HBD := Lib.hid hbd
  have hB := (Below.refl w.heap.size w).alloc (Nat.le_refl _) (.cells #[.int .i64 a, .int .i64 b] 40)
  have hA1 := hA.alloc (.cells #[.int .i64 a, .int .i64 b] 40)
  clear hbd
  go_enter Try.func21, Try.ntmps21
  go_wp2_with fail
  with_reducible refine (changeCut_any _ _ _ l a b _ hA1 HBD.out).mono ?_
  rintro e w2 ⟨hout, k2⟩
  have hB2 := hB.trans (k2.mono hB.size)
  rcases hout with ⟨h0, C, m, c', rfl, hm, hown⟩ | ⟨h0, rfl⟩
  · have ho := hown.mono (B' := w.heap.size) hB.size
    have H0 := Lib.hid h0
    clear h0 hown
    go_wp2
    go_ret2
    exact ⟨.inl ⟨H0.out, C, m, c', rfl, hm, ho⟩, hB2⟩
  · have H0 := Lib.hid h0
    obtain ⟨E, hE⟩ : ∃ E, chE cutB l (a, b) = E := ⟨_, rfl⟩
    have HE := Lib.hid hE
    rw [hE]
    clear h0 hE
    go_wp2
    go_ret2
    exact ⟨.inr ⟨H0.out, by rw [HE.out]; rfl⟩, hB2⟩

end Go.Proofs.Ytllacbogbbbcaaa
