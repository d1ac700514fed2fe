/- The reference's Changed by its contract. -/
import Derived.Test.YtllacbogbbbcaaaDoorExtR
namespace Go.Proofs.YtllacbogbbbcaaaDoor
open Go Go.RowKit
set_option maxRecDepth 20000
set_option linter.unusedVariables false

theorem one_run2 (w : World) (a b : Int) : RdP (w.alloc (.cells #[.int .i64 a, .int .i64 b] 39)) (some ⟨w.heap.size, 0, none⟩) 1 ([(a, b)].map rv) := by
  refine ⟨rfl, by decide, fun _ => ⟨w.heap.size, 0, rfl, by simp, fun k hk => ?_⟩⟩
  obtain rfl : k = 0 := by omega
  simp [rv]
theorem hasB_one (r : Rn) (p : Int) : hasB [r] p = inR r p := by simp [hasB]
theorem step_app1K {ops : Array Oper} {o : Oper} {a : Act} {w : World} {K : Act → World → Prop} {Q : Exit → Act → World → Prop} {E : Prop} (hgd : o.guard = none) (s x : Operand)
    (ho : o.op = .call { callee := .builtin .append, args := #[s, x], argTypes := #[37, 37] })
    (B n : Nat) (v : Value) (ps : List VV) (hs : a.eval s = v) (hown : OwnP w B v n ps) (g : Nat) (p : VV) (hx : a.eval x = .slice (some ⟨g, 0, none⟩) 1 1)
    (hc : w.cell? ⟨g, 0, none⟩ = some p.1) (hc2 : w.cell? ⟨g, 1, none⟩ = some p.2) (hp : p.1.oneCell' = true ∧ p.2.oneCell' = true) (hn : n + 1 ≤ 1000000) (hbase : B ≤ w.heap.size)
    (h : ∀ A' c' w', OwnP w' B (.slice A' (n + 1) c') (n + 1) (ps ++ [p]) → (∀ B0 W0, B0 ≤ B → Below B0 W0 w → Below B0 W0 w') → (∀ (q : Addr) (u : Value), w.cell? q = some u → some q.block ≠ v.ownBlock → w'.cell? q = some u) → K (a.put o.dst (.slice A' (n + 1) c')) w') :
    if Region.wanted o (yielded ops a.tmps) = true then Oper.wp Tryd.prog o a w K Q else E := by
  have hw : Region.wanted o (yielded ops a.tmps) = true := by simp [Region.wanted, hgd]
  rw [if_pos hw]
  obtain ⟨i0, hi, hz0, hz1, hz2⟩ := info_parts infoPair
  refine wp_append_own w s x 37 ho B 39 i0 (.agg #[.int .i64 0, .int .i64 0]) 2 16 Tryd.underlying37 hi hz0 hz1 hz2 rfl (by decide) v n _ hs hown ⟨g, 0, none⟩ 1 1 [p.1, p.2] hx rfl (fun j u hj => ?_) (by simp [hp.1, hp.2])
    (by unfold maxLen; omega) (by omega) hbase (fun v' w' h2 h3 _ => ?_)
  · rcases j with _ | _ | j
    · simp at hj; subst hj; simpa [Addr.add] using hc
    · simp at hj; subst hj; simpa [Addr.add] using hc2
    · simp at hj
  · have h2' : OwnP w' B v' (n + 1) (ps ++ [p]) := by unfold OwnP; rw [flat_append]; exact h2
    obtain ⟨A', c', hv, _⟩ := h2'.form
    subst hv
    exact h A' c' w' h2' (fun B0 W0 hB0 hb => hb.grown h3 (Nat.le_trans hB0 hbase) (fun k hk => Nat.le_trans hB0 (World.ownsRow.lt hown k hk).1)) (fun q u hu hne => h3.cell hu hne)
/-- What comes back. -/
def RChOut (op : Bool → Bool → Bool) (l : List Rn) (r : Rn) (w : World) (e : Ending) (w' : World) : Prop :=
  (chE op l r = 0 ∧ ∃ C m c', e = .returned (.tuple #[.slice C m c', .int .i64 0]) ∧ m ≤ 16 ∧ OwnP w' w.heap.size (.slice C m c') m ((chL op l r).map rv)) ∨
    (chE op l r ≠ 0 ∧ e = .returned (.tuple #[.slice none 0 0, .int .i64 (chE op l r)]))

set_option maxHeartbeats 8000000 in
set_option maxRecDepth 100000 in
theorem changed_add (A : Option Addr) (n c : Nat) (l : List (Int × Int)) (a b : Int) (w : World) (hA : RdP w A n (l.map rv)) :
    Calls Tryd.prog 21 #[.slice A n c, .agg #[.int .i64 a, .int .i64 b], .bool true] w fun e w' => RChOut addB l (a, b) w e w' ∧ Below w.heap.size w w' := by
  have hB := (Below.refl w.heap.size w).alloc (Nat.le_refl _) (.cells #[.int .i64 a, .int .i64 b] 39)
  have hA1 := hA.alloc (.cells #[.int .i64 a, .int .i64 b] 39)
  have e1 : (w.alloc (.cells #[.int .i64 a, .int .i64 b] 39)).cell? ⟨w.heap.size, 0, none⟩ = some (.int .i64 a) := by simp
  have e2 : (w.alloc (.cells #[.int .i64 a, .int .i64 b] 39)).cell? ⟨w.heap.size, 1, none⟩ = some (.int .i64 b) := by simp
  have EE := Lib.hid (And.intro e1 e2)
  clear e1 e2
  by_cases hE : runsE l = 0
  · by_cases hok : okR (a, b)
    · have hls := okR_mem (runsE_zero.1 hE).2
      have hdo := decide_eq_true hok
      obtain ⟨o1, o2, o3, o4⟩ := id hok
      simp only at o1 o2 o3 o4
      obtain ⟨g, hg⟩ : ∃ g, gP addB l (a, b) = g := ⟨_, rfl⟩
      have hgl : ∀ P : Nat, P < 1000 → g P = addB (hasB l P) (inR (a, b) P) := fun P hP => by rw [← hg]; unfold gP; rw [decide_eq_true hP]; rfl
      have hchl : refS g 1000 = chL addB l (a, b) := by rw [← hg]; exact ref_last
      have hone : ∀ r ∈ [(a, b)], okR r := by intro r hr; simp at hr; subst hr; exact hok
      have HH := Lib.hid (And.intro hE (And.intro hls (And.intro hdo (And.intro hgl (And.intro hchl (And.intro hok hone))))))
      clear hE hls hdo hg hgl hchl hok hone
      go_enter Tryd.func21, Tryd.ntmps21
      go_wp2_with fail
      with_reducible refine (rruns_any _ _ _ l _ hA1).mono ?_
      rintro e wA ⟨rfl, kA⟩
      rw [HH.out.1]
      have c1 := (kA.cell (p := ⟨w.heap.size, 0, none⟩) (by simp)).trans EE.out.1
      have c2 := (kA.cell (p := ⟨w.heap.size, 1, none⟩) (by simp)).trans EE.out.2
      have hBA := hB.trans (kA.mono hB.size)
      have hlt1 : w.heap.size < wA.heap.size := by have := kA.size; simp at this; omega
      go_wp2_with fail
      with_reducible refine (rrun_any a b _).mono ?_
      rintro e wB ⟨rfl, kB⟩
      rw [HH.out.2.2.1]
      have d1 := (kB.cell (p := ⟨w.heap.size, 0, none⟩) hlt1).trans c1
      have d2 := (kB.cell (p := ⟨w.heap.size, 1, none⟩) hlt1).trans c2
      have hBB := hBA.trans (kB.mono hBA.size)
      have hBC := hBB.alloc hBB.size (.cells #[.int .i64 a, .int .i64 b] 39)
      have hone := one_run2 wB a b
      have hAC := hA.below hBC
      clear c1 c2 kA kB hA1 hB hBA
      go_wp2
      obtain ⟨wC, hwC⟩ : ∃ wC, wB.alloc (.cells #[.int .i64 a, .int .i64 b] 39) = wC := ⟨_, rfl⟩
      rw [hwC] at hBC hone hAC ⊢
      have HD := Lib.hid (And.intro hone hAC)
      clear hwC hone hAC d1 d2
      go_loopw [10, 11, 12] (fun u v i wr => ∃ (P : Nat) (C : Option Addr) (m c' : Nat), P ≤ 1000 ∧ i = .int .i64 P ∧ u = .slice C m c' ∧ v = .bool (decide (0 ≤ (scanS g P).2)) ∧ OwnP wr wC.heap.size (.slice C m c') m ((refS g P).map rv) ∧ Below wC.heap.size wC wr) (fun _ _ i _ => 1000 - (intOf i).toNat)
      case atStart => exact ⟨0, none, 0, 0, Nat.zero_le _, rfl, rfl, rfl, OwnP.nil _ _, Below.refl _ _⟩
      case round =>
        obtain ⟨P, C, m, c', hP, rfl, rfl, rfl, hown, hbel⟩ := hrel
        have hml : (refS g P).length = m := by have := hown.len; simpa using this
        have hmP := ref_len g P
        have hqb := scan_bounds (f := g) P
        have hsg := ref_sign g P
        have hm1 : m ≤ 1001 := by omega
        by_cases hlt : P < 1000
        · have hPI : (P : Int) < 1000 := by omega
          have hAr := HD.out.2.below hbel
          have hgP := HH.out.2.2.2.1 P hlt
          have hnew := ref_new (g := g) (P := P)
          have hon := ref_on (g := g) (P := P)
          have hoff := ref_off (g := g) (P := P)
          obtain ⟨hv, hhv⟩ : ∃ hv, hasB l (P : Int) = hv := ⟨_, rfl⟩
          obtain ⟨iv, hiv⟩ : ∃ iv, inR (a, b) (P : Int) = iv := ⟨_, rfl⟩
          rw [hhv, hiv] at hgP
          have hone1 := hasB_one (a, b) (P : Int)
          rw [hiv] at hone1
          obtain ⟨q, hq⟩ : ∃ q, (scanS g P).2 = q := ⟨_, rfl⟩
          obtain ⟨X, hX⟩ : ∃ X, (scanS g P).1 = X := ⟨_, rfl⟩
          rw [hq, hX] at hon
          rw [hq] at hqb hnew ⊢
          obtain ⟨hq0, hq1⟩ := hqb
          have HK := Lib.hid (And.intro hml (And.intro hsg (And.intro hgP (And.intro hnew (And.intro hon (And.intro hoff (And.intro hhv hone1)))))))
          clear hml hmP hsg hgP hnew hon hoff hhv hiv hone1 hq hX
          cases iv
          · cases hv
            · skip
              have hgv : g P = false := by rw [HK.out.2.2.1]; rfl
              have HGV := Lib.hid hgv
              clear hgv
              by_cases ho : 0 ≤ q
              · skip
                have hdq : decide (0 ≤ q) = true := decide_eq_true ho
                rw [hdq]
                go_wp2_with fail
                with_reducible refine (inruns_any _ _ _ l (P : Int) _ hAr HH.out.2.1).mono ?_
                rintro e w2 ⟨rfl, k2⟩
                rw [HK.out.2.2.2.2.2.2.1]
                have hb2 := hbel.trans (k2.mono hbel.size)
                have ho2 := hown.below k2
                have hone2 := HD.out.1.below hb2
                go_wp2_with fail
                with_reducible refine (inruns_any _ _ _ [(a, b)] (P : Int) _ hone2 HH.out.2.2.2.2.2.2).mono ?_
                rintro e w3 ⟨rfl, k3⟩
                rw [HK.out.2.2.2.2.2.2.2]
                have hb3 := hb2.trans (k3.mono hb2.size)
                have ho3 := ho2.below k3
                have hnn := HK.out.2.2.2.2.2.1 HGV.out
                have HNN := Lib.hid hnn
                clear hnn
                go_wp2
                go_roundw
                case rel => exact ⟨P + 1, C, m, c', by omega, by go_num, rfl, by rw [HK.out.2.1, HGV.out], by rw [HNN.out]; exact ho3, hb3⟩
                case measure => simp [intOf]; omega
              · skip
                have hdq : decide (0 ≤ q) = false := decide_eq_false ho
                rw [hdq]
                go_wp2_with fail
                with_reducible refine (inruns_any _ _ _ l (P : Int) _ hAr HH.out.2.1).mono ?_
                rintro e w2 ⟨rfl, k2⟩
                rw [HK.out.2.2.2.2.2.2.1]
                have hb2 := hbel.trans (k2.mono hbel.size)
                have ho2 := hown.below k2
                have hone2 := HD.out.1.below hb2
                go_wp2_with fail
                with_reducible refine (inruns_any _ _ _ [(a, b)] (P : Int) _ hone2 HH.out.2.2.2.2.2.2).mono ?_
                rintro e w3 ⟨rfl, k3⟩
                rw [HK.out.2.2.2.2.2.2.2]
                have hb3 := hb2.trans (k3.mono hb2.size)
                have ho3 := ho2.below k3
                have hnn := HK.out.2.2.2.2.2.1 HGV.out
                have HNN := Lib.hid hnn
                clear hnn
                go_wp2
                go_roundw
                case rel => exact ⟨P + 1, C, m, c', by omega, by go_num, rfl, by rw [HK.out.2.1, HGV.out], by rw [HNN.out]; exact ho3, hb3⟩
                case measure => simp [intOf]; omega
            · skip
              have hgv : g P = true := by rw [HK.out.2.2.1]; rfl
              have HGV := Lib.hid hgv
              clear hgv
              by_cases ho : 0 ≤ q
              · skip
                have hdq : decide (0 ≤ q) = true := decide_eq_true ho
                rw [hdq]
                have hoo := HK.out.2.2.2.2.1 HGV.out ho
                obtain ⟨s, hs⟩ : ∃ s, (P : Int) - q = s := ⟨_, rfl⟩
                rw [hs] at hoo
                have hXl : X.length + 1 = m := by have := HK.out.1; rw [hoo.1] at this; simpa using this
                obtain ⟨j, hj⟩ : ∃ j, X.length = j := ⟨_, rfl⟩
                have hmj : (m : Int) - 1 = (j : Int) := by omega
                have hjm : (j : Int) < (m : Int) := by omega
                have hjN : j ≤ m := by omega
                have hs0 : 1 ≤ s := by omega
                have hs1 : s ≤ 1000 := by omega
                have hwr : IntKind.i64.wrap (s + 1) = s + 1 := by rw [IntKind.wrap_i64]; omega
                rw [hoo.1] at hown
                obtain ⟨gg, rfl, hg0, hg1, hcell, hfr⟩ := hown.at_ (by omega)
                obtain ⟨x1, x2⟩ := hcell j (by omega)
                have hgj : ((X ++ [(q, s)]).map rv)[j]?.getD noVV = (.int .i64 q, .int .i64 s) := by rw [List.map_append, List.getElem?_append_right (by simp; omega)]; simp [hj, rv]
                rw [hgj] at x1 x2
                have hcutw : ((X ++ [(q, s)]).map rv).take j = X.map rv := by rw [List.map_append, List.take_append_of_le_length (by simp; omega), List.take_of_length_le (by simp; omega)]
                have HX := Lib.hid (And.intro hoo.2 (And.intro hcutw (And.intro hwr (And.intro x1 x2))))
                have hcj : (j : Int) ≤ (c' : Int) := by
                  obtain ⟨_, _, e1', e2'⟩ := hown.form
                  injection e1' with _ _ e3'
                  omega
                have hggw : gg < wr.heap.size := hg1
                clear hoo hgj hcutw hcell hfr hs hj hXl hwr x1 x2
                go_wp2_with fail
                with_reducible refine (inruns_any _ _ _ l (P : Int) _ hAr HH.out.2.1).mono ?_
                rintro e w2 ⟨rfl, k2⟩
                rw [HK.out.2.2.2.2.2.2.1]
                have hb2 := hbel.trans (k2.mono hbel.size)
                have ho2 := hown.below k2
                have hone2 := HD.out.1.below hb2
                go_wp2_with fail
                with_reducible refine (inruns_any _ _ _ [(a, b)] (P : Int) _ hone2 HH.out.2.2.2.2.2.2).mono ?_
                rintro e w3 ⟨rfl, k3⟩
                rw [HK.out.2.2.2.2.2.2.2]
                have hb3 := hb2.trans (k3.mono hb2.size)
                have ho3 := ho2.below k3
                have y1 := ((k2.trans (k3.mono k2.size)).cell (p := ⟨gg, j * 2, none⟩) hggw).trans HX.out.2.2.2.1
                have y2 := ((k2.trans (k3.mono k2.size)).cell (p := ⟨gg, j * 2 + 1, none⟩) hggw).trans HX.out.2.2.2.2
                have z1 : (w3.alloc (.cells #[.int .i64 q, .int .i64 s] 39)).cell? ⟨w3.heap.size, 0, none⟩ = some (.int .i64 q) := by simp
                have z2 : (w3.alloc (.cells #[.int .i64 q, .int .i64 s] 39)).cell? ⟨w3.heap.size, 1, none⟩ = some (.int .i64 s) := by simp
                have hb4 := hb3.alloc hb3.size (.cells #[.int .i64 q, .int .i64 s] 39)
                have ho4 := (ho3.alloc (.cells #[.int .i64 q, .int .i64 s] 39)).cut hjN
                rw [HX.out.2.1] at ho4
                have k23 : wr.heap.size ≤ w3.heap.size := (k2.trans (k3.mono k2.size)).size
                clear hown ho2 ho3 k2 k3 hone2 hAr hbel hb2
                go_wp2
                have hne5 : some w3.heap.size ≠ some gg := by have := hb3.size; have h9 := k23; intro h; injection h with h; omega
                have hv4 : w3.heap.size < (w3.alloc (.cells #[.int .i64 q, .int .i64 s] 39)).heap.size := by simp
                obtain ⟨w4, hw4⟩ : ∃ w4, w3.alloc (.cells #[.int .i64 q, .int .i64 s] 39) = w4 := ⟨_, rfl⟩
                rw [hw4] at z1 z2 hb4 ho4 hv4 ⊢
                have hB4 := (Below.refl w4.heap.size w4).drew
                clear hw4 y1 y2
                go_region_held3 (fun w' => w'.cell? ⟨w3.heap.size, 0, none⟩ = some (.int .i64 q) ∧ w'.cell? ⟨w3.heap.size, 1, none⟩ = some (.int .i64 s))
                  (first | exact ⟨z1, z2⟩ | exact ⟨hk5 ⟨w3.heap.size, 0, none⟩ _ (((hB4.alloc (Nat.le_refl _) _).cell (p := ⟨w3.heap.size, 0, none⟩) hv4).trans z1) hne5, hk5 ⟨w3.heap.size, 1, none⟩ _ (((hB4.alloc (Nat.le_refl _) _).cell (p := ⟨w3.heap.size, 1, none⟩) hv4).trans z2) hne5⟩ | exact ⟨((hB4.alloc (Nat.le_refl _) _).cell (p := ⟨w3.heap.size, 0, none⟩) hv4).trans z1, ((hB4.alloc (Nat.le_refl _) _).cell (p := ⟨w3.heap.size, 1, none⟩) hv4).trans z2⟩ | fail)
                  (first
                    | (refine step_app1K rfl _ _ rfl wC.heap.size j _ (X.map rv) rfl ?_ _ (.int .i64 q, .int .i64 (IntKind.i64.wrap (s + 1))) rfl ?_ ?_ ⟨rfl, rfl⟩ ?_ ?_ ?_; exact (ho4.drew).alloc _; (simp); (simp); omega; (have hz := hb4.size; simp; omega); intro A' c2 w5 hown5 hbel5 hk5; have hq5 := hbel5 wC.heap.size wC (Nat.le_refl _) ((hb4.drew).alloc hb4.size _))
                    | fail)
                go_wp2
                go_roundw
                case rel => exact ⟨P + 1, A', j + 1, c2, by omega, by go_num, rfl, by rw [HK.out.2.1, HGV.out], by rw [HX.out.1, List.map_append, ← HX.out.2.2.1]; exact hown5, hq5⟩
                case measure => simp [intOf]; omega
              · skip
                have hdq : decide (0 ≤ q) = false := decide_eq_false ho
                rw [hdq]
                go_wp2_with fail
                with_reducible refine (inruns_any _ _ _ l (P : Int) _ hAr HH.out.2.1).mono ?_
                rintro e w2 ⟨rfl, k2⟩
                rw [HK.out.2.2.2.2.2.2.1]
                have hb2 := hbel.trans (k2.mono hbel.size)
                have ho2 := hown.below k2
                have hone2 := HD.out.1.below hb2
                go_wp2_with fail
                with_reducible refine (inruns_any _ _ _ [(a, b)] (P : Int) _ hone2 HH.out.2.2.2.2.2.2).mono ?_
                rintro e w3 ⟨rfl, k3⟩
                rw [HK.out.2.2.2.2.2.2.2]
                have hb3 := hb2.trans (k3.mono hb2.size)
                have ho3 := ho2.below k3
                have hnn := HK.out.2.2.2.1 HGV.out (by omega)
                have HNN := Lib.hid hnn
                clear hnn
                go_wp2_with (at_builtin; refine wpList_app1P rfl _ _ rfl wC.heap.size m _ _ rfl (ho3.alloc _) w3.heap.size (.int .i64 P, .int .i64 1) rfl (by simp) (by simp) ⟨rfl, rfl⟩ (by omega) (by have := hb3.size; simp; omega) ?_; intro A' c2 w5 hown5 hbel5)
                have hq5 := hbel5 wC.heap.size wC (Nat.le_refl _) (hb3.alloc hb3.size _)
                go_roundw
                case rel => exact ⟨P + 1, A', m + 1, c2, by omega, by go_num, rfl, by rw [HK.out.2.1, HGV.out], by rw [HNN.out, List.map_append]; exact hown5, hq5⟩
                case measure => simp [intOf]; omega
          · skip
            have hgv : g P = true := by rw [HK.out.2.2.1]; cases hv <;> rfl
            have HGV := Lib.hid hgv
            clear hgv
            by_cases ho : 0 ≤ q
            · skip
              have hdq : decide (0 ≤ q) = true := decide_eq_true ho
              rw [hdq]
              have hoo := HK.out.2.2.2.2.1 HGV.out ho
              obtain ⟨s, hs⟩ : ∃ s, (P : Int) - q = s := ⟨_, rfl⟩
              rw [hs] at hoo
              have hXl : X.length + 1 = m := by have := HK.out.1; rw [hoo.1] at this; simpa using this
              obtain ⟨j, hj⟩ : ∃ j, X.length = j := ⟨_, rfl⟩
              have hmj : (m : Int) - 1 = (j : Int) := by omega
              have hjm : (j : Int) < (m : Int) := by omega
              have hjN : j ≤ m := by omega
              have hs0 : 1 ≤ s := by omega
              have hs1 : s ≤ 1000 := by omega
              have hwr : IntKind.i64.wrap (s + 1) = s + 1 := by rw [IntKind.wrap_i64]; omega
              rw [hoo.1] at hown
              obtain ⟨gg, rfl, hg0, hg1, hcell, hfr⟩ := hown.at_ (by omega)
              obtain ⟨x1, x2⟩ := hcell j (by omega)
              have hgj : ((X ++ [(q, s)]).map rv)[j]?.getD noVV = (.int .i64 q, .int .i64 s) := by rw [List.map_append, List.getElem?_append_right (by simp; omega)]; simp [hj, rv]
              rw [hgj] at x1 x2
              have hcutw : ((X ++ [(q, s)]).map rv).take j = X.map rv := by rw [List.map_append, List.take_append_of_le_length (by simp; omega), List.take_of_length_le (by simp; omega)]
              have HX := Lib.hid (And.intro hoo.2 (And.intro hcutw (And.intro hwr (And.intro x1 x2))))
              have hcj : (j : Int) ≤ (c' : Int) := by
                obtain ⟨_, _, e1', e2'⟩ := hown.form
                injection e1' with _ _ e3'
                omega
              have hggw : gg < wr.heap.size := hg1
              clear hoo hgj hcutw hcell hfr hs hj hXl hwr x1 x2
              go_wp2_with fail
              with_reducible refine (inruns_any _ _ _ l (P : Int) _ hAr HH.out.2.1).mono ?_
              rintro e w2 ⟨rfl, k2⟩
              rw [HK.out.2.2.2.2.2.2.1]
              have hb2 := hbel.trans (k2.mono hbel.size)
              have ho2 := hown.below k2
              have hone2 := HD.out.1.below hb2
              go_wp2_with fail
              with_reducible refine (inruns_any _ _ _ [(a, b)] (P : Int) _ hone2 HH.out.2.2.2.2.2.2).mono ?_
              rintro e w3 ⟨rfl, k3⟩
              rw [HK.out.2.2.2.2.2.2.2]
              have hb3 := hb2.trans (k3.mono hb2.size)
              have ho3 := ho2.below k3
              have y1 := ((k2.trans (k3.mono k2.size)).cell (p := ⟨gg, j * 2, none⟩) hggw).trans HX.out.2.2.2.1
              have y2 := ((k2.trans (k3.mono k2.size)).cell (p := ⟨gg, j * 2 + 1, none⟩) hggw).trans HX.out.2.2.2.2
              have z1 : (w3.alloc (.cells #[.int .i64 q, .int .i64 s] 39)).cell? ⟨w3.heap.size, 0, none⟩ = some (.int .i64 q) := by simp
              have z2 : (w3.alloc (.cells #[.int .i64 q, .int .i64 s] 39)).cell? ⟨w3.heap.size, 1, none⟩ = some (.int .i64 s) := by simp
              have hb4 := hb3.alloc hb3.size (.cells #[.int .i64 q, .int .i64 s] 39)
              have ho4 := (ho3.alloc (.cells #[.int .i64 q, .int .i64 s] 39)).cut hjN
              rw [HX.out.2.1] at ho4
              have k23 : wr.heap.size ≤ w3.heap.size := (k2.trans (k3.mono k2.size)).size
              clear hown ho2 ho3 k2 k3 hone2 hAr hbel hb2
              go_wp2
              have hne5 : some w3.heap.size ≠ some gg := by have := hb3.size; have h9 := k23; intro h; injection h with h; omega
              have hv4 : w3.heap.size < (w3.alloc (.cells #[.int .i64 q, .int .i64 s] 39)).heap.size := by simp
              obtain ⟨w4, hw4⟩ : ∃ w4, w3.alloc (.cells #[.int .i64 q, .int .i64 s] 39) = w4 := ⟨_, rfl⟩
              rw [hw4] at z1 z2 hb4 ho4 hv4 ⊢
              have hB4 := (Below.refl w4.heap.size w4).drew
              clear hw4 y1 y2
              go_region_held3 (fun w' => w'.cell? ⟨w3.heap.size, 0, none⟩ = some (.int .i64 q) ∧ w'.cell? ⟨w3.heap.size, 1, none⟩ = some (.int .i64 s))
                (first | exact ⟨z1, z2⟩ | exact ⟨hk5 ⟨w3.heap.size, 0, none⟩ _ (((hB4.alloc (Nat.le_refl _) _).cell (p := ⟨w3.heap.size, 0, none⟩) hv4).trans z1) hne5, hk5 ⟨w3.heap.size, 1, none⟩ _ (((hB4.alloc (Nat.le_refl _) _).cell (p := ⟨w3.heap.size, 1, none⟩) hv4).trans z2) hne5⟩ | exact ⟨((hB4.alloc (Nat.le_refl _) _).cell (p := ⟨w3.heap.size, 0, none⟩) hv4).trans z1, ((hB4.alloc (Nat.le_refl _) _).cell (p := ⟨w3.heap.size, 1, none⟩) hv4).trans z2⟩ | fail)
                (first
                  | (refine step_app1K rfl _ _ rfl wC.heap.size j _ (X.map rv) rfl ?_ _ (.int .i64 q, .int .i64 (IntKind.i64.wrap (s + 1))) rfl ?_ ?_ ⟨rfl, rfl⟩ ?_ ?_ ?_; exact (ho4.drew).alloc _; (simp); (simp); omega; (have hz := hb4.size; simp; omega); intro A' c2 w5 hown5 hbel5 hk5; have hq5 := hbel5 wC.heap.size wC (Nat.le_refl _) ((hb4.drew).alloc hb4.size _))
                  | fail)
              go_wp2
              go_roundw
              case rel => exact ⟨P + 1, A', j + 1, c2, by omega, by go_num, rfl, by rw [HK.out.2.1, HGV.out], by rw [HX.out.1, List.map_append, ← HX.out.2.2.1]; exact hown5, hq5⟩
              case measure => simp [intOf]; omega
            · skip
              have hdq : decide (0 ≤ q) = false := decide_eq_false ho
              rw [hdq]
              go_wp2_with fail
              with_reducible refine (inruns_any _ _ _ l (P : Int) _ hAr HH.out.2.1).mono ?_
              rintro e w2 ⟨rfl, k2⟩
              rw [HK.out.2.2.2.2.2.2.1]
              have hb2 := hbel.trans (k2.mono hbel.size)
              have ho2 := hown.below k2
              have hone2 := HD.out.1.below hb2
              go_wp2_with fail
              with_reducible refine (inruns_any _ _ _ [(a, b)] (P : Int) _ hone2 HH.out.2.2.2.2.2.2).mono ?_
              rintro e w3 ⟨rfl, k3⟩
              rw [HK.out.2.2.2.2.2.2.2]
              have hb3 := hb2.trans (k3.mono hb2.size)
              have ho3 := ho2.below k3
              have hnn := HK.out.2.2.2.1 HGV.out (by omega)
              have HNN := Lib.hid hnn
              clear hnn
              go_wp2_with (at_builtin; refine wpList_app1P rfl _ _ rfl wC.heap.size m _ _ rfl (ho3.alloc _) w3.heap.size (.int .i64 P, .int .i64 1) rfl (by simp) (by simp) ⟨rfl, rfl⟩ (by omega) (by have := hb3.size; simp; omega) ?_; intro A' c2 w5 hown5 hbel5)
              have hq5 := hbel5 wC.heap.size wC (Nat.le_refl _) (hb3.alloc hb3.size _)
              go_roundw
              case rel => exact ⟨P + 1, A', m + 1, c2, by omega, by go_num, rfl, by rw [HK.out.2.1, HGV.out], by rw [HNN.out, List.map_append]; exact hown5, hq5⟩
              case measure => simp [intOf]; omega
        · obtain rfl : P = 1000 := by omega
          have hz : ((1000 : Nat) : Int) = 1000 := rfl
          rw [HH.out.2.2.2.2.1] at hown hml
          have hBw := hBC.trans (hbel.mono hBC.size)
          have hc0 : 16 < m → chE addB l (a, b) = 4 := fun h => by
            unfold chE
            rw [HH.out.1, if_neg (by simp), if_neg (by simpa using HH.out.2.2.2.2.2.1), if_pos (by rw [hml]; exact h)]
          have hc1 : ¬ 16 < m → chE addB l (a, b) = 0 := fun h => chE_zero.2 ⟨HH.out.1, HH.out.2.2.2.2.2.1, by rw [hml]; omega⟩
          have HC := Lib.hid (And.intro hc0 hc1)
          rw [hz]
          clear hc0 hc1 hmP hsg hqb hml
          by_cases h16 : 16 < m
          · have hmI : (16 : Int) < (m : Int) := by omega
            have HE4 := Lib.hid (HC.out.1 h16)
            go_wp2
            go_ret2
            exact ⟨.inr ⟨by rw [HE4.out]; decide, by rw [HE4.out]; rfl⟩, hBw⟩
          · have hmI : ¬ (16 : Int) < (m : Int) := by omega
            have HE4 := Lib.hid (HC.out.2 h16)
            have hown' := hown.mono (B' := w.heap.size) hBC.size
            go_wp2
            go_ret2
            exact ⟨.inl ⟨HE4.out, C, m, c', rfl, by omega, hown'⟩, hBw⟩
    · have hdo := decide_eq_false hok
      have hch : chE addB l (a, b) = 1 := by unfold chE; rw [hE, if_neg (by simp), if_pos hok]
      have HH := Lib.hid (And.intro hE (And.intro hdo hch))
      clear hE hdo hch hok
      go_enter Tryd.func21, Tryd.ntmps21
      go_wp2_with fail
      with_reducible refine (rruns_any _ _ _ l _ hA1).mono ?_
      rintro e wA ⟨rfl, kA⟩
      rw [HH.out.1]
      have c1 := (kA.cell (p := ⟨w.heap.size, 0, none⟩) (by simp)).trans EE.out.1
      have c2 := (kA.cell (p := ⟨w.heap.size, 1, none⟩) (by simp)).trans EE.out.2
      have hBA := hB.trans (kA.mono hB.size)
      go_wp2_with fail
      with_reducible refine (rrun_any a b _).mono ?_
      rintro e wB ⟨rfl, kB⟩
      rw [HH.out.2.1]
      have hBB := hBA.trans (kB.mono hBA.size)
      clear c1 c2
      go_wp2
      go_ret2
      exact ⟨.inr ⟨by rw [HH.out.2.2]; decide, by rw [HH.out.2.2]; rfl⟩, hBB⟩
  · have hch : chE addB l (a, b) = runsE l := by unfold chE; rw [if_pos hE]
    obtain ⟨E, hEE⟩ : ∃ E, runsE l = E := ⟨_, rfl⟩
    rw [hEE] at hE hch
    have hEb : (E != 0) = true := by simpa using hE
    have HH := Lib.hid (And.intro hEE (And.intro hE hch))
    clear hE hEE hch
    go_enter Tryd.func21, Tryd.ntmps21
    go_wp2_with fail
    with_reducible refine (rruns_any _ _ _ l _ hA1).mono ?_
    rintro e wA ⟨rfl, kA⟩
    rw [HH.out.1]
    have hBA := hB.trans (kA.mono hB.size)
    go_wp2
    go_ret2
    exact ⟨.inr ⟨by rw [HH.out.2.2]; exact HH.out.2.1, by rw [HH.out.2.2]; rfl⟩, hBA⟩

set_option maxHeartbeats 8000000 in
set_option maxRecDepth 100000 in
theorem changed_cut (A : Option Addr) (n c : Nat) (l : List (Int × Int)) (a b : Int) (w : World) (hA : RdP w A n (l.map rv)) :
    Calls Tryd.prog 21 #[.slice A n c, .agg #[.int .i64 a, .int .i64 b], .bool false] w fun e w' => RChOut cutB l (a, b) w e w' ∧ Below w.heap.size w w' := by
  have hB := (Below.refl w.heap.size w).alloc (Nat.le_refl _) (.cells #[.int .i64 a, .int .i64 b] 39)
  have hA1 := hA.alloc (.cells #[.int .i64 a, .int .i64 b] 39)
  have e1 : (w.alloc (.cells #[.int .i64 a, .int .i64 b] 39)).cell? ⟨w.heap.size, 0, none⟩ = some (.int .i64 a) := by simp
  have e2 : (w.alloc (.cells #[.int .i64 a, .int .i64 b] 39)).cell? ⟨w.heap.size, 1, none⟩ = some (.int .i64 b) := by simp
  have EE := Lib.hid (And.intro e1 e2)
  clear e1 e2
  by_cases hE : runsE l = 0
  · by_cases hok : okR (a, b)
    · have hls := okR_mem (runsE_zero.1 hE).2
      have hdo := decide_eq_true hok
      obtain ⟨o1, o2, o3, o4⟩ := id hok
      simp only at o1 o2 o3 o4
      obtain ⟨g, hg⟩ : ∃ g, gP cutB l (a, b) = g := ⟨_, rfl⟩
      have hgl : ∀ P : Nat, P < 1000 → g P = cutB (hasB l P) (inR (a, b) P) := fun P hP => by rw [← hg]; unfold gP; rw [decide_eq_true hP]; rfl
      have hchl : refS g 1000 = chL cutB l (a, b) := by rw [← hg]; exact ref_last
      have hone : ∀ r ∈ [(a, b)], okR r := by intro r hr; simp at hr; subst hr; exact hok
      have HH := Lib.hid (And.intro hE (And.intro hls (And.intro hdo (And.intro hgl (And.intro hchl (And.intro hok hone))))))
      clear hE hls hdo hg hgl hchl hok hone
      go_enter Tryd.func21, Tryd.ntmps21
      go_wp2_with fail
      with_reducible refine (rruns_any _ _ _ l _ hA1).mono ?_
      rintro e wA ⟨rfl, kA⟩
      rw [HH.out.1]
      have c1 := (kA.cell (p := ⟨w.heap.size, 0, none⟩) (by simp)).trans EE.out.1
      have c2 := (kA.cell (p := ⟨w.heap.size, 1, none⟩) (by simp)).trans EE.out.2
      have hBA := hB.trans (kA.mono hB.size)
      have hlt1 : w.heap.size < wA.heap.size := by have := kA.size; simp at this; omega
      go_wp2_with fail
      with_reducible refine (rrun_any a b _).mono ?_
      rintro e wB ⟨rfl, kB⟩
      rw [HH.out.2.2.1]
      have d1 := (kB.cell (p := ⟨w.heap.size, 0, none⟩) hlt1).trans c1
      have d2 := (kB.cell (p := ⟨w.heap.size, 1, none⟩) hlt1).trans c2
      have hBB := hBA.trans (kB.mono hBA.size)
      have hBC := hBB.alloc hBB.size (.cells #[.int .i64 a, .int .i64 b] 39)
      have hone := one_run2 wB a b
      have hAC := hA.below hBC
      clear c1 c2 kA kB hA1 hB hBA
      go_wp2
      obtain ⟨wC, hwC⟩ : ∃ wC, wB.alloc (.cells #[.int .i64 a, .int .i64 b] 39) = wC := ⟨_, rfl⟩
      rw [hwC] at hBC hone hAC ⊢
      have HD := Lib.hid (And.intro hone hAC)
      clear hwC hone hAC d1 d2
      go_loopw [10, 11, 12] (fun u v i wr => ∃ (P : Nat) (C : Option Addr) (m c' : Nat), P ≤ 1000 ∧ i = .int .i64 P ∧ u = .slice C m c' ∧ v = .bool (decide (0 ≤ (scanS g P).2)) ∧ OwnP wr wC.heap.size (.slice C m c') m ((refS g P).map rv) ∧ Below wC.heap.size wC wr) (fun _ _ i _ => 1000 - (intOf i).toNat)
      case atStart => exact ⟨0, none, 0, 0, Nat.zero_le _, rfl, rfl, rfl, OwnP.nil _ _, Below.refl _ _⟩
      case round =>
        obtain ⟨P, C, m, c', hP, rfl, rfl, rfl, hown, hbel⟩ := hrel
        have hml : (refS g P).length = m := by have := hown.len; simpa using this
        have hmP := ref_len g P
        have hqb := scan_bounds (f := g) P
        have hsg := ref_sign g P
        have hm1 : m ≤ 1001 := by omega
        by_cases hlt : P < 1000
        · have hPI : (P : Int) < 1000 := by omega
          have hAr := HD.out.2.below hbel
          have hgP := HH.out.2.2.2.1 P hlt
          have hnew := ref_new (g := g) (P := P)
          have hon := ref_on (g := g) (P := P)
          have hoff := ref_off (g := g) (P := P)
          obtain ⟨hv, hhv⟩ : ∃ hv, hasB l (P : Int) = hv := ⟨_, rfl⟩
          obtain ⟨iv, hiv⟩ : ∃ iv, inR (a, b) (P : Int) = iv := ⟨_, rfl⟩
          rw [hhv, hiv] at hgP
          have hone1 := hasB_one (a, b) (P : Int)
          rw [hiv] at hone1
          obtain ⟨q, hq⟩ : ∃ q, (scanS g P).2 = q := ⟨_, rfl⟩
          obtain ⟨X, hX⟩ : ∃ X, (scanS g P).1 = X := ⟨_, rfl⟩
          rw [hq, hX] at hon
          rw [hq] at hqb hnew ⊢
          obtain ⟨hq0, hq1⟩ := hqb
          have HK := Lib.hid (And.intro hml (And.intro hsg (And.intro hgP (And.intro hnew (And.intro hon (And.intro hoff (And.intro hhv hone1)))))))
          clear hml hmP hsg hgP hnew hon hoff hhv hiv hone1 hq hX
          cases iv
          · cases hv
            · skip
              have hgv : g P = false := by rw [HK.out.2.2.1]; rfl
              have HGV := Lib.hid hgv
              clear hgv
              by_cases ho : 0 ≤ q
              · skip
                have hdq : decide (0 ≤ q) = true := decide_eq_true ho
                rw [hdq]
                go_wp2_with fail
                with_reducible refine (inruns_any _ _ _ l (P : Int) _ hAr HH.out.2.1).mono ?_
                rintro e w2 ⟨rfl, k2⟩
                rw [HK.out.2.2.2.2.2.2.1]
                have hb2 := hbel.trans (k2.mono hbel.size)
                have ho2 := hown.below k2
                have hone2 := HD.out.1.below hb2
                go_wp2_with fail
                with_reducible refine (inruns_any _ _ _ [(a, b)] (P : Int) _ hone2 HH.out.2.2.2.2.2.2).mono ?_
                rintro e w3 ⟨rfl, k3⟩
                rw [HK.out.2.2.2.2.2.2.2]
                have hb3 := hb2.trans (k3.mono hb2.size)
                have ho3 := ho2.below k3
                have hnn := HK.out.2.2.2.2.2.1 HGV.out
                have HNN := Lib.hid hnn
                clear hnn
                go_wp2
                go_roundw
                case rel => exact ⟨P + 1, C, m, c', by omega, by go_num, rfl, by rw [HK.out.2.1, HGV.out], by rw [HNN.out]; exact ho3, hb3⟩
                case measure => simp [intOf]; omega
              · skip
                have hdq : decide (0 ≤ q) = false := decide_eq_false ho
                rw [hdq]
                go_wp2_with fail
                with_reducible refine (inruns_any _ _ _ l (P : Int) _ hAr HH.out.2.1).mono ?_
                rintro e w2 ⟨rfl, k2⟩
                rw [HK.out.2.2.2.2.2.2.1]
                have hb2 := hbel.trans (k2.mono hbel.size)
                have ho2 := hown.below k2
                have hone2 := HD.out.1.below hb2
                go_wp2_with fail
                with_reducible refine (inruns_any _ _ _ [(a, b)] (P : Int) _ hone2 HH.out.2.2.2.2.2.2).mono ?_
                rintro e w3 ⟨rfl, k3⟩
                rw [HK.out.2.2.2.2.2.2.2]
                have hb3 := hb2.trans (k3.mono hb2.size)
                have ho3 := ho2.below k3
                have hnn := HK.out.2.2.2.2.2.1 HGV.out
                have HNN := Lib.hid hnn
                clear hnn
                go_wp2
                go_roundw
                case rel => exact ⟨P + 1, C, m, c', by omega, by go_num, rfl, by rw [HK.out.2.1, HGV.out], by rw [HNN.out]; exact ho3, hb3⟩
                case measure => simp [intOf]; omega
            · skip
              have hgv : g P = true := by rw [HK.out.2.2.1]; rfl
              have HGV := Lib.hid hgv
              clear hgv
              by_cases ho : 0 ≤ q
              · skip
                have hdq : decide (0 ≤ q) = true := decide_eq_true ho
                rw [hdq]
                have hoo := HK.out.2.2.2.2.1 HGV.out ho
                obtain ⟨s, hs⟩ : ∃ s, (P : Int) - q = s := ⟨_, rfl⟩
                rw [hs] at hoo
                have hXl : X.length + 1 = m := by have := HK.out.1; rw [hoo.1] at this; simpa using this
                obtain ⟨j, hj⟩ : ∃ j, X.length = j := ⟨_, rfl⟩
                have hmj : (m : Int) - 1 = (j : Int) := by omega
                have hjm : (j : Int) < (m : Int) := by omega
                have hjN : j ≤ m := by omega
                have hs0 : 1 ≤ s := by omega
                have hs1 : s ≤ 1000 := by omega
                have hwr : IntKind.i64.wrap (s + 1) = s + 1 := by rw [IntKind.wrap_i64]; omega
                rw [hoo.1] at hown
                obtain ⟨gg, rfl, hg0, hg1, hcell, hfr⟩ := hown.at_ (by omega)
                obtain ⟨x1, x2⟩ := hcell j (by omega)
                have hgj : ((X ++ [(q, s)]).map rv)[j]?.getD noVV = (.int .i64 q, .int .i64 s) := by rw [List.map_append, List.getElem?_append_right (by simp; omega)]; simp [hj, rv]
                rw [hgj] at x1 x2
                have hcutw : ((X ++ [(q, s)]).map rv).take j = X.map rv := by rw [List.map_append, List.take_append_of_le_length (by simp; omega), List.take_of_length_le (by simp; omega)]
                have HX := Lib.hid (And.intro hoo.2 (And.intro hcutw (And.intro hwr (And.intro x1 x2))))
                have hcj : (j : Int) ≤ (c' : Int) := by
                  obtain ⟨_, _, e1', e2'⟩ := hown.form
                  injection e1' with _ _ e3'
                  omega
                have hggw : gg < wr.heap.size := hg1
                clear hoo hgj hcutw hcell hfr hs hj hXl hwr x1 x2
                go_wp2_with fail
                with_reducible refine (inruns_any _ _ _ l (P : Int) _ hAr HH.out.2.1).mono ?_
                rintro e w2 ⟨rfl, k2⟩
                rw [HK.out.2.2.2.2.2.2.1]
                have hb2 := hbel.trans (k2.mono hbel.size)
                have ho2 := hown.below k2
                have hone2 := HD.out.1.below hb2
                go_wp2_with fail
                with_reducible refine (inruns_any _ _ _ [(a, b)] (P : Int) _ hone2 HH.out.2.2.2.2.2.2).mono ?_
                rintro e w3 ⟨rfl, k3⟩
                rw [HK.out.2.2.2.2.2.2.2]
                have hb3 := hb2.trans (k3.mono hb2.size)
                have ho3 := ho2.below k3
                have y1 := ((k2.trans (k3.mono k2.size)).cell (p := ⟨gg, j * 2, none⟩) hggw).trans HX.out.2.2.2.1
                have y2 := ((k2.trans (k3.mono k2.size)).cell (p := ⟨gg, j * 2 + 1, none⟩) hggw).trans HX.out.2.2.2.2
                have z1 : (w3.alloc (.cells #[.int .i64 q, .int .i64 s] 39)).cell? ⟨w3.heap.size, 0, none⟩ = some (.int .i64 q) := by simp
                have z2 : (w3.alloc (.cells #[.int .i64 q, .int .i64 s] 39)).cell? ⟨w3.heap.size, 1, none⟩ = some (.int .i64 s) := by simp
                have hb4 := hb3.alloc hb3.size (.cells #[.int .i64 q, .int .i64 s] 39)
                have ho4 := (ho3.alloc (.cells #[.int .i64 q, .int .i64 s] 39)).cut hjN
                rw [HX.out.2.1] at ho4
                have k23 : wr.heap.size ≤ w3.heap.size := (k2.trans (k3.mono k2.size)).size
                clear hown ho2 ho3 k2 k3 hone2 hAr hbel hb2
                go_wp2
                have hne5 : some w3.heap.size ≠ some gg := by have := hb3.size; have h9 := k23; intro h; injection h with h; omega
                have hv4 : w3.heap.size < (w3.alloc (.cells #[.int .i64 q, .int .i64 s] 39)).heap.size := by simp
                obtain ⟨w4, hw4⟩ : ∃ w4, w3.alloc (.cells #[.int .i64 q, .int .i64 s] 39) = w4 := ⟨_, rfl⟩
                rw [hw4] at z1 z2 hb4 ho4 hv4 ⊢
                have hB4 := (Below.refl w4.heap.size w4).drew
                clear hw4 y1 y2
                go_region_held3 (fun w' => w'.cell? ⟨w3.heap.size, 0, none⟩ = some (.int .i64 q) ∧ w'.cell? ⟨w3.heap.size, 1, none⟩ = some (.int .i64 s))
                  (first | exact ⟨z1, z2⟩ | exact ⟨hk5 ⟨w3.heap.size, 0, none⟩ _ (((hB4.alloc (Nat.le_refl _) _).cell (p := ⟨w3.heap.size, 0, none⟩) hv4).trans z1) hne5, hk5 ⟨w3.heap.size, 1, none⟩ _ (((hB4.alloc (Nat.le_refl _) _).cell (p := ⟨w3.heap.size, 1, none⟩) hv4).trans z2) hne5⟩ | exact ⟨((hB4.alloc (Nat.le_refl _) _).cell (p := ⟨w3.heap.size, 0, none⟩) hv4).trans z1, ((hB4.alloc (Nat.le_refl _) _).cell (p := ⟨w3.heap.size, 1, none⟩) hv4).trans z2⟩ | fail)
                  (first
                    | (refine step_app1K rfl _ _ rfl wC.heap.size j _ (X.map rv) rfl ?_ _ (.int .i64 q, .int .i64 (IntKind.i64.wrap (s + 1))) rfl ?_ ?_ ⟨rfl, rfl⟩ ?_ ?_ ?_; exact (ho4.drew).alloc _; (simp); (simp); omega; (have hz := hb4.size; simp; omega); intro A' c2 w5 hown5 hbel5 hk5; have hq5 := hbel5 wC.heap.size wC (Nat.le_refl _) ((hb4.drew).alloc hb4.size _))
                    | fail)
                go_wp2
                go_roundw
                case rel => exact ⟨P + 1, A', j + 1, c2, by omega, by go_num, rfl, by rw [HK.out.2.1, HGV.out], by rw [HX.out.1, List.map_append, ← HX.out.2.2.1]; exact hown5, hq5⟩
                case measure => simp [intOf]; omega
              · skip
                have hdq : decide (0 ≤ q) = false := decide_eq_false ho
                rw [hdq]
                go_wp2_with fail
                with_reducible refine (inruns_any _ _ _ l (P : Int) _ hAr HH.out.2.1).mono ?_
                rintro e w2 ⟨rfl, k2⟩
                rw [HK.out.2.2.2.2.2.2.1]
                have hb2 := hbel.trans (k2.mono hbel.size)
                have ho2 := hown.below k2
                have hone2 := HD.out.1.below hb2
                go_wp2_with fail
                with_reducible refine (inruns_any _ _ _ [(a, b)] (P : Int) _ hone2 HH.out.2.2.2.2.2.2).mono ?_
                rintro e w3 ⟨rfl, k3⟩
                rw [HK.out.2.2.2.2.2.2.2]
                have hb3 := hb2.trans (k3.mono hb2.size)
                have ho3 := ho2.below k3
                have hnn := HK.out.2.2.2.1 HGV.out (by omega)
                have HNN := Lib.hid hnn
                clear hnn
                go_wp2_with (at_builtin; refine wpList_app1P rfl _ _ rfl wC.heap.size m _ _ rfl (ho3.alloc _) w3.heap.size (.int .i64 P, .int .i64 1) rfl (by simp) (by simp) ⟨rfl, rfl⟩ (by omega) (by have := hb3.size; simp; omega) ?_; intro A' c2 w5 hown5 hbel5)
                have hq5 := hbel5 wC.heap.size wC (Nat.le_refl _) (hb3.alloc hb3.size _)
                go_roundw
                case rel => exact ⟨P + 1, A', m + 1, c2, by omega, by go_num, rfl, by rw [HK.out.2.1, HGV.out], by rw [HNN.out, List.map_append]; exact hown5, hq5⟩
                case measure => simp [intOf]; omega
          · skip
            have hgv : g P = false := by rw [HK.out.2.2.1]; cases hv <;> rfl
            have HGV := Lib.hid hgv
            clear hgv
            by_cases ho : 0 ≤ q
            · skip
              have hdq : decide (0 ≤ q) = true := decide_eq_true ho
              rw [hdq]
              go_wp2_with fail
              with_reducible refine (inruns_any _ _ _ l (P : Int) _ hAr HH.out.2.1).mono ?_
              rintro e w2 ⟨rfl, k2⟩
              rw [HK.out.2.2.2.2.2.2.1]
              have hb2 := hbel.trans (k2.mono hbel.size)
              have ho2 := hown.below k2
              have hone2 := HD.out.1.below hb2
              go_wp2_with fail
              with_reducible refine (inruns_any _ _ _ [(a, b)] (P : Int) _ hone2 HH.out.2.2.2.2.2.2).mono ?_
              rintro e w3 ⟨rfl, k3⟩
              rw [HK.out.2.2.2.2.2.2.2]
              have hb3 := hb2.trans (k3.mono hb2.size)
              have ho3 := ho2.below k3
              have hnn := HK.out.2.2.2.2.2.1 HGV.out
              have HNN := Lib.hid hnn
              clear hnn
              go_wp2
              go_roundw
              case rel => exact ⟨P + 1, C, m, c', by omega, by go_num, rfl, by rw [HK.out.2.1, HGV.out], by rw [HNN.out]; exact ho3, hb3⟩
              case measure => simp [intOf]; omega
            · skip
              have hdq : decide (0 ≤ q) = false := decide_eq_false ho
              rw [hdq]
              go_wp2_with fail
              with_reducible refine (inruns_any _ _ _ l (P : Int) _ hAr HH.out.2.1).mono ?_
              rintro e w2 ⟨rfl, k2⟩
              rw [HK.out.2.2.2.2.2.2.1]
              have hb2 := hbel.trans (k2.mono hbel.size)
              have ho2 := hown.below k2
              have hone2 := HD.out.1.below hb2
              go_wp2_with fail
              with_reducible refine (inruns_any _ _ _ [(a, b)] (P : Int) _ hone2 HH.out.2.2.2.2.2.2).mono ?_
              rintro e w3 ⟨rfl, k3⟩
              rw [HK.out.2.2.2.2.2.2.2]
              have hb3 := hb2.trans (k3.mono hb2.size)
              have ho3 := ho2.below k3
              have hnn := HK.out.2.2.2.2.2.1 HGV.out
              have HNN := Lib.hid hnn
              clear hnn
              go_wp2
              go_roundw
              case rel => exact ⟨P + 1, C, m, c', by omega, by go_num, rfl, by rw [HK.out.2.1, HGV.out], by rw [HNN.out]; exact ho3, hb3⟩
              case measure => simp [intOf]; omega
        · obtain rfl : P = 1000 := by omega
          have hz : ((1000 : Nat) : Int) = 1000 := rfl
          rw [HH.out.2.2.2.2.1] at hown hml
          have hBw := hBC.trans (hbel.mono hBC.size)
          have hc0 : 16 < m → chE cutB l (a, b) = 4 := fun h => by
            unfold chE
            rw [HH.out.1, if_neg (by simp), if_neg (by simpa using HH.out.2.2.2.2.2.1), if_pos (by rw [hml]; exact h)]
          have hc1 : ¬ 16 < m → chE cutB l (a, b) = 0 := fun h => chE_zero.2 ⟨HH.out.1, HH.out.2.2.2.2.2.1, by rw [hml]; omega⟩
          have HC := Lib.hid (And.intro hc0 hc1)
          rw [hz]
          clear hc0 hc1 hmP hsg hqb hml
          by_cases h16 : 16 < m
          · have hmI : (16 : Int) < (m : Int) := by omega
            have HE4 := Lib.hid (HC.out.1 h16)
            go_wp2
            go_ret2
            exact ⟨.inr ⟨by rw [HE4.out]; decide, by rw [HE4.out]; rfl⟩, hBw⟩
          · have hmI : ¬ (16 : Int) < (m : Int) := by omega
            have HE4 := Lib.hid (HC.out.2 h16)
            have hown' := hown.mono (B' := w.heap.size) hBC.size
            go_wp2
            go_ret2
            exact ⟨.inl ⟨HE4.out, C, m, c', rfl, by omega, hown'⟩, hBw⟩
    · have hdo := decide_eq_false hok
      have hch : chE cutB l (a, b) = 1 := by unfold chE; rw [hE, if_neg (by simp), if_pos hok]
      have HH := Lib.hid (And.intro hE (And.intro hdo hch))
      clear hE hdo hch hok
      go_enter Tryd.func21, Tryd.ntmps21
      go_wp2_with fail
      with_reducible refine (rruns_any _ _ _ l _ hA1).mono ?_
      rintro e wA ⟨rfl, kA⟩
      rw [HH.out.1]
      have c1 := (kA.cell (p := ⟨w.heap.size, 0, none⟩) (by simp)).trans EE.out.1
      have c2 := (kA.cell (p := ⟨w.heap.size, 1, none⟩) (by simp)).trans EE.out.2
      have hBA := hB.trans (kA.mono hB.size)
      go_wp2_with fail
      with_reducible refine (rrun_any a b _).mono ?_
      rintro e wB ⟨rfl, kB⟩
      rw [HH.out.2.1]
      have hBB := hBA.trans (kB.mono hBA.size)
      clear c1 c2
      go_wp2
      go_ret2
      exact ⟨.inr ⟨by rw [HH.out.2.2]; decide, by rw [HH.out.2.2]; rfl⟩, hBB⟩
  · have hch : chE cutB l (a, b) = runsE l := by unfold chE; rw [if_pos hE]
    obtain ⟨E, hEE⟩ : ∃ E, runsE l = E := ⟨_, rfl⟩
    rw [hEE] at hE hch
    have hEb : (E != 0) = true := by simpa using hE
    have HH := Lib.hid (And.intro hEE (And.intro hE hch))
    clear hE hEE hch
    go_enter Tryd.func21, Tryd.ntmps21
    go_wp2_with fail
    with_reducible refine (rruns_any _ _ _ l _ hA1).mono ?_
    rintro e wA ⟨rfl, kA⟩
    rw [HH.out.1]
    have hBA := hB.trans (kA.mono hB.size)
    go_wp2
    go_ret2
    exact ⟨.inr ⟨by rw [HH.out.2.2]; exact HH.out.2.1, by rw [HH.out.2.2]; rfl⟩, hBA⟩

end Go.Proofs.YtllacbogbbbcaaaDoor
