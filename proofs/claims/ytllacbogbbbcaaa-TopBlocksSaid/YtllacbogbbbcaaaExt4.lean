/- E.Runs, R.Run, and the closed fact of the extent laws. -/
import Derived.Test.YtllacbogbbbcaaaExt3
import Derived.Laws.StructEq
namespace Go.Proofs.Ytllacbogbbbcaaa
open Go Go.RowKit
set_option maxRecDepth 20000
set_option linter.unusedVariables false

theorem neq_run (a b s t : Int) (W : World) : (binOp .neq 40 (.agg #[.int .i64 a, .int .i64 s]) (.agg #[.int .i64 b, .int .i64 t])).run Try.prog W = .ok (.bool (decide ((a, s) ≠ (b, t)))) W := by
  rw [run_neq_struct, run_equalIn_agg W 9999 40 _ _ (by kernel_rfl) (by kernel_rfl)]
  by_cases h1 : a = b
  · by_cases h2 : s = t
    · simp [go_sem, h1, h2]
    · simp [go_sem, h1, h2]
  · simp [go_sem, h1]

set_option maxHeartbeats 1000000 in
theorem runs_any (A B : Option Addr) (n m ca cb : Nat) (xs ys : List (Int × Int)) (w : World) (hA : RdP w A n (xs.map rv)) (hB : RdP w B m (ys.map rv)) :
    Calls Try.prog 19 #[.slice A n ca, .slice B m cb] w fun e w' => e = .returned (.bool (decide (xs = ys))) ∧ Below w.heap.size w w' := by
  have hx : xs.length = n := by have := hA.len; simpa using this
  have hy : ys.length = m := by have := hB.len; simpa using this
  by_cases hnm : n = m
  · subst hnm
    have hm := hA.max
    have HX := Lib.hid (And.intro hx hy)
    clear hx hy
    have hne : ((n : Int) != (n : Int)) = false := by simp
    go_enter Try.func19, Try.ntmps19
    go_wp2
    go_loopw [5] (fun i wr => ∃ k : Nat, k ≤ n ∧ i = .int .i64 k ∧ (xs.take k = ys.take k) ∧ ∃ q, wr = w.drewN q) (fun i _ => n - (intOf i).toNat)
    case atStart => exact ⟨0, Nat.zero_le _, rfl, rfl, 0, rfl⟩
    case round =>
      obtain ⟨k, hk, rfl, hall, q, rfl⟩ := hrel
      have HALL := Lib.hid hall
      clear hall
      by_cases hlt : k < n
      · obtain ⟨b, off, rfl, _, hc⟩ := hA.at_ (by omega)
        obtain ⟨b', off', rfl, _, hc'⟩ := hB.at_ (by omega)
        obtain ⟨h1, h2⟩ := hc k hlt
        obtain ⟨h3, h4⟩ := hc' k hlt
        have hkx : k < xs.length := by rw [HX.out.1]; exact hlt
        have hky : k < ys.length := by rw [HX.out.2]; exact hlt
        rw [rv_get hkx] at h1 h2
        rw [rv_get hky] at h3 h4
        have hsx : xs.take (k + 1) = xs.take k ++ [xs[k]] := List.take_succ_eq_append_getElem hkx
        have hsy : ys.take (k + 1) = ys.take k ++ [ys[k]] := List.take_succ_eq_append_getElem hky
        have hbad : xs[k] ≠ ys[k] → xs ≠ ys := fun h e => h (by subst e; rfl)
        obtain ⟨p, hp⟩ : ∃ p, xs[k] = p := ⟨_, rfl⟩
        obtain ⟨r, hr⟩ : ∃ r, ys[k] = r := ⟨_, rfl⟩
        rw [hp] at h1 h2 hsx hbad
        rw [hr] at h3 h4 hsy hbad
        obtain ⟨pb, ps⟩ := p
        obtain ⟨rb, rs⟩ := r
        change w.cell? ⟨b, off + k * 2, none⟩ = some (.int .i64 pb) at h1
        change w.cell? ⟨b, off + k * 2 + 1, none⟩ = some (.int .i64 ps) at h2
        change w.cell? ⟨b', off' + k * 2, none⟩ = some (.int .i64 rb) at h3
        change w.cell? ⟨b', off' + k * 2 + 1, none⟩ = some (.int .i64 rs) at h4
        have HS := Lib.hid (And.intro hsx hsy)
        have HBAD := Lib.hid hbad
        have hns := fun W => neq_run pb rb ps rs W
        clear hc hc' hsx hsy hbad hp hr hkx hky
        have hlt' : (k : Int) < (n : Int) := by omega
        by_cases heq : (pb, ps) = (rb, rs)
        · have hd : decide ((pb, ps) ≠ (rb, rs)) = false := by simp [heq]
          have HEQ := Lib.hid heq
          rw [hd] at hns
          clear heq hd
          go_wp2
          go_quiet (fail)
          go_wp2
          go_roundw
          case rel => exact ⟨k + 1, by omega, by go_num, by rw [HS.out.1, HS.out.2, HALL.out, HEQ.out], _, rfl⟩
          case measure => simp [intOf]; omega
        · have hd : decide ((pb, ps) ≠ (rb, rs)) = true := decide_eq_true heq
          have hdec : decide (xs = ys) = false := by
            rw [decide_eq_false_iff_not]
            exact HBAD.out heq
          have HD := Lib.hid hdec
          rw [hd] at hns
          clear hdec heq hd
          go_wp2
          go_quiet (fail)
          go_wp2
          go_ret
          exact ⟨ret_bool HD.out.symm, by rw [World.drewN_drewN]; exact below_drewN_of (Below.refl _ _) _⟩
      · have hkn : k = n := by omega
        have hfin : decide (xs = ys) = true := by
          have := HALL.out
          rw [List.take_of_length_le (by rw [HX.out.1]; omega), List.take_of_length_le (by rw [HX.out.2]; omega)] at this
          simpa using this
        have HD := Lib.hid hfin
        clear hfin hkn
        go_wp2
        go_ret
        exact ⟨ret_bool HD.out.symm, below_drewN_of (Below.refl _ _) _⟩
  · have hne : ((n : Int) != (m : Int)) = true := by simp; omega
    have hdec : decide (xs = ys) = false := by
      rw [decide_eq_false_iff_not]
      intro e
      exact hnm (by rw [← hx, ← hy, e])
    have HD := Lib.hid hdec
    clear hdec hx hy
    go_enter Try.func19, Try.ntmps19
    go_wp2
    go_ret
    exact ⟨ret_bool HD.out.symm, Below.refl _ _⟩

theorem rrun_any (a b : Int) (w : World) : Calls Try.prog 23 #[.agg #[.int .i64 a, .int .i64 b]] w fun e w' => e = .returned (.bool (decide (okR (a, b)))) ∧ Below w.heap.size w w' := by
  have hB := (Below.refl w.heap.size w).alloc (Nat.le_refl _) (.cells #[.int .i64 a, .int .i64 b] 40)
  by_cases h1 : 0 ≤ a
  · by_cases h2 : a < 1000
    · by_cases h3 : 1 ≤ b
      · by_cases h4 : b ≤ 1000 - a
        · have he : decide (okR (a, b)) = true := decide_eq_true ⟨h1, by simp only; omega, h3, h4⟩
          rw [he]
          clear he
          go_enter Try.func23, Try.ntmps23
          go_wp2
          go_ret
          exact ⟨rfl, hB⟩
        · have he : decide (okR (a, b)) = false := decide_eq_false (fun h => h4 h.2.2.2)
          have hd : decide (b ≤ 1000 - a) = false := decide_eq_false h4
          rw [he]
          clear he
          go_enter Try.func23, Try.ntmps23
          go_wp2
          go_ret
          exact ⟨rfl, hB⟩
      · have he : decide (okR (a, b)) = false := decide_eq_false (fun h => h3 h.2.2.1)
        have hd : decide (1 ≤ b) = false := decide_eq_false h3
        rw [he]
        clear he
        go_enter Try.func23, Try.ntmps23
        go_wp2
        go_ret
        exact ⟨rfl, hB⟩
    · have he : decide (okR (a, b)) = false := decide_eq_false (fun h => h2 (by have := h.2.1; simp only at this; omega))
      have hd : decide (a < 1000) = false := decide_eq_false h2
      rw [he]
      clear he
      go_enter Try.func23, Try.ntmps23
      go_wp2
      go_ret
      exact ⟨rfl, hB⟩
  · have he : decide (okR (a, b)) = false := decide_eq_false (fun h => h1 h.1)
    have hd : decide (0 ≤ a) = false := decide_eq_false h1
    rw [he]
    clear he
    go_enter Try.func23, Try.ntmps23
    go_wp2
    go_ret
    exact ⟨rfl, hB⟩

def Bd (l : List (Int × Int)) : Prop := ∀ p ∈ l, (-9223372036854775808 ≤ p.1 ∧ p.1 ≤ 9223372036854775807) ∧ (-9223372036854775808 ≤ p.2 ∧ p.2 ≤ 9223372036854775807)
theorem bd_ok {l : List Rn} (h : ∀ r ∈ l, okR r) : Bd l := fun r hr => by obtain ⟨a, b, c, d⟩ := h r hr; omega
theorem bd_ch (op : Bool → Bool → Bool) (l : List Rn) (r : Rn) : Bd (chL op l r) := bd_ok (okR_mem (chL_ok op l r))
theorem xAdd_ok (A : Option Addr) (n c : Nat) (l : List (Int × Int)) (a b : Int) (w : World) (hA : RdP w A n (l.map rv)) (hbd : Bd l) (h : chE addB l (a, b) = 0) :
    Calls Try.prog 18 #[.slice A n c, .agg #[.int .i64 a, .int .i64 b]] w fun e w' => (∃ C m c', e = .returned (.tuple #[.slice C m c', .nilIface]) ∧ m ≤ 16 ∧ OwnP w' w.heap.size (.slice C m c') m ((chL addB l (a, b)).map rv)) ∧ Below w.heap.size w w' :=
  (xAdd_any A n c l a b w hA hbd).mono (by
    rintro e w' ⟨hout, hb⟩
    rcases hout with ⟨_, h1⟩ | ⟨h0, _⟩
    · exact ⟨h1, hb⟩
    · exact absurd h h0)
theorem xAdd_bad (A : Option Addr) (n c : Nat) (l : List (Int × Int)) (a b : Int) (w : World) (hA : RdP w A n (l.map rv)) (hbd : Bd l) (h : chE addB l (a, b) ≠ 0) :
    Calls Try.prog 18 #[.slice A n c, .agg #[.int .i64 a, .int .i64 b]] w fun e w' => e = .returned (.tuple #[.slice none 0 0, .iface 23 (.int .i64 (chE addB l (a, b)))]) ∧ Below w.heap.size w w' :=
  (xAdd_any A n c l a b w hA hbd).mono (by
    rintro e w' ⟨hout, hb⟩
    rcases hout with ⟨h0, _⟩ | ⟨_, h1⟩
    · exact absurd h0 h
    · exact ⟨h1, hb⟩)
theorem xCut_ok (A : Option Addr) (n c : Nat) (l : List (Int × Int)) (a b : Int) (w : World) (hA : RdP w A n (l.map rv)) (hbd : Bd l) (h : chE cutB l (a, b) = 0) :
    Calls Try.prog 21 #[.slice A n c, .agg #[.int .i64 a, .int .i64 b]] w fun e w' => (∃ C m c', e = .returned (.tuple #[.slice C m c', .nilIface]) ∧ m ≤ 16 ∧ OwnP w' w.heap.size (.slice C m c') m ((chL cutB l (a, b)).map rv)) ∧ Below w.heap.size w w' :=
  (xCut_any A n c l a b w hA hbd).mono (by
    rintro e w' ⟨hout, hb⟩
    rcases hout with ⟨_, h1⟩ | ⟨h0, _⟩
    · exact ⟨h1, hb⟩
    · exact absurd h h0)
theorem xCut_bad (A : Option Addr) (n c : Nat) (l : List (Int × Int)) (a b : Int) (w : World) (hA : RdP w A n (l.map rv)) (hbd : Bd l) (h : chE cutB l (a, b) ≠ 0) :
    Calls Try.prog 21 #[.slice A n c, .agg #[.int .i64 a, .int .i64 b]] w fun e w' => e = .returned (.tuple #[.slice none 0 0, .iface 23 (.int .i64 (chE cutB l (a, b)))]) ∧ Below w.heap.size w w' :=
  (xCut_any A n c l a b w hA hbd).mono (by
    rintro e w' ⟨hout, hb⟩
    rcases hout with ⟨h0, _⟩ | ⟨_, h1⟩
    · exact absurd h0 h
    · exact ⟨h1, hb⟩)
theorem size_bd (A : Option Addr) (n c : Nat) (l : List (Int × Int)) (w : World) (hA : RdP w A n (l.map rv)) (hbd : Bd l) :
    Calls Try.prog 24 #[.slice A n c] w fun e w' => e = .returned (sizeV l) ∧ Below w.heap.size w w' := size_any A n c l w hA hbd
theorem xcheck_bd (A : Option Addr) (n c : Nat) (l : List (Int × Int)) (w : World) (hA : RdP w A n (l.map rv)) (hbd : Bd l) :
    Calls Try.prog 20 #[.slice A n c] w fun e w' => e = .returned (errR (runsE l)) ∧ Below w.heap.size w w' := xcheck_any A n c l w hA hbd
theorem xhas_bd (A : Option Addr) (n c : Nat) (l : List (Int × Int)) (p : Int) (w : World) (hA : RdP w A n (l.map rv)) (hbd : Bd l) :
    Calls Try.prog 22 #[.slice A n c, .int .i64 p] w fun e w' => e = .returned (hasV l p) ∧ Below w.heap.size w w' := xhas_any A n c l p w hA hbd
/-- A set of runs has one form. -/
theorem uniq : ∀ {l l' : List Rn} {e : Int}, runsLoop e l = 0 → runsLoop e l' = 0 → (∀ p, hasB l p = true ↔ hasB l' p = true) → l = l'
  | [], [], _, _, _, _ => rfl
  | [], r :: t, e, _, h', hp => by
    obtain ⟨⟨_, _, h3, _⟩, _⟩ := runsLoop_cons.1 h'
    have := (hp r.1).2 (by rw [hasB_cons, inR_iff.2 ⟨Int.le_refl _, by omega⟩]; rfl)
    simp [hasB] at this
  | r :: t, [], e, h, _, hp => by
    obtain ⟨⟨_, _, h3, _⟩, _⟩ := runsLoop_cons.1 h
    have := (hp r.1).1 (by rw [hasB_cons, inR_iff.2 ⟨Int.le_refl _, by omega⟩]; rfl)
    simp [hasB] at this
  | r :: t, r' :: t', e, h, h', hp => by
    obtain ⟨⟨_, _, a3, _⟩, _, a5⟩ := runsLoop_cons.1 h
    obtain ⟨⟨_, _, b3, _⟩, _, b5⟩ := runsLoop_cons.1 h'
    have split : ∀ {q : Rn} {s : List Rn} {p : Int}, hasB (q :: s) p = true → inR q p = true ∨ hasB s p = true := fun hh => by rw [hasB_cons, Bool.or_eq_true] at hh; exact hh
    have left : ∀ {q : Rn} {s : List Rn} {p : Int}, inR q p = true → hasB (q :: s) p = true := fun hh => by rw [hasB_cons, hh]; rfl
    have right : ∀ {q : Rn} {s : List Rn} {p : Int}, hasB s p = true → hasB (q :: s) p = true := fun hh => by rw [hasB_cons, hh, Bool.or_true]
    have e1 : r'.1 ≤ r.1 := by
      rcases split ((hp r.1).1 (left (inR_iff.2 ⟨Int.le_refl _, by omega⟩))) with hh | hh
      · exact (inR_iff.1 hh).1
      · have := hasB_low b5 hh; omega
    have e2 : r.1 ≤ r'.1 := by
      rcases split ((hp r'.1).2 (left (inR_iff.2 ⟨Int.le_refl _, by omega⟩))) with hh | hh
      · exact (inR_iff.1 hh).1
      · have := hasB_low a5 hh; omega
    have e3 : r.2 = r'.2 := by
      rcases Int.lt_trichotomy r.2 r'.2 with hh | hh | hh
      · exfalso
        rcases split ((hp (r.1 + r.2)).2 (left (inR_iff.2 ⟨by omega, by omega⟩))) with h1 | h1
        · have := inR_iff.1 h1; omega
        · have := hasB_low a5 h1; omega
      · exact hh
      · exfalso
        rcases split ((hp (r'.1 + r'.2)).1 (left (inR_iff.2 ⟨by omega, by omega⟩))) with h1 | h1
        · have := inR_iff.1 h1; omega
        · have := hasB_low b5 h1; omega
    have er : r = r' := Prod.ext (by omega) e3
    subst er
    rw [uniq a5 b5 (fun p => ⟨fun hh => ?_, fun hh => ?_⟩)]
    · rcases split ((hp p).1 (right hh)) with h1 | h1
      · have := inR_iff.1 h1; have := hasB_low a5 hh; omega
      · exact h1
    · rcases split ((hp p).2 (right hh)) with h1 | h1
      · have := inR_iff.1 h1; have := hasB_low b5 hh; omega
      · exact h1
theorem fact_add : chL addB [(1, 2)] (3, 1) = [(1, 3)] := by
  refine uniq (chL_ok _ _ _) (by decide) (fun p => ?_)
  rw [chL_has]
  simp [hasB, addB, inR]
  omega
theorem fact_cut : chL cutB [(1, 3)] (2, 1) = [(1, 1), (3, 1)] := by
  refine uniq (chL_ok _ _ _) (by decide) (fun p => ?_)
  rw [chL_has]
  simp [hasB, cutB, inR]
  omega
theorem one_run (w : World) (a b : Int) : RdP (w.alloc (.cells #[.int .i64 a, .int .i64 b] 40)) (some ⟨w.heap.size, 0, none⟩) 1 ([(a, b)].map rv) := by
  refine ⟨rfl, by decide, fun _ => ⟨w.heap.size, 0, rfl, by simp, fun k hk => ?_⟩⟩
  obtain rfl : k = 0 := by omega
  simp [rv]

set_option maxHeartbeats 1000000 in
theorem extentFact_any (w : World) : Calls Try.prog 17 #[] w fun e w' => e = .returned (.bool true) ∧ Below w.heap.size w w' := by
  have hR := Lib.hid (one_run w 1 2)
  have hB := (Below.refl w.heap.size w).alloc (Nat.le_refl _) (.cells #[.int .i64 1, .int .i64 2] 40)
  have h1 : chE addB [(1, 2)] (3, 1) = 0 := chE_zero.2 ⟨by decide, by decide, by rw [fact_add]; decide⟩
  have h2 : chE cutB [(1, 3)] (2, 1) = 0 := chE_zero.2 ⟨by decide, by decide, by rw [fact_cut]; decide⟩
  have HE := Lib.hid (And.intro h1 h2)
  have hb1 : Bd [(1, 2)] := bd_ok (by decide)
  have hb2 : Bd [(1, 3)] := bd_ok (by decide)
  have HBD := Lib.hid (And.intro hb1 hb2)
  clear h1 h2 hb1 hb2
  go_enter Try.func17, Try.ntmps17
  go_wp2_with fail
  with_reducible refine (xAdd_ok _ 1 1 [(1, 2)] 3 1 _ hR.out HBD.out.1 HE.out.1).mono ?_
  rintro e w1 ⟨⟨C, m, c', rfl, hm, hown⟩, k1⟩
  have hB1 := hB.trans (k1.mono hB.size)
  rw [fact_add] at hown
  obtain rfl : m = 1 := by have := hown.len; simpa using this.symm
  have hp1 := hown.rd (by decide)
  clear hown
  go_wp2_with fail
  with_reducible refine (xCut_ok _ _ _ [(1, 3)] 2 1 _ hp1 HBD.out.2 HE.out.2).mono ?_
  rintro e w2 ⟨⟨C2, m2, c2, rfl, hm2, hown2⟩, k2⟩
  have hB2 := hB1.trans (k2.mono hB1.size)
  rw [fact_cut] at hown2
  obtain rfl : m2 = 2 := by have := hown2.len; simpa using this.symm
  have hp2 := (hp1.below k2).alloc (.cells #[.int .i64 1, .int .i64 3] 40)
  have hq := one_run w2 1 3
  have hB2' := hB2.alloc hB2.size (.cells #[.int .i64 1, .int .i64 3] 40)
  clear hown2 hp1
  go_wp2_with fail
  with_reducible refine (runs_any _ _ _ _ _ _ _ _ _ hp2 hq).mono ?_
  rintro e w3 ⟨rfl, k3⟩
  rw [show decide (([(1, 3)] : List (Int × Int)) = [(1, 3)]) = true from by decide]
  have hB3 := hB2'.trans (k3.mono hB2'.size)
  go_wp2
  go_ret
  exact ⟨rfl, hB3⟩
end Go.Proofs.Ytllacbogbbbcaaa
