/- The reference's Ways by its contract: rows of ints that the call makes, each in a block of its own. -/
import Derived.Test.YtllacbogbbbcaaaDoorOwnR0
import Derived.Test.YtllacbogbbbcaaaDoorPlace
namespace Go.Proofs.YtllacbogbbbcaaaDoor
open Go Go.RowKit
set_option maxRecDepth 20000
set_option linter.unusedVariables false

/-- A row in a block of its own that is not the list's. -/
def RowAt (w : World) (v : Value) (r : RV) : Prop :=
  ∃ g, r.1 = some ⟨g, 0, none⟩ ∧ r.2.2.1 = r.2.1 ∧ g < w.heap.size ∧ some g ≠ v.ownBlock ∧ r.2.2.2.length = r.2.1 ∧ r.2.1 ≤ 3 ∧ (∀ x ∈ r.2.2.2, 0 ≤ x ∧ x ≤ 100) ∧ ∀ k, k < r.2.1 → w.cell? ⟨g, k, none⟩ = some (.int .i64 (r.2.2.2[k]?.getD 0))
def OwnRR (w : World) (B : Nat) (v : Value) (n : Nat) (rs : List RV) : Prop := OwnR w B v n rs ∧ ∀ r ∈ rs, RowAt w v r
theorem OwnRR.nil (w : World) (B : Nat) : OwnRR w B (.slice none 0 0) 0 [] := ⟨OwnR.nil w B, by simp⟩
theorem OwnRR.alloc {w : World} {B n : Nat} {v : Value} {rs : List RV} (h : OwnRR w B v n rs) (o : Obj) : OwnRR (w.alloc o) B v n rs :=
  ⟨h.1.alloc o, fun r hr => by
    obtain ⟨g, h1, h2, h3, h4, h5, h6, h7, h8⟩ := h.2 r hr
    exact ⟨g, h1, h2, by simp; omega, h4, h5, h6, h7, fun k hk => by rw [World.cell?_alloc_lt _ _ ⟨g, k, none⟩ h3]; exact h8 k hk⟩⟩
theorem OwnRR.fresh {w : World} {B n : Nat} {v : Value} {rs : List RV} (h : OwnRR w B v n rs) : some w.heap.size ≠ v.ownBlock := by
  intro e
  have := (World.ownsRow.lt h.1 w.heap.size e.symm).2
  omega
theorem OwnRR.rr {w : World} {B n c : Nat} {A : Option Addr} {rs : List RV} (h : OwnRR w B (.slice A n c) n rs) (hn : n ≤ 100000) : RRows w A n rs := by
  refine h.1.rr (by omega) (fun r hr => ?_)
  obtain ⟨g, h1, h2, h3, h4, h5, h6, h7, h8⟩ := h.2 r hr
  obtain ⟨a, l, c, x⟩ := r
  simp only at h1 h2 h5 h6 h7 h8
  subst h1; subst h2
  exact ⟨Rd.new h5 (Nat.le_trans h6 (by decide)) h3 (fun y hy => by have := h7 y hy; omega) h8, Nat.le_refl _, fun h => by cases h⟩

theorem wpList_app1RR {ops : Array Oper} {rest : List Oper} {o : Oper} {a : Act} {w : World} {Q : Exit → Act → World → Prop} (hgd : o.guard = none) (s x : Operand)
    (ho : o.op = .call { callee := .builtin .append, args := #[s, x], argTypes := #[23, 23] })
    (B n : Nat) (v : Value) (rs : List RV) (hs : a.eval s = v) (hown : OwnRR w B v n rs) (g : Nat) (r : RV) (hx : a.eval x = .slice (some ⟨g, 0, none⟩) 1 1)
    (hc : w.cell? ⟨g, 0, none⟩ = some r.val) (hr : RowAt w v r) (hn : n + 1 ≤ 1000000) (hbase : B ≤ w.heap.size)
    (h : ∀ A' c' w', OwnRR w' B (.slice A' (n + 1) c') (n + 1) (rs ++ [r]) → (∀ B0 W0, B0 ≤ B → Below B0 W0 w → Below B0 W0 w') → wpList Tryd.prog ops Q rest (a.put o.dst (.slice A' (n + 1) c')) w') :
    wpList Tryd.prog ops Q (o :: rest) a w := by
  obtain ⟨i0, hi, hz0, hz1, hz2⟩ := info_parts infoRow
  refine wpList_append_own_at w hgd s x 23 ho B 22 i0 (.slice none 0 0) 1 24 Tryd.underlying23 hi hz0 hz1 hz2 rfl (by decide) v n _ hs hown.1 ⟨g, 0, none⟩ 1 1 [r.val] hx rfl (fun j u hj => ?_) (by simp [Value.oneCell', RV.val])
    (by unfold maxLen; omega) (by omega) hbase (fun v' w' h2 h3 _ h5 => ?_)
  · have hj0 : j = 0 := by
      rcases j with _ | j
      · rfl
      · simp at hj
    subst hj0
    simp at hj
    subst hj
    simpa [Addr.add] using hc
  · have h2' : OwnR w' B v' (n + 1) (rs ++ [r]) := by unfold OwnR; rw [List.map_append]; exact h2
    have hrow : ∀ q, RowAt w v q → RowAt w' v' q := fun q hq => by
      obtain ⟨g, q1, q2, q3, q4, q5, q6, q7, q8⟩ := hq
      refine ⟨g, q1, q2, Nat.lt_of_lt_of_le q3 h3.size, ?_, q5, q6, q7, fun k hk => h3.cell (q8 k hk) q4⟩
      rcases h5 with e | e
      · rw [e]; exact q4
      · rw [e]; intro e2; injection e2 with e2; omega
    obtain ⟨A', c', hv, _⟩ := h2'.form
    subst hv
    refine h A' c' w' ⟨h2', fun q hq => ?_⟩ (fun B0 W0 hB0 hb => hb.grown h3 (Nat.le_trans hB0 hbase) (fun k hk => Nat.le_trans hB0 (World.ownsRow.lt hown.1 k hk).1))
    rcases List.mem_append.1 hq with hq | hq
    · exact hrow q (hown.2 q hq)
    · simp at hq; subst hq; exact hrow q hr

theorem dat_app (a b : List RV) : dat (a ++ b) = dat a ++ dat b := by simp [dat]
/-- The first n ways. -/
def wayL (n : Nat) : List (List Int) := (List.range n).map fun j => ofL ((j : Nat) : Int)
theorem wayL_succ (n : Nat) : wayL (n + 1) = wayL n ++ [ofL (n : Int)] := by unfold wayL; rw [List.range_succ, List.map_append]; rfl
theorem ofL_a {k : Nat} (h : k < 4) : ofL (k : Int) = [(k : Int)] := by unfold ofL; rw [if_pos (by omega)]
theorem ofL_b {k : Nat} (h : k < 4) : ofL ((4 + k : Nat) : Int) = [4, (k : Int)] := by
  unfold ofL
  rw [if_neg (by omega), if_pos (by omega)]
  congr 2; push_cast; omega
theorem ofL_c {k t : Nat} (h : k < 4) (h2 : t < 4) : ofL ((8 + 4 * k + t : Nat) : Int) = [5, (k : Int), (t : Int)] := by
  unfold ofL
  rw [if_neg (by omega), if_neg (by omega)]
  congr 2
  · push_cast; omega
  · congr 1; push_cast; omega

theorem row_new {w : World} {v : Value} {B n : Nat} {rs : List RV} (h : OwnRR w B v n rs) (xs : List Int) (L : Nat) (cs : Array Value) (o : Obj) (hl : xs.length = L) (h3 : L ≤ 3) (hx : ∀ x ∈ xs, 0 ≤ x ∧ x ≤ 100)
    (hc : ∀ k, k < L → (w.alloc (.cells cs 3)).cell? ⟨w.heap.size, k, none⟩ = some (.int .i64 (xs[k]?.getD 0))) :
    RowAt ((w.alloc (.cells cs 3)).alloc o) v (some ⟨w.heap.size, 0, none⟩, L, L, xs) :=
  ⟨w.heap.size, rfl, rfl, by simp; omega, h.fresh, hl, h3, hx, fun k hk => by
    rw [World.cell?_alloc_lt _ _ ⟨w.heap.size, k, none⟩ (by simp)]; exact hc k hk⟩

set_option maxHeartbeats 4000000 in
theorem ways_any (w : World) : Calls Tryd.prog 8 #[] w fun e w' => (∃ C c' rs, e = .returned (.slice C 24 c') ∧ RRows w' C 24 rs ∧ dat rs = wayL 24) ∧ Below w.heap.size w w' := by
  go_enter Tryd.func8, Tryd.ntmps8
  go_wp2
  go_loopw [1, 2] (fun v i wr => ∃ (k : Nat) (C : Option Addr) (c' : Nat) (rs : List RV), k ≤ 4 ∧ i = .int .i64 k ∧ v = .slice C k c' ∧ OwnRR wr w.heap.size (.slice C k c') k rs ∧ dat rs = wayL k ∧ Below w.heap.size w wr) (fun _ i _ => 4 - (intOf i).toNat)
  case atStart => exact ⟨0, none, 0, [], by omega, rfl, rfl, OwnRR.nil _ _, rfl, Below.refl _ _⟩
  case round =>
    obtain ⟨k, C, c', rs, hk, rfl, rfl, hown, hdat, hbel⟩ := hrel
    have HD := Lib.hid hdat
    clear hdat
    by_cases hlt : k < 4
    · have hkI : (k : Int) < 4 := by omega
      have hbs := hbel.size
      have hrow := fun o => row_new hown [(k : Int)] 1 #[.int .i64 k] o rfl (by omega) (by simp; omega) (fun j hj => by
        obtain rfl : j = 0 := by omega
        simp)
      have HROW := Lib.hid hrow
      clear hrow
      go_wp2_with (at_builtin; refine wpList_app1RR rfl _ _ rfl w.heap.size k _ _ rfl ((hown.alloc _).alloc _) (wr.heap.size + 1) (some ⟨wr.heap.size, 0, none⟩, 1, 1, [(k : Int)]) rfl (by simp [RV.val]) (HROW.out _) (by omega) (by simp; omega) ?_; intro A2 c2 w4 hown4 hbel4)
      have hq4 := hbel4 w.heap.size w (Nat.le_refl _) ((hbel.alloc hbs _).alloc (by simp; omega) _)
      go_roundw
      case rel => exact ⟨k + 1, A2, c2, _, by omega, by go_num, rfl, hown4, by rw [dat_app, HD.out, wayL_succ, ofL_a hlt]; rfl, hq4⟩
      case measure => simp [intOf]; omega
    · obtain rfl : k = 4 := by omega
      rw [show ((4 : Nat) : Int) = 4 from rfl]
      go_wp2
      go_loopw [1, 3] (fun v i wr => ∃ (k : Nat) (C : Option Addr) (c' : Nat) (rs : List RV), k ≤ 4 ∧ i = .int .i64 k ∧ v = .slice C (4 + k) c' ∧ OwnRR wr w.heap.size (.slice C (4 + k) c') (4 + k) rs ∧ dat rs = wayL (4 + k) ∧ Below w.heap.size w wr) (fun _ i _ => 4 - (intOf i).toNat)
      case atStart => exact ⟨0, C, c', rs, by omega, rfl, rfl, hown, HD.out, hbel⟩
      case round =>
        obtain ⟨k, C, c', rs, hk, rfl, rfl, hown, hdat, hbel⟩ := hrel
        have HD := Lib.hid hdat
        clear hdat
        by_cases hlt : k < 4
        · have hkI : (k : Int) < 4 := by omega
          have hbs := hbel.size
          have hrow := fun o => row_new hown [4, (k : Int)] 2 #[.int .i64 4, .int .i64 k] o rfl (by omega) (by simp; omega) (fun j hj => by
            rcases (by omega : j = 0 ∨ j = 1) with rfl | rfl <;> simp)
          have HROW := Lib.hid hrow
          clear hrow
          go_wp2_with (at_builtin; refine wpList_app1RR rfl _ _ rfl w.heap.size (4 + k) _ _ rfl ((hown.alloc _).alloc _) (wr.heap.size + 1) (some ⟨wr.heap.size, 0, none⟩, 2, 2, [4, (k : Int)]) rfl (by simp [RV.val]) (HROW.out _) (by omega) (by simp; omega) ?_; intro A2 c2 w4 hown4 hbel4)
          have hq4 := hbel4 w.heap.size w (Nat.le_refl _) ((hbel.alloc hbs _).alloc (by simp; omega) _)
          go_roundw
          case rel => exact ⟨k + 1, A2, c2, _, by omega, by go_num, rfl, hown4, by rw [dat_app, HD.out, show 4 + (k + 1) = (4 + k) + 1 from rfl, wayL_succ, ofL_b hlt]; rfl, hq4⟩
          case measure => simp [intOf]; omega
        · obtain rfl : k = 4 := by omega
          rw [show ((4 : Nat) : Int) = 4 from rfl]
          go_wp2
          go_loopw [1, 4] (fun v i wr => ∃ (k : Nat) (C : Option Addr) (c' m : Nat) (rs : List RV), m = 8 + 4 * k ∧ k ≤ 4 ∧ i = .int .i64 k ∧ v = .slice C m c' ∧ OwnRR wr w.heap.size (.slice C m c') m rs ∧ dat rs = wayL m ∧ Below w.heap.size w wr) (fun _ i _ => 4 - (intOf i).toNat)
          case atStart => exact ⟨0, C, c', _, rs, rfl, by omega, rfl, rfl, hown, HD.out, hbel⟩
          case round =>
            obtain ⟨k, C, c', m, rs, hm, hk, rfl, rfl, hown, hdat, hbel⟩ := hrel
            have HD := Lib.hid hdat
            clear hdat
            by_cases hlt : k < 4
            · have hkI : (k : Int) < 4 := by omega
              have HM := Lib.hid hm
              clear hm
              go_wp2
              go_loopw [1, 5] (fun v i wr => ∃ (t : Nat) (C : Option Addr) (c' m' : Nat) (rs : List RV), m' = 8 + 4 * k + t ∧ t ≤ 4 ∧ i = .int .i64 t ∧ v = .slice C m' c' ∧ OwnRR wr w.heap.size (.slice C m' c') m' rs ∧ dat rs = wayL m' ∧ Below w.heap.size w wr) (fun _ i _ => 4 - (intOf i).toNat)
              case atStart => exact ⟨0, C, c', m, rs, HM.out, by omega, rfl, rfl, hown, HD.out, hbel⟩
              case round =>
                obtain ⟨t, C, c', m', rs, hm, ht, rfl, rfl, hown, hdat, hbel⟩ := hrel
                have HD := Lib.hid hdat
                clear hdat
                by_cases hlt2 : t < 4
                · have htI : (t : Int) < 4 := by omega
                  have hbs := hbel.size
                  have hrow := fun o => row_new hown [5, (k : Int), (t : Int)] 3 #[.int .i64 5, .int .i64 k, .int .i64 t] o rfl (by omega) (by simp; omega) (fun j hj => by
                    rcases (by omega : j = 0 ∨ j = 1 ∨ j = 2) with rfl | rfl | rfl <;> simp)
                  have HROW := Lib.hid hrow
                  have HM2 := Lib.hid hm
                  have hm30 : m' ≤ 30 := by omega
                  clear hrow hm
                  go_wp2_with (at_builtin; refine wpList_app1RR rfl _ _ rfl w.heap.size m' _ _ rfl ((hown.alloc _).alloc _) (wr.heap.size + 1) (some ⟨wr.heap.size, 0, none⟩, 3, 3, [5, (k : Int), (t : Int)]) rfl (by simp [RV.val]) (HROW.out _) (by omega) (by simp; omega) ?_; intro A2 c2 w4 hown4 hbel4)
                  have hq4 := hbel4 w.heap.size w (Nat.le_refl _) ((hbel.alloc hbs _).alloc (by simp; omega) _)
                  go_roundw
                  case rel => exact ⟨t + 1, A2, c2, m' + 1, _, by rw [HM2.out]; omega, by omega, by go_num, rfl, hown4, by rw [dat_app, HD.out, wayL_succ, HM2.out, ofL_c hlt hlt2]; rfl, hq4⟩
                  case measure => simp [intOf]; omega
                · have ht4 : t = 4 := by omega
                  have HM2 := Lib.hid (show m' = 8 + 4 * (k + 1) by omega)
                  have htI : ¬ (t : Int) < 4 := by omega
                  clear hm ht4
                  go_wp2
                  go_roundw
                  case rel => exact ⟨k + 1, C, c', m', rs, HM2.out, by omega, by go_num, rfl, hown, HD.out, hbel⟩
                  case measure => simp [intOf]; omega
            · obtain rfl : k = 4 := by omega
              obtain rfl : m = 24 := by omega
              have hrr := hown.rr (by omega)
              have HRR := Lib.hid (And.intro hrr HD.out)
              rw [show ((4 : Nat) : Int) = 4 from rfl]
              clear hrr hown hm
              go_wp2
              go_ret
              exact ⟨⟨C, c', rs, rfl, HRR.out.1, HRR.out.2⟩, hbel⟩
end Go.Proofs.YtllacbogbbbcaaaDoor
