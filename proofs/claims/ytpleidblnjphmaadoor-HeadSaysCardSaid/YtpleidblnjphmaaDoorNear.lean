/- head.Near by its contract. -/
import Derived.Test.YtpleidblnjphmaaDoorNear1
import Derived.Test.YtpleidblnjphmaaDoorSweep
namespace Go.Proofs.YtpleidblnjphmaaDoor
open Go Go.RowKit
set_option maxRecDepth 20000
set_option linter.unusedVariables false

def lenV : Value → Nat
  | .slice _ n _ => n
  | _ => 0
theorem idx_ex {x : Int} : ∀ {ys : List Int}, x ∈ ys → ∃ i, i < ys.length ∧ ys.getD i 0 = x ∧ (∀ j, j < i → ys.getD j 0 ≠ x) ∧ ys.erase x = ys.eraseIdx i
  | y :: r, h => by
    by_cases e : y = x
    · subst e
      exact ⟨0, by simp, rfl, fun j hj => by omega, by simp⟩
    · have hr : x ∈ r := by
        rcases List.mem_cons.1 h with h | h
        · exact absurd h.symm e
        · exact h
      obtain ⟨i, h1, h2, h3, h4⟩ := idx_ex hr
      refine ⟨i + 1, by simpa using h1, by simpa using h2, fun j hj => ?_, ?_⟩
      · rcases j with _ | j
        · simpa using e
        · simpa using h3 j (by omega)
      · rw [List.erase_cons_tail (by simpa using e), h4]; rfl

/-- What the loop of Near holds: the order, what is left, the box. -/
def NrI (w : World) (a : Int) (xs : List Int) (n k : Nat) (wr : World) (left out : Value) (Bn : Nat) : Prop :=
  ∃ A3 c3 A4 c4, out = .slice A3 k c3 ∧ left = .slice A4 (n - k) c4 ∧ Own wr w.heap.size out k (nst a xs k).1 ∧ Own wr w.heap.size left (n - k) (nst a xs k).2.2 ∧ Apt out left ∧
    Boxed wr Bn 3 (.int .i64 (nst a xs k).2.1) ∧ w.heap.size ≤ Bn ∧ out.ownBlock ≠ some Bn ∧ left.ownBlock ≠ some Bn ∧ Below w.heap.size w wr
theorem boxed_below {w w' : World} {B : Nat} {t : TypeId} {v : Value} (h : Boxed w B t v) (hB : Below w.heap.size w w') : Boxed w' B t v := (hB.block B h.lt).trans h
theorem NrI.mid {w wr w1 w2 : World} {a : Int} {xs : List Int} {n k Bn : Nat} {left out out' : Value} {o : Obj} {x : Int} (h : NrI w a xs n k wr left out Bn) (hB1 : Below wr.heap.size wr w1)
    (hg2 : (w1.alloc o).grownBy w2 out.ownBlock) :
    Own w2 w.heap.size left (n - k) (nst a xs k).2.2 ∧ Boxed w2 Bn 3 (.int .i64 (nst a xs k).2.1) ∧ Below w.heap.size w w2 := by
  obtain ⟨A3, c3, A4, c4, e1, e2, ho, hl, hap, hbx, hbn, h1, h2, hB⟩ := h
  refine ⟨apt_keep ((hl.below hB1).alloc o) hap hg2, ((boxed_below hbx hB1).alloc o).kept hg2 (fun e => h1 e.symm), ?_⟩
  have hs := hB.size
  have hs1 := hB1.size
  exact ((hB.trans (hB1.mono hs)).alloc (by omega) o).grown hg2 (by simp; omega) (fun q e => (World.ownsRow.lt ho q e).1)
theorem own_away {w : World} {B n b : Nat} {v : Value} {xs : List Int} (h : Own w B v n xs) (hb : v.ownBlock ≠ some b) (y : Value) : Own (w.setCell ⟨b, 0, none⟩ y) B v n xs :=
  World.ownsRow.kept h (grownBy_setCell' w b y) (.inr hb)
theorem NrI.step {w wr w1 w2 w3 : World} {a : Int} {xs : List Int} {n k Bn : Nat} {left out left' out' : Value} {A3' A4' : Option Addr} {c3' c4' : Nat} {o : Obj} {x : Int} (h : NrI w a xs n k wr left out Bn) (hB1 : Below wr.heap.size wr w1)
    (hx : x = bestI (nst a xs k).2.1 (nst a xs k).2.2) (eo : out' = .slice A3' (k + 1) c3') (el : left' = .slice A4' (n - (k + 1)) c4')
    (hown2 : Own w2 w.heap.size out' (k + 1) ((nst a xs k).1 ++ [x])) (hg2 : (w1.alloc o).grownBy w2 out.ownBlock) (h5 : out'.ownBlock = out.ownBlock ∨ out'.ownBlock = some (w1.alloc o).heap.size)
    (hown3 : Own w3 w.heap.size left' (n - (k + 1)) ((nst a xs k).2.2.erase x)) (hb : left'.ownBlock = left.ownBlock) (hg3 : w2.grownBy w3 left.ownBlock) :
    NrI w a xs n (k + 1) ((w3.setCell ⟨Bn, 0, none⟩ (.int .i64 x)).alloc (.cells #[.int .i64 x] 3)) left' out' (w3.setCell ⟨Bn, 0, none⟩ (.int .i64 x)).heap.size := by
  have hm := h.mid (x := x) (out' := out') hB1 hg2
  obtain ⟨A3, c3, A4, c4, e1, e2, ho, hl, hap, hbx, hbn, h1, h2, hB⟩ := h
  obtain ⟨hl2, hb2, hB2⟩ := hm
  have hap2 : Apt out' left := apt_new ((hl.below hB1).alloc o) hap h5
  have ho3 : Own w3 w.heap.size out' (k + 1) ((nst a xs k).1 ++ [x]) := apt_keep hown2 hap2.swap hg3
  have hap3 : Apt out' left' := fun q hq hq2 => hap2 q hq (hb ▸ hq2)
  have hbn1 : out'.ownBlock ≠ some Bn := by
    rcases h5 with e | e
    · rw [e]; exact h1
    · rw [e]
      intro e'
      injection e' with e'
      have := (boxed_below hbx hB1).lt
      rw [World.size_alloc] at e'
      omega
  have hbn2 : left'.ownBlock ≠ some Bn := by rw [hb]; exact h2
  have hB3 : Below w.heap.size w w3 := hB2.grown hg3 hB2.size (fun q e => (World.ownsRow.lt hl q e).1)
  have e : (nst a xs (k + 1)) = ((nst a xs k).1 ++ [x], x, (nst a xs k).2.2.erase x) := by rw [hx]; rfl
  have hlt : ∀ v m ys, Own w3 w.heap.size v m ys → ∀ q, v.ownBlock = some q → q < (w3.setCell ⟨Bn, 0, none⟩ (.int .i64 x)).heap.size := fun v m ys hv q hq => by
    have := (World.ownsRow.lt hv q hq).2
    simpa using this
  rw [NrI, e]
  refine ⟨A3', c3', A4', c4', eo, el, (own_away ho3 hbn1 _).alloc _, (own_away hown3 hbn2 _).alloc _, hap3, Boxed.new _ _ _, ?_, fun h => ?_, fun h => ?_, ?_⟩
  · have := hB3.size; simpa using this
  · have := hlt _ _ _ ho3 _ h; omega
  · have := hlt _ _ _ hown3 _ h; omega
  · exact (hB3.setCell (p := ⟨Bn, 0, none⟩) hbn _).alloc (by have := hB3.size; simpa using this) _

theorem NrI.start {w w1 : World} {n c1 : Nat} {A1 : Option Addr} {xs : List Int} (a : Int) (hown1 : Own w1 w.heap.size (.slice A1 n c1) n xs) (hB1 : Below w.heap.size w w1) :
    NrI w a xs n 0 (w1.alloc (.cells #[.int .i64 a] 3)) (.slice A1 n c1) (.slice none 0 0) w1.heap.size := by
  refine ⟨none, 0, A1, c1, rfl, rfl, Own.nil _ _, hown1.alloc _, ?_, Boxed.new _ _ _, hB1.size, ?_, ?_, hB1.alloc hB1.size _⟩
  · intro g h
    simp [Value.ownBlock] at h
  · intro h
    simp [Value.ownBlock] at h
  · intro h
    have := (World.ownsRow.lt hown1 _ h).2
    omega
set_option maxHeartbeats 4000000 in
theorem near_ok (A : Option Addr) (n c : Nat) (xs : List Int) (a : Int) (w : World) (hA : Sl w A n c xs) (hE : headE a xs = 0) :
    Calls Tryd.prog 25 #[.int .i64 a, .slice A n c] w fun e w' =>
      ∃ A' c', e = .returned (.tuple #[.int .i64 (farI a (nearL a xs)), .slice A' n c', .nilIface]) ∧ Own w' w.heap.size (.slice A' n c') n (nearL a xs) ∧ Below w.heap.size w w' := by
  have hR : Rd w A n xs := hA.1
  have hl := hR.len
  obtain ⟨h20, htr, hall⟩ := headE_zero hE
  have hxr : ∀ x ∈ xs, Trk x := trk_all hall
  have H0 := Lib.hid (And.intro hl (And.intro h20 (And.intro htr (And.intro hxr hE))))
  have hn20 : n ≤ 20 := by omega
  clear hl htr hall hxr hE
  go_enter Tryd.func25, Tryd.ntmps25
  go_wp2_with fail
  with_reducible refine (hcheck_ok A n c xs a _ hR H0.out.2.2.2.2).mono ?_
  rintro e w' ⟨rfl, rfl⟩
  go_wp2_with fail
  with_reducible refine (clone_any A n c xs _ hA (by omega)).mono ?_
  rintro e w1 ⟨⟨A1, c1, rfl, hown1⟩, hB1⟩
  have hI0 := NrI.start a hown1 hB1
  have HI0 := Lib.hid hI0
  clear hI0 hown1
  go_wp2
  go_loopw [8, 9, 10] (fun lv ov pv wr => ∃ k : Nat, ∃ Bn : Nat, k ≤ n ∧ pv = .pointer (some ⟨Bn, 0, none⟩) ∧ NrI w a xs n k wr lv ov Bn) (fun lv _ _ _ => lenV lv)
  case atStart => exact ⟨0, _, Nat.zero_le _, rfl, HI0.out⟩
  case round =>
    obtain ⟨k, Bn, hk, rfl, hI⟩ := hrel
    clear HI0
    have HI := Lib.hid hI
    obtain ⟨A3, c3, A4, c4, rfl, rfl, ho, hlf, -, hbx, hbn, -, h2, hB⟩ := hI
    by_cases hlt : k < n
    · obtain ⟨-, hnow, hleft⟩ := nst_trk H0.out.2.2.1 H0.out.2.2.2.1 k (by rw [H0.out.1]; exact hk)
      have hyl := (nst_len a xs k (by rw [H0.out.1]; exact hk)).2
      obtain ⟨⟨D, now, ys⟩, hS⟩ : ∃ s, nst a xs k = s := ⟨_, rfl⟩
      have hstep := fun (w1 w2 : World) (o : Obj) (hB1 : Below wr.heap.size wr w1) (hg2 : (w1.alloc o).grownBy w2 (Value.slice A3 k c3).ownBlock) => HI.out.mid (x := now) (out' := .nilIface) hB1 hg2
      rw [hS] at ho hlf hbx hnow hleft hyl hstep
      dsimp only at ho hlf hbx hnow hleft hyl hstep
      rw [H0.out.1] at hyl
      obtain ⟨m, hm⟩ : ∃ m, n - k = m := ⟨_, rfl⟩
      rw [hm] at hlf hstep ⊢
      have hkI : (m : Int) > 0 := by omega
      have hm20 : m ≤ 20 := by omega
      have hr : Rd wr A4 m ys := hlf.rd (by omega) (fun x hx => by have := hleft x hx; unfold Trk at this; omega)
      obtain ⟨g, rfl, -, -, -, -⟩ := hlf.at_ (by omega)
      have hmf := minfunc_any (some ⟨g, 0, none⟩) m c4 Bn now ys wr hr (by omega) hm20 hbx.cell hbx.lt hnow hleft
      have hxm : bestI now ys ∈ ys := bestI_mem (fun h => by rw [h] at hyl; simp at hyl; omega)
      obtain ⟨x, hxe⟩ : ∃ x, bestI now ys = x := ⟨_, rfl⟩
      rw [hxe] at hmf hxm
      obtain ⟨i, hi, hi1, hi2, hi3⟩ := idx_ex hxm
      have hylm : ys.length = m := by omega
      have hxx : Lib.idxOf (ys.take m) x = i := Lib.idxOf_hit ys m i x (by omega) (by omega) hi1 hi2
      have hxt := hleft x hxm
      have HMF := Lib.hid hmf
      have HO := Lib.hid ho
      have HST := Lib.hid hstep
      have HXX := Lib.hid (And.intro hxx (And.intro hi3 (And.intro hxe (And.intro hS hylm))))
      have HBX := Lib.hid (And.intro hbn h2)
      have hbs := hB.size
      have him : i < m := by omega
      clear hlf hmf hxm hxe hi1 hi2 hi3 hxx hS hylm hyl ho hleft hnow hr hstep hbx hi hxt hB h2 hbn
      go_wp2_with fail
      with_reducible refine HMF.out.mono ?_
      rintro e w4 ⟨rfl, hB4⟩
      have hbs4 := hB4.size
      go_wp2_with (at_builtin; refine wpList_app1B rfl _ _ rfl w.heap.size k _ _ rfl ((HO.out.below hB4).alloc _) w4.heap.size x rfl (by simp) (by omega) (by simp; omega) ?_; intro A5 c5 w5 hown5 hg5 h5)
      obtain ⟨hl5, hb5, hB5⟩ := HST.out _ _ _ hB4 hg5
      have hix := Tryd.slices_Index_int g 0 m c4 ys x w5 (by have := HXX.out.2.2.2.2; omega) (by omega) (fun j hj => by
        obtain ⟨g', e, -, -, hc, -⟩ := hl5.at_ (by omega)
        injection e with e
        injection e with e
        subst e
        have := hc j (by have := HXX.out.2.2.2.2; omega)
        simpa using this)
      rw [HXX.out.1] at hix
      have hdel := delete_own hl5 him
      rw [show ((i + 1 : Nat) : Int) = (i : Int) + 1 from rfl, ← HXX.out.2.1] at hdel
      have HH := Lib.hid (And.intro hix hdel)
      have H5 := Lib.hid (And.intro hown5 (And.intro hg5 (And.intro h5 (And.intro hb5 hl5))))
      clear hix hdel hown5 hg5 h5 hb5 hl5
      with_reducible refine HH.out.1.mono ?_
      rintro e w' ⟨rfl, rfl⟩
      go_wp2_with fail
      with_reducible refine HH.out.2.mono ?_
      rintro e w7 ⟨rfl, hown7, hg7⟩
      have hb7 := H5.out.2.2.2.1.kept hg7 (fun e => HBX.out.2 e.symm)
      have hb7c := hb7.cell
      have hb7f := hb7.frozen
      go_wp2
      go_roundw
      case rel =>
        have hs := HXX.out.2.2.2.1
        have hm1 : m - 1 = n - (k + 1) := by omega
        rw [hm1] at hown7 ⊢
        have hn := NrI.step (x := x) (A3' := A5) (c3' := c5) (A4' := some ⟨g, 0, none⟩) (c4' := c4) HI.out hB4 (by rw [hs]; exact HXX.out.2.2.1.symm) rfl rfl (by rw [hs]; exact H5.out.1) H5.out.2.1 H5.out.2.2.1 (by rw [hs]; exact hown7) rfl hg7
        rw [show (w7.setCell ⟨Bn, 0, none⟩ (.int .i64 x)).heap.size = w7.heap.size from by simp] at hn
        exact ⟨k + 1, _, by omega, rfl, hn⟩
      case measure => show m - 1 < m; omega
    · obtain rfl : k = n := by omega
      have hkI : ¬ ((k - k : Nat) : Int) > 0 := by omega
      have hnl : (nst a xs k).1 = nearL a xs := by unfold nearL; rw [H0.out.1]
      rw [hnl] at ho
      have hpm : ∀ t ∈ nearL a xs, Trk t := fun t ht => H0.out.2.2.2.1 t ((nearL_perm a xs).mem_iff.1 ht)
      have hto := told_any A3 k c3 _ a wr (ho.rd (by omega) (fun x hx => by have := hpm x hx; unfold Trk at this; omega)) hn20 H0.out.2.2.1 hpm
      have HTO := Lib.hid (And.intro ho (And.intro hB hto))
      clear ho hlf hbx hbn h2 hB hnl hpm hto
      go_wp2_with fail
      with_reducible refine HTO.out.2.2.mono ?_
      rintro e w7 ⟨rfl, rfl⟩
      go_wp2
      go_ret3
      exact ⟨_, _, rfl, HTO.out.1, HTO.out.2.1⟩

theorem near_bad (A : Option Addr) (n c : Nat) (xs : List Int) (a : Int) (w : World) (hA : Rd w A n xs) (hE : headE a xs ≠ 0) :
    Calls Tryd.prog 25 #[.int .i64 a, .slice A n c] w fun e w' =>
      e = .returned (.tuple #[.int .i64 0, .slice none 0 0, .iface 53 (.int .i64 (headE a xs))]) ∧ w = w' := by
  have hc := hcheck_bad A n c xs a w hA hE
  obtain ⟨E, hEE⟩ : ∃ E, headE a xs = E := ⟨_, rfl⟩
  rw [hEE] at hc ⊢
  have HC := Lib.hid hc
  clear hc hEE hE
  go_enter Tryd.func25, Tryd.ntmps25
  go_wp2_with fail
  with_reducible refine HC.out.mono ?_
  rintro e w' ⟨rfl, rfl⟩
  go_wp2
  go_ret3
  exact ⟨rfl, rfl⟩
theorem first_bad (A : Option Addr) (n c : Nat) (xs : List Int) (a : Int) (w : World) (hA : Rd w A n xs) (hE : headE a xs ≠ 0) :
    Calls Tryd.prog 22 #[.int .i64 a, .slice A n c] w fun e w' =>
      e = .returned (.tuple #[.int .i64 0, .slice none 0 0, .iface 53 (.int .i64 (headE a xs))]) ∧ w = w' := by
  have hc := hcheck_bad A n c xs a w hA hE
  obtain ⟨E, hEE⟩ : ∃ E, headE a xs = E := ⟨_, rfl⟩
  rw [hEE] at hc ⊢
  have HC := Lib.hid hc
  clear hc hEE hE
  go_enter Tryd.func22, Tryd.ntmps22
  go_wp2_with fail
  with_reducible refine HC.out.mono ?_
  rintro e w' ⟨rfl, rfl⟩
  go_wp2
  go_ret3
  exact ⟨rfl, rfl⟩
set_option maxHeartbeats 1000000 in
theorem first_ok (A : Option Addr) (n c : Nat) (xs : List Int) (a : Int) (w : World) (hA : Sl w A n c xs) (hE : headE a xs = 0) :
    Calls Tryd.prog 22 #[.int .i64 a, .slice A n c] w fun e w' =>
      ∃ A' c', e = .returned (.tuple #[.int .i64 (farI a xs), .slice A' n c', .nilIface]) ∧ Own w' w.heap.size (.slice A' n c') n xs ∧ Below w.heap.size w w' := by
  have hR : Rd w A n xs := hA.1
  have hl := hR.len
  obtain ⟨h20, htr, hall⟩ := headE_zero hE
  have hxr : ∀ x ∈ xs, Trk x := trk_all hall
  have H0 := Lib.hid (And.intro hl (And.intro h20 (And.intro htr (And.intro hxr hE))))
  have hn20 : n ≤ 20 := by omega
  clear hl htr hall hxr hE
  go_enter Tryd.func22, Tryd.ntmps22
  go_wp2_with fail
  with_reducible refine (hcheck_ok A n c xs a _ hR H0.out.2.2.2.2).mono ?_
  rintro e w' ⟨rfl, rfl⟩
  go_wp2_with fail
  with_reducible refine (clone_any A n c xs _ hA (by omega)).mono ?_
  rintro e w1 ⟨⟨A1, c1, rfl, hown1⟩, hB1⟩
  have hto := told_any A1 n c1 xs a w1 (hown1.rd (by omega) (fun x hx => by have := H0.out.2.2.2.1 x hx; unfold Trk at this; omega)) hn20 H0.out.2.2.1 H0.out.2.2.2.1
  have HTO := Lib.hid (And.intro hown1 (And.intro hB1 hto))
  clear hown1 hB1 hto
  go_wp2_with fail
  with_reducible refine HTO.out.2.2.mono ?_
  rintro e w7 ⟨rfl, rfl⟩
  go_wp2
  go_ret3
  exact ⟨_, _, rfl, HTO.out.1, HTO.out.2.1⟩
end Go.Proofs.YtpleidblnjphmaaDoor
