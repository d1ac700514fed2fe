/- Parity and Reed-Solomon reconstruction agree, and two data shards combine as in the field: TopArray answers true at every slice of ints and every int. Conditions: none beside the row's own. -/
import Derived.Test.YtdhfckdnfppieaaReedD
import Derived.Test.YtdhfckdnfppieaaParAgain
import Derived.Test.YtdhfckdnfppieaaRowKp
import Derived.Test.YtdhfckdnfppieaaTIn
import Derived.Test.YtdhfckdnfppieaaRSet
import Derived.Test.YtdhfckdnfppieaaXor
import Derived.Test.YtdhfckdnfppieaaOpen
import Derived.Deep.QuietTactic
import Derived.BigQuiet
namespace Go.Proofs.Ytdhfckdnfppieaa.topArray
open Go Go.ChangeShapes Go.WideShapes Go.ChangeAt Go.RowKit
set_option linter.unusedVariables false
set_option maxRecDepth 100000

/-! ### Plain -/
theorem again_row {m : Nat} {l : List (List Int)} {k : Nat} (hk : k < l.length) (hl : ∀ r ∈ l, Bytes m r) : againI l (parF m l) k = l[k] := by
  have hx : Bytes m l[k] := hl _ (List.getElem_mem hk)
  have hQl : ∀ r ∈ l.eraseIdx k, Bytes m r := fun r hr => hl r (List.mem_of_mem_eraseIdx hr)
  have hQ := parF_bytes hQl
  have hP := parF_bytes hl
  have hD : ∀ r ∈ l.drop (k + 1), Bytes m r := fun r hr => hl r (List.mem_of_mem_drop hr)
  have p1 : parF m l = zx (parF m (l.take k)) (zx l[k] (parF m (l.drop (k + 1)))) := by
    conv => lhs; rw [← List.take_append_drop k l, List.drop_eq_getElem_cons hk]
    rw [parF_append _ _ (by intro r hr; rcases List.mem_cons.1 hr with rfl | hr; exact hx; exact hD r hr), parF_cons]
  have p2 : parF m (l.eraseIdx k) = zx (parF m (l.take k)) (parF m (l.drop (k + 1))) := by
    rw [List.eraseIdx_eq_take_drop_succ, parF_append _ _ hD]
  have p3 : parF m l = zx l[k] (parF m (l.eraseIdx k)) := by rw [p1, p2, ← zx_assoc, ← zx_assoc, zx_comm (parF m (l.take k))]
  unfold againI
  have hf := fold_zx (parF m l) (l.eraseIdx k) (zeros m)
  rw [zx_comm, zx_zeros hP] at hf
  rw [hf]
  change zx (parF m l) (parF m (l.eraseIdx k)) = _
  rw [p3, zx_assoc, zx_self hQ.1, zx_comm, zx_zeros hx]
def rowsL (xs : List Int) (q : Nat) : List (List Int) := (xs.take q).map fun x => [x]
theorem rowsL_succ {xs : List Int} {q : Nat} (h : q < xs.length) : rowsL xs (q + 1) = rowsL xs q ++ [[xs[q]?.getD 0]] := by
  unfold rowsL
  rw [List.take_succ_eq_append_getElem h, List.map_append, List.getElem?_eq_getElem h]; rfl
theorem rowsL_len {xs : List Int} {q : Nat} (h : q ≤ xs.length) : (rowsL xs q).length = q := by unfold rowsL; rw [List.length_map, List.length_take]; omega
theorem rows_iff {xs : List Int} {q : Nat} (h : q ≤ xs.length) (h2 : xs.length ≤ q ∨ q = 9) : rowsE (rowsL xs q) = 0 ↔ makeE xs 1 = 0 := by
  have hl := rowsL_len h
  constructor
  · intro h0
    obtain ⟨h3, h4, h5⟩ := rowsE_zero.1 h0
    have hq : q = xs.length := by omega
    have hb : bytesE xs 8 = 0 := by
      refine bytesE_zero.2 ⟨by omega, allB_mem.2 fun x hx => ?_⟩
      have := (h5 [x] (by unfold rowsL; rw [List.take_of_length_le (by omega)]; exact List.mem_map.2 ⟨x, hx, rfl⟩)).1
      exact allB_mem.1 (bytesE_zero.1 this).2 x (by simp)
    unfold makeE
    rw [if_neg (by omega), if_neg (by simp [hb]), if_pos (by omega)]
  · intro h0
    obtain ⟨h3, h4, h5, _, _⟩ := makeE_zero h0
    refine (rowsE_ok (m := 1) (by omega) (by omega) (by omega) fun r hr => ?_).1
    obtain ⟨x, hx, rfl⟩ := List.mem_map.1 hr
    exact ⟨rfl, fun y hy => by
      simp at hy
      subst hy
      exact allB_mem.1 h5 y (List.mem_of_mem_take hx)⟩
theorem two_val {x y : Int} (hx : Byte x) (hy : Byte y) : valI [x, y] 2 = xorI (mulI 3 x) (mulI 2 y) := by
  have hx' : x.toNat < 256 := by have := hx.2; omega
  have hy' : y.toNat < 256 := by have := hy.2; omega
  rw [valI_nat]
  have e : valN [x, y] 2 = mulN 3 x.toNat ^^^ mulN 2 y.toNat := by
    show (0 ^^^ mulN (mulN x.toNat (2 ^^^ 1)) (invN (0 ^^^ 1))) ^^^ mulN (mulN y.toNat (2 ^^^ 0)) (invN (1 ^^^ 0)) = _
    have i1 : invN 1 = 1 := by decide +kernel
    rw [show (2 ^^^ 1 : Nat) = 3 from rfl, show (0 ^^^ 1 : Nat) = 1 from rfl, show (2 ^^^ 0 : Nat) = 2 from rfl, show (1 ^^^ 0 : Nat) = 1 from rfl, i1, mul_one (mul_lt hx'), mul_one (mul_lt hy'), Nat.zero_xor, mul_comm hx' (by decide), mul_comm hy' (by decide)]
  rw [e]
  unfold xorI mulI
  rw [Int.toNat_natCast, Int.toNat_natCast]; rfl
theorem any_post {xs zs : List Int} {p m B : Nat} {e : Ending} {w' : World} (hx : ∀ x ∈ xs, 0 ≤ x ∧ x ≤ 255) (h256 : xs.length + p ≤ 256) (hL : Left xs p m zs) (hm : m ≤ p) (h : AgPost zs xs.length (xs.length + p) B e w') :
    ∃ C c', e = .returned (.tuple #[.slice C (xs.length + p) c', .nilIface]) ∧ Own w' B (.slice C (xs.length + p) c') (xs.length + p) (shards xs p) := by
  have hg := hL.got hm
  rw [hL.len] at hg
  rcases h with ⟨h1, _⟩ | ⟨_, ⟨i, h2, h3⟩, _⟩ | ⟨_, _, C, c', h4, h5⟩
  · omega
  · exact absurd h3 (hL.good hx h256 hm i h2)
  · rw [out_shards hx h256 fun i hi => hL.ag hx h256 hm hi] at h5
    exact ⟨C, c', h4, h5⟩
theorem shards_data {xs : List Int} {p k : Nat} (hk : k < xs.length) : (shards xs p)[k]?.getD 0 = xs[k]?.getD 0 := by
  unfold shards; rw [List.getElem?_append_left hk]

/-! ### Rows of one byte, made by the call -/
theorem own_one (w : World) (B : Nat) (x : Int) (hB : B ≤ w.heap.size) : Own (w.alloc (.cells #[.int .i64 x] 3)) B (.slice (some ⟨w.heap.size, 0, none⟩) 1 1) 1 [x] :=
  ⟨rfl, .inr ⟨w.heap.size, 1, #[.int .i64 x], rfl, hB, heap_alloc_new w _, Nat.le_refl _, by unfold maxLen; omega, rfl, rfl⟩⟩
def RowsA (w wr : World) (v : Value) (k : Nat) (xs : List Int) (rs : List RV) : Prop := OwnK wr w.heap.size v k rs ∧ dat rs = rowsL xs k ∧ Below w.heap.size w wr
theorem RowsA.next {w wr w5 : World} {v : Value} {k c : Nat} {xs : List Int} {rs : List RV} {A : Option Addr} (h : RowsA w wr v k xs rs) (hk : k < xs.length) (o : Obj)
    (hown : OwnR w5 w.heap.size (.slice A (k + 1) c) (k + 1) (rs ++ [(some ⟨wr.heap.size, 0, none⟩, 1, 1, [xs[k]?.getD 0])]))
    (hkp : Kp ((wr.alloc (.cells #[.int .i64 (xs[k]?.getD 0)] 3)).alloc o) w5) (hb : Below w.heap.size w w5) : RowsA w w5 (.slice A (k + 1) c) (k + 1) xs (rs ++ [(some ⟨wr.heap.size, 0, none⟩, 1, 1, [xs[k]?.getD 0])]) := by
  refine ⟨⟨hown, fun r hr => ?_⟩, ?_, hb⟩
  · rcases List.mem_append.1 hr with hr | hr
    · exact (((h.1.2 r hr).alloc _).alloc o).kp hkp
    · simp at hr
      subst hr
      exact ((own_one wr w.heap.size _ h.2.2.size).alloc o).kp hkp
  · rw [rowsL_succ hk, ← h.2.1]; simp [dat]
theorem RowsA.rr {w wr : World} {A : Option Addr} {k c : Nat} {xs : List Int} {rs : List RV} (h : RowsA w wr (.slice A k c) k xs rs) (hk : k ≤ 9) (hx : ∀ x ∈ xs, -9223372036854775808 ≤ x ∧ x ≤ 9223372036854775807) : RRows wr A k rs ∧ k ≤ c := by
  refine ⟨h.1.1.rr (by omega) fun r hr => ?_, h.1.1.cap⟩
  have hd : r.2.2.2 ∈ rowsL xs k := by rw [← h.2.1]; exact List.mem_map.2 ⟨r, hr, rfl⟩
  obtain ⟨x, hx1, hx2⟩ := List.mem_map.1 hd
  have ho := h.1.2 r hr
  have hl : r.2.2.2.length = r.2.1 := Own.len ho
  rw [← hx2] at hl
  have h1 : r.2.1 = 1 := hl.symm
  exact Own.sl ho (by omega) (fun y hy => by
    rw [← hx2] at hy
    simp at hy
    subst hy
    exact hx y (List.mem_of_mem_take hx1))

set_option maxHeartbeats 8000000 in
theorem walk (w : World) (A : Option Addr) (n c : Nat) (xs : List Int) (hA : Sl w A n c xs) (k : Int) (hk : -9223372036854775808 ≤ k ∧ k ≤ 9223372036854775807) :
    Calls Try.prog 11 #[.slice A n c, .int .i64 k] w fun e w' => e = .returned (.bool true) ∧ Below w.heap.size w w' := by
  have hlx := hA.1.len
  have hmax := hA.1.max
  have hrng := hA.1.2.2.1
  have HA := Lib.hid hA
  have HX := Lib.hid (And.intro hlx hrng)
  have hRA := hA.1
  have hS1 : Sl (w.alloc (.cells #[.int .i64 5, .int .i64 5] 3)) (some ⟨w.heap.size, 0, none⟩) 2 2 [5, 5] := ⟨rd_two w 5 5 (by decide) (by decide), Nat.le_refl _, fun h => by cases h⟩
  have hmk := make_ok _ 2 2 [5, 5] 1 _ hS1 (by decide +kernel)
  rw [show shards [5, 5] 1 = [5, 5, 5] from by decide +kernel] at hmk
  have HMK := Lib.hid hmk
  clear hmk hS1 hA hlx hrng
  go_enter Try.func11, Try.ntmps11
  go_wp2_with fail
  refine HMK.out.mono ?_
  rintro e w1 ⟨⟨C, c1, rfl, hown1⟩, k1⟩
  have hB := ((Below.refl w.heap.size w).alloc (Nat.le_refl _) (.cells #[.int .i64 5, .int .i64 5] 3)).trans (k1.mono (by simp))
  obtain ⟨g, rfl, _, hgl, hgc, _⟩ := hown1.at_ (by decide)
  have hg2 : w1.cell? ⟨g, 2, none⟩ = some (.int .i64 5) := hgc 2 (by decide)
  clear k1 HMK hgc hown1
  go_wp2
  go_loopw [7, 8] (fun v i wr => ∃ (q : Nat) (C : Option Addr) (c' : Nat) (rs : List RV), q ≤ n ∧ q ≤ 9 ∧ i = .int .i64 q ∧ v = .slice C q c' ∧ RowsA w1 wr (.slice C q c') q xs rs) (fun _ i _ => n - (intOf i).toNat)
  case atStart => exact ⟨0, none, 0, [], Nat.zero_le _, Nat.zero_le _, rfl, rfl, OwnK.nil _ _, rfl, Below.refl _ _⟩
  case round =>
    obtain ⟨q, C, c', rs, hq, hq9, rfl, rfl, hra⟩ := hrel
    have HR := Lib.hid hra
    have hbel := hra.2.2
    have hownr := hra.1.1
    clear hra
    by_cases hgo : q < n ∧ q < 9
    · obtain ⟨hqn, hq9'⟩ := hgo
      have hqI : (q : Int) < (n : Int) := by omega
      have hq9I : (q : Int) < 9 := by omega
      obtain ⟨b, off, rfl, hbl, hcc⟩ := hRA.at_ (by omega)
      have hbb := hB.trans (hbel.mono hB.size)
      have g1 := (hbb.cell (p := ⟨b, off + q, none⟩) hbl).trans (hcc q hqn)
      have hnext := fun A c w5 o h => HR.out.next (A := A) (c := c) (w5 := w5) (by rw [HX.out.1]; exact hqn) o h
      obtain ⟨x, hx⟩ : ∃ x, xs[q]?.getD 0 = x := ⟨_, rfl⟩
      rw [hx] at g1 hnext
      have HN := Lib.hid hnext
      have hbs := hbel.size
      clear hcc hx hnext
      go_wp2_with (at_builtin; refine wpList_app1K rfl _ _ rfl w1.heap.size q _ rs rfl ((hownr.alloc _).alloc _) (wr.heap.size + 1) (some ⟨wr.heap.size, 0, none⟩, 1, 1, [x]) rfl (by simp [RV.val]) (by omega) (by simp; omega) ?_; intro A3 c3 w5 hown5 hbel5 hkp5)
      have hq5 := hbel5 w1.heap.size w1 (Nat.le_refl _) ((hbel.alloc hbs _).alloc (by simp; omega) _)
      have hfin := HN.out A3 c3 w5 _ hown5 hkp5 hq5
      have HF := Lib.hid hfin
      clear hfin hown5 hkp5
      go_roundw
      case rel => exact ⟨q + 1, A3, c3, _, by omega, by omega, by go_num, rfl, HF.out⟩
      case measure => simp [intOf]; omega
    · obtain ⟨W, rfl⟩ : ∃ W, W = wr := ⟨wr, rfl⟩
      have hBW := hB.trans (hbel.mono hB.size)
      have hiff := rows_iff (xs := xs) (q := q) (by rw [HX.out.1]; exact hq) (by rw [HX.out.1]; omega)
      obtain ⟨hrr, hcap⟩ := HR.out.rr hq9 HX.out.2
      have hdat := HR.out.2.1
      have hAW := HA.out.below hBW
      have hex : (¬ (q : Int) < (n : Int)) ∨ ((q : Int) < (n : Int) ∧ ¬ (q : Int) < 9) := by omega
      have HD := Lib.hid hdat
      have HAW := Lib.hid hAW
      clear hdat hAW
      by_cases he : makeE xs 1 = 0
      · have he2 := hiff.2 he
        obtain ⟨a1, a2, a3, _, _⟩ := makeE_zero he
        rw [HX.out.1] at a1 a2
        obtain rfl : n = q := by omega
        have hqI : ¬ (n : Int) < (n : Int) := by omega
        have hxb := allB_mem.1 a3
        have hoE : rowsE (dat rs) = 0 := by rw [HD.out]; exact he2
        have hbyr : ∀ r ∈ dat rs, Bytes 1 r := fun r hr => by
          rw [HD.out] at hr
          obtain ⟨x, hx, rfl⟩ := List.mem_map.1 hr
          exact ⟨rfl, fun y hy => by simp at hy; subst hy; exact hxb y (List.mem_of_mem_take hx)⟩
        have hdl : (dat rs).length = n := by rw [HD.out, rowsL_len (by rw [HX.out.1]; omega)]
        have hm1 : ((dat rs)[0]?.getD []).length = 1 := by
          rw [List.getElem?_eq_getElem (by omega)]; exact (hbyr _ (List.getElem_mem _)).1
        have hP := parI_eq (by omega) hbyr
        have hPb : Bytes 1 (parI (dat rs)) := by rw [hP]; exact parF_bytes hbyr
        have hof := of_ok C n c' rs W hrr hcap hoE 1 hm1
        have hmkd := fun wx h => make_ok A n c xs 1 wx h he
        have HOF := Lib.hid hof
        have HMK := Lib.hid (show ∀ wx, Sl wx A n c xs → Calls Try.prog 20 #[.slice A n c, .int .i64 1] wx fun e w' => (∃ C c', e = .returned (.tuple #[.slice C (n + 1) c', .nilIface]) ∧ Own w' wx.heap.size (.slice C (n + 1) c') (n + 1) (shards xs 1)) ∧ Below wx.heap.size wx w' from hmkd)
        have HALL := Lib.hid (And.intro hxb (And.intro hoE (And.intro hm1 (And.intro hPb (And.intro hP (And.intro hbyr hdl))))))
        have hsb := shards_bytes hxb 1
        have HSB := Lib.hid hsb
        clear he he2 hiff a3 hxb hoE hbyr hm1 hP hPb hof hmkd hsb hex hgo hdl
        have hne1 : ((n : Int) + 1 != (n : Int) + 1) = false := by simp
        by_cases hkin : 0 ≤ k ∧ k ≤ (n : Int) - 1
        · obtain ⟨k0, k1⟩ := hkin
          obtain ⟨j, rfl⟩ := Int.eq_ofNat_of_zero_le k0
          have hj : j < n := by omega
          have hjI : (j : Int) < (n : Int) := by omega
          have hjI1 : (j : Int) < (n : Int) + 1 := by omega
          have hj0 : (0 : Int) ≤ (j : Int) := by omega
          have hjd : j < (dat rs).length := by rw [HALL.out.2.2.2.2.2.2]; exact hj
          have hjx : j < xs.length := by rw [HX.out.1]; exact hj
          have hag : againI (dat rs) (parI (dat rs)) j = [xs[j]?.getD 0] := by
            rw [HALL.out.2.2.2.2.1, again_row hjd HALL.out.2.2.2.2.2.1]
            simp only [HD.out, rowsL, List.getElem_map, List.getElem_take, List.getElem?_eq_getElem hjx]; rfl
          have hL := (Left.first HALL.out.1 1).next (i := j) (by rw [HX.out.1]; omega) (get_sh HALL.out.1 j).1
          have hLb := hL.bytes HALL.out.1
          have hall : allB ((shards xs 1).set j (-1)) (-1) 255 = true := allB_mem.2 hLb
          have hap := fun e w' B h => any_post (e := e) (w' := w') (B := B) HALL.out.1 (by rw [HX.out.1]; omega) hL (by omega) h
          rw [HX.out.1] at hap
          have hsd := shards_data (xs := xs) (p := 1) (k := j) (by rw [HX.out.1]; exact hj)
          have hxj := HALL.out.1 (xs[j]?.getD 0) (by rw [List.getElem?_eq_getElem (by rw [HX.out.1]; exact hj)]; exact List.getElem_mem _)
          have h2v : n = 2 → (shards xs 1)[2]?.getD 0 = xorI (mulI 3 (xs[0]?.getD 0)) (mulI 2 (xs[1]?.getD 0)) := fun h2 => by
            have hx2 : xs = [xs[0]?.getD 0, xs[1]?.getD 0] := getD_ext (by rw [HX.out.1, h2]; rfl) (fun i hi => by
              rw [HX.out.1] at hi
              rcases (by omega : i = 0 ∨ i = 1) with rfl | rfl <;> rfl)
            have hb0 : ∀ i, i < 2 → Byte (xs[i]?.getD 0) := fun i hi => HALL.out.1 _ (by
              rw [List.getElem?_eq_getElem (by rw [HX.out.1]; omega)]; exact List.getElem_mem _)
            rw [shards_get HALL.out.1 (by rw [HX.out.1]; omega) (by rw [HX.out.1]; omega)]
            conv => lhs; rw [hx2]
            exact two_val (hb0 0 (by omega)) (hb0 1 (by omega))
          have HAP := Lib.hid hap
          have HLB := Lib.hid (And.intro hLb hall)
          have HSD := Lib.hid hsd
          have H2V := Lib.hid h2v
          have HAG := Lib.hid hag
          have hxw := hRA
          obtain ⟨b, off, rfl, hbl, hcc⟩ := hRA.at_ (by omega)
          have HCC := Lib.hid hcc
          clear hag hjd hjx hL hLb hall hap hsd h2v hcc hRA hxw
          go_wp2_with fail
          with_reducible refine HOF.out.mono ?_
          rintro e w2 ⟨⟨P, cp, rfl, hownP⟩, q2⟩
          have hB2 := hBW.trans (q2.mono hBW.size)
          have hrr2 := hrr.below q2
          go_wp2_with fail
          have hAx := HAW.out.below q2
          with_reducible refine (HMK.out _ hAx).mono ?_
          rintro e w3 ⟨⟨S, cs, rfl, hownS⟩, q3⟩
          have hB3 := hB2.trans (q3.mono hB2.size)
          have hrr3 := hrr2.below q3
          have hSP : Sl w3 P 1 cp (parI (dat rs)) := (hownP.below q3).sl (by omega) (fun x hx => by have := HALL.out.2.2.2.1.2 x hx; omega)
          clear q2 q3 hownP hrr2 hAx
          go_wp2_with fail
          with_reducible refine (tin_yes _ _ _ _ k0 k1).mono ?_
          rintro e w' ⟨rfl, rfl⟩
          go_wp2_with fail
          with_reducible refine (again_ok C n c' rs P 1 cp _ j _ hrr3 hSP hj HALL.out.2.1 HALL.out.2.2.1 HALL.out.2.2.2.1).mono ?_
          rintro e w4 ⟨⟨Q, cq, rfl, hownQ⟩, q4⟩
          rw [HAG.out] at hownQ
          have hB4 := hB3.trans (q4.mono hB3.size)
          have hownS4 := hownS.below q4
          clear q4 hrr3 hSP hownS
          have hRS : Rd w4 S (n + 1) (shards xs 1) := hownS4.rd (by omega) (fun x hx => by have := HSB.out x hx; omega)
          go_wp2_with fail
          with_reducible refine (rset_any S (n + 1) cs (shards xs 1) _ hRS j (by omega) (by omega) (-1)).mono ?_
          rintro e w5 ⟨⟨T, ct, rfl, hownT⟩, q5⟩
          have hB5 := hB4.trans (q5.mono hB4.size)
          have hRT : Rd w5 T (n + 1) ((shards xs 1).set j (-1)) := hownT.rd (by omega) (fun x hx => by have := HLB.out.1 x hx; omega)
          have hownQ5 := hownQ.below q5
          have hRS5 := hRS.below q5
          have hrg := rag_run T (n + 1) ct _ n w5 hRT (by omega) (by omega) (by omega) HLB.out.2 (by omega) (by omega)
          have HRG := Lib.hid hrg
          clear q5 hownT hRT hownQ hRS hownS4 hrg
          go_wp2_with fail
          with_reducible refine HRG.out.mono ?_
          rintro e w6 ⟨hp, q6⟩
          obtain ⟨U, cu, rfl, hownU⟩ := HAP.out _ _ _ hp
          have hB6 := hB5.trans (q6.mono hB5.size)
          have hRS6 := hRS5.below q6
          obtain ⟨gq, rfl, _, _, hcq, _⟩ := (hownQ5.below q6).at_ (by omega)
          obtain ⟨gu, rfl, _, _, hcu, _⟩ := hownU.at_ (by omega)
          have x1 : w6.cell? ⟨gq, 0, none⟩ = some (.int .i64 (xs[j]?.getD 0)) := hcq 0 (by omega)
          have x2 := hcu j (by omega)
          rw [HSD.out] at x2
          have x3 := (hB6.cell (p := ⟨b, off + j, none⟩) hbl).trans (HCC.out j hj)
          obtain ⟨x, hx⟩ : ∃ x, xs[j]?.getD 0 = x := ⟨_, rfl⟩
          rw [hx] at x1 x2 x3 hxj
          have hself : (x != x) = false := by simp
          clear hp q6 hcq hcu hx hownU hownQ5 hRS5
          by_cases hn2 : n = 2
          · have hv := H2V.out hn2
            have hn2I : ((n : Int) != 2) = false := by simp; omega
            have hi0 : (0 : Int) < (n : Int) := by omega
            have hi1 : (1 : Int) < (n : Int) := by omega
            have hi2 : (2 : Int) < (n : Int) + 1 := by omega
            obtain ⟨bs, os, rfl, hbs, hcs⟩ := hRS6.at_ (by omega)
            have z2 := hcs 2 (by omega)
            rw [hv] at z2
            have y0 : w6.cell? ⟨b, off, none⟩ = some (.int .i64 (xs[0]?.getD 0)) := (hB6.cell (p := ⟨b, off, none⟩) hbl).trans (HCC.out 0 (by omega))
            have y1 : w6.cell? ⟨b, off + 1, none⟩ = some (.int .i64 (xs[1]?.getD 0)) := (hB6.cell (p := ⟨b, off + 1, none⟩) hbl).trans (HCC.out 1 (by omega))
            have b0 : Byte (xs[0]?.getD 0) := HALL.out.1 _ (by rw [List.getElem?_eq_getElem (by rw [HX.out.1]; omega)]; exact List.getElem_mem _)
            have b1 : Byte (xs[1]?.getD 0) := HALL.out.1 _ (by rw [List.getElem?_eq_getElem (by rw [HX.out.1]; omega)]; exact List.getElem_mem _)
            obtain ⟨d0, hd0⟩ : ∃ d, xs[0]?.getD 0 = d := ⟨_, rfl⟩
            obtain ⟨d1, hd1⟩ : ∃ d, xs[1]?.getD 0 = d := ⟨_, rfl⟩
            rw [hd0] at y0 b0 z2
            rw [hd1] at y1 b1 z2
            have m0 := fun wx => Mul_ok 3 d0 wx ⟨by decide, by decide⟩ b0
            have m1 := fun wx => Mul_ok 2 d1 wx ⟨by decide, by decide⟩ b1
            have bm0 : Byte (mulI 3 d0) := ⟨mulI_nonneg _ _, mulI_le (by decide)⟩
            have bm1 : Byte (mulI 2 d1) := ⟨mulI_nonneg _ _, mulI_le (by decide)⟩
            obtain ⟨M0, hM0⟩ : ∃ d, mulI 3 d0 = d := ⟨_, rfl⟩
            obtain ⟨M1, hM1⟩ : ∃ d, mulI 2 d1 = d := ⟨_, rfl⟩
            rw [hM0] at m0 bm0 z2
            rw [hM1] at m1 bm1 z2
            obtain ⟨p0, p0'⟩ := bm0
            obtain ⟨p1, p1'⟩ := bm1
            have hxo := fun wx => xor_any M0 M1 wx p0 (by omega) p1 (by omega)
            obtain ⟨V, hV⟩ : ∃ V, xorI M0 M1 = V := ⟨_, rfl⟩
            rw [hV] at z2 hxo
            have HM0 := Lib.hid m0
            have HM1 := Lib.hid m1
            have HXO := Lib.hid hxo
            have hVV : (V == V) = true := by simp
            clear hv hn2 hcs hd0 hd1 hM0 hM1 hV m0 m1 hxo b0 b1
            go_wp2
            go_quiet (fail)
            go_wp2_with fail
            with_reducible refine (HM0.out _).mono ?_
            rintro e w7 ⟨rfl, q7⟩
            have k7 : Below w6.heap.size w6 w7 := (below_drewN_of (Below.refl w6.heap.size w6) _).trans q7
            have hB7 := hB6.trans (k7.mono hB6.size)
            replace z2 := (k7.cell (p := ⟨bs, os + 2, none⟩) hbs).trans z2
            replace y1 := (hB7.cell (p := ⟨b, off + 1, none⟩) hbl).trans ((hB6.cell (p := ⟨b, off + 1, none⟩) hbl).symm.trans y1)
            have hbs7 : bs < w7.heap.size := Nat.lt_of_lt_of_le hbs k7.size
            clear q7 k7
            go_wp2_with fail
            with_reducible refine (HM1.out _).mono ?_
            rintro e w8 ⟨rfl, q8⟩
            have hB8 := hB7.trans (q8.mono hB7.size)
            replace z2 := (q8.cell (p := ⟨bs, os + 2, none⟩) hbs7).trans z2
            clear q8
            go_wp2
            go_quiet (first
              | (go_at_call 27; exact Calls.quiet_of_same ((tin_yes _ _ _ _ (by omega) (by omega)).mono fun _ _ h => ⟨h.1, h.2.symm⟩))
              | (go_at_call 15; exact Calls.quiet_of_same ((HXO.out _).mono fun _ _ h => ⟨h.1, h.2.symm⟩)))
            go_wp2
            go_ret
            exact ⟨rfl, below_drewN_of hB8 _⟩
          · have hn2I : ((n : Int) != 2) = true := by simp; omega
            go_wp2
            go_quiet (fail)
            go_wp2
            go_ret
            exact ⟨rfl, below_drewN_of hB6 _⟩
        · have hno : k < 0 ∨ (n : Int) - 1 < k := by omega
          have heq1 : ((n : Int) + 1 == (n : Int) + 1) = true := by simp
          go_wp2_with fail
          with_reducible refine HOF.out.mono ?_
          rintro e w2 ⟨⟨P, cp, rfl, hownP⟩, q2⟩
          have hB2 := hBW.trans (q2.mono hBW.size)
          go_wp2_with fail
          have hAx := HAW.out.below q2
          with_reducible refine (HMK.out _ hAx).mono ?_
          rintro e w3 ⟨⟨S, cs, rfl, hownS⟩, q3⟩
          have hB3 := hB2.trans (q3.mono hB2.size)
          go_wp2_with fail
          with_reducible refine (tin_no _ _ _ _ hno).mono ?_
          rintro e w' ⟨rfl, rfl⟩
          go_wp2
          go_ret
          exact ⟨rfl, hB3⟩
      · have he2 : rowsE (dat rs) ≠ 0 := by rw [HD.out]; exact fun h => he (hiff.1 h)
        have hob := of_bad C q c' rs W hrr he2
        have hmb := fun wx h => make_bad A n c xs 1 wx h he
        obtain ⟨E1, hE1⟩ : ∃ E, rowsE (dat rs) = E := ⟨_, rfl⟩
        obtain ⟨E2, hE2⟩ : ∃ E, makeE xs 1 = E := ⟨_, rfl⟩
        rw [hE1] at hob
        rw [hE2] at hmb
        have HOB := Lib.hid hob
        have HMB := Lib.hid hmb
        have hAW1 := HAW.out.1
        clear he he2 hiff hob hmb hE1 hE2 hgo
        rcases hex with hqI | ⟨hqI, hq9I⟩
        all_goals
          go_wp2_with fail
          with_reducible refine HOB.out.mono ?_
          rintro e w' ⟨rfl, rfl⟩
          go_wp2_with fail
          with_reducible refine (HMB.out _ hAW1).mono ?_
          rintro e w' ⟨rfl, rfl⟩
          go_wp2
          go_ret
          exact ⟨rfl, hBW⟩

set_option maxRecDepth 100000 in
theorem lifted (os : Os) (started : os.Started) (H : Type) (enc : TypeId × Value → H) :
    ReturnsInHanded {} Try.checked os 11 .any (Rows.topArraySpec.pre6 enc Try.prog Try.f11 Rows.topArrayRow.domain false) (Rows.topArraySpec.post enc Try.prog Try.f11 false true false false) := by
  refine returnsInHanded_of_change (C := Try.checked) own started (by kernel_rfl) Try.func11
    (ChangeSpec.witness6 (enc := enc) (C := Try.checked) false ⟨#[], #[.slice none 0 0, .int .i64 0], []⟩ 8 (by kernel_rfl) (by kernel_rfl) (by kernel_rfl) (by kernel_rfl)) ?_
  intro W base args ds gs before hval0 hW hcnd _
  have hval : ∀ (j : Nat) t v, Try.f11.params[j]? = some t → args[j]? = some v → Value.okWide Try.prog W .any base t v := hval0
  have hW' := hW
  obtain ⟨p, q, hA0, hV, rfl, hfz, hnd⟩ := hW
  have hA : DataW.TrodAll enc Try.prog W 0 (fun _ => true) true Try.f11.params.toList args.toList ds p := hA0
  rw [Try.params11] at hA hval
  obtain ⟨v0, vs0, d0, ds0, p0, q0, hargs, rfl, rfl, h0, r0⟩ := trodAll_cons hA
  obtain ⟨v1, vs1, d1, ds1, p1, q1, rfl, rfl, rfl, h1, r1⟩ := trodAll_cons r0
  obtain ⟨rfl, rfl, rfl⟩ := trodAll_nil r1
  obtain rfl : args = #[v0, v1] := by cases args; simp_all
  obtain ⟨rfl, rfl⟩ := trodVars_none hV
  have k0 := h0
  have lt0 : ∀ x ∈ p0, x.block < W.heap.size := by obtain ⟨m, hm⟩ := k0; exact DataW.trod_lt m _ _ _ hm
  obtain ⟨A0, n0, c0, rfl⟩ := okWide_slice Try.underlying29 (hval 0 29 v0 rfl rfl)
  obtain ⟨xs0, w0⟩ : ∃ xs, Sl W A0 n0 c0 xs := by
    obtain ⟨fuel, hf⟩ := h0
    rcases open_ints Try.underlying29 Try.underlying3 (by kernel_rfl) hf with ⟨hcs, _⟩ | ⟨x, l, c, zs, hcs, _, hl, hm, hz, _, hcell, hwz⟩
    · simp [Value.cells] at hcs
      obtain ⟨rfl, rfl, rfl⟩ := hcs
      exact ⟨[], Rd.nil _ _, Nat.le_refl _, fun _ => rfl⟩
    · simp [Value.cells] at hcs
      obtain ⟨rfl, rfl, rfl⟩ := hcs
      exact ⟨_, rd_of_cells (by simp at hz; omega) hl hm hcell hwz, hl, fun h => by cases h⟩
  have k1 := h1
  have lt1 : ∀ x ∈ p1, x.block < W.heap.size := by obtain ⟨m, hm⟩ := k1; exact DataW.trod_lt m _ _ _ hm
  obtain ⟨a1, rfl, rfl, rfl, w1⟩ := open_int Try.underlying3 (hval 1 3 v1 rfl rfl) h1
  clear hA0 hval0
  refine (walk W A0 n0 c0 xs0 w0 a1 (wf_range w1)).mono fun e W' ⟨he, bel⟩ => ?_
  subst he
  exact ⟨_, rfl, _, _, _, [], _, [], hW', trodAll_mk1 (shut_bool Try.underlying4 _), (trodAll_cons_mk (Below.trod laidOut (by kernel_rfl) (of_decide_eq_true (by kernel_rfl)) k0 bel lt0) (trodAll_cons_mk (Below.trod laidOut (by kernel_rfl) (of_decide_eq_true (by kernel_rfl)) k1 bel lt1) trodAll_mk0)), rfl, bel.frame _, fun h => by cases h⟩

theorem over : Rows.topArrayRow.holds Try.pinned (OpenSpec.ofChange Rows.topArraySpec) :=
  OpenClaim.holds_of_wide 11 Try.f11 rfl rfl rfl rfl rfl rfl rfl ⟨rfl, rfl, rfl, rfl, rfl⟩ rfl rfl rfl rfl rfl (by kernel_rfl) Try.func11 (by kernel_rfl)
    (of_decide_eq_true (by kernel_rfl)) (by unfold Func.isWrapper; first | (rw [if_pos (by decide +kernel)]; kernel_rfl) | (rw [if_neg (by decide +kernel)]; exact ⟨rfl, rfl⟩))
    (fun os started H enc _ => lifted os started H enc)

theorem proved : Rows.TopArraySaid := over
#print axioms proved
end Go.Proofs.Ytdhfckdnfppieaa.topArray
