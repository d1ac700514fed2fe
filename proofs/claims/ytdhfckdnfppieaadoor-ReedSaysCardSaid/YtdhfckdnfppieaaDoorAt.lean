/- core.Back and galois.At by their contracts: a range over a function (after the kit's worked example of slices.All and of a sum over slices.Values). -/
import Derived.RangeFuncBox
import Derived.RangeFuncNested
import Derived.RangeFuncLeaves
import Derived.RangeFuncCalls
import Derived.Shelf.Abstract
import Derived.WalkKit
import Derived.OwnWalkIn
import Derived.TacticsInMore
import Derived.LoopNIn
import Derived.LoopIn
import Derived.Test.YtdhfckdnfppieaaDoorGalois2
import Derived.Test.YtdhfckdnfppieaaDoorBytes
namespace Go.Proofs.YtdhfckdnfppieaaDoor
open Go Go.RowKit Go.Shelf
set_option linter.unusedVariables false
attribute [local go_sem] Oper.semAt_some

def upto {α : Type} (f : Nat → α) (k : Nat) : List α := (List.range k).map f
theorem upto_succ {α : Type} (f : Nat → α) (k : Nat) : upto f (k + 1) = upto f k ++ [f k] := by simp [upto, List.range_succ]
theorem upto_length {α : Type} (f : Nat → α) (k : Nat) : (upto f k).length = k := by simp [upto]
/-- What the loop is handed: a place and a byte. -/
abbrev BB := { p : Int × Int // 0 ≤ p.2 ∧ p.2 ≤ 255 }
def bk (zs : List Int) (len : Nat) (hz : ∀ j : Nat, 0 ≤ zs[j]?.getD 0 ∧ zs[j]?.getD 0 ≤ 255) (k : Nat) : BB := ⟨(((len - 1 - k : Nat) : Int), zs[len - 1 - k]?.getD 0), hz _⟩
/-- What the loop's body keeps: whatever lay below n₀, and the box of the slice. -/
def KpB (n₀ Bs : Nat) (sv : Value) (W W' : World) : Prop := Below n₀ W W' ∧ (W.cell? ⟨Bs, 0, none⟩ = some sv → W'.cell? ⟨Bs, 0, none⟩ = some sv)
theorem kpB_t {n₀ Bs : Nat} {sv : Value} {A B C : World} (h : KpB n₀ Bs sv A B) (k : KpB n₀ Bs sv B C) : KpB n₀ Bs sv A C := ⟨h.1.trans k.1, fun hc => k.2 (h.2 hc)⟩
theorem kpB_b {n₀ Bs : Nat} {sv : Value} {w : World} (hn : n₀ ≤ w.heap.size) (hb : Bs < w.heap.size) (W : World) (l : Nat) (o o' : Obj) (hl : w.heap.size ≤ l) (h : W.heap[l]? = some o) (h1 : o.isCells = false) (h2 : o.isWalk = false) : KpB n₀ Bs sv W (W.putObj l o') :=
  ⟨belowK_b hn W l o o' hl h h1 h2, fun hc => cell_kept hc (grownBy_putObj' W l o') (fun r e => by cases e; exact ⟨_, h, h1⟩)⟩

set_option maxRecDepth 100000 in
set_option maxHeartbeats 4000000 in
theorem back1_in (F : Fence) (n : Nat) (hf : F.fn 53) (hro : F.round = none) (hn : 1 ≤ n) (l Bs n₀ : Nat) (A : Option Addr) (len cap : Nat) (zs : List Int) (hz : ∀ j : Nat, 0 ≤ zs[j]?.getD 0 ∧ zs[j]?.getD 0 ≤ 255) (hmax : len ≤ 16)
    (J Jx : List BB → World → Prop)
    (hY : ∀ pre x W, J pre W → pre.length < len → YieldAt F (n - 1) Tryd.prog l #[.int .i64 x.1.1, .int .i64 x.1.2] W fun e W' =>
      (e = .returned (.bool true) ∧ J (pre ++ [x]) W' ∧ KpB n₀ Bs (.slice A len cap) W W') ∨ (e = .returned (.bool false) ∧ Jx (pre ++ [x]) W'))
    (W : World) (hBs : W.cell? ⟨Bs, 0, none⟩ = some (.slice A len cap)) (hc : 0 < len → ∃ b off, A = some ⟨b, off, none⟩ ∧ b < n₀ ∧ ∀ j, j < len → W.cell? ⟨b, off + j, none⟩ = some (.int .i64 (zs[j]?.getD 0))) (h0 : J [] W) :
    CallsIn F n Tryd.prog 53 #[.func (.yield l) #[] #[], .pointer (some ⟨Bs, 0, none⟩)] W fun e W' => (∃ v, e = .returned v) ∧
      ((∃ ys, ys = upto (bk zs len hz) len ∧ J ys W') ∨ (∃ pre, (∃ k, k ≤ len ∧ pre = upto (bk zs len hz) k) ∧ Jx pre W')) := by
  refine callsIn_of_wp Tryd.func53 rfl hf ?_ hro
  simp only [Tryd.ntmps53, List.size_toArray, List.length_cons, List.length_nil, Nat.reduceAdd, Nat.reduceSub, Array.replicate_succ, Array.replicate_zero, List.push_toArray, List.append_toArray, List.nil_append, List.cons_append]
  gi_wp2
  gi_loopw [3] (fun i wr => ∃ (k : Nat) (iv : Int), k ≤ len ∧ iv = (len : Int) - 1 - (k : Int) ∧ i = .int .i64 iv ∧ J (upto (bk zs len hz) k) wr ∧ KpB n₀ Bs (.slice A len cap) W wr)
    (fun i _ => (intOf i + 1).toNat)
  case atStart => exact ⟨0, _, Nat.zero_le _, by omega, rfl, h0, Below.refl _ _, fun h => h⟩
  case round =>
    obtain ⟨k, iv, hk, hiv, rfl, hJs, hnx⟩ := hrel
    have hbox := hnx.2 hBs
    by_cases hlt : k < len
    · obtain ⟨b, off, rfl, hb, hcs⟩ := hc (by omega)
      obtain ⟨j, hj⟩ : ∃ j, len - 1 - k = j := ⟨_, rfl⟩
      have hjl : j < len := by omega
      obtain rfl : iv = (j : Int) := by omega
      have hcx := (hnx.1.cell (p := ⟨b, off + j, none⟩) hb).trans (hcs j hjl)
      have hbk : bk zs len hz k = ⟨((j : Int), zs[j]?.getD 0), hz j⟩ := by unfold bk; subst hj; rfl
      have hup := upto_succ (bk zs len hz) k
      rw [hbk] at hup
      obtain ⟨fn, tmps, assign, body, hy, hR⟩ := hY _ (⟨((j : Int), zs[j]?.getD 0), hz j⟩ : BB) wr hJs (by rw [upto_length]; exact hlt)
      dsimp only at hy
      have hjI : (j : Int) < (len : Int) := by omega
      have hj0 : (0 : Int) ≤ (j : Int) := by omega
      have HUP := Lib.hid hup
      have HIV := Lib.hid (And.intro hiv hj)
      clear hup hbk hcs hiv hj
      gi_wp2
      refine hR.mono ?_
      rintro e W3 (⟨rfl, hJ3, hk3⟩ | ⟨rfl, hJx3⟩)
      · gi_wp2
        go_roundw
        case rel => exact ⟨k + 1, (j : Int) - 1, by omega, by have := HIV.out; omega, by go_num, by rw [HUP.out]; exact hJ3, kpB_t hnx hk3⟩
        case measure => first | (simp [intOf]; done) | (simp [intOf]; omega)
      · gi_wp2
        refine bodyPost_ret (results_none rfl _ _ _) rfl ?_
        exact ⟨⟨_, rfl⟩, .inr ⟨_, ⟨k + 1, by omega, HUP.out.symm⟩, hJx3⟩⟩
    · obtain rfl : k = len := by omega
      obtain rfl : iv = -1 := by omega
      gi_wp2
      go_end0
      exact ⟨⟨_, rfl⟩, .inl ⟨_, rfl, hJs⟩⟩

set_option maxHeartbeats 1000000 in
theorem back_in (F : Fence) (n : Nat) (hf : F.fn 44) (hro : F.round = none) (a : Option Addr) (len cap : Nat) (w : World) :
    CallsIn F n Tryd.prog 44 #[.slice a len cap] w fun e w' => e = .returned (.func (.func 53) #[] #[.pointer (some ⟨w.heap.size, 0, none⟩)]) ∧ w' = w.alloc (.cells #[.slice a len cap] 31) := by
  refine callsIn_of_wp Tryd.func44 rfl hf ?_ hro
  simp only [Tryd.ntmps44, List.size_toArray, List.length_cons, List.length_nil, Nat.reduceAdd, Nat.reduceSub, Array.replicate_succ, Array.replicate_zero, List.push_toArray, List.append_toArray, List.nil_append, List.cons_append]
  gi_wp2
  go_ret
  exact ⟨rfl, rfl⟩

theorem back_stops (F : Fence) (n : Nat) (hf : F.fn 53) (hro : F.round = none) (hn : 1 ≤ n) (Bs n₀ : Nat) (A : Option Addr) (len cap : Nat) (zs : List Int) (hz : ∀ j : Nat, 0 ≤ zs[j]?.getD 0 ∧ zs[j]?.getD 0 ≤ 255) (hmax : len ≤ 16) (w : World) (hBs : Bs < w.heap.size) (hn₀ : n₀ ≤ w.heap.size)
    (hcb : w.cell? ⟨Bs, 0, none⟩ = some (.slice A len cap)) (hc : 0 < len → ∃ b off, A = some ⟨b, off, none⟩ ∧ b < n₀ ∧ ∀ j, j < len → w.cell? ⟨b, off + j, none⟩ = some (.int .i64 (zs[j]?.getD 0))) :
    SeqStopsK F n Tryd.prog 53 #[.pointer (some ⟨Bs, 0, none⟩)] (fun x : BB => #[Value.int .i64 x.1.1, Value.int .i64 x.1.2]) (KpB n₀ Bs (.slice A len cap)) (fun ys => ys = upto (bk zs len hz) len)
      (fun pre => ∃ k, k ≤ len ∧ pre = upto (bk zs len hz) k) len w := fun l J Jx W hW _ _ hY h0 => by
  have hc' := (hW.cell (p := ⟨Bs, 0, none⟩) hBs).trans hcb
  refine back1_in F n hf hro hn l Bs n₀ A len cap zs hz hmax J Jx hY W hc' (fun hl => ?_) h0
  obtain ⟨b, off, e, hb, hcs⟩ := hc hl
  exact ⟨b, off, e, hb, fun j hj => (hW.cell (p := ⟨b, off + j, none⟩) (Nat.lt_of_lt_of_le hb hn₀)).trans (hcs j hj)⟩

/-- What the factors that have come make. -/
def hornP (x : Int) (pre : List BB) : Int := pre.foldl (fun o p => xorI (mulI o x) p.1.2) 0
theorem hornP_snoc (x : Int) (pre : List BB) (p : BB) : hornP x (pre ++ [p]) = xorI (mulI (hornP x pre) x) p.1.2 := by unfold hornP; rw [List.foldl_append]; rfl
theorem hornP_byte {x : Int} (hx : Byte x) : ∀ (pre : List BB) (o : Int), Byte o → Byte (pre.foldl (fun o p => xorI (mulI o x) p.1.2) o)
  | [], o, ho => ho
  | p :: pre, o, ho => by
    rw [List.foldl_cons]
    exact hornP_byte hx pre _ ⟨xorI_nonneg _ _, xorI_255 (mulI_le ho.2) p.2.2⟩

def atI (zs : List Int) (len : Nat) (hz : ∀ j : Nat, 0 ≤ zs[j]?.getD 0 ∧ zs[j]?.getD 0 ≤ 255) (x : Int) : Int := hornP x (upto (bk zs len hz) len)

set_option maxRecDepth 100000 in
set_option maxHeartbeats 8000000 in
theorem at_ok (A : Option Addr) (len cap : Nat) (zs : List Int) (x : Int) (w : World) (hA : Rd w A len zs) (hl : len ≤ 16) (hall : allB zs 0 255 = true) (hz : ∀ j : Nat, 0 ≤ zs[j]?.getD 0 ∧ zs[j]?.getD 0 ≤ 255) (hx : Byte x) :
    Calls Tryd.prog 21 #[.slice A len cap, .int .i64 x] w fun e W' => e = .returned (.tuple #[.int .i64 (atI zs len hz x), .nilIface]) ∧ Below w.heap.size w W' := by
  have hlI : (len : Int) ≤ 16 := by omega
  have hA1 := hA.alloc (.cells #[.int .i64 x] 3)
  have hR := rd_one (w.alloc (.cells #[.int .i64 x] 3)) x hx.wide
  rw [World.size_alloc] at hR
  have hall1 := all_one.2 hx
  have hxW := hx.wide
  refine (callsIn_wide (n := 3)).1 ?_
  refine callsIn_of_wp_marks Tryd.func21 rfl trivial ?_ rfl
  simp only [Tryd.ntmps21, List.size_toArray, List.length_cons, List.length_nil, Nat.reduceAdd, Nat.reduceSub, Array.replicate_succ, Array.replicate_zero, List.push_toArray, List.append_toArray, List.nil_append, List.cons_append]
  gi_wp2_with (first
    | (refine ⟨trivial, ?_⟩; gi_at_call 43; refine (callsIn_wide.2 (bytes_ok _ _ _ _ zs _ hA1 hlI hall)).mono ?_; rintro e w' ⟨rfl, rfl⟩)
    | (refine ⟨trivial, ?_⟩; gi_at_call 36; refine (callsIn_wide.2 (check_ok _ _ _ [x] _ hR hall1)).mono ?_; rintro e w' ⟨rfl, rfl⟩)
    | (refine ⟨trivial, ?_⟩; gi_at_call 44; refine (back_in Fence.wide _ trivial rfl _ _ _ _).mono ?_; rintro e w' ⟨rfl, rfl⟩))
  have hB0 : Below w.heap.size w ((((w.alloc (.cells #[.int .i64 x] 3)).alloc (.cells #[.int .i64 x] 3)).alloc (.cells #[.int .i64 0] 3)).alloc (.cells #[.slice A len cap] 31)) :=
    ((((Below.refl _ w).alloc (Nat.le_refl _) _).alloc (by simp) _).alloc (by simp; omega) _).alloc (by simp; omega) _
  have hsz : ((((w.alloc (.cells #[.int .i64 x] 3)).alloc (.cells #[.int .i64 x] 3)).alloc (.cells #[.int .i64 0] 3)).alloc (.cells #[.slice A len cap] 31)).heap.size = w.heap.size + 1 + 1 + 1 + 1 := by simp
  have q3 : ((((w.alloc (.cells #[.int .i64 x] 3)).alloc (.cells #[.int .i64 x] 3)).alloc (.cells #[.int .i64 0] 3)).alloc (.cells #[.slice A len cap] 31)).cell? ⟨w.heap.size + 1 + 1 + 1, 0, none⟩ = some (.slice A len cap) := by
    rw [World.cell?_alloc_at _ _ _ _ (by simp)]; rfl
  have q2 : ((((w.alloc (.cells #[.int .i64 x] 3)).alloc (.cells #[.int .i64 x] 3)).alloc (.cells #[.int .i64 0] 3)).alloc (.cells #[.slice A len cap] 31)).cell? ⟨w.heap.size + 1 + 1, 0, none⟩ = some (.int .i64 0) := by
    rw [World.cell?_alloc_lt _ _ ⟨w.heap.size + 1 + 1, 0, none⟩ (by simp), World.cell?_alloc_at _ _ _ _ (by simp)]; rfl
  have f2' : ∀ V : World, V.heap.size = w.heap.size + 1 + 1 → (V.alloc (.cells #[.int .i64 0] 3)).frozen? ⟨w.heap.size + 1 + 1, 0, none⟩ = false := fun V hV => by rw [← hV]; simp
  have f2 : ((((w.alloc (.cells #[.int .i64 x] 3)).alloc (.cells #[.int .i64 x] 3)).alloc (.cells #[.int .i64 0] 3)).alloc (.cells #[.slice A len cap] 31)).frozen? ⟨w.heap.size + 1 + 1, 0, none⟩ = false := by
    rw [World.frozen?_alloc_old _ _ ⟨w.heap.size + 1 + 1, 0, none⟩ (by simp)]
    exact f2' _ (by simp)
  have q0 : ((((w.alloc (.cells #[.int .i64 x] 3)).alloc (.cells #[.int .i64 x] 3)).alloc (.cells #[.int .i64 0] 3)).alloc (.cells #[.slice A len cap] 31)).cell? ⟨w.heap.size, 0, none⟩ = some (.int .i64 x) := by
    rw [World.cell?_alloc_lt _ _ ⟨w.heap.size, 0, none⟩ (by simp; omega), World.cell?_alloc_lt _ _ ⟨w.heap.size, 0, none⟩ (by simp; omega), World.cell?_alloc_lt _ _ ⟨w.heap.size, 0, none⟩ (by simp), World.cell?_alloc_at _ _ _ _ (by simp)]; rfl
  have hAW := hA.below hB0
  obtain ⟨W0, hW0⟩ : ∃ W0, ((((w.alloc (.cells #[.int .i64 x] 3)).alloc (.cells #[.int .i64 x] 3)).alloc (.cells #[.int .i64 0] 3)).alloc (.cells #[.slice A len cap] 31)) = W0 := ⟨_, rfl⟩
  rw [hW0] at hB0 hsz q3 q2 f2 q0 hAW ⊢
  clear hW0
  refine wpIn_rangeFunc_ownG rfl (by omega) (gf := 53) (lb := #[.pointer (some ⟨w.heap.size + 1 + 1 + 1, 0, none⟩)]) rfl trivial (enters_of Tryd.func53 (by kernel_rfl) rfl)
    (back_stops Fence.wide 2 trivial rfl (by omega) (w.heap.size + 1 + 1 + 1) w.heap.size A len cap zs hz hl W0 (by omega) (by omega) q3 (fun hl0 => by
      obtain ⟨b, off, e, hb, hcs⟩ := hA.at_ hl0
      exact ⟨b, off, e, hb, fun j hj => (hB0.cell (p := ⟨b, off + j, none⟩) hb).trans (hcs j hj)⟩)) kpB_t (kpB_b (by omega) (by omega)) (Below.refl _ _) (fun _ => rfl)
    (fun pre W => (W.cell? ⟨w.heap.size, 0, none⟩ = some (.int .i64 x) ∧ W.cell? ⟨w.heap.size + 1 + 1, 0, none⟩ = some (.int .i64 (hornP x pre)) ∧ W.frozen? ⟨w.heap.size + 1 + 1, 0, none⟩ = false) ∧ Below w.heap.size w W)
    (fun _ _ _ => False)
    (OwnFrom.and (Own.from (fun s A B row hs hg hr => ⟨cell_kept hs.1 hg hr, cell_kept hs.2.1 hg hr, (frozen_kept hs.2.1 hg hr).trans hs.2.2⟩) _) (ownFrom_below (Nat.le_refl _) (by omega)))
    (fun _ _ _ _ _ hs _ _ => hs)
    ⟨⟨q0, q2, f2⟩, hB0⟩
    (fun p => { tmps := #[.slice A len cap, .int .i64 x, undef, .pointer (some ⟨w.heap.size, 0, none⟩), .int .i64 0, .nilIface, .nilIface, .nilIface, .pointer (some ⟨w.heap.size + 1 + 1, 0, none⟩), undef, .int .i64 p.1.2, .slice A len cap, .nilIface, .nilIface, .bool false, undef, .int .i64 x, .slice (some ⟨w.heap.size + 1, 0, none⟩) 1 1, .nilIface, .nilIface, .bool false, undef, .slice A len cap, .func (.func 53) #[] #[.pointer (some ⟨w.heap.size + 1 + 1 + 1, 0, none⟩)], .int .i64 p.1.1, .int .i64 p.1.2, undef, undef, undef, undef, undef, undef], defers := [] }) ?assign ?body ?done ?stop
  case assign =>
    intro l p W K hK
    gi_wp2
    exact hK
  case body =>
    rintro l pre p W ⟨⟨hc0, hc2, hf2⟩, hB⟩ _
    obtain ⟨hh0, hh1⟩ := hornP_byte hx pre 0 ⟨by omega, by omega⟩
    change 0 ≤ hornP x pre at hh0
    change hornP x pre ≤ 255 at hh1
    have hsn := hornP_snoc x pre p
    obtain ⟨H, hH⟩ : ∃ H, hornP x pre = H := ⟨_, rfl⟩
    rw [hH] at hc2 hh0 hh1 hsn
    obtain ⟨⟨pi, pv⟩, hp0, hp1⟩ := p
    simp only at hp0 hp1 hsn ⊢
    obtain ⟨hx0, hx1⟩ := hx
    have hm0 := mulI_nonneg H x
    have hm1 := mulI_le (y := x) hh1
    have hgm := gmul_any H x W hh0 hh1 hx0 hx1
    obtain ⟨M, hM⟩ : ∃ M, mulI H x = M := ⟨_, rfl⟩
    rw [hM] at hm0 hm1 hgm hsn
    have hbx := bits_xorI (x := M) (y := pv) hm0 (by omega) hp0 (by omega)
    have HS := Lib.hid hsn
    have HG := Lib.hid hgm
    clear hsn hgm hH hM
    gi_wp2_with (refine ⟨trivial, ?_⟩; gi_at_call 37; refine (CallsIn.inRound l (callsIn_wide.2 HG.out)).mono ?_; rintro e w' ⟨rfl, rfl⟩)
    exact ⟨(KeepsOthers.setCell _ _ _).from _, ⟨(Below.refl w.heap.size W).setCell (p := ⟨w.heap.size + 1 + 1, 0, none⟩) (by simp; omega) _, fun hbx => by rw [World.cell?_setCell_other _ _ _ _ (by simp)]; exact hbx⟩,
      ⟨by rw [World.cell?_setCell_other _ _ _ _ (by simp)]; exact hc0, by rw [HS.out]; exact World.cell?_setCell_same' _ _ _ (by rw [hc2]; rfl), by rw [World.frozen?_setCell]; exact hf2⟩, hB.setCell (p := ⟨w.heap.size + 1 + 1, 0, none⟩) (by simp; omega) _⟩
  case done =>
    rintro D ys W hD rfl ⟨⟨hc0, hc2, hf2⟩, hB⟩ hK
    gi_wp2
    refine ⟨by simp, .inl ⟨_, _, rfl, run_takeDeferred hK, ?_⟩⟩
    refine ⟨.tuple #[.int .i64 (atI zs len hz x), .nilIface], ?_, rfl, hB.trans (belowK_b (w := w) (Nat.le_refl _) W D _ _ (by omega) hK rfl rfl)⟩
    simp [results, Tryd.f21, go_sem, atI]
  case stop =>
    rintro D c pre W _ _ h _
    exact h.elim

theorem bz {zs : List Int} (hall : allB zs 0 255 = true) (j : Nat) : 0 ≤ zs[j]?.getD 0 ∧ zs[j]?.getD 0 ≤ 255 := by
  rcases Nat.lt_or_ge j zs.length with h | h
  · exact allB_iff.1 hall j h
  · rw [List.getElem?_eq_none h]; decide
/-- Horner's rule, over the list itself. -/
def horn (x : Int) : List Int → Int
  | [] => 0
  | f :: r => xorI (mulI (horn x r) x) f
theorem horn_fold (x : Int) : ∀ zs : List Int, horn x zs = zs.foldr (fun f o => xorI (mulI o x) f) 0
  | [] => rfl
  | f :: r => by rw [List.foldr_cons, ← horn_fold x r]; rfl
theorem atI_horn {zs : List Int} {len : Nat} (hl : zs.length = len) (hz : ∀ j : Nat, 0 ≤ zs[j]?.getD 0 ∧ zs[j]?.getD 0 ≤ 255) (x : Int) : atI zs len hz x = horn x zs := by
  have e : (upto (bk zs len hz) len).map (fun p => p.1.2) = zs.reverse := by
    apply List.ext_getElem
    · simp [upto, hl]
    · intro i h1 h2
      have hi : i < len := by simpa [upto] using h1
      simp [upto, bk, hl]
      rw [List.getElem?_eq_getElem (by omega)]
      first | (simp; done) | (simp; congr 1; done) | (simp; congr 1; omega)
  unfold atI hornP
  rw [horn_fold, ← List.foldl_reverse, ← e, List.foldl_map]

theorem at_full (A : Option Addr) (len cap : Nat) (zs : List Int) (x : Int) (w : World) (hA : Rd w A len zs) (hE : bytesE zs 16 ≠ 0) :
    Calls Tryd.prog 21 #[.slice A len cap, .int .i64 x] w fun e W' => e = .returned (.tuple #[.int .i64 0, .iface 53 (.int .i64 (bytesE zs 16))]) ∧ Below w.heap.size w W' := by
  have hA1 := hA.alloc (.cells #[.int .i64 x] 3)
  have hB := (Below.refl w.heap.size w).alloc (Nat.le_refl _) (.cells #[.int .i64 x] 3)
  have hb := bytes_bad A len cap 16 zs _ hA1 hE
  obtain ⟨E, hEE⟩ : ∃ E, bytesE zs 16 = E := ⟨_, rfl⟩
  rw [hEE] at hb ⊢
  have HB := Lib.hid hb
  clear hb hEE hE
  refine (callsIn_wide (n := 3)).1 ?_
  refine callsIn_of_wp_marks Tryd.func21 rfl trivial ?_ rfl
  simp only [Tryd.ntmps21, List.size_toArray, List.length_cons, List.length_nil, Nat.reduceAdd, Nat.reduceSub, Array.replicate_succ, Array.replicate_zero, List.push_toArray, List.append_toArray, List.nil_append, List.cons_append]
  gi_wp2_with (refine ⟨trivial, ?_⟩; gi_at_call 43; refine (callsIn_wide.2 HB.out).mono ?_; rintro e w' ⟨rfl, rfl⟩)
  refine ⟨.tuple #[.int .i64 0, .iface 53 (.int .i64 E)], ?_, rfl, hB⟩
  simp [results, Tryd.f21, go_sem]
end Go.Proofs.YtdhfckdnfppieaaDoor
