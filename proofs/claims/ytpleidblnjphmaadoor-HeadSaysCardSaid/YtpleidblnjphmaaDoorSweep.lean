/- head.Sweep by its contract. -/
import Derived.Test.YtpleidblnjphmaaDoorTurned
import Derived.Test.YtpleidblnjphmaaDoorHead1
import Derived.Deep.DeepCutAuto
namespace Go.Proofs.YtpleidblnjphmaaDoor
open Go Go.RowKit
set_option maxRecDepth 20000
set_option linter.unusedVariables false

/-- Two slices in blocks of their own. -/
def Apt (v u : Value) : Prop := ∀ g, v.ownBlock = some g → u.ownBlock ≠ some g
theorem Apt.swap {v u : Value} (h : Apt v u) : Apt u v := fun g h1 h2 => h g h2 h1
theorem apt_keep {w w' : World} {B m : Nat} {v u : Value} {ys : List Int} (hu : Own w B u m ys) (h : Apt v u) (hg : w.grownBy w' v.ownBlock) : Own w' B u m ys :=
  World.ownsRow.kept hu hg (by
    rcases e : u.ownBlock with _ | q
    · exact .inl rfl
    · exact .inr fun h' => h q h'.symm e)
theorem apt_new {w : World} {B m : Nat} {v v' u : Value} {ys : List Int} (hu : Own w B u m ys) (h : Apt v u) (h5 : v'.ownBlock = v.ownBlock ∨ v'.ownBlock = some w.heap.size) : Apt v' u := fun q hq hu2 => by
  rcases h5 with e | e
  · exact h q (e.symm.trans hq) hu2
  · have h6 := (World.ownsRow.lt hu q hu2).2
    have h7 := e.symm.trans hq
    injection h7 with h7
    omega
theorem apt_fresh {w : World} {B m B' k : Nat} {v u : Value} {xs ys : List Int} (hu : Own w B u m ys) {w' : World} (hv : Own w' B' v k xs) (hB : w.heap.size ≤ B') : Apt v u := fun q hq hu2 => by
  have h6 := (World.ownsRow.lt hu q hu2).2
  have h7 := (World.ownsRow.lt hv q hq).1
  omega

theorem wpList_app1B {ops : Array Oper} {rest : List Oper} {o : Oper} {a : Act} {w : World} {Q : Exit → Act → World → Prop} (hgd : o.guard = none) (s x : Operand)
    (ho : o.op = .call { callee := .builtin .append, args := #[s, x], argTypes := #[22, 22] })
    (B n : Nat) (v : Value) (xs : List Int) (hs : a.eval s = v) (hown : Own w B v n xs) (g : Nat) (y : Int) (hx : a.eval x = .slice (some ⟨g, 0, none⟩) 1 1)
    (hc : w.cell? ⟨g, 0, none⟩ = some (.int .i64 y)) (hn : n + 1 ≤ 1000000) (hbase : B ≤ w.heap.size)
    (h : ∀ A' c' w', Own w' B (.slice A' (n + 1) c') (n + 1) (xs ++ [y]) → w.grownBy w' v.ownBlock → ((Value.slice A' (n + 1) c').ownBlock = v.ownBlock ∨ (Value.slice A' (n + 1) c').ownBlock = some w.heap.size) → wpList Tryd.prog ops Q rest (a.put o.dst (.slice A' (n + 1) c')) w') :
    wpList Tryd.prog ops Q (o :: rest) a w := by
  obtain ⟨i0, hi, hz0, hz1, hz2⟩ := info_parts infoInt
  refine wpList_append_own_at w hgd s x 22 ho B 3 i0 (.int .i64 0) 1 8 Tryd.underlying22 hi hz0 hz1 hz2 rfl (by decide) v n _ hs hown ⟨g, 0, none⟩ 1 1 [.int .i64 y] hx rfl (fun j u hj => ?_) (by simp [Value.oneCell'])
    (by unfold maxLen; omega) (by omega) hbase (fun v' w' h2 h3 _ h5 => ?_)
  · have hj0 : j = 0 := by
      rcases j with _ | j
      · rfl
      · simp at hj
    subst hj0
    simp at hj
    subst hj
    simpa [Addr.add] using hc
  · have h2' : Own w' B v' (n + 1) (xs ++ [y]) := by unfold Own; rw [List.map_append]; exact h2
    obtain ⟨A', c', hv, _⟩ := h2'.form
    subst hv
    exact h A' c' w' h2' h3 h5

def isLow (at_ : Int) (up : Bool) (t : Int) : Bool := decide (t < at_) || (decide (t = at_) && !up)
def lowL (at_ : Int) (up : Bool) (L : List Int) : List Int := L.filter (isLow at_ up)
def highL (at_ : Int) (up : Bool) (L : List Int) : List Int := L.filter fun t => !isLow at_ up t
def sweepL (at_ : Int) (up : Bool) (xs : List Int) : List Int :=
  if up then highL at_ up (sortL xs) ++ (lowL at_ up (sortL xs)).reverse else (lowL at_ up (sortL xs)).reverse ++ highL at_ up (sortL xs)
theorem low_snoc {at_ : Int} {up : Bool} {L : List Int} {t : Int} (h : isLow at_ up t = true) : lowL at_ up (L ++ [t]) = lowL at_ up L ++ [t] ∧ highL at_ up (L ++ [t]) = highL at_ up L := by
  constructor <;> simp [lowL, highL, List.filter_append, h]
theorem high_snoc {at_ : Int} {up : Bool} {L : List Int} {t : Int} (h : isLow at_ up t = false) : lowL at_ up (L ++ [t]) = lowL at_ up L ∧ highL at_ up (L ++ [t]) = highL at_ up L ++ [t] := by
  constructor <;> simp [lowL, highL, List.filter_append, h]
theorem low_high (at_ : Int) (up : Bool) : ∀ L : List Int, (lowL at_ up L).length + (highL at_ up L).length = L.length
  | [] => rfl
  | t :: r => by
    have ih := low_high at_ up r
    cases h : isLow at_ up t <;> simp [lowL, highL, h] at ih ⊢ <;> omega
theorem sweepL_perm (at_ : Int) (up : Bool) (xs : List Int) : ∀ t, t ∈ sweepL at_ up xs ↔ t ∈ xs := fun t => by
  have hs : t ∈ sortL xs ↔ t ∈ xs := List.mem_mergeSort
  unfold sweepL
  split <;> simp [lowL, highL, hs] <;> cases isLow at_ up t <;> simp
theorem sweepL_length (at_ : Int) (up : Bool) (xs : List Int) : (sweepL at_ up xs).length = xs.length := by
  have := low_high at_ up (sortL xs)
  rw [sortL_length] at this
  unfold sweepL
  split <;> simp <;> omega

theorem trk_all {xs : List Int} (hall : allB xs 0 99 = true) : ∀ x ∈ xs, Trk x := fun x hx => by
  obtain ⟨k, hk, rfl⟩ := List.getElem_of_mem hx
  have := allB_iff.1 hall k hk
  rwa [List.getElem?_eq_getElem hk] at this
theorem sortL_mem {xs : List Int} {t : Int} : t ∈ sortL xs ↔ t ∈ xs := List.mem_mergeSort
theorem own_empty (w : World) (B : Nat) (hB : B ≤ w.heap.size) : Own (w.alloc (.cells #[] 3)) B (.slice (some ⟨w.heap.size, 0, none⟩) 0 0) 0 [] :=
  ⟨rfl, .inr ⟨w.heap.size, 0, #[], rfl, hB, World.alloc_heap_new w _, Nat.le_refl _, by decide, rfl, rfl⟩⟩

theorem vals_ok (a : Option Addr) (len cap : Nat) (w : World) :
    Calls Tryd.prog 50 #[.slice a len cap] w fun e w' => e = .returned (.func (.func 56) #[] #[.pointer (some ⟨w.heap.size, 0, none⟩)]) ∧ w' = w.alloc (.cells #[.slice a len cap] 22) :=
  (callsIn_wide (n := 1)).1 (vals_in Fence.wide 1 trivial rfl a len cap w)
/-- What the loop of Sweep holds. -/
def SwI (w : World) (a : Int) (up : Bool) (S : List Int) (n : Nat) (vs : Value) (k : Nat) (wr : World) (lo hi : Value) : Prop :=
  ∃ A1 c1 A2 c2 n1 n2, lo = .slice A1 n1 c1 ∧ hi = .slice A2 n2 c2 ∧ n1 ≤ k ∧ n2 ≤ k ∧ Own wr w.heap.size lo n1 (lowL a up (S.take k)) ∧ Own wr w.heap.size hi n2 (highL a up (S.take k)) ∧ Own wr w.heap.size vs n S ∧
    Apt lo hi ∧ Apt lo vs ∧ Apt hi vs ∧ Below w.heap.size w wr

theorem SwI.low {w wr W w3 : World} {a : Int} {up : Bool} {S : List Int} {n k n1 c1' : Nat} {vs lo hi : Value} {A' : Option Addr} {o : Obj} {t : Int} (hI : SwI w a up S n vs k wr lo hi) (hW : W = wr.alloc o) (hn1 : n1 ≤ k)
    (hown3 : Own w3 w.heap.size (.slice A' (n1 + 1) c1') (n1 + 1) (lowL a up (S.take k) ++ [t])) (hg3 : W.grownBy w3 lo.ownBlock) (h5 : (Value.slice A' (n1 + 1) c1').ownBlock = lo.ownBlock ∨ (Value.slice A' (n1 + 1) c1').ownBlock = some W.heap.size)
    (htk : S.take k ++ [t] = S.take (k + 1)) (hlow : isLow a up t = true) : SwI w a up S n vs (k + 1) w3 (.slice A' (n1 + 1) c1') hi := by
  obtain ⟨A1, c1, A2, c2, m1, m2, e1, e2, h1, h2, hlo, hhi, hvs, hp1, hp2, hp3, hB⟩ := hI
  subst hW
  have hs := low_snoc hlow (L := S.take k)
  rw [htk] at hs
  refine ⟨A', c1', A2, c2, n1 + 1, m2, rfl, e2, by omega, by omega, by rw [hs.1]; exact hown3, by rw [hs.2]; exact apt_keep (hhi.alloc _) hp1 hg3, apt_keep (hvs.alloc _) hp2 hg3, apt_new (hhi.alloc o) hp1 h5, apt_new (hvs.alloc o) hp2 h5, hp3, ?_⟩
  exact (hB.alloc hB.size o).grown hg3 (by have := hB.size; simp; omega) (fun q e => (World.ownsRow.lt hlo q e).1)
theorem SwI.high {w wr W w3 : World} {a : Int} {up : Bool} {S : List Int} {n k n1 c1' : Nat} {vs lo hi : Value} {A' : Option Addr} {o : Obj} {t : Int} (hI : SwI w a up S n vs k wr lo hi) (hW : W = wr.alloc o) (hn1 : n1 ≤ k)
    (hown3 : Own w3 w.heap.size (.slice A' (n1 + 1) c1') (n1 + 1) (highL a up (S.take k) ++ [t])) (hg3 : W.grownBy w3 hi.ownBlock) (h5 : (Value.slice A' (n1 + 1) c1').ownBlock = hi.ownBlock ∨ (Value.slice A' (n1 + 1) c1').ownBlock = some W.heap.size)
    (htk : S.take k ++ [t] = S.take (k + 1)) (hlow : isLow a up t = false) : SwI w a up S n vs (k + 1) w3 lo (.slice A' (n1 + 1) c1') := by
  obtain ⟨A1, c1, A2, c2, m1, m2, e1, e2, h1, h2, hlo, hhi, hvs, hp1, hp2, hp3, hB⟩ := hI
  subst hW
  have hs := high_snoc hlow (L := S.take k)
  rw [htk] at hs
  refine ⟨A1, c1, A', c1', m1, n1 + 1, e1, rfl, by omega, by omega, by rw [hs.1]; exact apt_keep (hlo.alloc _) hp1.swap hg3, by rw [hs.2]; exact hown3, apt_keep (hvs.alloc _) hp3 hg3, (apt_new (hlo.alloc o) hp1.swap h5).swap, hp2, apt_new (hvs.alloc o) hp3 h5, ?_⟩
  exact (hB.alloc hB.size o).grown hg3 (by have := hB.size; simp; omega) (fun q e => (World.ownsRow.lt hhi q e).1)

set_option maxHeartbeats 4000000 in
theorem sweep_ok (A : Option Addr) (n c : Nat) (xs : List Int) (a : Int) (up : Bool) (w : World) (hA : Rd w A n xs) (hE : headE a xs = 0) :
    Calls Tryd.prog 26 #[.int .i64 a, .bool up, .slice A n c] w fun e w' =>
      ∃ A' c', e = .returned (.tuple #[.int .i64 (farI a (sweepL a up xs)), .slice A' n c', .nilIface]) ∧ Own w' w.heap.size (.slice A' n c') n (sweepL a up xs) ∧ Below w.heap.size w w' := by
  have hl := hA.len
  obtain ⟨h20, htr, hall⟩ := headE_zero hE
  have hxr : ∀ x ∈ xs, Trk x := trk_all hall
  have H0 := Lib.hid (And.intro hl (And.intro h20 (And.intro htr (And.intro hxr hE))))
  have hn20 : n ≤ 20 := by omega
  clear hl htr hall hxr hE
  go_enter Tryd.func26, Tryd.ntmps26
  go_wp2_with fail
  with_reducible refine (hcheck_ok A n c xs a _ hA H0.out.2.2.2.2).mono ?_
  rintro e w' ⟨rfl, rfl⟩
  go_wp2_with fail
  with_reducible refine (vals_ok A n c _).mono ?_
  rintro e w' ⟨rfl, rfl⟩
  go_wp2_with fail
  have hB3 : Below w.heap.size w (((w.alloc (.cells #[] 3)).alloc (.cells #[] 3)).alloc (.cells #[.slice A n c] 22)) :=
    (((Below.refl _ w).alloc (Nat.le_refl _) _).alloc (by simp) _).alloc (by simp; omega) _
  have hlo0 : Own (((w.alloc (.cells #[] 3)).alloc (.cells #[] 3)).alloc (.cells #[.slice A n c] 22)) w.heap.size (.slice (some ⟨w.heap.size, 0, none⟩) 0 0) 0 [] := ((own_empty w _ (Nat.le_refl _)).alloc _).alloc _
  have hhi0 : Own (((w.alloc (.cells #[] 3)).alloc (.cells #[] 3)).alloc (.cells #[.slice A n c] 22)) w.heap.size (.slice (some ⟨w.heap.size + 1, 0, none⟩) 0 0) 0 [] := by
    have := own_empty (w.alloc (.cells #[] 3)) w.heap.size (by simp)
    rw [World.size_alloc] at this
    exact this.alloc _
  have hsz : (((w.alloc (.cells #[] 3)).alloc (.cells #[] 3)).alloc (.cells #[.slice A n c] 22)).heap.size = w.heap.size + 3 := by simp
  have hcb : (((w.alloc (.cells #[] 3)).alloc (.cells #[] 3)).alloc (.cells #[.slice A n c] 22)).cell? ⟨w.heap.size + 1 + 1, 0, none⟩ = some (.slice A n c) := by
    rw [World.cell?_alloc_at _ _ _ _ (by simp)]; rfl
  have hAW := hA.below hB3
  obtain ⟨W3, hW3⟩ : ∃ W, W = (((w.alloc (.cells #[] 3)).alloc (.cells #[] 3)).alloc (.cells #[.slice A n c] 22)) := ⟨_, rfl⟩
  have hs2 : ((w.alloc (.cells #[] 3)).alloc (.cells #[] 3)).heap.size = w.heap.size + 1 + 1 := by simp
  try rw [hs2]
  rw [← hW3] at hB3 hlo0 hhi0 hsz hcb hAW ⊢
  clear hW3 hs2
  have hso := sorted_ok (w.heap.size + 1 + 1) A n c xs W3 hAW (by omega) (by omega) hcb
  have HSO := Lib.hid hso
  clear hso
  with_reducible refine HSO.out.mono ?_
  rintro e w4 ⟨vs, rfl, hvs, hB4⟩
  have hSm : ∀ t ∈ sortL xs, Trk t := fun t ht => H0.out.2.2.2.1 t (sortL_mem.1 ht)
  have hSl := (sortL_length xs).trans H0.out.1
  have hap1 : Apt (.slice (some ⟨w.heap.size, 0, none⟩) 0 0) vs := (apt_fresh hlo0 hvs (Nat.le_refl _)).swap
  have hap2 : Apt (.slice (some ⟨w.heap.size + 1, 0, none⟩) 0 0) vs := (apt_fresh hhi0 hvs (Nat.le_refl _)).swap
  have hI0 : SwI w a up (sortL xs) n vs 0 w4 (.slice (some ⟨w.heap.size, 0, none⟩) 0 0) (.slice (some ⟨w.heap.size + 1, 0, none⟩) 0 0) :=
    ⟨_, _, _, _, 0, 0, rfl, rfl, Nat.le_refl _, Nat.le_refl _, hlo0.below hB4, hhi0.below hB4, own_mono hvs (by omega), fun g h1 h2 => by
      simp [Value.ownBlock] at h1 h2
      omega, hap1, hap2, hB3.trans (hB4.mono (by omega))⟩
  obtain ⟨As, cs, rfl, _⟩ := hvs.form
  obtain ⟨S, hS⟩ : ∃ S, sortL xs = S := ⟨_, rfl⟩
  rw [hS] at hI0 hSm hSl
  have HS := Lib.hid hS
  have HI0 := Lib.hid hI0
  have HSM := Lib.hid hSm
  clear hlo0 hhi0 hcb hAW hap1 hap2 hI0 hS hSm HSO hB4 hB3 hvs hsz
  go_wp2_with fail
  go_loopw [10, 11, 26] (fun lo hi i wr => ∃ k : Nat, k ≤ n ∧ i = .int .i64 k ∧ SwI w a up S n (.slice As n cs) k wr lo hi) (fun _ _ i _ => n - (intOf i).toNat)
  case atStart => exact ⟨0, Nat.zero_le _, rfl, HI0.out⟩
  case round =>
    obtain ⟨k, hk, rfl, hI⟩ := hrel
    clear HI0
    by_cases hlt : k < n
    · have HI := Lib.hid hI
      obtain ⟨A1, c1, A2, c2, n1, n2, rfl, rfl, hn1, hn2, hlo, hhi, hvs, -, -, -, hB⟩ := hI
      have hkI : (k : Int) < (n : Int) := by omega
      obtain ⟨g, rfl, hg1, hg2, hcell, _⟩ := hvs.at_ (by omega)
      have g1 := hcell k hlt
      have htk := take_snoc (xs := S) (k := k) (by omega)
      have ht : Trk (S[k]?.getD 0) := trk_get HSM.out k
      obtain ⟨t, hte⟩ : ∃ t, S[k]?.getD 0 = t := ⟨_, rfl⟩
      rw [hte] at g1 htk ht
      have HTK := Lib.hid htk
      have hBs := hB.size
      obtain ⟨t0, t1⟩ := ht
      clear hcell htk hte hvs hB
      rcases Int.lt_trichotomy t a with hta | hta | hta
      · have hL : isLow a up t = true := by simp [isLow, hta]
        go_wp2_with (at_builtin; refine wpList_app1B rfl _ _ rfl w.heap.size n1 _ _ rfl (hlo.alloc _) wr.heap.size t rfl (by simp) (by omega) (by simp; omega) ?_; intro A3 c3 w3 hown3 hg3 h5)
        go_roundw
        case rel => exact ⟨k + 1, by omega, by go_num, HI.out.low rfl hn1 hown3 hg3 h5 HTK.out hL⟩
        case measure => simp [intOf]; omega
      · subst hta
        cases up
        · have hL : isLow t false t = true := by simp [isLow]
          go_wp2_with (at_builtin; refine wpList_app1B rfl _ _ rfl w.heap.size n1 _ _ rfl (hlo.alloc _) wr.heap.size t rfl (by simp) (by omega) (by simp; omega) ?_; intro A3 c3 w3 hown3 hg3 h5)
          go_roundw
          case rel => exact ⟨k + 1, by omega, by go_num, HI.out.low rfl hn1 hown3 hg3 h5 HTK.out hL⟩
          case measure => simp [intOf]; omega
        · have hL : isLow t true t = false := by simp [isLow]
          go_wp2_with (at_builtin; refine wpList_app1B rfl _ _ rfl w.heap.size n2 _ _ rfl (hhi.alloc _) wr.heap.size t rfl (by simp) (by omega) (by simp; omega) ?_; intro A3 c3 w3 hown3 hg3 h5)
          go_roundw
          case rel => exact ⟨k + 1, by omega, by go_num, HI.out.high rfl hn2 hown3 hg3 h5 HTK.out hL⟩
          case measure => simp [intOf]; omega
      · have hL : isLow a up t = false := by simp [isLow]; omega
        have hne : ¬ t = a := by omega
        have hnl : ¬ t < a := by omega
        go_wp2_with (at_builtin; refine wpList_app1B rfl _ _ rfl w.heap.size n2 _ _ rfl (hhi.alloc _) wr.heap.size t rfl (by simp) (by omega) (by simp; omega) ?_; intro A3 c3 w3 hown3 hg3 h5)
        go_roundw
        case rel => exact ⟨k + 1, by omega, by go_num, HI.out.high rfl hn2 hown3 hg3 h5 HTK.out hL⟩
        case measure => simp [intOf]; omega
    · obtain rfl : k = n := by omega
      have hkI : ¬ (k : Int) < (k : Int) := by omega
      obtain ⟨A1, c1, A2, c2, n1, n2, rfl, rfl, hn1, hn2, hlo, hhi, -, hp1, -, -, hB⟩ := hI
      rw [List.take_of_length_le (by omega)] at hlo hhi
      have hnn : n1 + n2 = k := by have := low_high a up S; have := hlo.len; have := hhi.len; omega
      have hrv := reverse_own hlo (by omega)
      have HRV := Lib.hid hrv
      have hlr : ∀ t ∈ (lowL a up S).reverse, Trk t := fun t ht => HSM.out t (by simp [lowL] at ht; exact ht.1)
      have hhr : ∀ t ∈ highL a up S, Trk t := fun t ht => HSM.out t (by simp [highL] at ht; exact ht.1)
      have HR := Lib.hid (And.intro hlr hhr)
      clear hrv hlr hhr
      go_wp2_with fail
      with_reducible refine HRV.out.mono ?_
      rintro e w5 ⟨rfl, hlo5, hg5⟩
      have hhi5 := apt_keep hhi hp1 hg5
      have hB5 := hB.grown hg5 hB.size (fun q e => (World.ownsRow.lt hlo q e).1)
      clear hlo hhi hp1 hg5 hB HRV
      cases up
      · have hro : Rd w5 A2 n2 (highL a false S) := hhi5.rd (by omega) (fun x hx => by have := HR.out.2 x hx; unfold Trk at this; omega)
        have hsw : sweepL a false xs = (lowL a false S).reverse ++ highL a false S := by unfold sweepL; rw [HS.out]; rfl
        have HSW := Lib.hid hsw
        clear hsw
        go_wp2_with (at_builtin; refine wpList_appL rfl _ _ rfl w.heap.size n1 _ _ rfl hlo5 A2 n2 c2 _ rfl hro (by omega) hB5.size ?_; intro A' c1 w6 hown6 hbel6)
        have hq6 := hbel6 w.heap.size w (Nat.le_refl _) hB5
        rw [← HSW.out, hnn] at hown6
        have htm : ∀ t ∈ sweepL a false xs, Trk t := fun t ht => H0.out.2.2.2.1 t ((sweepL_perm a false xs t).1 ht)
        have hto := told_any A' k c1 _ a w6 (hown6.rd (by omega) (fun x hx => by have := htm x hx; unfold Trk at this; omega)) hn20 H0.out.2.2.1 htm
        have HTO := Lib.hid (And.intro hown6 (And.intro hq6 hto))
        clear hown6 hq6 htm hto hlo5 hhi5 hbel6
        try rw [hnn]
        with_reducible refine HTO.out.2.2.mono ?_
        rintro e w7 ⟨rfl, rfl⟩
        go_wp2
        go_ret3
        exact ⟨_, _, rfl, HTO.out.1, HTO.out.2.1⟩
      · have hro : Rd w5 A1 n1 (lowL a true S).reverse := hlo5.rd (by omega) (fun x hx => by have := HR.out.1 x hx; unfold Trk at this; omega)
        have hsw : sweepL a true xs = highL a true S ++ (lowL a true S).reverse := by unfold sweepL; rw [HS.out]; rfl
        have HSW := Lib.hid hsw
        clear hsw
        go_wp2_with (at_builtin; refine wpList_appL rfl _ _ rfl w.heap.size n2 _ _ rfl hhi5 A1 n1 c1 _ rfl hro (by omega) hB5.size ?_; intro A' c3 w6 hown6 hbel6)
        have hq6 := hbel6 w.heap.size w (Nat.le_refl _) hB5
        rw [Nat.add_comm] at hnn
        rw [← HSW.out, hnn] at hown6
        have htm : ∀ t ∈ sweepL a true xs, Trk t := fun t ht => H0.out.2.2.2.1 t ((sweepL_perm a true xs t).1 ht)
        have hto := told_any A' k c3 _ a w6 (hown6.rd (by omega) (fun x hx => by have := htm x hx; unfold Trk at this; omega)) hn20 H0.out.2.2.1 htm
        have HTO := Lib.hid (And.intro hown6 (And.intro hq6 hto))
        clear hown6 hq6 htm hto hlo5 hhi5 hbel6
        try rw [hnn]
        with_reducible refine HTO.out.2.2.mono ?_
        rintro e w7 ⟨rfl, rfl⟩
        go_wp2
        go_ret3
        exact ⟨_, _, rfl, HTO.out.1, HTO.out.2.1⟩

theorem sweep_bad (A : Option Addr) (n c : Nat) (xs : List Int) (a : Int) (up : Bool) (w : World) (hA : Rd w A n xs) (hE : headE a xs ≠ 0) :
    Calls Tryd.prog 26 #[.int .i64 a, .bool up, .slice A n c] w fun e w' =>
      e = .returned (.tuple #[.int .i64 0, .slice none 0 0, .iface 53 (.int .i64 (headE a xs))]) ∧ w = w' := by
  have hc := hcheck_bad A n c xs a w hA hE
  obtain ⟨E, hEE⟩ : ∃ E, headE a xs = E := ⟨_, rfl⟩
  rw [hEE] at hc ⊢
  have HC := Lib.hid hc
  clear hc hEE hE
  go_enter Tryd.func26, Tryd.ntmps26
  go_wp2_with fail
  with_reducible refine HC.out.mono ?_
  rintro e w' ⟨rfl, rfl⟩
  go_wp2
  go_ret3
  exact ⟨rfl, rfl⟩
end Go.Proofs.YtpleidblnjphmaaDoor
