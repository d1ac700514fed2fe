/- parity.Of by its contracts, and the closed fact. -/
import Derived.Test.YtdhfckdnfppieaaParity
import Derived.Test.YtdhfckdnfppieaaInts
namespace Go.Proofs.Ytdhfckdnfppieaa
open Go Go.RowKit
set_option maxRecDepth 20000
set_option linter.unusedVariables false

/-- All rows taken together by exclusive or. -/
def parI : List (List Int) → List Int
  | [] => []
  | x :: rest => rest.foldl (List.zipWith xorI) x
def Bytes (m : Nat) (xs : List Int) : Prop := xs.length = m ∧ ∀ x ∈ xs, 0 ≤ x ∧ x ≤ 255
theorem zip_bytes {m : Nat} {xs ys : List Int} (hx : Bytes m xs) (hy : Bytes m ys) : Bytes m (List.zipWith xorI xs ys) :=
  ⟨by rw [List.length_zipWith, hx.1, hy.1, Nat.min_self], zip_mem hx.2 hy.2⟩
theorem fold_bytes {m : Nat} : ∀ {l : List (List Int)} {x : List Int}, Bytes m x → (∀ r ∈ l, Bytes m r) → Bytes m (l.foldl (List.zipWith xorI) x)
  | [], x, hx, _ => hx
  | r :: l, x, hx, h => by rw [List.foldl_cons]; exact fold_bytes (zip_bytes hx (h r (by simp))) (fun c hc => h c (by simp [hc]))
theorem par_bytes {m : Nat} {l : List (List Int)} (h0 : 0 < l.length) (h : ∀ r ∈ l, Bytes m r) : Bytes m (parI l) := by
  cases l with
  | nil => simp at h0
  | cons x rest => exact fold_bytes (h x (by simp)) (fun c hc => h c (by simp [hc]))
theorem rows_bytes {l : List (List Int)} {m : Nat} (h : rowsE l = 0) (hm : (l[0]?.getD []).length = m) : ∀ r ∈ l, Bytes m r := by
  intro r hr
  obtain ⟨h1, h2⟩ := (rowsE_zero.1 h).2.2 r hr
  obtain ⟨h3, h4⟩ := bytesE_zero.1 h1
  exact ⟨by rw [h2, hm], allB_mem.1 h4⟩
theorem rows_16 {l : List (List Int)} {m : Nat} (h : rowsE l = 0) (hm : (l[0]?.getD []).length = m) : m ≤ 16 := by
  obtain ⟨h0, _, h1⟩ := rowsE_zero.1 h
  have := (h1 (l[0]?.getD []) (by rw [List.getElem?_eq_getElem h0]; exact List.getElem_mem _)).1
  obtain ⟨h3, _⟩ := bytesE_zero.1 this
  omega
theorem Own.mono {w : World} {B B' : Nat} {v : Value} {n : Nat} {xs : List Int} (h : Own w B v n xs) (hb : B' ≤ B) : Own w B' v n xs := by
  refine ⟨h.1, ?_⟩
  rcases h.2 with h | ⟨g, cap, cur, h1, h2, h3⟩
  · exact .inl h
  · exact .inr ⟨g, cap, cur, h1, Nat.le_trans hb h2, h3⟩
theorem run_cutR (A : Option Addr) (n cap : Nat) (hn : 1 ≤ n) (W : World) :
    (Instr.slice 39 (.slice A n cap) (some (.int .i64 1)) none none).run Try.prog W = .ok (.slice (cutA A cap 1) (n - 1) (cap - 1)) W :=
  run_cut (P := Try.prog) Try.underlying39 (fun _ => by kernel_rfl) A n cap 1 hn W

theorem of_bad (A : Option Addr) (n c : Nat) (rs : List RV) (w : World) (hA : RRows w A n rs) (h : rowsE (dat rs) ≠ 0) :
    Calls Try.prog 25 #[.slice A n c] w fun e w' => e = .returned (.tuple #[.slice none 0 0, .iface 47 (.int .i64 (rowsE (dat rs)))]) ∧ w = w' := by
  obtain ⟨E, hE⟩ : ∃ E, rowsE (dat rs) = E := ⟨_, rfl⟩
  rw [hE] at h ⊢
  have HE := Lib.hid hE
  have HN := Lib.hid h
  clear hE h
  go_enter Try.func25, Try.ntmps25
  go_wp2_with fail
  with_reducible refine (check_any _ _ _ rs _ hA).mono ?_
  rintro e w' ⟨rfl, rfl⟩
  rw [HE.out, errV_ne HN.out]
  go_wp2
  go_ret2
  exact ⟨rfl, rfl⟩

set_option maxHeartbeats 2000000 in
theorem of_ok (A : Option Addr) (n c : Nat) (rs : List RV) (w : World) (hA : RRows w A n rs) (hc : n ≤ c) (h : rowsE (dat rs) = 0) (m : Nat) (hm : ((dat rs)[0]?.getD []).length = m) :
    Calls Try.prog 25 #[.slice A n c] w fun e w' => (∃ C c', e = .returned (.tuple #[.slice C m c', .nilIface]) ∧ Own w' w.heap.size (.slice C m c') m (parI (dat rs))) ∧ Below w.heap.size w w' := by
  have hz := rowsE_zero.1 h
  have hlen : (dat rs).length = n := by rw [dat_len, hA.len]
  have hb := rows_bytes h hm
  have h16 := rows_16 h hm
  have hn0 : 0 < n := by omega
  have hn8 : n ≤ 8 := by omega
  have hs0 := hA.sl (k := 0) hn0
  have hcutR := hA.cut hc (show 1 ≤ n by omega)
  have hcut := run_cutR A n c (by omega)
  obtain ⟨b, off, rfl, hbl, hcc⟩ := hA.at_ hn0
  have hc0 := hcc 0 hn0
  have hd0 := dat_get rs 0
  rw [Nat.add_zero] at hc0
  have hp : ∃ rest, dat rs = ((rs[0]?.getD noRow).2.2.2) :: rest ∧ rest.length = n - 1 ∧ ∀ k : Nat, rest[k]?.getD [] = ((rs.drop 1)[k]?.getD noRow).2.2.2 := by
    cases rs with
    | nil => simp [dat] at hlen; omega
    | cons r rest =>
      refine ⟨dat rest, rfl, by simp [dat] at hlen ⊢; omega, fun k => ?_⟩
      rw [dat_get]; rfl
  obtain ⟨rest, hrest, hrl, hrg⟩ := hp
  rw [hrest] at hb
  obtain ⟨r0, hr0⟩ : ∃ r, rs[0]?.getD noRow = r := ⟨_, rfl⟩
  rw [hr0] at hc0 hs0 hrest hd0 hb
  obtain ⟨A0, n0, c0, x0⟩ := r0
  change w.cell? ⟨b, off, none⟩ = some (.slice A0 n0 c0) at hc0
  change Sl w A0 n0 c0 x0 at hs0
  change dat rs = x0 :: rest at hrest
  have hx0 : Bytes m x0 := hb x0 (by simp)
  have hn0m : n0 = m := by rw [← hs0.1.len, hx0.1]
  subst hn0m
  have hpar : parI (dat rs) = rest.foldl (List.zipWith xorI) x0 := by rw [hrest]; rfl
  rw [hpar]
  obtain ⟨D, hD⟩ : ∃ D, cutA (some ⟨b, off, none⟩) c 1 = D := ⟨_, rfl⟩
  rw [hD] at hcutR hcut
  have HE := Lib.hid h
  have HB := Lib.hid hb
  have HR := Lib.hid (And.intro hrl hrg)
  have HS0 := Lib.hid hs0
  have HX0 := Lib.hid hx0
  clear hz hlen h hb hcc hd0 hrest hrl hrg hr0 hs0 hx0 hpar hD hm
  go_enter Try.func25, Try.ntmps25
  go_wp2_with fail
  with_reducible refine (check_any _ _ _ rs _ hA).mono ?_
  rintro e w' ⟨rfl, rfl⟩
  rw [HE.out, errV_zero]
  go_wp2_with fail
  with_reducible refine (clone_any A0 n0 c0 x0 _ HS0.out (by omega)).mono ?_
  rintro e w1 ⟨⟨C, c1, rfl, hown1⟩, hB1⟩
  go_wp2
  go_loopw [5, 20] (fun v i wr => ∃ (k : Nat) (C : Option Addr) (c' : Nat), k ≤ n - 1 ∧ i = .int .i64 k ∧ v = .slice C n0 c' ∧ Own wr w.heap.size (.slice C n0 c') n0 ((rest.take k).foldl (List.zipWith xorI) x0) ∧ Below w.heap.size w wr) (fun _ i _ => n - 1 - (intOf i).toNat)
  case atStart => exact ⟨0, C, c1, Nat.zero_le _, rfl, rfl, by rw [List.take_zero]; exact hown1, hB1⟩
  case round =>
    obtain ⟨k, C, c', hk, rfl, rfl, hown, hbel⟩ := hrel
    by_cases hlt : k < n - 1
    · obtain ⟨b', off', rfl, hbl', hcc'⟩ := hcutR.at_ (by omega)
      have h1 := (hbel.cell (p := ⟨b', off' + k, none⟩) hbl').trans (hcc' k hlt)
      have hs1 := hcutR.sl hlt
      have hg := HR.out.2 k
      obtain ⟨r, hr⟩ : ∃ r, (rs.drop 1)[k]?.getD noRow = r := ⟨_, rfl⟩
      rw [hr] at h1 hs1 hg
      obtain ⟨A1, n1, c1', x1⟩ := r
      change wr.cell? ⟨b', off' + k, none⟩ = some (.slice A1 n1 c1') at h1
      change Sl w A1 n1 c1' x1 at hs1
      change rest[k]?.getD [] = x1 at hg
      have hkr : k < rest.length := by rw [HR.out.1]; exact hlt
      rw [List.getElem?_eq_getElem hkr] at hg
      change rest[k] = x1 at hg
      have hx1 : Bytes n0 x1 := HB.out x1 (by rw [← hg]; exact List.mem_cons_of_mem _ (List.getElem_mem _))
      have hn1 : n1 = n0 := by rw [← hs1.1.len, hx1.1]
      subst hn1
      have hpb : Bytes n1 ((rest.take k).foldl (List.zipWith xorI) x0) := fold_bytes HX0.out (fun r hr' => HB.out r (List.mem_cons_of_mem _ (List.mem_of_mem_take hr')))
      have hst : (rest.take (k + 1)).foldl (List.zipWith xorI) x0 = List.zipWith xorI ((rest.take k).foldl (List.zipWith xorI) x0) x1 := by
        rw [List.take_succ_eq_append_getElem hkr, List.foldl_append, hg]; rfl
      obtain ⟨P, hP⟩ : ∃ P, (rest.take k).foldl (List.zipWith xorI) x0 = P := ⟨_, rfl⟩
      rw [hP] at hown hpb hst
      have hsl : Sl wr C n1 c' P := hown.sl (by omega) (fun x hx => by have := hpb.2 x hx; omega)
      have hR1 : Rd wr A1 n1 x1 := hs1.1.below hbel
      have HSL := Lib.hid hsl
      have HR1 := Lib.hid hR1
      have HST := Lib.hid hst
      have HPB := Lib.hid hpb.2
      have HX1 := Lib.hid hx1.2
      have hkI : (k : Int) < (n : Int) - 1 := by omega
      have hkI2 : (k : Int) < ((n - 1 : Nat) : Int) := by omega
      clear hcc' hr hg hs1 hP hpb hst hsl hR1 hx1 hkr
      go_wp2_with fail
      with_reducible refine (pxor_any C n1 c' P A1 c1' x1 _ HSL.out HR1.out (by omega) HPB.out HX1.out).mono ?_
      rintro e w2 ⟨⟨C2, c2, rfl, hown2⟩, k2⟩
      have hB2 := hbel.trans (k2.mono hbel.size)
      have hO2 := hown2.mono (B' := w.heap.size) hbel.size
      go_wp2
      go_roundw
      case rel => exact ⟨k + 1, C2, c2, by omega, by go_num, rfl, by rw [HST.out]; exact hO2, hB2⟩
      case measure => simp [intOf]; omega
    · have hkn : k = n - 1 := by omega
      rw [List.take_of_length_le (by rw [HR.out.1]; omega)] at hown
      have hkI2 : ¬ (k : Int) < ((n - 1 : Nat) : Int) := by omega
      have hkI : ¬ (k : Int) < (n : Int) - 1 := by omega
      clear hkn
      go_wp2
      go_ret2
      exact ⟨⟨_, _, rfl, hown⟩, hbel⟩
end Go.Proofs.Ytdhfckdnfppieaa
