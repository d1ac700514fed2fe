/- The reference's Mul, Div, Pow, At by their contracts. -/
import Derived.Test.YtdhfckdnfppieaaDoorXor
import Derived.Test.YtdhfckdnfppieaaDoorAt
import Derived.Test.YtdhfckdnfppieaaDoorPow
import Derived.Deep.QuietTactic
import Derived.BigQuiet
namespace Go.Proofs.YtdhfckdnfppieaaDoor
open Go Go.RowKit
set_option maxRecDepth 20000
set_option linter.unusedVariables false

theorem mulN_two (m : Nat) : mulN m 2 = xtN m := by
  unfold mulN
  rw [show (8 : Nat) = 7 + 1 from rfl, mulF, if_neg (by decide), Nat.zero_xor, show (7 : Nat) = 6 + 1 from rfl, mulF, if_pos (by decide), show 2 / 2 / 2 = 0 from rfl, mulF_zero, Nat.xor_zero]
theorem mulN_bit {a c b : Nat} (ha : a < 256) (hc : c < 128) (hb : b < 2) : mulN a (2 * c + b) = xtN (mulN a c) ^^^ (if b = 1 then a else 0) := by
  have h1 : 2 * c + b = (2 * c) ^^^ b := by
    rcases (by omega : b = 0 ∨ b = 1) with rfl | rfl
    · simp
    · rw [show 2 * c + 1 = 2 * c ||| 1 from (Nat.two_pow_add_eq_or_of_lt (i := 1) (b := 1) (by decide) c), ← Nat.xor_comm]
      have := xor_step (2 * c) 1
      rw [Nat.xor_comm, this]
      simp
      have h2 : 2 * c ||| 1 = 2 * c + 1 := (Nat.two_pow_add_eq_or_of_lt (i := 1) (b := 1) (by decide) c).symm
      omega
  have h2 : xtN c = 2 * c := by unfold xtN; rw [if_neg (by omega)]
  rw [h1, mul_right, ← h2, ← mulN_two c, ← mul_assoc ha (by omega) (by decide), mulN_two]
  rcases (by omega : b = 0 ∨ b = 1) with rfl | rfl
  · rw [mul_zero]; rfl
  · rw [mul_one ha]; rfl

set_option maxHeartbeats 4000000 in
theorem rmul_nat (a b : Nat) (w : World) (ha : a < 256) (hb : b < 256) :
    Calls Tryd.prog 14 #[.int .i64 a, .int .i64 b] w fun e w' => e = .returned (.int .i64 ((mulN a b : Nat) : Int)) ∧ w = w' := by
  go_enter Tryd.func14, Tryd.ntmps14
  go_wp2
  go_loop [5, 6] (fun o p => ∃ t : Nat, t ≤ 8 ∧ p = .int .i64 ((128 / 2 ^ t : Nat) : Int) ∧ o = .int .i64 ((mulN a (b / 2 ^ (8 - t)) : Nat) : Int)) (fun _ p => (intOf p).toNat)
  case atStart => exact ⟨0, by omega, rfl, by rw [show b / 2 ^ (8 - 0) = 0 from Nat.div_eq_of_lt (by omega), mul_zero]; rfl⟩
  case round =>
    obtain ⟨t, ht, rfl, rfl⟩ := hrel
    by_cases ht8 : t < 8
    · have hst : ∃ P c : Nat, 128 / 2 ^ t = P ∧ 1 ≤ P ∧ P ≤ 128 ∧ P / 2 = 128 / 2 ^ (t + 1) ∧ b / 2 ^ (8 - t) = c ∧ c < 128 ∧ b / 2 ^ (8 - (t + 1)) = 2 * c + b / P % 2 := by
        rcases (by omega : t = 0 ∨ t = 1 ∨ t = 2 ∨ t = 3 ∨ t = 4 ∨ t = 5 ∨ t = 6 ∨ t = 7) with rfl | rfl | rfl | rfl | rfl | rfl | rfl | rfl <;>
          (refine ⟨_, _, rfl, by decide, by decide, by decide, rfl, ?_, ?_⟩ <;> simp <;> omega)
      obtain ⟨P, c, hP, hP1, hP2, hP3, hc, hc1, hc2⟩ := hst
      rw [hP, hc]
      have hbit := mulN_bit (a := a) (b := b / P % 2) ha hc1 (by omega)
      rw [← hc2] at hbit
      obtain ⟨O, hO⟩ : ∃ O, mulN a c = O := ⟨_, rfl⟩
      have hO1 : O < 256 := by rw [← hO]; exact mul_lt ha
      rw [hO] at hbit ⊢
      have hPI : (0 : Int) < (P : Int) := by omega
      have hq : (b : Int) / (P : Int) = ((b / P : Nat) : Int) := by simp
      have hqb : b / P ≤ 255 := Nat.le_trans (Nat.div_le_self _ _) (by omega)
      obtain ⟨q, hqe⟩ : ∃ q, b / P = q := ⟨_, rfl⟩
      rw [hqe] at hbit hq hqb
      have HK := Lib.hid (And.intro hbit (And.intro hP3 hO1))
      clear hbit hP3 hP hc hc2 hqe hO
      by_cases hbig : 255 < O * 2
      · have hbI : (255 : Int) < (O : Int) * 2 := by omega
        have hx : xtN O = (O * 2) ^^^ 285 := by unfold xtN; rw [if_pos (by omega), Nat.mul_comm]
        have hxc : xorI ((O : Int) * 2) 285 = ((xtN O : Nat) : Int) := by
          rw [hx]; unfold xorI; first | (congr 2; done) | (congr 2; omega)
        have hX1 : xtN O < 256 := xt_lt hO1
        obtain ⟨X, hX⟩ : ∃ X, xtN O = X := ⟨_, rfl⟩
        rw [hX] at hxc hX1
        have HX := Lib.hid (And.intro hX hxc)
        clear hx hxc hX
        rcases (by omega : q % 2 = 0 ∨ q % 2 = 1) with hq2 | hq2
        · have hqI : ((q : Int) % 2 == 1) = false := by simp; omega
          go_wp2_with fail
          with_reducible refine (xor_any ((O : Int) * 2) 285 _ (by omega) (by omega) (by omega) (by omega)).mono ?_
          rintro e w' ⟨rfl, rfl⟩
          rw [HX.out.2]
          go_wp2
          go_round
          case rel => exact ⟨t + 1, by omega, by rw [← HK.out.2.1]; go_num, by rw [HK.out.1, HX.out.1, if_neg (by omega), Nat.xor_zero]⟩
          case measure => simp [intOf]; omega
        · have hqI : ((q : Int) % 2 == 1) = true := by simp; omega
          have hxa : xorI (X : Int) (a : Int) = ((X ^^^ a : Nat) : Int) := xorI_nat X a
          have HXA := Lib.hid hxa
          clear hxa
          go_wp2_with fail
          with_reducible refine (xor_any ((O : Int) * 2) 285 _ (by omega) (by omega) (by omega) (by omega)).mono ?_
          rintro e w' ⟨rfl, rfl⟩
          rw [HX.out.2]
          go_wp2_with fail
          with_reducible refine (xor_any (X : Int) (a : Int) _ (by omega) (by omega) (by omega) (by omega)).mono ?_
          rintro e w' ⟨rfl, rfl⟩
          rw [HXA.out]
          go_wp2
          go_round
          case rel => exact ⟨t + 1, by omega, by rw [← HK.out.2.1]; go_num, by rw [HK.out.1, HX.out.1, if_pos hq2]⟩
          case measure => simp [intOf]; omega
      · have hbI : ¬ (255 : Int) < (O : Int) * 2 := by omega
        have hx : xtN O = O * 2 := by unfold xtN; rw [if_neg (by omega), Nat.mul_comm]
        have HX := Lib.hid hx
        clear hx
        rcases (by omega : q % 2 = 0 ∨ q % 2 = 1) with hq2 | hq2
        · have hqI : ((q : Int) % 2 == 1) = false := by simp; omega
          go_wp2
          go_round
          case rel => exact ⟨t + 1, by omega, by rw [← HK.out.2.1]; go_num, by rw [HK.out.1, HX.out, if_neg (by omega), Nat.xor_zero]; go_num⟩
          case measure => simp [intOf]; omega
        · have hqI : ((q : Int) % 2 == 1) = true := by simp; omega
          have hxa : xorI ((O : Int) * 2) (a : Int) = (((O * 2) ^^^ a : Nat) : Int) := by unfold xorI; first | (congr 2; done) | (congr 2; omega)
          have HXA := Lib.hid hxa
          clear hxa
          go_wp2_with fail
          with_reducible refine (xor_any ((O : Int) * 2) (a : Int) _ (by omega) (by omega) (by omega) (by omega)).mono ?_
          rintro e w' ⟨rfl, rfl⟩
          rw [HXA.out]
          go_wp2
          go_round
          case rel => exact ⟨t + 1, by omega, by rw [← HK.out.2.1]; go_num, by rw [HK.out.1, HX.out, if_pos hq2]⟩
          case measure => simp [intOf]; omega
    · obtain rfl : t = 8 := by omega
      rw [show 128 / 2 ^ 8 = 0 from rfl, show b / 2 ^ (8 - 8) = b from by simp, show ((0 : Nat) : Int) = 0 from rfl]
      go_wp2
      go_ret
      exact ⟨rfl, rfl⟩
theorem rmul_any (x y : Int) (w : World) (hx : Byte x) (hy : Byte y) :
    Calls Tryd.prog 14 #[.int .i64 x, .int .i64 y] w fun e w' => e = .returned (.int .i64 (mulI x y)) ∧ w = w' := by
  obtain ⟨hx0, hx1⟩ := hx
  obtain ⟨hy0, hy1⟩ := hy
  obtain ⟨a, rfl⟩ := Int.eq_ofNat_of_zero_le hx0
  obtain ⟨b, rfl⟩ := Int.eq_ofNat_of_zero_le hy0
  rw [mulI_nat]
  exact rmul_nat a b w (by omega) (by omega)

set_option maxHeartbeats 2000000 in
theorem rpow_any (x : Int) (n : Nat) (w : World) (hx : Byte x) (hn : n ≤ 1000) :
    Calls Tryd.prog 17 #[.int .i64 x, .int .i64 n] w fun e w' => e = .returned (.int .i64 (powI x n)) ∧ w = w' := by
  have HX := Lib.hid hx
  obtain ⟨hx0, hx1⟩ := hx
  go_enter Tryd.func17, Tryd.ntmps17
  go_wp2
  go_loop [5, 6] (fun o i => ∃ k : Nat, k ≤ n ∧ i = .int .i64 k ∧ o = .int .i64 (powI x k)) (fun _ i => n - (intOf i).toNat)
  case atStart => exact ⟨0, by omega, rfl, rfl⟩
  case round =>
    obtain ⟨k, hk, rfl, rfl⟩ := hrel
    by_cases hlt : k < n
    · have hkI : (k : Int) < (n : Int) := by omega
      have hb := powI_byte HX.out k
      have hs := powI_succ x k
      obtain ⟨O, hO⟩ : ∃ O, powI x k = O := ⟨_, rfl⟩
      rw [hO] at hb hs ⊢
      have HB := Lib.hid hb
      have HS := Lib.hid hs
      clear hb hs hO
      go_wp2_with fail
      with_reducible refine (rmul_any O x _ HB.out HX.out).mono ?_
      rintro e w' ⟨rfl, rfl⟩
      rw [← HS.out]
      go_wp2
      go_round
      case rel => exact ⟨k + 1, by omega, by go_num, rfl⟩
      case measure => simp [intOf]; omega
    · obtain rfl : k = n := by omega
      have hkI : ¬ (k : Int) < (k : Int) := by omega
      go_wp2
      go_ret
      exact ⟨rfl, rfl⟩

theorem div_iff {a b x : Nat} (ha : a < 256) (hb : b < 256) (h0 : b ≠ 0) (hx : x < 256) : mulN x b = a ↔ x = mulN a (invN b) := by
  constructor
  · intro h; rw [← h, mul_div hx hb h0]
  · intro h; rw [h, div_mul ha hb h0]
set_option maxHeartbeats 2000000 in
theorem rdiv_any (x y : Int) (w : World) (hx : Byte x) (hy : Byte y) (h0 : y ≠ 0) :
    Calls Tryd.prog 16 #[.int .i64 x, .int .i64 y] w fun e w' => e = .returned (.int .i64 (mulI x (invI y))) ∧ w = w' := by
  obtain ⟨V, hV⟩ : ∃ V : Nat, mulN x.toNat (invN y.toNat) = V := ⟨_, rfl⟩
  have hVe : mulI x (invI y) = (V : Int) := by
    rw [← hV]; unfold mulI invI; rw [Int.toNat_natCast]
  have hx256 : x.toNat < 256 := by have := hx.2; omega
  have hy256 : y.toNat < 256 := by have := hy.2; omega
  have hy0 : y.toNat ≠ 0 := by have := hy.1; omega
  have hV1 : V < 256 := by rw [← hV]; exact mul_lt hx256
  have hif : ∀ k : Nat, k < 256 → (mulI (k : Int) y = x ↔ k = V) := fun k hk => by
    have := div_iff hx256 hy256 hy0 hk
    rw [hV] at this
    rw [← this]
    unfold mulI
    rw [Int.toNat_natCast]
    have := hx.1
    omega
  rw [hVe]
  have HH := Lib.hid (And.intro hif hy)
  obtain ⟨hx0, hx1⟩ := hx
  clear hif hVe hV
  go_enter Tryd.func16, Tryd.ntmps16
  go_wp2
  go_loop [5] (fun i => ∃ k : Nat, k ≤ V ∧ i = .int .i64 k) (fun i => 256 - (intOf i).toNat)
  case atStart => exact ⟨0, by omega, rfl⟩
  case round =>
    obtain ⟨k, hk, rfl⟩ := hrel
    have hkI : (k : Int) < 256 := by omega
    have hbk : Byte (k : Int) := ⟨by omega, by omega⟩
    have hkif := HH.out.1 k (by omega)
    obtain ⟨m, hm⟩ : ∃ m, mulI (k : Int) y = m := ⟨_, rfl⟩
    rw [hm] at hkif
    have HM := Lib.hid (And.intro hm hbk)
    clear hm hbk
    by_cases hkV : k = V
    · subst hkV
      obtain rfl : m = x := hkif.2 rfl
      have hmm : (m == m) = true := by simp
      clear hkif
      go_wp2_with fail
      with_reducible refine (rmul_any (k : Int) y _ HM.out.2 HH.out.2).mono ?_
      rintro e w' ⟨rfl, rfl⟩
      rw [HM.out.1]
      go_wp2
      go_ret
      exact ⟨rfl, rfl⟩
    · have hmx : (m == x) = false := by
        rw [Bool.eq_false_iff]; intro h
        exact hkV (hkif.1 (by simpa using h))
      clear hkif
      go_wp2_with fail
      with_reducible refine (rmul_any (k : Int) y _ HM.out.2 HH.out.2).mono ?_
      rintro e w' ⟨rfl, rfl⟩
      rw [HM.out.1]
      go_wp2
      go_round
      case rel => exact ⟨k + 1, by omega, by go_num⟩
      case measure => simp [intOf]; omega

def natsR (zs : List Int) : List Nat := zs.map Int.toNat
theorem hornR_eval {zs : List Int} (h : ∀ x ∈ zs, 0 ≤ x ∧ x ≤ 255) (x : Nat) : horn (x : Int) zs = ((evalN (natsR zs) x : Nat) : Int) := by
  induction zs with
  | nil => rfl
  | cons f r ih =>
    have ih := ih (fun y hy => h y (by simp [hy]))
    show xorI (mulI (horn (x : Int) r) x) f = ((f.toNat ^^^ mulN (evalN (natsR r) x) x : Nat) : Int)
    rw [ih]
    unfold xorI mulI
    rw [Int.toNat_natCast, Int.toNat_natCast, Int.toNat_natCast, Nat.xor_comm]
theorem evalN_snoc {x : Nat} (hx : x < 256) : ∀ {l : List Nat} {f : Nat}, Byt l → f < 256 → evalN (l ++ [f]) x = evalN l x ^^^ mulN f (powN x l.length)
  | [], f, _, hf => by
    show f ^^^ mulN 0 x = 0 ^^^ mulN f 1
    rw [zero_mul, mul_one hf, Nat.xor_zero, Nat.zero_xor]
  | g :: l, f, hl, hf => by
    show g ^^^ mulN (evalN (l ++ [f]) x) x = (g ^^^ mulN (evalN l x) x) ^^^ mulN f (powN x (l.length + 1))
    rw [evalN_snoc hx hl.tail hf, mul_left (evalN_lt hl.tail hx) (mul_lt hf), mul_assoc hf (powN_lt hx _) hx, Nat.xor_assoc]; rfl
theorem horn_byte {x : Int} (hx : Byte x) : ∀ {zs : List Int}, (∀ y ∈ zs, 0 ≤ y ∧ y ≤ 255) → Byte (horn x zs)
  | [], _ => ⟨by show (0 : Int) ≤ 0; omega, by show (0 : Int) ≤ 255; omega⟩
  | f :: r, h => by
    have ih := horn_byte hx (zs := r) (fun y hy => h y (by simp [hy]))
    have hf := h f (by simp)
    exact ⟨xorI_nonneg _ _, xorI_255 (mulI_le ih.2) hf.2⟩
theorem horn_snoc {x : Int} (hx : Byte x) {zs : List Int} (h : ∀ y ∈ zs, 0 ≤ y ∧ y ≤ 255) {f : Int} (hf : 0 ≤ f ∧ f ≤ 255) : horn x (zs ++ [f]) = xorI (horn x zs) (mulI f (powI x zs.length)) := by
  obtain ⟨n, rfl⟩ := Int.eq_ofNat_of_zero_le hx.1
  have hn : n < 256 := by have := hx.2; omega
  have hb : Byt (natsR zs) := by
    intro b hb
    obtain ⟨y, hy, rfl⟩ := List.mem_map.1 hb
    have := h y hy; omega
  rw [hornR_eval h, hornR_eval (fun y hy => by rcases List.mem_append.1 hy with h1 | h1; exact h y h1; simp at h1; subst h1; exact hf)]
  have e : natsR (zs ++ [f]) = natsR zs ++ [f.toNat] := by simp [natsR]
  rw [e, evalN_snoc hn hb (by omega)]
  unfold xorI mulI powI
  rw [Int.toNat_natCast, Int.toNat_natCast, Int.toNat_natCast, Int.toNat_natCast]
  simp [natsR]

set_option maxHeartbeats 4000000 in
theorem rat_any (A : Option Addr) (n c : Nat) (xs : List Int) (x : Int) (w : World) (hA : Rd w A n xs) (hn : n ≤ 16) (hall : allB xs 0 255 = true) (hx : Byte x) :
    Calls Tryd.prog 20 #[.slice A n c, .int .i64 x] w fun e w' => e = .returned (.int .i64 (horn x xs)) ∧ Below w.heap.size w w' := by
  have hl := hA.len
  have hmem := allB_mem.1 hall
  have HH := Lib.hid (And.intro hl (And.intro hmem hx))
  clear hl hmem hall hx
  go_enter Tryd.func20, Tryd.ntmps20
  go_wp2
  go_loopw [5, 6] (fun o i wr => ∃ k : Nat, k ≤ n ∧ i = .int .i64 k ∧ o = .int .i64 (horn x (xs.take k)) ∧ Below w.heap.size w wr) (fun _ i _ => n - (intOf i).toNat)
  case atStart => exact ⟨0, Nat.zero_le _, rfl, rfl, Below.refl _ _⟩
  case round =>
    obtain ⟨k, hk, rfl, rfl, hbel⟩ := hrel
    by_cases hlt : k < n
    · have hkI : (k : Int) < (n : Int) := by omega
      obtain ⟨b, off, rfl, hbl, hcc⟩ := hA.at_ (by omega)
      have c1 := (hbel.cell (p := ⟨b, off + k, none⟩) hbl).trans (hcc k hlt)
      have hkl : k < xs.length := by rw [HH.out.1]; exact hlt
      have hfb : 0 ≤ xs[k]?.getD 0 ∧ xs[k]?.getD 0 ≤ 255 := by rw [List.getElem?_eq_getElem hkl]; exact HH.out.2.1 _ (List.getElem_mem hkl)
      have hsn : xs.take (k + 1) = xs.take k ++ [xs[k]?.getD 0] := by rw [List.take_succ_eq_append_getElem hkl, List.getElem?_eq_getElem hkl]; rfl
      have hmt : ∀ y ∈ xs.take k, 0 ≤ y ∧ y ≤ 255 := fun y hy => HH.out.2.1 y (List.mem_of_mem_take hy)
      have hs := horn_snoc HH.out.2.2 hmt hfb
      rw [← hsn, show (xs.take k).length = k from by rw [List.length_take]; omega] at hs
      have hob := horn_byte HH.out.2.2 hmt
      have hpb := powI_byte HH.out.2.2 k
      obtain ⟨f, hf⟩ : ∃ f, xs[k]?.getD 0 = f := ⟨_, rfl⟩
      obtain ⟨O, hO⟩ : ∃ O, horn x (xs.take k) = O := ⟨_, rfl⟩
      obtain ⟨Q, hQ⟩ : ∃ Q, powI x k = Q := ⟨_, rfl⟩
      rw [hf] at c1 hfb hs
      rw [hO] at hs hob ⊢
      rw [hQ] at hs hpb
      have hmb0 := mulI_nonneg f Q
      have hmb1 := mulI_le (y := Q) hfb.2
      have hpw := fun w => rpow_any x k w HH.out.2.2 (by omega)
      rw [hQ] at hpw
      have hmu := fun w => rmul_any f Q w ⟨hfb.1, hfb.2⟩ hpb
      obtain ⟨M, hM⟩ : ∃ M, mulI f Q = M := ⟨_, rfl⟩
      rw [hM] at hs hmb0 hmb1 hmu
      have hxo := fun w => xor_any O M w hob.1 (by have := hob.2; omega) hmb0 (by omega)
      have HS := Lib.hid hs
      have HP := Lib.hid hpw
      have HMU := Lib.hid hmu
      have HXO := Lib.hid hxo
      clear hcc hkl hfb hsn hmt hs hob hpb hf hO hQ hpw hmu hM hxo
      go_wp2
      go_quiet (first
        | (go_at_call 17; exact Calls.quiet_of_same ((HP.out _).mono fun _ _ h => ⟨h.1, h.2.symm⟩))
        | (go_at_call 14; exact Calls.quiet_of_same ((HMU.out _).mono fun _ _ h => ⟨h.1, h.2.symm⟩))
        | (go_at_call 40; exact Calls.quiet_of_same ((HXO.out _).mono fun _ _ h => ⟨h.1, h.2.symm⟩)))
      go_wp2
      go_roundw
      case rel => exact ⟨k + 1, by omega, by go_num, by rw [HS.out], below_drewN_of hbel _⟩
      case measure => simp [intOf]; omega
    · obtain rfl : k = n := by omega
      rw [List.take_of_length_le (by rw [HH.out.1]; omega)]
      have hkI : ¬ (k : Int) < (k : Int) := by omega
      go_wp2
      go_ret
      exact ⟨rfl, hbel⟩
end Go.Proofs.YtdhfckdnfppieaaDoor
