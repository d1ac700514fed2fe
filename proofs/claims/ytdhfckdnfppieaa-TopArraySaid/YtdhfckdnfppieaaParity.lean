/- Package parity by its contracts: Check, Of. -/
import Derived.Test.YtdhfckdnfppieaaRL
import Derived.Test.YtdhfckdnfppieaaBytes
namespace Go.Proofs.Ytdhfckdnfppieaa
open Go Go.RowKit
set_option maxRecDepth 20000
set_option linter.unusedVariables false

def rowsLoop (L : Nat) : List (List Int) → Int
  | [] => 0
  | r :: rest => if bytesE r 16 ≠ 0 then bytesE r 16 else if r.length ≠ L then 3 else rowsLoop L rest
/-- What Check says of rows. -/
def rowsE (l : List (List Int)) : Int := if l.length = 0 then 5 else if 8 < l.length then 4 else rowsLoop (l[0]?.getD []).length l
theorem rowsLoop_zero {L : Nat} {l : List (List Int)} : rowsLoop L l = 0 ↔ ∀ r ∈ l, bytesE r 16 = 0 ∧ r.length = L := by
  induction l with
  | nil => simp [rowsLoop]
  | cons r rest ih =>
    unfold rowsLoop
    by_cases h1 : bytesE r 16 = 0
    · by_cases h2 : r.length = L
      · simp [h1, h2, ih]
      · simp [h1, h2]
    · simp [h1]
theorem rowsE_zero {l : List (List Int)} : rowsE l = 0 ↔ 0 < l.length ∧ l.length ≤ 8 ∧ ∀ r ∈ l, bytesE r 16 = 0 ∧ r.length = (l[0]?.getD []).length := by
  unfold rowsE
  by_cases h0 : l.length = 0
  · simp [h0]
  · by_cases h8 : 8 < l.length
    · rw [if_neg h0, if_pos h8]; constructor
      · intro h; omega
      · rintro ⟨_, h, _⟩; omega
    · rw [if_neg h0, if_neg h8, rowsLoop_zero]
      constructor
      · intro h; exact ⟨by omega, by omega, h⟩
      · rintro ⟨_, _, h⟩; exact h
theorem bytesE_val {xs : List Int} {m : Int} (h : bytesE xs m ≠ 0) : bytesE xs m = 4 ∨ bytesE xs m = 1 := by
  unfold bytesE at *
  split
  · exact .inl rfl
  · rename_i h1
    rw [if_neg h1] at h
    split
    · rename_i h2
      rw [if_pos h2] at h
      exact absurd rfl h
    · exact .inr rfl

/-- The error of a number: none at 0. -/
def errV (e : Int) : Value := if e = 0 then .nilIface else .iface 47 (.int .i64 e)
theorem errV_zero : errV 0 = .nilIface := rfl
theorem errV_ne {e : Int} (h : e ≠ 0) : errV e = .iface 47 (.int .i64 e) := by unfold errV; rw [if_neg h]

set_option maxHeartbeats 2000000 in
theorem check_any (A : Option Addr) (n c : Nat) (rs : List RV) (w : World) (hA : RRows w A n rs) :
    Calls Try.prog 40 #[.slice A n c] w fun e w' => e = .returned (errV (rowsE (dat rs))) ∧ w = w' := by
  have hlen : (dat rs).length = n := by rw [dat_len, hA.len]
  have hmx := hA.max
  by_cases h0 : n = 0
  · subst h0
    have he : rowsE (dat rs) = 5 := by unfold rowsE; rw [if_pos hlen]
    rw [he, errV_ne (by decide)]
    clear he hlen
    go_enter Try.func40, Try.ntmps40
    go_wp2
    go_ret
    exact ⟨rfl, rfl⟩
  · have hn0 : ((n : Int) == 0) = false := by simp; omega
    by_cases h8 : 8 < n
    · have he : rowsE (dat rs) = 4 := by unfold rowsE; rw [if_neg (by omega), if_pos (by omega)]
      rw [he, errV_ne (by decide)]
      clear he hlen
      go_enter Try.func40, Try.ntmps40
      go_wp2
      go_ret
      exact ⟨rfl, rfl⟩
    · obtain ⟨b, off, rfl, hbl, hcc⟩ := hA.at_ (by omega)
      have hc0 := hcc 0 (by omega)
      have HCC := Lib.hid hcc
      clear hcc
      have hs0 := hA.sl (k := 0) (by omega)
      obtain ⟨r0, hr0⟩ : ∃ r, rs[0]?.getD noRow = r := ⟨_, rfl⟩
      rw [hr0, Nat.add_zero] at hc0
      obtain ⟨A0, n0, c0, x0⟩ := r0
      change w.cell? ⟨b, off, none⟩ = some (.slice A0 n0 c0) at hc0
      rw [hr0] at hs0
      have hl0 : x0.length = n0 := hs0.1.len
      have he : rowsE (dat rs) = rowsLoop n0 (dat rs) := by
        unfold rowsE
        rw [if_neg (by omega), if_neg (by omega), dat_get, hr0, hl0]
      rw [he]
      obtain ⟨E, hE⟩ : ∃ E, rowsLoop n0 (dat rs) = E := ⟨_, rfl⟩
      rw [hE]
      have HE := Lib.hid (And.intro hE hlen)
      clear he hE hr0 hl0 hlen
      go_enter Try.func40, Try.ntmps40
      go_wp2
      go_loop [16] (fun i => ∃ k : Nat, k ≤ n ∧ i = .int .i64 k ∧ rowsLoop n0 ((dat rs).drop k) = E) (fun i => n - (intOf i).toNat)
      case atStart => exact ⟨0, Nat.zero_le _, rfl, by rw [List.drop_zero]; exact HE.out.1⟩
      case round =>
        obtain ⟨k, hk, rfl, hke⟩ := hrel
        by_cases hlt : k < n
        · have h1 := HCC.out k hlt
          have hs := hA.sl hlt
          have hd : (dat rs).drop k = (rs[k]?.getD noRow).2.2.2 :: (dat rs).drop (k + 1) := by
            rw [List.drop_eq_getElem_cons (by rw [HE.out.2]; exact hlt), ← dat_get, List.getElem?_eq_getElem (by rw [HE.out.2]; exact hlt)]; rfl
          rw [hd, rowsLoop] at hke
          obtain ⟨r, hr⟩ : ∃ r, rs[k]?.getD noRow = r := ⟨_, rfl⟩
          rw [hr] at h1 hs hke
          obtain ⟨A1, n1, c1, x1⟩ := r
          change w.cell? ⟨b, off + k, none⟩ = some (.slice A1 n1 c1) at h1
          have hl1 : x1.length = n1 := hs.1.len
          have hR : Rd w A1 n1 x1 := hs.1
          change (if bytesE x1 16 ≠ 0 then bytesE x1 16 else if x1.length ≠ n0 then 3 else rowsLoop n0 (List.drop (k + 1) (dat rs))) = E at hke
          rw [hl1] at hke
          have HR := Lib.hid hR
          clear hd hr hs hR
          by_cases hbe : bytesE x1 16 = 0
          · obtain ⟨hb1, hb2⟩ := bytesE_zero.1 hbe
            rw [hl1] at hb1
            rw [if_neg (by simpa using hbe)] at hke
            have HB := Lib.hid hb2
            clear hbe hb2 hl1
            by_cases hln : n1 = n0
            · subst hln
              rw [if_neg (by simp)] at hke
              have HK := Lib.hid hke
              clear hke
              have hne : ((n1 : Int) != (n1 : Int)) = false := by simp
              go_wp2_with fail
              with_reducible refine (bytes_ok _ _ _ _ x1 _ HR.out hb1 HB.out).mono ?_
              rintro e w' ⟨rfl, rfl⟩
              go_wp2
              go_round
              case rel => exact ⟨k + 1, by omega, by go_num, HK.out⟩
              case measure => simp [intOf]; omega
            · rw [if_pos hln] at hke
              subst hke
              have hne : ((n1 : Int) != (n0 : Int)) = true := by simp; omega
              go_wp2_with fail
              with_reducible refine (bytes_ok _ _ _ _ x1 _ HR.out hb1 HB.out).mono ?_
              rintro e w' ⟨rfl, rfl⟩
              go_wp2
              go_ret
              exact ⟨rfl, rfl⟩
          · rw [if_pos hbe] at hke
            obtain ⟨F, hF⟩ : ∃ F, bytesE x1 16 = F := ⟨_, rfl⟩
            have hE0 : E ≠ 0 := by rw [← hke]; exact hbe
            have HK := Lib.hid hke
            have HBE := Lib.hid hbe
            clear hke hbe hF hl1
            have HE0 := Lib.hid hE0
            clear hE0
            go_wp2_with fail
            with_reducible refine (bytes_bad _ _ _ _ x1 _ HR.out HBE.out).mono ?_
            rintro e w' ⟨rfl, rfl⟩
            rw [HK.out]
            go_wp2
            go_ret
            exact ⟨by rw [errV_ne HE0.out]; rfl, rfl⟩
        · obtain rfl : k = n := by omega
          have hE0 : E = 0 := by
            rw [← hke, List.drop_of_length_le (by rw [HE.out.2]; omega)]; rfl
          subst hE0
          clear hke
          go_wp2
          go_ret
          exact ⟨rfl, rfl⟩
end Go.Proofs.Ytdhfckdnfppieaa
