/- Sets of places as runs: plain laws. No program in sight. -/
import Derived.Test.YtllacbogbbbcaaaSl
namespace Go.Proofs.Ytllacbogbbbcaaa
open Go Go.RowKit
set_option linter.unusedVariables false

abbrev Rn := Int × Int
def okR (r : Rn) : Prop := 0 ≤ r.1 ∧ r.1 ≤ 999 ∧ 1 ≤ r.2 ∧ r.2 ≤ 1000 - r.1
instance (r : Rn) : Decidable (okR r) := by unfold okR; infer_instance
def oneE (r : Rn) : Int := if okR r then 0 else 1
def runsLoop : Int → List Rn → Int
  | _, [] => 0
  | e, r :: rest => if ¬ okR r then 1 else if r.1 ≤ e then 3 else runsLoop (r.1 + r.2) rest
def runsE (l : List Rn) : Int := if 16 < l.length then 4 else runsLoop (-1) l
def endOf : Int → List Rn → Int
  | e, [] => e
  | _, r :: rest => endOf (r.1 + r.2) rest
theorem runsLoop_def (e : Int) (r : Rn) (rest : List Rn) : runsLoop e (r :: rest) = if ¬ okR r then 1 else if r.1 ≤ e then 3 else runsLoop (r.1 + r.2) rest := rfl
theorem endOf_cons (e : Int) (r : Rn) (rest : List Rn) : endOf e (r :: rest) = endOf (r.1 + r.2) rest := rfl
theorem runsLoop_cons {e : Int} {r : Rn} {rest : List Rn} : runsLoop e (r :: rest) = 0 ↔ okR r ∧ e < r.1 ∧ runsLoop (r.1 + r.2) rest = 0 := by
  rw [runsLoop_def]
  by_cases h1 : okR r
  · rw [if_neg (by simpa using h1)]
    by_cases h2 : r.1 ≤ e
    · rw [if_pos h2]; constructor
      · intro h; omega
      · rintro ⟨_, h, _⟩; omega
    · rw [if_neg h2]; exact ⟨fun h => ⟨h1, by omega, h⟩, fun h => h.2.2⟩
  · rw [if_pos h1]; constructor
    · intro h; omega
    · rintro ⟨h, _⟩; exact absurd h h1
theorem runsLoop_snoc {r : Rn} : ∀ {l : List Rn} {e : Int}, runsLoop e (l ++ [r]) = 0 ↔ runsLoop e l = 0 ∧ okR r ∧ endOf e l < r.1
  | [], e => by
    rw [List.nil_append, runsLoop_cons]; simp [runsLoop, endOf]
  | q :: l, e => by
    rw [List.cons_append, runsLoop_cons, runsLoop_cons, runsLoop_snoc (l := l), endOf_cons]
    constructor
    · rintro ⟨a, b, c, d, f⟩; exact ⟨⟨a, b, c⟩, d, f⟩
    · rintro ⟨⟨a, b, c⟩, d, f⟩; exact ⟨a, b, c, d, f⟩
theorem endOf_snoc {r : Rn} : ∀ {l : List Rn} {e : Int}, endOf e (l ++ [r]) = r.1 + r.2
  | [], e => rfl
  | q :: l, e => by rw [List.cons_append, endOf_cons]; exact endOf_snoc
theorem okR_mem : ∀ {l : List Rn} {e : Int}, runsLoop e l = 0 → ∀ r ∈ l, okR r
  | [], _, _, r, hr => by simp at hr
  | q :: l, e, h, r, hr => by
    obtain ⟨h1, _, h3⟩ := runsLoop_cons.1 h
    rcases List.mem_cons.1 hr with rfl | hr
    · exact h1
    · exact okR_mem h3 r hr
theorem runsE_zero {l : List Rn} : runsE l = 0 ↔ l.length ≤ 16 ∧ runsLoop (-1) l = 0 := by
  unfold runsE
  by_cases h : 16 < l.length
  · rw [if_pos h]; constructor
    · intro h; omega
    · rintro ⟨h1, _⟩; omega
  · rw [if_neg h]; exact ⟨fun h1 => ⟨by omega, h1⟩, fun h1 => h1.2⟩

def inR (r : Rn) (p : Int) : Bool := decide (r.1 ≤ p) && decide (p < r.1 + r.2)
def hasB (l : List Rn) (p : Int) : Bool := l.any fun r => inR r p
theorem hasB_cons (r : Rn) (l : List Rn) (p : Int) : hasB (r :: l) p = (inR r p || hasB l p) := rfl
theorem hasB_snoc (r : Rn) (l : List Rn) (p : Int) : hasB (l ++ [r]) p = (hasB l p || inR r p) := by simp [hasB]
theorem inR_iff {r : Rn} {p : Int} : inR r p = true ↔ r.1 ≤ p ∧ p < r.1 + r.2 := by simp [inR]
theorem hasB_low {p : Int} : ∀ {l : List Rn} {e : Int}, runsLoop e l = 0 → hasB l p = true → e < p
  | [], _, _, h => by simp [hasB] at h
  | r :: l, e, h, hp => by
    obtain ⟨h1, h2, h3⟩ := runsLoop_cons.1 h
    rw [hasB_cons, Bool.or_eq_true] at hp
    rcases hp with hp | hp
    · have := inR_iff.1 hp; omega
    · have := hasB_low h3 hp
      have := h1.2.2.1; omega
theorem hasB_in {p : Int} {l : List Rn} {e : Int} (h : runsLoop e l = 0) (hp : hasB l p = true) : 0 ≤ p ∧ p ≤ 999 := by
  unfold hasB at hp
  rw [List.any_eq_true] at hp
  obtain ⟨r, hr, hp⟩ := hp
  have h1 := okR_mem h r hr
  have h2 := inR_iff.1 hp
  obtain ⟨a, b, c, d⟩ := h1
  omega

/-- The runs of the places of f below P, and the place at which a run is open (or -1). -/
def scanS (f : Nat → Bool) : Nat → List Rn × Int
  | 0 => ([], -1)
  | P + 1 => if f P then (if (scanS f P).2 < 0 then ((scanS f P).1, (P : Int)) else scanS f P) else (if 0 ≤ (scanS f P).2 then ((scanS f P).1 ++ [((scanS f P).2, (P : Int) - (scanS f P).2)], -1) else scanS f P)
theorem scan_open {f : Nat → Bool} {P : Nat} (h : f P = true) (ho : (scanS f P).2 < 0) : scanS f (P + 1) = ((scanS f P).1, (P : Int)) := by
  show (if f P then _ else _) = _
  rw [if_pos h, if_pos ho]
theorem scan_on {f : Nat → Bool} {P : Nat} (h : f P = true) (ho : 0 ≤ (scanS f P).2) : scanS f (P + 1) = scanS f P := by
  show (if f P then _ else _) = _
  rw [if_pos h, if_neg (by omega)]
theorem scan_close {f : Nat → Bool} {P : Nat} (h : f P = false) (ho : 0 ≤ (scanS f P).2) : scanS f (P + 1) = ((scanS f P).1 ++ [((scanS f P).2, (P : Int) - (scanS f P).2)], -1) := by
  show (if f P then _ else _) = _
  rw [if_neg (by rw [h]; simp), if_pos ho]
theorem scan_off {f : Nat → Bool} {P : Nat} (h : f P = false) (ho : (scanS f P).2 < 0) : scanS f (P + 1) = scanS f P := by
  show (if f P then _ else _) = _
  rw [if_neg (by rw [h]; simp), if_neg (by omega)]
theorem scan_congr {f g : Nat → Bool} : ∀ {P : Nat}, (∀ p, p < P → f p = g p) → scanS f P = scanS g P
  | 0, _ => rfl
  | P + 1, h => by
    have ih := scan_congr (P := P) (fun p hp => h p (by omega))
    show (if f P then _ else _) = (if g P then _ else _)
    rw [ih, h P (by omega)]
theorem scan_len {f : Nat → Bool} : ∀ (P : Nat), (scanS f P).1.length ≤ P
  | 0 => by simp [scanS]
  | P + 1 => by
    have ih := scan_len (f := f) P
    rcases hf : f P with _ | _
    · by_cases ho : 0 ≤ (scanS f P).2
      · rw [scan_close hf ho]; simp; omega
      · rw [scan_off hf (by omega)]; omega
    · by_cases ho : 0 ≤ (scanS f P).2
      · rw [scan_on hf ho]; omega
      · rw [scan_open hf (by omega)]; simp; omega
theorem scan_bounds {f : Nat → Bool} : ∀ (P : Nat), -1 ≤ (scanS f P).2 ∧ (scanS f P).2 < (P : Int)
  | 0 => by simp [scanS]
  | P + 1 => by
    have ih := scan_bounds (f := f) P
    rcases hf : f P with _ | _
    · by_cases ho : 0 ≤ (scanS f P).2
      · rw [scan_close hf ho]; simp; omega
      · rw [scan_off hf (by omega)]; omega
    · by_cases ho : 0 ≤ (scanS f P).2
      · rw [scan_on hf ho]; omega
      · rw [scan_open hf (by omega)]; simp; omega
theorem scan_ok {f : Nat → Bool} (hf0 : f 1000 = false) : ∀ (P : Nat), P ≤ 1001 → runsLoop (-1) (scanS f P).1 = 0 ∧ endOf (-1) (scanS f P).1 ≤ (P : Int) - 1 ∧ (0 ≤ (scanS f P).2 → endOf (-1) (scanS f P).1 < (scanS f P).2 ∧ (scanS f P).2 ≤ 999)
  | 0, _ => by simp [scanS, runsLoop, endOf]
  | P + 1, hP => by
    obtain ⟨h1, h2, h3⟩ := scan_ok hf0 P (by omega)
    obtain ⟨b1, b2⟩ := scan_bounds (f := f) P
    rcases hf : f P with _ | _
    · by_cases ho : 0 ≤ (scanS f P).2
      · obtain ⟨h4, h5⟩ := h3 ho
        rw [scan_close hf ho]
        refine ⟨runsLoop_snoc.2 ⟨h1, ⟨ho, h5, ?_, ?_⟩, h4⟩, ?_, ?_⟩
        · show (1 : Int) ≤ (P : Int) - (scanS f P).2
          omega
        · show (P : Int) - (scanS f P).2 ≤ 1000 - (scanS f P).2
          omega
        · show endOf (-1) ((scanS f P).1 ++ [((scanS f P).2, (P : Int) - (scanS f P).2)]) ≤ _
          rw [endOf_snoc]
          show (scanS f P).2 + ((P : Int) - (scanS f P).2) ≤ ((P + 1 : Nat) : Int) - 1
          push_cast; omega
        · intro h; simp at h
      · rw [scan_off hf (by omega)]
        exact ⟨h1, by omega, fun h => absurd h ho⟩
    · have hP9 : P ≠ 1000 := by rintro rfl; rw [hf0] at hf; cases hf
      by_cases ho : 0 ≤ (scanS f P).2
      · rw [scan_on hf ho]
        exact ⟨h1, by omega, h3⟩
      · rw [scan_open hf (by omega)]
        refine ⟨h1, by show endOf (-1) (scanS f P).1 ≤ _; omega, fun _ => ⟨?_, ?_⟩⟩
        · show endOf (-1) (scanS f P).1 < (P : Int); omega
        · show (P : Int) ≤ 999; omega
theorem scan_has {f : Nat → Bool} : ∀ (P : Nat), (∀ p : Int, hasB (scanS f P).1 p = true ↔ (0 ≤ p ∧ p < (P : Int) ∧ f p.toNat = true ∧ ¬ (0 ≤ (scanS f P).2 ∧ (scanS f P).2 ≤ p))) ∧ (0 ≤ (scanS f P).2 → ∀ q : Int, (scanS f P).2 ≤ q → q < (P : Int) → f q.toNat = true)
  | 0 => by
    refine ⟨fun p => ?_, fun h => by simp [scanS] at h⟩
    simp [scanS, hasB]; omega
  | P + 1 => by
    obtain ⟨h1, h2⟩ := scan_has (f := f) P
    obtain ⟨b1, b2⟩ := scan_bounds (f := f) P
    rcases hf : f P with _ | _
    · by_cases ho : 0 ≤ (scanS f P).2
      · rw [scan_close hf ho]
        refine ⟨fun p => ?_, fun h => by simp at h⟩
        show hasB ((scanS f P).1 ++ [_]) p = true ↔ _
        rw [hasB_snoc, Bool.or_eq_true, h1, inR_iff]
        show _ ∨ ((scanS f P).2 ≤ p ∧ p < (scanS f P).2 + ((P : Int) - (scanS f P).2)) ↔ _
        constructor
        · rintro (⟨a, b, c, d⟩ | ⟨a, b⟩)
          · exact ⟨a, by push_cast; omega, c, by simp⟩
          · exact ⟨by omega, by push_cast; omega, h2 ho p a (by omega), by simp⟩
        · rintro ⟨a, b, c, d⟩
          have hpP : p ≠ (P : Int) := by rintro rfl; rw [Int.toNat_natCast, hf] at c; cases c
          push_cast at b
          by_cases hpo : (scanS f P).2 ≤ p
          · exact .inr ⟨hpo, by omega⟩
          · exact .inl ⟨a, by omega, c, fun h => hpo h.2⟩
      · rw [scan_off hf (by omega)]
        refine ⟨fun p => ?_, fun h => absurd h ho⟩
        rw [h1]
        constructor
        · rintro ⟨a, b, c, d⟩; exact ⟨a, by push_cast; omega, c, d⟩
        · rintro ⟨a, b, c, d⟩
          have hpP : p ≠ (P : Int) := by rintro rfl; rw [Int.toNat_natCast, hf] at c; cases c
          push_cast at b
          exact ⟨a, by omega, c, d⟩
    · by_cases ho : 0 ≤ (scanS f P).2
      · rw [scan_on hf ho]
        refine ⟨fun p => ?_, fun _ q hq1 hq2 => ?_⟩
        · rw [h1]
          constructor
          · rintro ⟨a, b, c, d⟩; exact ⟨a, by push_cast; omega, c, d⟩
          · rintro ⟨a, b, c, d⟩
            have hpP : p ≠ (P : Int) := by rintro rfl; exact d ⟨ho, by omega⟩
            push_cast at b
            exact ⟨a, by omega, c, d⟩
        · push_cast at hq2
          by_cases hqP : q = (P : Int)
          · subst hqP; rw [Int.toNat_natCast]; exact hf
          · exact h2 ho q hq1 (by omega)
      · rw [scan_open hf (by omega)]
        refine ⟨fun p => ?_, fun _ q hq1 hq2 => ?_⟩
        · show hasB (scanS f P).1 p = true ↔ _
          rw [h1]
          show _ ↔ (0 ≤ p ∧ p < ((P + 1 : Nat) : Int) ∧ f p.toNat = true ∧ ¬ (0 ≤ (P : Int) ∧ (P : Int) ≤ p))
          constructor
          · rintro ⟨a, b, c, d⟩; exact ⟨a, by push_cast; omega, c, by omega⟩
          · rintro ⟨a, b, c, d⟩; exact ⟨a, by omega, c, fun h => ho h.1⟩
        · change (P : Int) ≤ q at hq1
          push_cast at hq2
          obtain rfl : q = (P : Int) := by omega
          rw [Int.toNat_natCast]; exact hf

/-- A set changed by a run, as the code reckons it: place by place. -/
def gP (op : Bool → Bool → Bool) (l : List Rn) (r : Rn) (P : Nat) : Bool := decide (P < 1000) && op (hasB l P) (inR r P)
def chL (op : Bool → Bool → Bool) (l : List Rn) (r : Rn) : List Rn := (scanS (gP op l r) 1001).1
def chE (op : Bool → Bool → Bool) (l : List Rn) (r : Rn) : Int := if runsE l ≠ 0 then runsE l else if ¬ okR r then 1 else if 16 < (chL op l r).length then 4 else 0
theorem chE_zero {op : Bool → Bool → Bool} {l : List Rn} {r : Rn} : chE op l r = 0 ↔ runsE l = 0 ∧ okR r ∧ (chL op l r).length ≤ 16 := by
  unfold chE
  by_cases h1 : runsE l = 0
  · rw [if_neg (by simpa using h1)]
    by_cases h2 : okR r
    · rw [if_neg (by simpa using h2)]
      by_cases h3 : 16 < (chL op l r).length
      · rw [if_pos h3]; constructor
        · intro h; omega
        · rintro ⟨_, _, h⟩; omega
      · rw [if_neg h3]; exact ⟨fun _ => ⟨h1, h2, by omega⟩, fun _ => rfl⟩
    · rw [if_pos h2]; constructor
      · intro h; omega
      · rintro ⟨_, h, _⟩; exact absurd h h2
  · rw [if_pos h1]; exact ⟨fun h => absurd h h1, fun h => absurd h.1 h1⟩
theorem gP_1000 (op : Bool → Bool → Bool) (l : List Rn) (r : Rn) : gP op l r 1000 = false := by unfold gP; rw [decide_eq_false (by omega)]; rfl
theorem chL_open {op : Bool → Bool → Bool} {l : List Rn} {r : Rn} : (scanS (gP op l r) 1001).2 < 0 := by
  have h0 := gP_1000 op l r
  by_cases ho : 0 ≤ (scanS (gP op l r) 1000).2
  · rw [scan_close h0 ho]; simp
  · rw [scan_off h0 (by omega)]; omega
theorem chL_ok (op : Bool → Bool → Bool) (l : List Rn) (r : Rn) : runsLoop (-1) (chL op l r) = 0 := (scan_ok (gP_1000 op l r) 1001 (by omega)).1
theorem chL_has (op : Bool → Bool → Bool) (l : List Rn) (r : Rn) (p : Int) : hasB (chL op l r) p = true ↔ (0 ≤ p ∧ p ≤ 999 ∧ op (hasB l p) (inR r p) = true) := by
  unfold chL
  rw [(scan_has (f := gP op l r) 1001).1 p]
  have ho := chL_open (op := op) (l := l) (r := r)
  constructor
  · rintro ⟨a, b, c, d⟩
    unfold gP at c
    rw [Bool.and_eq_true, decide_eq_true_eq] at c
    rw [show ((p.toNat : Nat) : Int) = p from by omega] at c
    exact ⟨a, by omega, c.2⟩
  · rintro ⟨a, b, c⟩
    refine ⟨a, by omega, ?_, fun h => by omega⟩
    unfold gP
    rw [Bool.and_eq_true, decide_eq_true_eq, show ((p.toNat : Nat) : Int) = p from by omega]
    exact ⟨by omega, c⟩
theorem chE_ok_runs {op : Bool → Bool → Bool} {l : List Rn} {r : Rn} (h : chE op l r = 0) : runsE (chL op l r) = 0 := runsE_zero.2 ⟨(chE_zero.1 h).2.2, chL_ok op l r⟩
theorem chL_congr {op op' : Bool → Bool → Bool} {l l' : List Rn} {r : Rn} (h : ∀ p : Int, 0 ≤ p → p ≤ 999 → op (hasB l p) (inR r p) = op' (hasB l' p) (inR r p)) : chL op l r = chL op' l' r := by
  unfold chL
  rw [scan_congr (fun p hp => ?_)]
  unfold gP
  by_cases h1 : p < 1000
  · rw [h p (by omega) (by omega)]
  · simp [h1]
def addB : Bool → Bool → Bool := fun a b => a || b
def cutB : Bool → Bool → Bool := fun a b => a && !b
theorem hasB_eq {op : Bool → Bool → Bool} {l : List Rn} {r : Rn} {p : Int} (h0 : 0 ≤ p) (h1 : p ≤ 999) : hasB (chL op l r) p = op (hasB l p) (inR r p) := by
  rw [Bool.eq_iff_iff, chL_has]; simp [h0, h1]
/-- With a run twice it is as with it once; cut and added again, too. -/
theorem add_add (l : List Rn) (r : Rn) : chL addB (chL addB l r) r = chL addB l r :=
  chL_congr (fun p h0 h1 => by rw [hasB_eq h0 h1]; unfold addB; cases hasB l p <;> cases inR r p <;> rfl)
theorem cut_add (l : List Rn) (r : Rn) : chL addB (chL cutB l r) r = chL addB l r :=
  chL_congr (fun p h0 h1 => by rw [hasB_eq h0 h1]; unfold addB cutB; cases hasB l p <;> cases inR r p <;> rfl)

/-! ### How many places -/
def cnt (f : Nat → Bool) : Nat → Int
  | 0 => 0
  | P + 1 => cnt f P + if f P then 1 else 0
def sumS (l : List Rn) : Int := l.foldl (fun s r => s + r.2) 0
theorem sumS_snoc (l : List Rn) (r : Rn) : sumS (l ++ [r]) = sumS l + r.2 := by unfold sumS; rw [List.foldl_append]; rfl
theorem scan_sum {f : Nat → Bool} : ∀ (P : Nat), sumS (scanS f P).1 + (if 0 ≤ (scanS f P).2 then (P : Int) - (scanS f P).2 else 0) = cnt f P
  | 0 => by simp [scanS, sumS, cnt]
  | P + 1 => by
    have ih := scan_sum (f := f) P
    unfold cnt
    rcases hf : f P with _ | _
    · by_cases ho : 0 ≤ (scanS f P).2
      · rw [scan_close hf ho]
        rw [if_pos ho] at ih
        show sumS ((scanS f P).1 ++ [_]) + _ = _
        rw [sumS_snoc]; simp; omega
      · rw [scan_off hf (by omega)]
        rw [if_neg ho] at ih ⊢
        simp; omega
    · by_cases ho : 0 ≤ (scanS f P).2
      · rw [scan_on hf ho]
        rw [if_pos ho] at ih ⊢
        simp; push_cast; omega
      · rw [scan_open hf (by omega)]
        rw [if_neg ho] at ih
        show sumS (scanS f P).1 + (if 0 ≤ (P : Int) then ((P + 1 : Nat) : Int) - (P : Int) else 0) = _
        rw [if_pos (by omega)]; simp; push_cast; omega
theorem cnt_or {f g : Nat → Bool} : ∀ {P : Nat}, (∀ p, p < P → ¬ (f p = true ∧ g p = true)) → cnt (fun p => f p || g p) P = cnt f P + cnt g P
  | 0, _ => rfl
  | P + 1, h => by
    have ih := cnt_or (f := f) (g := g) (P := P) (fun p hp => h p (by omega))
    have := h P (by omega)
    unfold cnt
    rw [ih]
    rcases hf : f P <;> rcases hg : g P <;> simp [hf, hg] at this ⊢ <;> omega
theorem cnt_congr {f g : Nat → Bool} : ∀ {P : Nat}, (∀ p, p < P → f p = g p) → cnt f P = cnt g P
  | 0, _ => rfl
  | P + 1, h => by unfold cnt; rw [cnt_congr (P := P) (fun p hp => h p (by omega)), h P (by omega)]
theorem cnt_le {f g : Nat → Bool} : ∀ {P : Nat}, (∀ p, p < P → f p = true → g p = true) → cnt f P ≤ cnt g P
  | 0, _ => by simp [cnt]
  | P + 1, h => by
    have ih := cnt_le (f := f) (g := g) (P := P) (fun p hp => h p (by omega))
    have := h P (by omega)
    unfold cnt
    rcases hf : f P <;> rcases hg : g P <;> simp [hf, hg] at this ⊢ <;> omega
theorem cnt_none : ∀ (P : Nat), cnt (fun _ => false) P = 0
  | 0 => rfl
  | P + 1 => by unfold cnt; rw [cnt_none P]; simp
theorem cnt_run {r : Rn} (h0 : 0 ≤ r.1) (h1 : 0 ≤ r.2) : ∀ (P : Nat), cnt (fun p => inR r p) P = if (P : Int) ≤ r.1 then 0 else if (P : Int) ≤ r.1 + r.2 then (P : Int) - r.1 else r.2
  | 0 => by rw [if_pos (by simpa using h0)]; rfl
  | P + 1 => by
    show cnt (fun p => inR r ((p : Nat) : Int)) P + (if inR r (P : Int) then 1 else 0) = _
    rw [cnt_run h0 h1 P]
    rcases hq : inR r (P : Int)
    · have hn : ¬ (r.1 ≤ (P : Int) ∧ (P : Int) < r.1 + r.2) := fun h => by rw [inR_iff.2 h] at hq; cases hq
      rw [show (if (false : Bool) = true then (1 : Int) else 0) = 0 from rfl]; push_cast
      split <;> split <;> (try split) <;> (try split) <;> omega
    · have hn := inR_iff.1 hq
      rw [show (if (true : Bool) = true then (1 : Int) else 0) = 1 from rfl]; push_cast
      split <;> split <;> (try split) <;> (try split) <;> omega
theorem cnt_run_all {r : Rn} (h : okR r) : cnt (fun p => inR r p) 1000 = r.2 := by
  obtain ⟨a, b, c, d⟩ := h
  rw [cnt_run a (by omega), if_neg (by omega)]
  split <;> omega
theorem sum_cons (r : Rn) (l : List Rn) : sumS (r :: l) = r.2 + sumS l := by
  unfold sumS
  rw [List.foldl_cons]
  have : ∀ (l : List Rn) (a b : Int), l.foldl (fun s r => s + r.2) (a + b) = a + l.foldl (fun s r => s + r.2) b := by
    intro l
    induction l with
    | nil => intro a b; rfl
    | cons q l ih => intro a b; rw [List.foldl_cons, List.foldl_cons, Int.add_assoc, ih]
  have := this l r.2 0
  rw [Int.add_zero] at this
  rw [Int.zero_add]; exact this
theorem sum_cnt : ∀ {l : List Rn} {e : Int}, runsLoop e l = 0 → sumS l = cnt (fun p => hasB l p) 1000
  | [], _, _ => by
    have : cnt (fun p => hasB [] ((p : Nat) : Int)) 1000 = cnt (fun _ => false) 1000 := cnt_congr (fun p _ => rfl)
    rw [this, cnt_none]; rfl
  | r :: l, e, h => by
    obtain ⟨h1, h2, h3⟩ := runsLoop_cons.1 h
    rw [sum_cons, sum_cnt h3, ← cnt_run_all h1]
    have : cnt (fun p => hasB (r :: l) ((p : Nat) : Int)) 1000 = cnt (fun p => inR r p || hasB l p) 1000 := cnt_congr (fun p _ => hasB_cons _ _ _)
    rw [this, cnt_or (fun p _ hh => ?_)]
    have a1 := inR_iff.1 hh.1
    have a2 := hasB_low h3 hh.2
    omega
theorem sum_range {l : List Rn} {e : Int} (h : runsLoop e l = 0) (hl : l.length ≤ 16) : 0 ≤ sumS l ∧ sumS l ≤ 16000 := by
  have : ∀ (l : List Rn), (∀ r ∈ l, okR r) → 0 ≤ sumS l ∧ sumS l ≤ 1000 * l.length := by
    intro l
    induction l with
    | nil => intro _; simp [sumS]
    | cons r l ih =>
      intro h
      have h1 := ih (fun q hq => h q (by simp [hq]))
      obtain ⟨a, b, c, d⟩ := h r (by simp)
      rw [sum_cons, List.length_cons]; push_cast; omega
  have := this l (okR_mem h)
  omega
theorem size_law {l : List Rn} {r : Rn} (h : runsE l = 0) (hr : okR r) :
    (sumS (chL addB l r) - sumS l) + (sumS l - sumS (chL cutB l r)) = r.2 ∧ sumS l ≤ sumS (chL addB l r) ∧ sumS (chL cutB l r) ≤ sumS l := by
  have hl := (runsE_zero.1 h).2
  have e1 := sum_cnt hl
  have e2 := sum_cnt (chL_ok addB l r)
  have e3 := sum_cnt (chL_ok cutB l r)
  have c2 : cnt (fun p => hasB (chL addB l r) ((p : Nat) : Int)) 1000 = cnt (fun p => hasB (chL cutB l r) ((p : Nat) : Int) || inR r p) 1000 := cnt_congr (fun p hp => by
    rw [hasB_eq (by omega) (by omega), hasB_eq (by omega) (by omega)]; unfold addB cutB; cases hasB l p <;> cases inR r p <;> rfl)
  have c3 := cnt_or (f := fun p => hasB (chL cutB l r) ((p : Nat) : Int)) (g := fun p => inR r p) (P := 1000) (fun p hp hh => by
    rw [hasB_eq (by omega) (by omega)] at hh
    unfold cutB at hh
    revert hh
    cases hasB l p <;> cases inR r p <;> simp)
  have c4 := cnt_run_all hr
  have c5 := cnt_le (f := fun p => hasB l ((p : Nat) : Int)) (g := fun p => hasB (chL addB l r) ((p : Nat) : Int)) (P := 1000) (fun p hp hh => by
    change hasB l ((p : Nat) : Int) = true at hh
    show hasB (chL addB l r) ((p : Nat) : Int) = true
    rw [hasB_eq (by omega) (by omega), hh]; rfl)
  have c6 := cnt_le (f := fun p => hasB (chL cutB l r) ((p : Nat) : Int)) (g := fun p => hasB l ((p : Nat) : Int)) (P := 1000) (fun p hp hh => by
    change hasB (chL cutB l r) ((p : Nat) : Int) = true at hh
    show hasB l ((p : Nat) : Int) = true
    rw [hasB_eq (by omega) (by omega)] at hh
    unfold cutB at hh
    rw [Bool.and_eq_true] at hh
    exact hh.1)
  omega
end Go.Proofs.Ytllacbogbbbcaaa
