/- Trees of sums: plain laws. No program in sight. -/
import Derived.Test.YtpleidblnjphmaaDoorSl
namespace Go.Proofs.YtpleidblnjphmaaDoor
open Go Go.RowKit
set_option linter.unusedVariables false

def leafI (v : Int) : Int := (v * 7 + 3) % 9973
def nodeI (a b : Int) : Int := (a * 31 + b * 57 + 11) % 9973
def halfN (n : Nat) : Nat := if n ≤ 2 then 1 else if n ≤ 4 then 2 else if n ≤ 8 then 4 else 8
def rootF : Nat → List Int → Int
  | 0, _ => 0
  | f + 1, l => if l.length = 1 then leafI (l[0]?.getD 0) else nodeI (rootF f (l.take (halfN l.length))) (rootF f (l.drop (halfN l.length)))
def wayF : Nat → List Int → Nat → List (Bool × Int)
  | 0, _, _ => []
  | f + 1, l, i => if l.length = 1 then [] else if i < halfN l.length then wayF f (l.take (halfN l.length)) i ++ [(false, rootF f (l.drop (halfN l.length)))]
      else wayF f (l.drop (halfN l.length)) (i - halfN l.length) ++ [(true, rootF f (l.take (halfN l.length)))]
theorem rootF_succ (f : Nat) (l : List Int) : rootF (f + 1) l = if l.length = 1 then leafI (l[0]?.getD 0) else nodeI (rootF f (l.take (halfN l.length))) (rootF f (l.drop (halfN l.length))) := rfl
theorem wayF_succ (f : Nat) (l : List Int) (i : Nat) : wayF (f + 1) l i = if l.length = 1 then [] else if i < halfN l.length then wayF f (l.take (halfN l.length)) i ++ [(false, rootF f (l.drop (halfN l.length)))]
      else wayF f (l.drop (halfN l.length)) (i - halfN l.length) ++ [(true, rootF f (l.take (halfN l.length)))] := rfl
def upI (s : Int) (w : List (Bool × Int)) : Int := w.foldl (fun s p => if p.1 then nodeI p.2 s else nodeI s p.2) s

theorem halfN_pos (n : Nat) : 1 ≤ halfN n := by unfold halfN; split <;> (try split) <;> (try split) <;> omega
theorem halfN_lt {n : Nat} (h : 2 ≤ n) : halfN n < n := by unfold halfN; split <;> (try split) <;> (try split) <;> omega
theorem leaf_range (v : Int) : 0 ≤ leafI v ∧ leafI v ≤ 9972 := by unfold leafI; omega
theorem node_range (a b : Int) : 0 ≤ nodeI a b ∧ nodeI a b ≤ 9972 := by unfold nodeI; omega
theorem root_range (f : Nat) (l : List Int) : 0 ≤ rootF f l ∧ rootF f l ≤ 9972 := by
  cases f with
  | zero => unfold rootF; omega
  | succ f =>
    rw [rootF_succ]
    split
    · exact leaf_range _
    · exact node_range _ _
theorem root_fuel : ∀ (f g : Nat) (l : List Int), 1 ≤ l.length → l.length ≤ f → l.length ≤ g → rootF f l = rootF g l
  | 0, _, l, h1, h2, _ => by omega
  | _ + 1, 0, l, h1, _, h3 => by omega
  | f + 1, g + 1, l, h1, h2, h3 => by
    rw [rootF_succ, rootF_succ]
    by_cases h : l.length = 1
    · rw [if_pos h, if_pos h]
    · rw [if_neg h, if_neg h]
      have p := halfN_pos l.length
      have q := halfN_lt (n := l.length) (by omega)
      rw [root_fuel f g (l.take (halfN l.length)) (by rw [List.length_take]; omega) (by rw [List.length_take]; omega) (by rw [List.length_take]; omega),
        root_fuel f g (l.drop (halfN l.length)) (by rw [List.length_drop]; omega) (by rw [List.length_drop]; omega) (by rw [List.length_drop]; omega)]
theorem up_snoc (s : Int) (w : List (Bool × Int)) (p : Bool × Int) : upI s (w ++ [p]) = if p.1 then nodeI p.2 (upI s w) else nodeI (upI s w) p.2 := by
  unfold upI
  rw [List.foldl_append]; rfl
/-- A way leads to the root, with the value and with another one. -/
theorem up_way : ∀ (f : Nat) (l : List Int) (i : Nat) (v : Int), l.length ≤ f → i < l.length → upI (leafI v) (wayF f l i) = rootF f (l.set i v)
  | 0, l, i, v, h1, h2 => by omega
  | f + 1, l, i, v, h1, h2 => by
    rw [wayF_succ, rootF_succ, List.length_set]
    by_cases h : l.length = 1
    · rw [if_pos h, if_pos h]
      obtain rfl : i = 0 := by omega
      unfold upI
      rw [List.foldl_nil, List.getElem?_set_self h2]; rfl
    · rw [if_neg h, if_neg h]
      have p := halfN_pos l.length
      have q := halfN_lt (n := l.length) (by omega)
      by_cases hi : i < halfN l.length
      · rw [if_pos hi, up_snoc, up_way f _ i v (by rw [List.length_take]; omega) (by rw [List.length_take]; omega), List.take_set, List.drop_set_of_lt hi]
        rfl
      · rw [if_neg hi, up_snoc, up_way f _ _ v (by rw [List.length_drop]; omega) (by rw [List.length_drop]; omega), List.drop_set, if_neg hi, List.take_set_of_le (by omega)]
        rfl
theorem way_range : ∀ (f : Nat) (l : List Int) (i : Nat), ∀ p ∈ wayF f l i, 0 ≤ p.2 ∧ p.2 ≤ 9972
  | 0, l, i, p, hp => by unfold wayF at hp; simp at hp
  | f + 1, l, i, p, hp => by
    rw [wayF_succ] at hp
    split at hp
    · simp at hp
    · split at hp
      · rcases List.mem_append.1 hp with h | h
        · exact way_range f _ _ p h
        · simp at h; subst h; exact root_range _ _
      · rcases List.mem_append.1 hp with h | h
        · exact way_range f _ _ p h
        · simp at h; subst h; exact root_range _ _
theorem halfN_pow {n m : Nat} (h1 : 2 ≤ n) (h16 : n ≤ 16) (h : n ≤ 2 ^ (m + 1)) : halfN n ≤ 2 ^ m ∧ n - halfN n ≤ 2 ^ m := by
  rcases Nat.lt_or_ge m 4 with hm | hm
  · rcases (by omega : m = 0 ∨ m = 1 ∨ m = 2 ∨ m = 3) with rfl | rfl | rfl | rfl <;> (unfold halfN; split <;> (try split) <;> (try split) <;> omega)
  · have : 2 ^ 4 ≤ 2 ^ m := Nat.pow_le_pow_right (by decide) hm
    unfold halfN; split <;> (try split) <;> (try split) <;> omega
theorem way_long : ∀ (f : Nat) (l : List Int) (i n : Nat), l.length ≤ f → l.length ≤ 16 → i < l.length → l.length ≤ 2 ^ n → (wayF f l i).length ≤ n
  | 0, l, i, n, h1, _, h2, _ => by omega
  | f + 1, l, i, n, h1, h16, h2, hn => by
    rw [wayF_succ]
    by_cases h : l.length = 1
    · rw [if_pos h]; simp
    · rw [if_neg h]
      have p := halfN_pos l.length
      have q := halfN_lt (n := l.length) (by omega)
      obtain ⟨m, rfl⟩ : ∃ m, n = m + 1 := by
        cases n with
        | zero => simp at hn; omega
        | succ m => exact ⟨m, rfl⟩
      obtain ⟨a, b⟩ := halfN_pow (m := m) (by omega) h16 hn
      split
      · rename_i hi
        have := way_long f (l.take (halfN l.length)) i m (by rw [List.length_take]; omega) (by rw [List.length_take]; omega) (by rw [List.length_take]; omega) (by rw [List.length_take]; omega)
        simp; omega
      · rename_i hi
        have := way_long f (l.drop (halfN l.length)) (i - halfN l.length) m (by rw [List.length_drop]; omega) (by rw [List.length_drop]; omega) (by rw [List.length_drop]; omega) (by rw [List.length_drop]; omega)
        simp; omega
theorem way_one {f : Nat} {l : List Int} {i : Nat} (h : l.length = 1) : wayF f l i = [] := by
  cases f with
  | zero => rfl
  | succ f => rw [wayF_succ, if_pos h]
theorem way_pos {f : Nat} {l : List Int} {i : Nat} (hf : l.length ≤ f) (h : 2 ≤ l.length) : 0 < (wayF f l i).length := by
  cases f with
  | zero => omega
  | succ f =>
    rw [wayF_succ, if_neg (by omega)]
    split <;> simp
theorem way_16 {f : Nat} {l : List Int} {i : Nat} (hf : l.length ≤ f) (h : l.length ≤ 16) (hi : i < l.length) : (wayF f l i).length ≤ 4 := way_long f l i 4 hf h hi h
end Go.Proofs.YtpleidblnjphmaaDoor
