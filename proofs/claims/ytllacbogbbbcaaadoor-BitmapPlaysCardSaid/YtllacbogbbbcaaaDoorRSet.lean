/- The reference's Set by its contract: a new list, one number another. -/
import Derived.Test.YtllacbogbbbcaaaDoorOwn
namespace Go.Proofs.YtllacbogbbbcaaaDoor
open Go Go.RowKit

set_option maxHeartbeats 1000000 in
theorem rset_any (A : Option Addr) (n c : Nat) (xs : List Int) (w : World) (hA : Rd w A n xs) (k : Nat) (hk : k < n) (hn : n ≤ 100000) (y : Int) :
    Calls Tryd.prog 46 #[.slice A n c, .int .i64 k, .int .i64 y] w fun e w' => (∃ C c', e = .returned (.slice C n c') ∧ Own w' w.heap.size (.slice C n c') n (xs.set k y)) ∧ Below w.heap.size w w' := by
  go_enter Tryd.func46, Tryd.ntmps46
  go_wp2_with (at_builtin; refine wpList_appL rfl _ _ rfl w.heap.size 0 _ [] rfl (Own.nil _ _) A n c xs rfl hA (by omega) (Nat.le_refl _) ?_; intro A' c1 w3 hown3 hbel3; have hq3 := hbel3 w.heap.size w (Nat.le_refl _) (Below.refl _ _); rw [Nat.zero_add] at hown3 ⊢; rw [List.nil_append] at hown3; obtain ⟨g, rfl, hg0, hg1, hcell, hfr⟩ := hown3.at_ (by omega); have c1' := hcell k (by omega); have f1 := hfr k; have hk' : (k : Int) < (n : Int) := by omega)
  go_ret
  exact ⟨⟨_, _, rfl, hown3.set k y⟩, hq3.setCell (p := ⟨g, k, none⟩) hg0 (.int .i64 y)⟩
end Go.Proofs.YtllacbogbbbcaaaDoor
