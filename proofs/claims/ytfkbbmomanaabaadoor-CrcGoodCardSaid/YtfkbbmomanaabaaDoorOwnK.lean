/- append of one number to a slice of the call's own: the old slice too reads as it did. -/
import Derived.Test.YtfkbbmomanaabaaDoorOwn
namespace Go.Proofs.YtfkbbmomanaabaaDoor
open Go Go.RowKit

theorem run_keep {P : Program} (w : World) (B : Nat) (t ty e : TypeId) (i : TypeInfo) (z : Value) (bytes : Nat) (ht : P.underlying t = some (.slice e)) (hi : P.info? e = some i) (hz : i.zero = some z)
    (hsize : i.size = 1) (hby : i.bytes = bytes) (hzs : z.cells.size = 1) (v : Value) (n : Nat) (xs : List Value) (hown : w.ownsRow B e 1 v n xs)
    (a : Addr) (c : Nat) (u : Value) (hu : w.cell? a = some u) (h1 : u.oneCell' = true) (h63 : n + 1 ≤ maxLen) (hbytes : (n + 1) * bytes ≤ 140737488355328) (hbase : B ≤ w.heap.size) :
    ∃ v' w', (Builtin.append_ #[t, t] ty #[v, .slice (some a) 1 c]).run P w = .ok v' w' ∧ w'.ownsRow B e 1 v' (n + 1) (xs ++ [u]) ∧ w.grownBy w' v.ownBlock ∧ w'.ownsRow B e 1 v n xs := by
  have hnews : ∀ j y, [u][j]? = some y → w.cell? (a.add j) = some y := by
    intro j y hj
    have hj0 : j = 0 := by
      rcases j with _ | j
      · rfl
      · simp at hj
    subst hj0
    simp at hj
    subst hj
    simpa [Addr.add] using hu
  have h1' : ∀ y ∈ [u], y.oneCell' = true := by simpa using h1
  obtain ⟨v', w', hr, h2, h3, -, h5⟩ := run_append_own_at w B t ty e i z 1 bytes ht hi hz hsize hby hzs (by omega) v n xs hown a 1 c [u] (by simp) hnews h1' h63 hbytes hbase
  refine ⟨v', w', hr, h2, h3, ?_⟩
  rcases hown.2 with ⟨rfl, rfl⟩ | ⟨g, cap, cur, rfl, hbg, hg, hnc, hcm, hcs, htake⟩
  · have hx : xs = [] := List.eq_nil_of_length_eq_zero (by simpa using hown.1)
    subst hx
    exact World.ownsRow_nil w' B e 1
  · by_cases hroom : n + 1 ≤ cap
    · have hr2 := run_append_room (P := P) w t ty e i ht hi g n cap cur hg a 1 c [u] (by simp [hsize]) hnews h1' hroom (by simp [hsize]; omega)
      rw [hr2] at hr
      injection hr with hv hw
      rcases h2.2 with ⟨h, _⟩ | ⟨g', cap', cur', e', hbg', hg', hnc', hcm', hcs', htake'⟩
      · rw [← hv] at h; cases h
      · rw [← hv] at e'
        injection e' with eA _ eC
        injection eA with eA
        injection eA with eA
        subst eC
        subst eA
        refine ⟨hown.1, .inr ⟨g, cap, cur', rfl, hbg', hg', hnc, hcm', hcs', ?_⟩⟩
        have hl := hown.1
        have := congrArg (List.take n) htake'
        rw [List.take_take, Nat.min_eq_left (by omega)] at this
        rw [Nat.mul_one] at hl ⊢
        rw [this, ← hl, List.take_left]
    · have holds : ∀ j y, xs[j]? = some y → w.cell? ((⟨g, 0, none⟩ : Addr).add j) = some y := hown.cells (g := g) rfl
      have hr2 := run_append_grow (P := P) w t ty e i z ht hi hz ⟨g, 0, none⟩ n cap xs (by rw [hsize]; exact hown.1) holds a 1 c [u] (by simp [hsize]) hnews (by omega) (by simp only [maxLen] at h63; omega) (growslice_fits (by omega) (by rw [hby]; exact hbytes))
      rw [hr2] at hr
      injection hr with hv hw
      rw [← hw]
      exact World.ownsRow.alloc (w := w.drew) hown _

/-- 'append(out, y)' on a slice of the call's own, that lives on. -/
theorem wpList_app1K {ops : Array Oper} {rest : List Oper} {o : Oper} {a : Act} {w : World} {Q : Exit → Act → World → Prop} (hgd : o.guard = none) (s x : Operand)
    (ho : o.op = .call { callee := .builtin .append, args := #[s, x], argTypes := #[37, 37] })
    (B n : Nat) (v : Value) (xs : List Int) (hs : a.eval s = v) (hown : Own w B v n xs) (g : Nat) (y : Int) (hx : a.eval x = .slice (some ⟨g, 0, none⟩) 1 1)
    (hc : w.cell? ⟨g, 0, none⟩ = some (.int .i64 y)) (hn : n + 1 ≤ 1000000) (hbase : B ≤ w.heap.size)
    (h : ∀ A' c' w', Own w' B (.slice A' (n + 1) c') (n + 1) (xs ++ [y]) → Own w' B v n xs → (∀ B0 W0, B0 ≤ B → Below B0 W0 w → Below B0 W0 w') → wpList Tryd.prog ops Q rest (a.put o.dst (.slice A' (n + 1) c')) w') :
    wpList Tryd.prog ops Q (o :: rest) a w := by
  obtain ⟨i0, hi, hz0, hz1, hz2⟩ := info_parts infoInt
  obtain ⟨v', w', hr, h2, h3, h4⟩ := run_keep (P := Tryd.prog) w B 37 o.type 3 i0 (.int .i64 0) 8 Tryd.underlying37 hi hz0 hz1 hz2 rfl v n _ hown ⟨g, 0, none⟩ 1 (.int .i64 y) hc rfl (by unfold maxLen; omega) (by omega) hbase
  refine wpList_plain hgd fun K hK => ?_
  unfold Oper.wp
  simp [execOp, ho, resolve, invoke, builtin, hs, hx, hr, Result.andThen]
  have h2' : Own w' B v' (n + 1) (xs ++ [y]) := by unfold Own; rw [List.map_append]; exact h2
  obtain ⟨A', c', hv, _⟩ := h2'.form
  subst hv
  exact hK _ _ (h A' c' w' h2' h4 (fun B0 W0 hB0 hb => hb.grown h3 (Nat.le_trans hB0 hbase) (fun k hk => Nat.le_trans hB0 (World.ownsRow.lt hown k hk).1)))
end Go.Proofs.YtfkbbmomanaabaaDoor
