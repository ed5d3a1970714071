import Derived.Test.YtanljnpjkokmcaaRmA
set_option linter.unusedVariables false
namespace Go.Sh.Ytanljnpjkokmcaa
open Go.Proofs Go.Sh

theorem rlen (n : Nat) (b t b' t' : Nat → Nat) : (SO.row (ramV n b t)).len = (SO.row (ramV n b' t')).len := by
  show (ramV n b t).length = (ramV n b' t').length
  rw [ramV_len, ramV_len]
theorem page_zero : bigZ Try.prog 99 = (List.range 4100).map (ramCell (fun _ => 0) (fun _ => 0)) := by kernel_rfl
theorem page_zget (k : Nat) (h : k < 4100) : (bigZ Try.prog 99)[k]? = some (ramCell (fun _ => 0) (fun _ => 0) k) := by
  rw [page_zero]; simp [h]
theorem ramCell_mod (j : Nat) : ramCell (fun _ => 0) (fun _ => 0) (j % 4100) = ramCell (fun _ => 0) (fun _ => 0) j := by
  unfold ramCell; rw [Nat.mod_mod]
def swp2 : Nat → Nat × Nat | 0 => (1, 0) | _ => (0, 0)
theorem swp_inj {i j : Nat} (hi : i < 2) (hj : j < 2) (h : i ≠ j) : (swp2 i).1 ≠ (swp2 j).1 := by
  have : (i = 0 ∧ j = 1) ∨ (i = 1 ∧ j = 0) := by omega
  rcases this with ⟨rfl, rfl⟩ | ⟨rfl, rfl⟩ <;> decide
set_option maxRecDepth 10000 in
theorem new_ok (N : Nat) (h1 : 1 ≤ N) (h2 : N ≤ 64) : Fun Try.prog 27 [.int .i64 (N : Int)] [] 0 2 (fun _ : Unit => True) (fun _ => .tup [.ptr 0 0, .int .i64 0]) (fun _ => [(0, .cells [.slice 1 0 N N]), (1, .row (ramV N (fun _ => 0) (fun _ => 0)))]) := by
  unfold Fun
  refine Spec.of_body tabOk Try.func27 rfl (ent Try.func27 rfl (by kernel_rfl)) Try.ntmps27 rfl (by kernel_rfl) (Nat.le_of_ble_eq_true rfl) ?_
  conv => whnf
  refine .f (decide_eq_false (by omega)) ?_
  conv => whnf
  refine .f (decide_eq_false (by omega)) ?_
  conv => whnf
  refine OpL.make tabOk ?_
  conv => whnf
  refine ⟨N, .i64, .i64, ramV N (fun _ => 0) (fun _ => 0), rfl, rfl, by omega, by show N * 4100 ≤ _; omega, by show 4128 * N ≤ _; omega, by rw [ramV_len], fun ρ j hj => ?_, by decide, ?_⟩
  · have hj : j < N * 4100 := hj
    rw [ramV_get _ _ hj]
    show _ = (bigZ Try.prog 99)[j % 4100]?
    rw [page_zget _ (Nat.mod_lt _ (by decide)), ramCell_mod]
  conv => whnf
  exact ⟨(), swp2, trivial, fun _ h => absurd h (Nat.not_lt_zero _), Part.same ⟨⟨by decide, rfl, rfl, _, rfl, fun _ => rfl, Nat.le_refl _, fun _ => Nat.le_refl _, id⟩, ⟨by decide, rfl, rfl, _, rfl, fun _ => rfl, Nat.le_refl _, fun _ => Nat.le_refl _, id⟩, trivial⟩ (fun i j hi hj h => swp_inj hi hj h), fun ρ => rfl⟩
end Go.Sh.Ytanljnpjkokmcaa
