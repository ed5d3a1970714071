import Derived.Test.YtanljnpjkokmcaaWkA
import Derived.Test.YtanljnpjkokmcaaMB
set_option linter.unusedVariables false
namespace Go.Sh.Ytanljnpjkokmcaa
open Go.Proofs Go.Sh

def tau2 : Nat → Nat × Nat := fun i => if i = 2 then (7, 0) else if i = 3 then (11, 0) else (i, 0)
theorem tau2_low (i : Nat) (h : i < 2) : tau2 i = (i, 0) := by unfold tau2; rw [if_neg (by omega), if_neg (by omega)]
theorem tau2_inj (i j : Nat) (hi : i < 4) (hj : j < 4) (h : i ≠ j) : (tau2 i).1 ≠ (tau2 j).1 := by
  unfold tau2
  split <;> split <;> (try split) <;> (try split) <;> simp only [] <;> omega
theorem lay_ok (N : Int) (l : List (Nat × Nat)) (b1 b2 : Bool) (c1 c2 : Nat) (a x : Nat) (hl : l.length ≤ 100000) (h1 : okS l.length (b1, c1)) (h2 : okS l.length (b2, c2)) (ha : a < 2 ^ 64) : Fun Try.prog 58 [.agg [.int .i64 N, .slz b1 0 0 l.length c1, .slz b2 1 0 l.length c2, .nilSlice], .int .u64 (a : Int), .int .u8 (x : Int)] [(0, .view (atV l)), (1, .view (byV l))] 2 2
    (fun y : (Bool × Nat) × (Bool × Nat) => okS (l.length + 1) y.1 ∧ okS (l.length + 1) y.2) (fun y => .agg [.int .i64 N, .slz y.1.1 2 0 (l.length + 1) y.1.2, .slz y.2.1 3 0 (l.length + 1) y.2.2, .nilSlice]) (fun y => [(2, .row (atV (l ++ [(a, x)]))), (3, .row (byV (l ++ [(a, x)])))]) := by
  unfold Fun
  refine Spec.of_body tabOk Try.func58 rfl (ent Try.func58 rfl (by kernel_rfl)) Try.ntmps58 rfl (by kernel_rfl) (Nat.le_of_ble_eq_true rfl) ?_
  conv => whnf
  refine OpL.bsl0 tabOk ?_
  conv => whnf
  refine OpL.app tabOk ?_
  conv => whnf
  refine ⟨atV l, fun ρ => by show ((atV l).drop 0).take (l.length * 1) = atV l; rw [List.drop_zero, Nat.mul_one, List.take_of_length_le (by rw [atV_len]; exact Nat.le_refl _)], by rw [atV_len]; show l.length = l.length * 1; omega, rfl, rfl, Nat.le_refl _, by omega, by show _ * 8 ≤ 140737488355328; omega, fun b3 c3 hc3 hb3 => ?_⟩
  conv => whnf
  refine OpL.bsl tabOk ?_
  conv => whnf
  refine OpL.app tabOk ?_
  conv => whnf
  refine ⟨[.int .u64 (a : Int)], fun ρ => rfl, rfl, by show ([] ++ atV l).length = (0 + l.length) * 1; rw [List.nil_append, atV_len]; omega, rfl, hc3, by omega, by show _ * 8 ≤ 140737488355328; omega, fun b4 c4 hc4 hb4 => ?_⟩
  conv => whnf
  refine OpL.bsl0 tabOk ?_
  conv => whnf
  refine OpL.app tabOk ?_
  conv => whnf
  refine ⟨byV l, fun ρ => by show ((byV l).drop 0).take (l.length * 1) = byV l; rw [List.drop_zero, Nat.mul_one, List.take_of_length_le (by rw [byV_len]; exact Nat.le_refl _)], by rw [byV_len]; show l.length = l.length * 1; omega, rfl, rfl, Nat.le_refl _, by omega, by show _ * 1 ≤ 140737488355328; omega, fun b5 c5 hc5 hb5 => ?_⟩
  conv => whnf
  refine OpL.bsl tabOk ?_
  conv => whnf
  refine OpL.app tabOk ?_
  conv => whnf
  refine ⟨[.int .u8 (x : Int)], fun ρ => rfl, rfl, by show ([] ++ byV l).length = (0 + l.length) * 1; rw [List.nil_append, byV_len]; omega, rfl, hc5, by omega, by show _ * 1 ≤ 140737488355328; omega, fun b6 c6 hc6 hb6 => ?_⟩
  conv => whnf
  refine Spec.of_body tabOk Try.func82 rfl (ent Try.func82 rfl (by kernel_rfl)) Try.ntmps82 rfl (by kernel_rfl) (Nat.le_of_ble_eq_true rfl) ?_
  conv => whnf
  refine CodeL.loop tabOk (fun _ : Unit => ([(2, .ptr 12 0), (4, .ptr 13 0), (5, .nilSlice), (6, .int .i64 0)], [(3, .cells [.int .i64 0, .nilSlice, .nilSlice, .nilSlice]), (7, .vec ([] ++ atV l ++ [.int .u64 (a : Int)]) (c4 * 1)), (11, .vec ([] ++ byV l ++ [.int .u8 (x : Int)]) (c6 * 1)), (12, .cells [.int .i64 N, .slz b4 7 0 (0 + l.length + 1) c4, .slz b6 11 0 (0 + l.length + 1) c6, .nilSlice]), (13, .cells [.int .i64 0, .nilSlice, .nilSlice, .nilSlice])])) (fun _ => 0) (fun _ => True) rfl (fun _ => ⟨rfl, by kernel_rfl⟩) () trivial ⟨⟨rfl, rfl, rfl, rfl, trivial⟩, ⟨rfl, rfl, rfl, rfl, rfl, trivial⟩⟩ ?_
  intro _ _
  conv => whnf
  refine .f rfl ?_
  conv => whnf
  rw [Nat.zero_add] at hc4 hb4 hc6 hb6
  refine ⟨((b4, c4), (b6, c6)), tau2, ⟨⟨hc4, fun h => (hb4 h).2⟩, ⟨hc6, fun h => (hb6 h).2⟩⟩, tau2_low, Part.same ⟨⟨by decide, rfl, rfl, _, rfl, fun _ => ?_, ?_, fun _ => ?_, id⟩, ⟨by decide, rfl, rfl, _, rfl, fun _ => ?_, ?_, fun _ => ?_, id⟩, trivial⟩ tau2_inj, fun ρ => by rw [Nat.zero_add]; rfl⟩
  · show atV (l ++ [(a, x)]) = [] ++ atV l ++ [.int .u64 (a : Int)]
    rw [atV_append, List.nil_append]; rfl
  · show (atV (l ++ [(a, x)])).length ≤ c4 * 1
    rw [atV_len, List.length_append]; show l.length + 1 ≤ _; omega
  · exact Nat.le_refl _
  · show byV (l ++ [(a, x)]) = [] ++ byV l ++ [.int .u8 (x : Int)]
    rw [byV_append, List.nil_append]; rfl
  · show (byV (l ++ [(a, x)])).length ≤ c6 * 1
    rw [byV_len, List.length_append]; show l.length + 1 ≤ _; omega
  · exact Nat.le_refl _
end Go.Sh.Ytanljnpjkokmcaa
