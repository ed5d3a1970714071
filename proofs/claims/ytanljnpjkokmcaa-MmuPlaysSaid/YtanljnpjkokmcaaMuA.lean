import Derived.Test.YtanljnpjkokmcaaWmA
import Derived.Test.YtanljnpjkokmcaaMD
import Derived.Test.YtanljnpjkokmcaaMB
import Derived.Test.YtanljnpjkokmcaaSh31
set_option linter.unusedVariables false
namespace Go.Sh.Ytanljnpjkokmcaa
open Go.Proofs Go.Sh

theorem address_ok (n : Int) : Pure Try.prog 72 [.int .u64 n] (.int .u64 (IntKind.wrap .u64 (n * 4096))) := by
  refine Spec.of_body tabOk Try.func72 rfl (ent Try.func72 rfl (by kernel_rfl)) Try.ntmps72 rfl (by kernel_rfl) (Nat.le_of_ble_eq_true rfl) ?_
  conv => whnf
  intro ρ
  rfl
theorem offset_ok (n : Int) : Pure Try.prog 73 [.int .u64 n] (.int .u64 (n.tmod 4096)) := by
  refine Spec.of_body tabOk Try.func73 rfl (ent Try.func73 rfl (by kernel_rfl)) Try.ntmps73 rfl (by kernel_rfl) (Nat.le_of_ble_eq_true rfl) ?_
  conv => whnf
  intro ρ
  rfl
theorem pnum_ok (n : Nat) (h : n < 2 ^ 64) : Pure Try.prog 41 [.int .u64 (n : Int)] (.int .u64 (n / 4096 : Nat)) := by
  refine Spec.of_body tabOk Try.func41 rfl (ent Try.func41 rfl (by kernel_rfl)) Try.ntmps41 rfl (by kernel_rfl) (Nat.le_of_ble_eq_true rfl) ?_
  conv => whnf
  intro ρ
  exact congrArg (Value.int .u64) (quo_nat n 4096 h)
theorem place_ok (e : Ent) (va : Nat) (k : Int) : Pure Try.prog 44 [.agg (entC e), .int .u64 (va : Int), .int .i64 k] (.agg [.int .u64 (plA e va), .bool (stripB e k)]) := by
  have hs := strip_ok e k
  refine Spec.of_body tabOk Try.func44 rfl (ent Try.func44 rfl (by kernel_rfl)) Try.ntmps44 rfl (by kernel_rfl) (Nat.le_of_ble_eq_true rfl) ?_
  conv => whnf
  refine CodeL.draw tabOk Try.checked.mixed 10 (by kernel_rfl) rfl ?_
  conv => whnf
  refine QCallL.pure (address_ok e.fr) rfl rfl (fun _ => rfl) ?_
  conv => whnf
  refine QCallL.pure (offset_ok (va : Int)) rfl rfl (fun _ => rfl) ?_
  conv => whnf
  refine QCallL.pure hs rfl rfl (fun _ => rfl) ?_
  conv => whnf
  intro ρ
  rfl
theorem looked_ok (s : Nat → List Ln) (root asid : Nat) (gen : Bool) (b t : Nat → Nat) (va : Nat) (k : Int) (tg : Bool) (hs : okT s) (hb : okB b) (hr : root < 2 ^ 64) (hva : va < 2 ^ 64) : Fun Try.prog 45 [.ptr 0 0, .ptr 1 0, .int .u64 (va : Int), .int .i64 k, .bool tg] [(0, .view (tlbC s (uR root asid gen))), (1, .cells [.slice 2 0 8 8]), (2, .view (ramV 8 b t))] 3 0 (fun _ : Unit => True) (fun _ => lookedR k tg gen (walkF b 8 root va)) (fun _ => [(1, .cells [.slice 2 0 8 8])]) := by
  unfold Fun
  have w1 := walk_ok 8 b t root va hb (by decide) (by decide) hr hva
  generalize walkF b 8 root va = o at w1 ⊢
  refine Spec.of_body tabOk Try.func45 rfl (ent Try.func45 rfl (by kernel_rfl)) Try.ntmps45 rfl (by kernel_rfl) (Nat.le_of_ble_eq_true rfl) ?_
  conv => whnf
  refine .at1 (.int .u64 (root : Int)) 132 rfl (uC_root hs root asid gen) rfl ?_
  conv => whnf
  rcases o with _ | ⟨x, a⟩
  all_goals
    refine Spec.fn w1 [1, 2] rfl rfl (fun _ => rfl) rfl ⟨⟨by decide, rfl, rfl, _, rfl, fun _ => rfl, Nat.le_refl _, fun _ => Nat.le_refl _, id⟩, ⟨by decide, rfl, rfl, _, rfl, fun _ => rfl, Nat.le_refl _, fun _ => Nat.le_refl _, id⟩, trivial⟩ (fun _ _ => ⟨rfl, rfl, ⟨_, rfl, rfl, rfl⟩, rfl, trivial⟩) (fun _ _ => ?_)
    conv => whnf
  · refine .t rfl ?_
    conv => whnf
    exact ⟨(), fun i => (i, 0), trivial, fun _ _ => rfl, Part.keys ⟨⟨by decide, rfl, rfl, _, rfl, fun _ => rfl, Nat.le_refl _, fun _ => Nat.le_refl _, id⟩, trivial⟩ rfl, fun ρ => rfl⟩
  · refine .f rfl ?_
    conv => whnf
    refine CodeL.draw tabOk Try.checked.mixed 10 (by kernel_rfl) rfl ?_
    conv => whnf
    refine .at1 (.bool gen) 134 rfl (uC_gen hs root asid gen) rfl ?_
    conv => whnf
    refine QCallL.pure (check_ok x k tg gen) rfl rfl (fun _ => rfl) ?_
    conv => whnf
    exact ⟨(), fun i => (i, 0), trivial, fun _ _ => rfl, Part.keys ⟨⟨by decide, rfl, rfl, _, rfl, fun _ => rfl, Nat.le_refl _, fun _ => Nat.le_refl _, id⟩, trivial⟩ rfl, fun ρ => rfl⟩
end Go.Sh.Ytanljnpjkokmcaa
