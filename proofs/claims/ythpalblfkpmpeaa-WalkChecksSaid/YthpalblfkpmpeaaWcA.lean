import Derived.Test.YthpalblfkpmpeaaLdB
import Derived.Test.YthpalblfkpmpeaaSh30
set_option linter.unusedVariables false
namespace Go.Sh.Ythpalblfkpmpeaa
open Go.Proofs Go.Sh

theorem flat4 : FlatT Try.prog 4 [.bool] := FlatT.bool Try.underlying4
theorem flat23 : FlatT Try.prog 23 [.int .u64] := FlatT.int Try.underlying23
theorem flat32 : FlatT Try.prog 32 [.bool, .bool, .bool, .bool, .bool, .bool, .bool, .bool, .bool, .bool, .bool, .bool, .int .u64] := FlatT.struct Try.underlying32 (by kernel_rfl) ⟨rfl, [.bool], _, rfl, flat4, by kernel_rfl, ⟨rfl, [.bool], _, rfl, flat4, by kernel_rfl, ⟨rfl, [.bool], _, rfl, flat4, by kernel_rfl, ⟨rfl, [.bool], _, rfl, flat4, by kernel_rfl, ⟨rfl, [.bool], _, rfl, flat4, by kernel_rfl, ⟨rfl, [.bool], _, rfl, flat4, by kernel_rfl, ⟨rfl, [.bool], _, rfl, flat4, by kernel_rfl, ⟨rfl, [.bool], _, rfl, flat4, by kernel_rfl, ⟨rfl, [.bool], _, rfl, flat4, by kernel_rfl, ⟨rfl, [.bool], _, rfl, flat4, by kernel_rfl, ⟨rfl, [.bool], _, rfl, flat4, by kernel_rfl, ⟨rfl, [.bool], _, rfl, flat4, by kernel_rfl, ⟨rfl, [.int .u64], _, rfl, flat23, by kernel_rfl, rfl⟩⟩⟩⟩⟩⟩⟩⟩⟩⟩⟩⟩⟩
theorem checks_ok (e : Ent) (k : Int) (h0 h1 : Bool) : Pure Try.prog 6 [.agg (entC e), .int .i64 k, .agg [.bool h0, .bool h1]] .tt := by
  have hs := strip_ok e k
  unfold stripB at hs
  have c1 := check_ok e k h0 h1
  have c2 := refcheck_ok e k h0 h1
  have c3 := marked_ok e k h0
  have c4 := refmarked_ok e k h0
  have c5 := one_ok
  generalize chkE e k h0 h1 = C at c1 c2
  generalize markE e k h0 = M at c3 c4
  by_cases hk : k = 3
  · subst hk
    rw [decide_eq_true (rfl : (3 : Int) = 3), Bool.true_and] at hs
    refine Spec.of_body tabOk Try.func6 rfl (ent Try.func6 rfl (by kernel_rfl)) Try.ntmps6 rfl (by kernel_rfl) (Nat.le_of_ble_eq_true rfl) ?_
    conv => whnf
    refine CodeL.draw tabOk Try.checked.mixed 44 (by kernel_rfl) rfl ?_
    repeat' ((try (conv => whnf)); first
      | refine IdxL.here 0 rfl (by decide) ?_
      | refine IdxL.here 1 rfl (by decide) ?_
      | refine QCallL.pure c1 rfl rfl (fun _ => rfl) ?_
      | refine QCallL.pure c2 rfl rfl (fun _ => rfl) ?_
      | refine QCallL.pure c3 rfl rfl (fun _ => rfl) ?_
      | refine QCallL.pure c4 rfl rfl (fun _ => rfl) ?_
      | refine QCallL.pure c5 rfl rfl (fun _ => rfl) ?_
      | refine QCallL.pure hs rfl rfl (fun _ => rfl) ?_
      | refine VL.qop rfl (VL.eq tabOk ?_)
      | refine Needs.mk ⟨rfl, by kernel_rfl⟩ ?_
      | refine Needs.mk (by kernel_rfl) ?_
      | refine IfL.t rfl ?_
      | refine IfL.f rfl ?_
      | refine IfL.f (decide_eq_false hk) ?_
      | (refine IfL.t ?hx ?_; case hx => (simp; done)))
    all_goals
      conv => whnf
      intro ρ
      rfl
  · rw [decide_eq_false hk, Bool.false_and] at hs
    refine Spec.of_body tabOk Try.func6 rfl (ent Try.func6 rfl (by kernel_rfl)) Try.ntmps6 rfl (by kernel_rfl) (Nat.le_of_ble_eq_true rfl) ?_
    conv => whnf
    refine CodeL.draw tabOk Try.checked.mixed 44 (by kernel_rfl) rfl ?_
    repeat' ((try (conv => whnf)); first
      | refine IdxL.here 0 rfl (by decide) ?_
      | refine IdxL.here 1 rfl (by decide) ?_
      | refine QCallL.pure c1 rfl rfl (fun _ => rfl) ?_
      | refine QCallL.pure c2 rfl rfl (fun _ => rfl) ?_
      | refine QCallL.pure c3 rfl rfl (fun _ => rfl) ?_
      | refine QCallL.pure c4 rfl rfl (fun _ => rfl) ?_
      | refine QCallL.pure c5 rfl rfl (fun _ => rfl) ?_
      | refine QCallL.pure hs rfl rfl (fun _ => rfl) ?_
      | refine VL.qop rfl (VL.eq tabOk ?_)
      | refine Needs.mk ⟨rfl, by kernel_rfl⟩ ?_
      | refine Needs.mk (by kernel_rfl) ?_
      | refine IfL.t rfl ?_
      | refine IfL.f rfl ?_
      | refine IfL.f (decide_eq_false hk) ?_
      | (refine IfL.t ?hx ?_; case hx => (simp; done)))
    all_goals
      conv => whnf
      intro ρ
      rfl
end Go.Sh.Ythpalblfkpmpeaa
