import Derived.Test.YthpalblfkpmpeaaPtD
set_option linter.unusedVariables false
namespace Go.Sh.Ythpalblfkpmpeaa
open Go.Proofs Go.Sh

theorem five (k : Int) : k = 0 ∨ k = 1 ∨ k = 2 ∨ k = 3 ∨ k = 4 ∨ (k ≠ 0 ∧ k ≠ 1 ∧ k ≠ 2 ∧ k ≠ 3 ∧ k ≠ 4) := by omega
theorem strip_ok (e : Ent) (k : Int) : Pure Try.prog 22 [.agg (entC e), .int .i64 k] (.bool (stripB e k)) := by
  obtain ⟨v, r, w, x, u, g, a, d, cw, cr, cd, gn, fr⟩ := e
  refine Spec.of_body tabOk Try.func22 rfl (ent Try.func22 rfl (by kernel_rfl)) Try.ntmps22 rfl (by kernel_rfl) (Nat.le_of_ble_eq_true rfl) ?_
  repeat' ((try (conv => whnf)); refine IfL.mk (fun h => ?_) (fun h => ?_))
  all_goals
    conv => whnf
    intro ρ
    show Value.bool _ = Value.bool _
    simp_all [stripB]
theorem lets_ok (e : Ent) (k : Int) : Pure Try.prog 49 [.agg (entC e), .int .i64 k] (.bool (letsB e k)) := by
  obtain ⟨v, r, w, x, u, g, a, d, cw, cr, cd, gn, fr⟩ := e
  refine Spec.of_body tabOk Try.func49 rfl (ent Try.func49 rfl (by kernel_rfl)) Try.ntmps49 rfl (by kernel_rfl) (Nat.le_of_ble_eq_true rfl) ?_
  repeat' ((try (conv => whnf)); refine IfL.mk (fun h => ?_) (fun h => ?_))
  all_goals
    conv => whnf
    intro ρ
    show Value.bool _ = Value.bool _
    simp_all [letsB]
theorem check_ok (e : Ent) (k : Int) (tagged gen : Bool) : Pure Try.prog 18 [.agg (entC e), .int .i64 k, .bool tagged, .bool gen] (.int .i64 (chkE e k tagged gen)) := by
  have hl := leaf_ok e
  have ht := lets_ok e k
  unfold chkE
  generalize leafB e = L at hl
  generalize letsB e k = T at ht
  obtain ⟨v, r, w, x, u, g, a, d, cw, cr, cd, gn, fr⟩ := e
  refine Spec.of_body tabOk Try.func18 rfl (ent Try.func18 rfl (by kernel_rfl)) Try.ntmps18 rfl (by kernel_rfl) (Nat.le_of_ble_eq_true rfl) ?_
  repeat' ((try (conv => whnf)); first
    | refine IfL.mk (fun h => ?_) (fun h => ?_)
    | refine Spec.pure hl rfl rfl (fun _ => rfl) ?_
    | refine Spec.pure ht rfl rfl (fun _ => rfl) ?_
    | refine VL.op (VL.eq tabOk ?_))
  all_goals
    conv => whnf
    intro ρ
    show Value.int .i64 _ = Value.int .i64 _
  all_goals
    clear hl ht
    simp_all
theorem refcheck_ok (e : Ent) (k : Int) (tagged gen : Bool) : Pure Try.prog 19 [.agg (entC e), .int .i64 k, .bool tagged, .bool gen] (.int .i64 (chkE e k tagged gen)) := by
  have hl := refleaf_ok e
  unfold chkE
  generalize leafB e = L at hl
  obtain ⟨v, r, w, x, u, g, a, d, cw, cr, cd, gn, fr⟩ := e
  rcases five k with rfl | rfl | rfl | rfl | rfl | ⟨k0, k1, k2, k3, k4⟩
  all_goals
    refine Spec.of_body tabOk Try.func19 rfl (ent Try.func19 rfl (by kernel_rfl)) Try.ntmps19 rfl (by kernel_rfl) (Nat.le_of_ble_eq_true rfl) ?_
    repeat' ((try (conv => whnf)); first
      | refine IfL.t rfl ?_
      | refine IfL.f rfl ?_
      | refine IfL.f (decide_eq_false (by assumption)) ?_
      | refine IfL.mk (fun h => ?_) (fun h => ?_)
      | refine Spec.pure hl rfl rfl (fun _ => rfl) ?_
      | refine VL.op (VL.eq tabOk ?_))
  all_goals
    conv => whnf
    intro ρ
    show Value.int .i64 _ = Value.int .i64 _
  all_goals
    clear hl
    simp_all [letsB]
end Go.Sh.Ythpalblfkpmpeaa
