import Derived.Test.YthpalblfkpmpeaaPtB
set_option linter.unusedVariables false
namespace Go.Sh.Ythpalblfkpmpeaa
open Go.Proofs Go.Sh

theorem leaf_ok (e : Ent) : Pure Try.prog 15 [.agg (entC e)] (.bool (leafB e)) := by
  obtain ⟨v, r, w, x, u, g, a, d, cw, cr, cd, gn, fr⟩ := e
  refine Spec.of_body tabOk Try.func15 rfl (ent Try.func15 rfl (by kernel_rfl)) Try.ntmps15 rfl (by kernel_rfl) (Nat.le_of_ble_eq_true rfl) ?_
  repeat' ((try (conv => whnf)); refine IfL.mk (fun h => ?_) (fun h => ?_))
  all_goals
    conv => whnf
    intro ρ
    show Value.bool _ = Value.bool _
    simp_all [leafB]
theorem right_ok (e : Ent) (he : okE e) : Pure Try.prog 16 [.agg (entC e)] (.bool (rightB e)) := by
  have hl := leaf_ok e
  have hm := fmask_ok 44 (by decide) (by decide)
  generalize hL : leafB e = L at hl
  refine Spec.of_body tabOk Try.func16 rfl (ent Try.func16 rfl (by kernel_rfl)) Try.ntmps16 rfl (by kernel_rfl) (Nat.le_of_ble_eq_true rfl) ?_
  have hfr := he.1
  obtain ⟨v, r, w, x, u, g, a, d, cw, cr, cd, gn, fr⟩ := e
  simp only at hfr
  have hmm : ∀ ρ, SV.vals ρ [SV.int .i64 44] = SV.vals ρ [SV.int .i64 ((44 : Nat) : Int)] := fun _ => rfl
  repeat' ((try (conv => whnf)); first
    | refine IfL.mk (fun h => ?_) (fun h => ?_)
    | refine Spec.pure hl rfl rfl (fun _ => rfl) ?_
    | refine CodeL.draw tabOk Try.checked.mixed 5 (by kernel_rfl) rfl ?_
    | refine QCallL.pure hm rfl rfl (fun _ => rfl) ?_
    | refine VL.op (VL.eq tabOk ?_)
    | refine Needs.mk (by kernel_rfl) ?_
    | refine Needs.mk ⟨rfl, by kernel_rfl⟩ ?_)
  all_goals
    conv => whnf
    intro ρ
    show Value.bool _ = Value.bool _
  all_goals
    clear hl hm hmm
    subst hL
    simp_all [rightB, leafB]
  all_goals first
    | (intro g; omega)
    | simp only [Bool.and_assoc]
end Go.Sh.Ythpalblfkpmpeaa
