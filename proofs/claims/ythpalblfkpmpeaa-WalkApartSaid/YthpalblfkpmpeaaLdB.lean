import Derived.Test.YthpalblfkpmpeaaLdA
import Derived.Test.YthpalblfkpmpeaaMB
set_option linter.unusedVariables false
namespace Go.Sh.Ythpalblfkpmpeaa
open Go.Proofs Go.Sh

theorem one_ok : Pure Try.prog 11 [] .tt := by
  have hA : kL A3 = 3 := rfl
  have hT : A3.take (kL A3) = A3 := rfl
  have hl := laid_ok A3 false 3 (by decide) (by intro x hx; simp only [A3, List.mem_cons, List.not_mem_nil, or_false] at hx; rcases hx with rfl | rfl | rfl <;> exact ⟨by decide, by decide⟩) ⟨by decide, fun h => by cases h⟩
  rw [hT] at hl
  refine Spec.of_body tabOk Try.func11 rfl (ent Try.func11 rfl (by kernel_rfl)) Try.ntmps11 rfl (by kernel_rfl) (Nat.le_of_ble_eq_true rfl) ?_
  conv => whnf
  refine OpL.bsl tabOk ?_
  conv => whnf
  refine Spec.fn hl [0] rfl rfl (fun _ => rfl) rfl ⟨⟨by decide, rfl, rfl, _, rfl, fun _ => rfl, Nat.le_refl _, fun _ => Nat.le_refl _, fun h => (by cases h)⟩, trivial⟩ (fun _ _ => ⟨rfl, rfl, rfl, trivial⟩) (fun y hy => ?_)
  have h1 := walk_ok 8 (memL A3) y.1 0 12288 (memL_ok A3) (by decide) (by decide) (by decide) (by decide)
  have h2 := walk_ok 8 (memL A3) y.1 0 16384 (memL_ok A3) (by decide) (by decide) (by decide) (by decide)
  rw [walkF_memL, one1] at h1
  rw [walkF_memL, one2] at h2
  conv => whnf
  refine Spec.fn h1 [1, 2] rfl rfl (fun _ => rfl) rfl ⟨⟨by decide, rfl, rfl, _, rfl, fun _ => rfl, Nat.le_refl _, fun _ => Nat.le_refl _, id⟩, ⟨by decide, rfl, rfl, _, rfl, fun _ => rfl, Nat.le_refl _, fun _ => Nat.le_refl _, fun h => (by cases h)⟩, trivial⟩ (fun _ _ => ⟨rfl, rfl, ⟨_, rfl, rfl, rfl⟩, rfl, trivial⟩) (fun _ _ => ?_)
  conv => whnf
  refine Spec.fn h2 [1, 2] rfl rfl (fun _ => rfl) rfl ⟨⟨by decide, rfl, rfl, _, rfl, fun _ => rfl, Nat.le_refl _, fun _ => Nat.le_refl _, id⟩, ⟨by decide, rfl, rfl, _, rfl, fun _ => rfl, Nat.le_refl _, fun _ => Nat.le_refl _, fun h => (by cases h)⟩, trivial⟩ (fun _ _ => ⟨rfl, rfl, ⟨_, rfl, rfl, rfl⟩, rfl, trivial⟩) (fun _ _ => ?_)
  conv => whnf
  repeat ((try (conv => whnf)); first | refine IfL.t rfl ?_ | refine IfL.f rfl ?_)
  conv => whnf
  intro ρ
  rfl
end Go.Sh.Ythpalblfkpmpeaa
