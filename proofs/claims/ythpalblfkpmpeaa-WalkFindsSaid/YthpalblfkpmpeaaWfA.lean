import Derived.Test.YthpalblfkpmpeaaWkB
import Derived.Test.YthpalblfkpmpeaaLdB
set_option linter.unusedVariables false
namespace Go.Sh.Ythpalblfkpmpeaa
open Go.Proofs Go.Sh

theorem finds_ok (A : List Lay) (b0 : Bool) (c0 : Nat) (root va : Nat) (hA : A.length ≤ maxLen) (he : ∀ x ∈ A, okE x.e) (h0 : okS A.length (b0, c0)) (hr : root < 2 ^ 64) (hva : va < 2 ^ 64) : Spec Try.prog 3 [.slz b0 0 0 A.length c0, .int .u64 (root : Int), .int .u64 (va : Int)] [(0, .view (laysV A))] 1 fun v _ _ => ∀ ρ, v.val ρ = SV.tt.val ρ := by
  have hk : kL A = min A.length 60 := rfl
  have hlen : (logL (A.take (kL A))).length ≤ 480 := by rw [logL_len, List.length_take]; omega
  refine Spec.of_body tabOk Try.func3 rfl (ent Try.func3 rfl (by kernel_rfl)) Try.ntmps3 rfl (by kernel_rfl) (Nat.le_of_ble_eq_true rfl) ?_
  conv => whnf
  refine Spec.fn (laid_ok A b0 c0 hA he h0) [0] rfl rfl (fun _ => rfl) rfl ⟨⟨by decide, rfl, rfl, _, rfl, fun _ => rfl, Nat.le_refl _, fun _ => Nat.le_refl _, id⟩, trivial⟩ (fun _ _ => ⟨rfl, rfl, rfl, trivial⟩) (fun y hy => ?_)
  obtain ⟨t, ⟨b3, c3⟩, b4, c4⟩ := y
  obtain ⟨hy1, hy2⟩ := hy
  generalize A.take (kL A) = B at hlen hy1 hy2
  have w1 := walk_ok 8 (memL B) t root va (memL_ok B) (by decide) (by decide) hr hva
  have w2 := refwalk_ok 8 (logL B) b3 b4 c3 c4 root va (by decide) (by decide) (by omega) (logL_ok B) hy1 hy2 hr hva
  have hm : bL (logL B) = memL B := rfl
  rw [hm] at w2
  generalize walkF (memL B) 8 root va = o at w1 w2
  have c5 := one_ok
  rcases o with _ | ⟨e, a⟩
  all_goals
    conv => whnf
    refine Spec.fn w1 [1, 2] rfl rfl (fun _ => rfl) rfl ⟨⟨by decide, rfl, rfl, _, rfl, fun _ => rfl, Nat.le_refl _, fun _ => Nat.le_refl _, id⟩, ⟨by decide, rfl, rfl, _, rfl, fun _ => rfl, Nat.le_refl _, fun _ => Nat.le_refl _, fun h => (by cases h)⟩, trivial⟩ (fun _ _ => ⟨rfl, rfl, ⟨_, rfl, rfl, rfl⟩, rfl, trivial⟩) (fun _ _ => ?_)
    conv => whnf
    refine Spec.fn (Fun.read w2 rfl) [3, 4] rfl rfl (fun _ => rfl) rfl ⟨⟨by decide, rfl, rfl, _, rfl, fun _ => rfl, Nat.le_refl _, fun _ => Nat.le_refl _, fun h => (by cases h)⟩, ⟨by decide, rfl, rfl, _, rfl, fun _ => rfl, Nat.le_refl _, fun _ => Nat.le_refl _, fun h => (by cases h)⟩, trivial⟩ (fun _ _ => ⟨rfl, rfl, rfl, rfl, trivial⟩) (fun _ _ => ?_)
    repeat' ((try (conv => whnf)); first
      | refine Spec.pure c5 rfl rfl (fun _ => rfl) ?_
      | refine VL.op (VL.eq tabOk ?_)
      | refine Needs.mk ⟨rfl, by kernel_rfl⟩ ?_
      | refine Needs.mk (by kernel_rfl) ?_
      | refine IfL.t rfl ?_
      | refine IfL.f rfl ?_
      | (refine IfL.t ?hx ?_; case hx => (simp; done)))
    conv => whnf
    intro ρ
    rfl

end Go.Sh.Ythpalblfkpmpeaa
