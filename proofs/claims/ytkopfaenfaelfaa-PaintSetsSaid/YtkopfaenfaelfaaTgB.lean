import Derived.Test.YtkopfaenfaelfaaTgA
set_option linter.unusedVariables false
namespace Go.Sh.Ytkopfaenfaelfaa
open Go.Proofs Go.Sh

theorem get_ok (s : Nat) (i : Int) : Pure Try.prog 16 [setV s, .int .i64 i] (.bool (getB s i)) := by
  refine Spec.of_body tabOk Try.func16 rfl (ent Try.func16 rfl (by kernel_rfl)) Try.ntmps16 rfl (by kernel_rfl) (Nat.le_of_ble_eq_true rfl) ?_
  conv => whnf
  refine Spec.pure (is_ok i) rfl rfl (fun _ => rfl) ?_
  conv => whnf
  refine ⟨fun h => ?_, fun h => ?_⟩
  · have h := of_decide_eq_true h
    rcases word4 i h with e | e | e | e
    all_goals
      conv => whnf
      first
        | refine ⟨0, idx_word i 0 h.1 h.2 e, by decide, .inl ?_⟩
        | refine ⟨1, idx_word i 1 h.1 h.2 e, by decide, .inl ?_⟩
        | refine ⟨2, idx_word i 2 h.1 h.2 e, by decide, .inl ?_⟩
        | refine ⟨3, idx_word i 3 h.1 h.2 e, by decide, .inl ?_⟩
      conv => whnf
      refine ⟨by rw [idx_bit i h.1]; omega, ?_⟩
      conv => whnf
      intro ρ
      show Value.bool _ = Value.bool _
      congr 1
      first
        | rw [get_word s i 0 h.1 h.2 e]
        | rw [get_word s i 1 h.1 h.2 e]
        | rw [get_word s i 2 h.1 h.2 e]
        | rw [get_word s i 3 h.1 h.2 e]
      simp only [getB, h, and_self, decide_true, Bool.true_and]
      cases s.testBit i.toNat <;> rfl
  · conv => whnf
    intro ρ
    show Value.bool _ = Value.bool _
    simp [getB, h]

end Go.Sh.Ytkopfaenfaelfaa
