import Derived.Test.YtkopfaenfaelfaaTgA
import Derived.Test.YtkopfaenfaelfaaSet2
set_option linter.unusedVariables false
namespace Go.Sh.Ytkopfaenfaelfaa
open Go.Proofs Go.Sh

theorem ones_ok (x : Nat) (h : x < 2 ^ 64) : Pure Try.prog 26 [.int .u64 x] (.int .i64 (cnt x 64 : Nat)) := by
  refine Spec.of_body tabOk Try.func26 rfl (ent Try.func26 rfl (by kernel_rfl)) Try.ntmps26 rfl (by kernel_rfl) (Nat.le_of_ble_eq_true rfl) ?_
  conv => whnf
  intro ρ
  exact congrArg (fun n => Value.int .i64 n) (ones_int x h)

theorem setCells_at (s k : Nat) (h : k < 4) : (setCells s)[k]? = some (.int .u64 (wd s k)) := by
  have : k = 0 ∨ k = 1 ∨ k = 2 ∨ k = 3 := by omega
  rcases this with rfl | rfl | rfl | rfl <;> rfl

theorem count_ok (s : Nat) : Pure Try.prog 17 [setV s] (.int .i64 (cnt s 256 : Nat)) := by
  refine Spec.of_body tabOk Try.func17 rfl (ent Try.func17 rfl (by kernel_rfl)) Try.ntmps17 rfl (by kernel_rfl) (Nat.le_of_ble_eq_true rfl) ?_
  conv => whnf
  refine CodeL.loop tabOk (fun k : Nat => ([(3, .int .i64 (cnt s (64 * k) : Nat)), (6, setV s), (7, .int .i64 k)], [])) (fun k => 4 - k) (fun k => k ≤ 4) rfl (fun k => ⟨rfl, rfl⟩) 0 (Nat.zero_le _) ⟨⟨rfl, rfl, rfl, trivial⟩, trivial⟩ ?_
  intro k hk
  conv => whnf
  refine ⟨fun h => ?_, fun h => ?_⟩
  · have h : k < 4 := by have := of_decide_eq_true h; omega
    conv => whnf
    refine ⟨k, rfl, h, .inr ⟨.int .u64 (wd s k), ?_, by rw [Nat.mul_one]; exact setCells_at s k h⟩⟩
    conv => whnf
    refine Spec.pure (ones_ok (wn s k) (wn_lt s k)) rfl rfl (fun _ => rfl) ?_
    conv => whnf
    have e : IntKind.wrap .i64 ((cnt s (64 * k) : Nat) + (cnt (wn s k) 64 : Nat) : Int) = (cnt s (64 * (k + 1)) : Nat) := by
      have := cnt_step s k
      have := cnt_le s (64 * (k + 1))
      rw [wrap_i64 _ (by omega) (by omega)]; omega
    have e2 : IntKind.wrap .i64 ((k : Int) + 1) = ((k + 1 : Nat) : Int) := by rw [wrap_i64 _ (by omega) (by omega)]; omega
    exact ⟨k + 1, by omega, by omega, ⟨congrArg (fun x => some (SV.int .i64 x)) e, rfl, congrArg (fun x => some (SV.int .i64 x)) e2, trivial⟩, trivial⟩
  · have h : k = 4 := by have := of_decide_eq_false h; omega
    subst h
    conv => whnf
    intro ρ
    rfl

theorem zero4 (s : Nat) (hs : s < 2 ^ 256) : (decide (wd s 0 = 0) && (decide (wd s 1 = 0) && (decide (wd s 2 = 0) && decide (wd s 3 = 0)))) = decide (s = 0) := by
  have := set_eq hs (show 0 < 2 ^ 256 by decide)
  have e : ∀ k, wd 0 k = 0 := fun k => by simp [wd, wn]
  simpa only [e] using this

theorem any_ok (s : Nat) (hs : s < 2 ^ 256) : Pure Try.prog 24 [setV s] (.bool (!decide (s = 0))) := by
  refine Spec.of_body tabOk Try.func24 rfl (ent Try.func24 rfl (by kernel_rfl)) Try.ntmps24 rfl (by kernel_rfl) (Nat.le_of_ble_eq_true rfl) ?_
  conv => whnf
  refine VL.op (VL.eq tabOk ?_)
  conv => whnf
  refine ⟨by kernel_rfl, ?_⟩
  conv => whnf
  intro ρ
  exact congrArg (fun b => Value.bool (!b)) (zero4 s hs)

end Go.Sh.Ytkopfaenfaelfaa
