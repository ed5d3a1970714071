import Derived.Test.YtkopfaenfaelfaaTgC
import Derived.Test.YtkopfaenfaelfaaPbA
import Derived.Test.YtkopfaenfaelfaaSet4
import Derived.Test.YtkopfaenfaelfaaMem1
import Derived.Test.YtkopfaenfaelfaaPaint1
set_option linter.unusedVariables false
namespace Go.Sh.Ytkopfaenfaelfaa
open Go.Proofs Go.Sh

theorem or_ok (s t : Nat) (ht : t < 2 ^ 256) : Pure Try.prog 13 [setV s, setV t] (setV (s ||| t)) := by
  have e0 := omixS_zero s t
  have e4 := omixS_four s t ht
  generalize hm : omixS s t = M at e0 e4
  have other : ∀ k i, i ≠ k → wd (M k) i = wd (M (k + 1)) i := fun k i h => by rw [← hm]; exact wd_omix_other s t k i h
  have at_ : ∀ k, band .or .u64 (wd (M k) k) (wd t k) = wd (M (k + 1)) k := fun k => by rw [← hm]; exact wd_omix_at s t k
  rw [← e4]
  refine Spec.of_body tabOk Try.func13 rfl (ent Try.func13 rfl (by kernel_rfl)) Try.ntmps13 rfl (by kernel_rfl) (Nat.le_of_ble_eq_true rfl) ?_
  conv => whnf
  refine CodeL.loop tabOk (fun k : Nat => ([(2, .ptr 0 0), (3, .ptr 1 0), (4, .ptr 2 0), (6, .int .i64 k)], [(0, .cells (setCells (M k))), (1, .cells (setCells t)), (2, .cells [.int .u64 0, .int .u64 0, .int .u64 0, .int .u64 0])])) (fun k => 4 - k) (fun k => k ≤ 4) rfl (fun k => ⟨rfl, rfl⟩) 0 (Nat.zero_le _) ⟨⟨rfl, rfl, rfl, rfl, trivial⟩, ⟨by rw [e0]; rfl, rfl, rfl, trivial⟩⟩ ?_
  intro k hk
  conv => whnf
  refine ⟨fun h => ?_, fun h => ?_⟩
  · have h : k < 4 := by have := of_decide_eq_true h; omega
    conv => whnf
    refine CodeL.draw tabOk Try.checked.mixed 8 (by kernel_rfl) rfl ?_
    have : k = 0 ∨ k = 1 ∨ k = 2 ∨ k = 3 := by omega
    rcases this with rfl | rfl | rfl | rfl
    · conv => whnf
      refine .lit 0 rfl (by decide) ?_
      conv => whnf
      refine .lit 0 rfl (by decide) ?_
      conv => whnf
      refine .lit 0 rfl (by decide) ?_
      conv => whnf
      exact ⟨1, by decide, by decide, ⟨rfl, rfl, rfl, rfl, trivial⟩, ⟨congrArg (fun x => some (SO.cells x)) (setCells_of (at_ 0) (other 0 1 (by decide)) (other 0 2 (by decide)) (other 0 3 (by decide))), rfl, rfl, trivial⟩⟩
    · conv => whnf
      refine .lit 1 rfl (by decide) ?_
      conv => whnf
      refine .lit 1 rfl (by decide) ?_
      conv => whnf
      refine .lit 1 rfl (by decide) ?_
      conv => whnf
      exact ⟨2, by decide, by decide, ⟨rfl, rfl, rfl, rfl, trivial⟩, ⟨congrArg (fun x => some (SO.cells x)) (setCells_of (other 1 0 (by decide)) (at_ 1) (other 1 2 (by decide)) (other 1 3 (by decide))), rfl, rfl, trivial⟩⟩
    · conv => whnf
      refine .lit 2 rfl (by decide) ?_
      conv => whnf
      refine .lit 2 rfl (by decide) ?_
      conv => whnf
      refine .lit 2 rfl (by decide) ?_
      conv => whnf
      exact ⟨3, by decide, by decide, ⟨rfl, rfl, rfl, rfl, trivial⟩, ⟨congrArg (fun x => some (SO.cells x)) (setCells_of (other 2 0 (by decide)) (other 2 1 (by decide)) (at_ 2) (other 2 3 (by decide))), rfl, rfl, trivial⟩⟩
    · conv => whnf
      refine .lit 3 rfl (by decide) ?_
      conv => whnf
      refine .lit 3 rfl (by decide) ?_
      conv => whnf
      refine .lit 3 rfl (by decide) ?_
      conv => whnf
      exact ⟨4, by decide, by decide, ⟨rfl, rfl, rfl, rfl, trivial⟩, ⟨congrArg (fun x => some (SO.cells x)) (setCells_of (other 3 0 (by decide)) (other 3 1 (by decide)) (other 3 2 (by decide)) (at_ 3)), rfl, rfl, trivial⟩⟩
  · have h : k = 4 := by have := of_decide_eq_false h; omega
    subst h
    conv => whnf
    intro ρ
    rfl
theorem pnum_ok (n : Nat) (h : n < 2 ^ 64) : Pure Try.prog 15 [.int .u64 (n : Int)] (.int .u64 (n / 4096 : Nat)) := by
  refine Spec.of_body tabOk Try.func15 rfl (ent Try.func15 rfl (by kernel_rfl)) Try.ntmps15 rfl (by kernel_rfl) (Nat.le_of_ble_eq_true rfl) ?_
  conv => whnf
  intro ρ
  exact congrArg (Value.int .u64) (quo_nat n 4096 h)
def spC (b t : Nat) : List SV := [.int .u64 (b : Int), .int .u64 (t : Int)]
theorem may_ok (b t : Nat) (hb : b < 2 ^ 64) (ht : t < 2 ^ 64) : Pure Try.prog 22 [.agg (spC b t)] (.bool (mayB b t)) := by
  refine Spec.of_body tabOk Try.func22 rfl (ent Try.func22 rfl (by kernel_rfl)) Try.ntmps22 rfl (by kernel_rfl) (Nat.le_of_ble_eq_true rfl) ?_
  conv => whnf
  refine CodeL.draw tabOk Try.checked.mixed 22 (by kernel_rfl) rfl ?_
  conv => whnf
  refine ⟨fun h1 => ?_, fun h1 => ?_⟩
  · have g1 : b < t := by have := of_decide_eq_true h1; omega
    have ew : IntKind.wrap .u64 ((t : Int) - 1) = ((t - 1 : Nat) : Int) := by rw [show (t : Int) - 1 = ((t - 1 : Nat) : Int) by omega]; exact wrapn _ (by omega)
    have es : IntKind.wrap .u64 (((t - 1) / 4096 : Nat) - (b / 4096 : Nat) : Int) = (((t - 1) / 4096 - b / 4096 : Nat) : Int) := by
      have : b / 4096 ≤ (t - 1) / 4096 := Nat.div_le_div_right (by omega)
      rw [← Int.natCast_sub this]; exact wrapn _ (by omega)
    conv => whnf
    refine ⟨fun h2 => ?_, fun h2 => ?_⟩
    · have g2 : t ≤ 274877906944 := by have := of_decide_eq_true h2; omega
      conv => whnf
      rw [ew]
      refine QCallL.pure (pnum_ok (t - 1) (by omega)) rfl rfl (fun _ => rfl) ?_
      conv => whnf
      refine QCallL.pure (pnum_ok b hb) rfl rfl (fun _ => rfl) ?_
      conv => whnf
      rw [es]
      intro ρ
      refine congrArg Value.bool ?_
      show decide ((((t - 1) / 4096 - b / 4096 : Nat) : Int) < 64) = mayB b t
      unfold mayB
      rw [decide_eq_true g1, decide_eq_true g2, Bool.true_and, Bool.true_and]
      exact decide_eq_decide.2 (by omega)
    · have g2 : ¬ t ≤ 274877906944 := by have := of_decide_eq_false h2; omega
      conv => whnf
      intro ρ
      show Value.bool false = Value.bool (mayB b t)
      unfold mayB
      rw [decide_eq_false g2, Bool.false_and, Bool.and_false]
  · have g1 : ¬ b < t := by have := of_decide_eq_false h1; omega
    conv => whnf
    intro ρ
    show Value.bool false = Value.bool (mayB b t)
    unfold mayB
    rw [decide_eq_false g1, Bool.false_and]
end Go.Sh.Ytkopfaenfaelfaa
