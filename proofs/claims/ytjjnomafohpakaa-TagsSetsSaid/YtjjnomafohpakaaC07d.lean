import Derived.Test.YtjjnomafohpakaaC07a
import Derived.Test.YtjjnomafohpakaaSet2
set_option linter.unusedVariables false
namespace Go.Sh.Ytjjnomafohpakaa
open Go.Proofs Go.Sh

theorem ones_ok (x : Nat) (h : x < 2 ^ 64) : Pure Try.prog 20 [.int .u64 x] (.int .i64 (cnt x 64 : Nat)) := by
  refine Spec.of_body tabOk Try.func20 rfl (ent Try.func20 rfl (by kernel_rfl)) Try.ntmps20 rfl (by kernel_rfl) (Nat.le_of_ble_eq_true rfl) ?_
  conv => whnf
  intro ρ
  exact congrArg (fun n => Value.int .i64 n) (ones_int x h)

theorem setCells_at (s k : Nat) (h : k < 4) : (setCells s)[k]? = some (.int .u64 (wd s k)) := by
  have : k = 0 ∨ k = 1 ∨ k = 2 ∨ k = 3 := by omega
  rcases this with rfl | rfl | rfl | rfl <;> rfl

theorem count_ok (s : Nat) : Pure Try.prog 12 [setV s] (.int .i64 (cnt s 256 : Nat)) := by
  refine Spec.of_body tabOk Try.func12 rfl (ent Try.func12 rfl (by kernel_rfl)) Try.ntmps12 rfl (by kernel_rfl) (Nat.le_of_ble_eq_true rfl) ?_
  conv => whnf
  refine CodeL.loop tabOk (fun k : Nat => ([(3, .int .i64 (cnt s (64 * k) : Nat)), (6, setV s), (7, .int .i64 k)], [])) (fun k => 4 - k) (fun k => k ≤ 4) rfl (fun k => ⟨rfl, rfl⟩) 0 (Nat.zero_le _) ⟨⟨rfl, rfl, rfl, trivial⟩, trivial⟩ ?_
  intro k hk
  conv => whnf
  refine ⟨fun h => ?_, fun h => ?_⟩
  · have h : k < 4 := by have := of_decide_eq_true h; omega
    conv => whnf
    refine ⟨k, rfl, h, .inr ⟨.int .u64 (wd s k), ?_, by rw [Nat.mul_one]; exact setCells_at s k h⟩⟩
    conv => whnf
    refine Spec.pure (ones_ok (wn s k) (wn_lt s k)) rfl rfl (fun _ => rfl) ?_
    conv => whnf
    have e : IntKind.wrap .i64 ((cnt s (64 * k) : Nat) + (cnt (wn s k) 64 : Nat) : Int) = (cnt s (64 * (k + 1)) : Nat) := by
      have := cnt_step s k
      have := cnt_le s (64 * (k + 1))
      rw [wrap_i64 _ (by omega) (by omega)]; omega
    have e2 : IntKind.wrap .i64 ((k : Int) + 1) = ((k + 1 : Nat) : Int) := by rw [wrap_i64 _ (by omega) (by omega)]; omega
    exact ⟨k + 1, by omega, by omega, ⟨congrArg (fun x => some (SV.int .i64 x)) e, rfl, congrArg (fun x => some (SV.int .i64 x)) e2, trivial⟩, trivial⟩
  · have h : k = 4 := by have := of_decide_eq_false h; omega
    subst h
    conv => whnf
    intro ρ
    rfl

theorem zero4 (s : Nat) (hs : s < 2 ^ 256) : (decide (wd s 0 = 0) && (decide (wd s 1 = 0) && (decide (wd s 2 = 0) && decide (wd s 3 = 0)))) = decide (s = 0) := by
  have := set_eq hs (show 0 < 2 ^ 256 by decide)
  have e : ∀ k, wd 0 k = 0 := fun k => by simp [wd, wn]
  simpa only [e] using this

theorem any_ok (s : Nat) (hs : s < 2 ^ 256) : Pure Try.prog 13 [setV s] (.bool (!decide (s = 0))) := by
  refine Spec.of_body tabOk Try.func13 rfl (ent Try.func13 rfl (by kernel_rfl)) Try.ntmps13 rfl (by kernel_rfl) (Nat.le_of_ble_eq_true rfl) ?_
  conv => whnf
  refine VL.op (VL.eq tabOk ?_)
  conv => whnf
  refine ⟨by kernel_rfl, ?_⟩
  conv => whnf
  intro ρ
  exact congrArg (fun b => Value.bool (!b)) (zero4 s hs)

theorem setCells_of {s : Nat} {a b c d : Int} (h0 : a = wd s 0) (h1 : b = wd s 1) (h2 : c = wd s 2) (h3 : d = wd s 3) : [SV.int .u64 a, .int .u64 b, .int .u64 c, .int .u64 d] = setCells s := by subst h0 h1 h2 h3; rfl
theorem without_ok (s t : Nat) (ht : t < 2 ^ 256) : Pure Try.prog 18 [setV s, setV t] (setV (diffS s t)) := by
  have e0 := mixS_zero s t
  have e4 := mixS_four s t ht
  generalize hm : mixS s t = M at e0 e4
  have other : ∀ k i, i ≠ k → wd (M k) i = wd (M (k + 1)) i := fun k i h => by rw [← hm]; exact wd_mix_other s t k i h
  have at_ : ∀ k, band .andNot .u64 (wd (M k) k) (wd t k) = wd (M (k + 1)) k := fun k => by rw [← hm]; exact wd_mix_at s t k
  rw [← e4]
  refine Spec.of_body tabOk Try.func18 rfl (ent Try.func18 rfl (by kernel_rfl)) Try.ntmps18 rfl (by kernel_rfl) (Nat.le_of_ble_eq_true rfl) ?_
  conv => whnf
  refine CodeL.loop tabOk (fun k : Nat => ([(2, .ptr 0 0), (3, .ptr 1 0), (4, .ptr 2 0), (6, .int .i64 k)], [(0, .cells (setCells (M k))), (1, .cells (setCells t)), (2, .cells [.int .u64 0, .int .u64 0, .int .u64 0, .int .u64 0])])) (fun k => 4 - k) (fun k => k ≤ 4) rfl (fun k => ⟨rfl, rfl⟩) 0 (Nat.zero_le _) ⟨⟨rfl, rfl, rfl, rfl, trivial⟩, ⟨by rw [e0]; rfl, rfl, rfl, trivial⟩⟩ ?_
  intro k hk
  conv => whnf
  refine ⟨fun h => ?_, fun h => ?_⟩
  · have h : k < 4 := by have := of_decide_eq_true h; omega
    conv => whnf
    refine CodeL.draw tabOk Try.checked.mixed 8 (by kernel_rfl) rfl ?_
    have : k = 0 ∨ k = 1 ∨ k = 2 ∨ k = 3 := by omega
    rcases this with rfl | rfl | rfl | rfl
    · conv => whnf
      refine .lit 0 rfl (by decide) ?_
      conv => whnf
      refine .lit 0 rfl (by decide) ?_
      conv => whnf
      refine .lit 0 rfl (by decide) ?_
      conv => whnf
      exact ⟨1, by decide, by decide, ⟨rfl, rfl, rfl, rfl, trivial⟩, ⟨congrArg (fun x => some (SO.cells x)) (setCells_of (at_ 0) (other 0 1 (by decide)) (other 0 2 (by decide)) (other 0 3 (by decide))), rfl, rfl, trivial⟩⟩
    · conv => whnf
      refine .lit 1 rfl (by decide) ?_
      conv => whnf
      refine .lit 1 rfl (by decide) ?_
      conv => whnf
      refine .lit 1 rfl (by decide) ?_
      conv => whnf
      exact ⟨2, by decide, by decide, ⟨rfl, rfl, rfl, rfl, trivial⟩, ⟨congrArg (fun x => some (SO.cells x)) (setCells_of (other 1 0 (by decide)) (at_ 1) (other 1 2 (by decide)) (other 1 3 (by decide))), rfl, rfl, trivial⟩⟩
    · conv => whnf
      refine .lit 2 rfl (by decide) ?_
      conv => whnf
      refine .lit 2 rfl (by decide) ?_
      conv => whnf
      refine .lit 2 rfl (by decide) ?_
      conv => whnf
      exact ⟨3, by decide, by decide, ⟨rfl, rfl, rfl, rfl, trivial⟩, ⟨congrArg (fun x => some (SO.cells x)) (setCells_of (other 2 0 (by decide)) (other 2 1 (by decide)) (at_ 2) (other 2 3 (by decide))), rfl, rfl, trivial⟩⟩
    · conv => whnf
      refine .lit 3 rfl (by decide) ?_
      conv => whnf
      refine .lit 3 rfl (by decide) ?_
      conv => whnf
      refine .lit 3 rfl (by decide) ?_
      conv => whnf
      exact ⟨4, by decide, by decide, ⟨rfl, rfl, rfl, rfl, trivial⟩, ⟨congrArg (fun x => some (SO.cells x)) (setCells_of (other 3 0 (by decide)) (other 3 1 (by decide)) (other 3 2 (by decide)) (at_ 3)), rfl, rfl, trivial⟩⟩
  · have h : k = 4 := by have := of_decide_eq_false h; omega
    subst h
    conv => whnf
    intro ρ
    rfl
end Go.Sh.Ytjjnomafohpakaa
