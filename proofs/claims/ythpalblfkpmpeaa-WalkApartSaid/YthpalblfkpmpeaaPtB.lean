import Derived.Test.YthpalblfkpmpeaaPtA
import Derived.Test.YthpalblfkpmpeaaMB
set_option linter.unusedVariables false
namespace Go.Sh.Ythpalblfkpmpeaa
open Go.Proofs Go.Sh

def oFr (w i : Nat) : Fr := [(0, .int .u64 (w : Int)), (2, .ptr 0 0), (3, .ptr 1 0), (4, .ptr 3 0), (11, .agg [.int .i64 0, .int .i64 1, .int .i64 2, .int .i64 3, .int .i64 4, .int .i64 5, .int .i64 6, .int .i64 7, .int .i64 58, .int .i64 59, .int .i64 60, .int .i64 61]), (12, .int .i64 (i : Int))]
def oHp (w i : Nat) : Hp := [(0, .cells [.ff, .ff, .ff, .ff, .ff, .ff, .ff, .ff, .ff, .ff, .ff, .ff, .int .u64 0]), (1, .cells (entI w i)), (3, .cells [.ptr 1 0, .ptr 1 1, .ptr 1 2, .ptr 1 3, .ptr 1 4, .ptr 1 5, .ptr 1 6, .ptr 1 7, .ptr 1 8, .ptr 1 9, .ptr 1 10, .ptr 1 11])]
theorem of_ok (w : Nat) (hw : w < 2 ^ 64) : Pure Try.prog 14 [.int .u64 (w : Int)] (.agg (entC (entOf w))) := by
  have hg := fget_ok w 10 44 hw (by decide) (by decide) (by decide)
  have hb : (w / 2 ^ 10 % 2 ^ 44 : Nat) = w / 1024 % 17592186044416 := by simp only [Nat.reducePow]
  rw [hb] at hg
  refine Spec.of_body tabOk Try.func14 rfl (ent Try.func14 rfl (by kernel_rfl)) Try.ntmps14 rfl (by kernel_rfl) (Nat.le_of_ble_eq_true rfl) ?_
  conv => whnf
  refine Spec.pure hg rfl rfl (fun _ => rfl) ?_
  conv => whnf
  refine Spec.of_body tabOk Try.func45 rfl (ent Try.func45 rfl (by kernel_rfl)) Try.ntmps45 rfl (by kernel_rfl) (Nat.le_of_ble_eq_true rfl) ?_
  conv => whnf
  refine CodeL.draw tabOk Try.checked.mixed 37 (by kernel_rfl) rfl ?_
  conv => whnf
  refine Spec.of_body tabOk Try.func46 rfl (ent Try.func46 rfl (by kernel_rfl)) Try.ntmps46 rfl (by kernel_rfl) (Nat.le_of_ble_eq_true rfl) ?_
  conv => whnf
  refine CodeL.loop tabOk (fun i : Nat => (oFr w i, oHp w i)) (fun i => 12 - i) (fun i => i ≤ 12) rfl (fun i => ⟨rfl, by simp only [oHp, wfH, SO.ok, entI_oks]; rfl⟩) 0 (Nat.zero_le _) ⟨⟨rfl, rfl, rfl, rfl, rfl, rfl, trivial⟩, ⟨rfl, rfl, rfl, trivial⟩⟩ ?_
  intro i hi
  conv => whnf
  refine ⟨fun h => ?_, fun h => ?_⟩
  · have h : i < 12 := by have := of_decide_eq_true h; omega
    clear hg
    rcases twelve h with rfl | rfl | rfl | rfl | rfl | rfl | rfl | rfl | rfl | rfl | rfl | rfl
    · conv => whnf
      refine .here 0 rfl (by decide) ?_
      conv => whnf
      refine CodeL.draw tabOk Try.checked.mixed 8 (by kernel_rfl) rfl ?_
      conv => whnf
      refine .here 0 rfl (by decide) ?_
      conv => whnf
      refine ⟨by decide, ?_⟩
      conv => whnf
      exact ⟨(1 : Nat), by decide, by decide, ⟨rfl, rfl, rfl, rfl, rfl, rfl, trivial⟩, ⟨rfl, rfl, rfl, trivial⟩⟩
    · conv => whnf
      refine .here 1 rfl (by decide) ?_
      conv => whnf
      refine CodeL.draw tabOk Try.checked.mixed 8 (by kernel_rfl) rfl ?_
      conv => whnf
      refine .here 1 rfl (by decide) ?_
      conv => whnf
      refine ⟨by decide, ?_⟩
      conv => whnf
      exact ⟨(2 : Nat), by decide, by decide, ⟨rfl, rfl, rfl, rfl, rfl, rfl, trivial⟩, ⟨rfl, rfl, rfl, trivial⟩⟩
    · conv => whnf
      refine .here 2 rfl (by decide) ?_
      conv => whnf
      refine CodeL.draw tabOk Try.checked.mixed 8 (by kernel_rfl) rfl ?_
      conv => whnf
      refine .here 2 rfl (by decide) ?_
      conv => whnf
      refine ⟨by decide, ?_⟩
      conv => whnf
      exact ⟨(3 : Nat), by decide, by decide, ⟨rfl, rfl, rfl, rfl, rfl, rfl, trivial⟩, ⟨rfl, rfl, rfl, trivial⟩⟩
    · conv => whnf
      refine .here 3 rfl (by decide) ?_
      conv => whnf
      refine CodeL.draw tabOk Try.checked.mixed 8 (by kernel_rfl) rfl ?_
      conv => whnf
      refine .here 3 rfl (by decide) ?_
      conv => whnf
      refine ⟨by decide, ?_⟩
      conv => whnf
      exact ⟨(4 : Nat), by decide, by decide, ⟨rfl, rfl, rfl, rfl, rfl, rfl, trivial⟩, ⟨rfl, rfl, rfl, trivial⟩⟩
    · conv => whnf
      refine .here 4 rfl (by decide) ?_
      conv => whnf
      refine CodeL.draw tabOk Try.checked.mixed 8 (by kernel_rfl) rfl ?_
      conv => whnf
      refine .here 4 rfl (by decide) ?_
      conv => whnf
      refine ⟨by decide, ?_⟩
      conv => whnf
      exact ⟨(5 : Nat), by decide, by decide, ⟨rfl, rfl, rfl, rfl, rfl, rfl, trivial⟩, ⟨rfl, rfl, rfl, trivial⟩⟩
    · conv => whnf
      refine .here 5 rfl (by decide) ?_
      conv => whnf
      refine CodeL.draw tabOk Try.checked.mixed 8 (by kernel_rfl) rfl ?_
      conv => whnf
      refine .here 5 rfl (by decide) ?_
      conv => whnf
      refine ⟨by decide, ?_⟩
      conv => whnf
      exact ⟨(6 : Nat), by decide, by decide, ⟨rfl, rfl, rfl, rfl, rfl, rfl, trivial⟩, ⟨rfl, rfl, rfl, trivial⟩⟩
    · conv => whnf
      refine .here 6 rfl (by decide) ?_
      conv => whnf
      refine CodeL.draw tabOk Try.checked.mixed 8 (by kernel_rfl) rfl ?_
      conv => whnf
      refine .here 6 rfl (by decide) ?_
      conv => whnf
      refine ⟨by decide, ?_⟩
      conv => whnf
      exact ⟨(7 : Nat), by decide, by decide, ⟨rfl, rfl, rfl, rfl, rfl, rfl, trivial⟩, ⟨rfl, rfl, rfl, trivial⟩⟩
    · conv => whnf
      refine .here 7 rfl (by decide) ?_
      conv => whnf
      refine CodeL.draw tabOk Try.checked.mixed 8 (by kernel_rfl) rfl ?_
      conv => whnf
      refine .here 7 rfl (by decide) ?_
      conv => whnf
      refine ⟨by decide, ?_⟩
      conv => whnf
      exact ⟨(8 : Nat), by decide, by decide, ⟨rfl, rfl, rfl, rfl, rfl, rfl, trivial⟩, ⟨rfl, rfl, rfl, trivial⟩⟩
    · conv => whnf
      refine .here 8 rfl (by decide) ?_
      conv => whnf
      refine CodeL.draw tabOk Try.checked.mixed 8 (by kernel_rfl) rfl ?_
      conv => whnf
      refine .here 8 rfl (by decide) ?_
      conv => whnf
      refine ⟨by decide, ?_⟩
      conv => whnf
      exact ⟨(9 : Nat), by decide, by decide, ⟨rfl, rfl, rfl, rfl, rfl, rfl, trivial⟩, ⟨rfl, rfl, rfl, trivial⟩⟩
    · conv => whnf
      refine .here 9 rfl (by decide) ?_
      conv => whnf
      refine CodeL.draw tabOk Try.checked.mixed 8 (by kernel_rfl) rfl ?_
      conv => whnf
      refine .here 9 rfl (by decide) ?_
      conv => whnf
      refine ⟨by decide, ?_⟩
      conv => whnf
      exact ⟨(10 : Nat), by decide, by decide, ⟨rfl, rfl, rfl, rfl, rfl, rfl, trivial⟩, ⟨rfl, rfl, rfl, trivial⟩⟩
    · conv => whnf
      refine .here 10 rfl (by decide) ?_
      conv => whnf
      refine CodeL.draw tabOk Try.checked.mixed 8 (by kernel_rfl) rfl ?_
      conv => whnf
      refine .here 10 rfl (by decide) ?_
      conv => whnf
      refine ⟨by decide, ?_⟩
      conv => whnf
      exact ⟨(11 : Nat), by decide, by decide, ⟨rfl, rfl, rfl, rfl, rfl, rfl, trivial⟩, ⟨rfl, rfl, rfl, trivial⟩⟩
    · conv => whnf
      refine .here 11 rfl (by decide) ?_
      conv => whnf
      refine CodeL.draw tabOk Try.checked.mixed 8 (by kernel_rfl) rfl ?_
      conv => whnf
      refine .here 11 rfl (by decide) ?_
      conv => whnf
      refine ⟨by decide, ?_⟩
      conv => whnf
      exact ⟨(12 : Nat), by decide, by decide, ⟨rfl, rfl, rfl, rfl, rfl, rfl, trivial⟩, ⟨rfl, rfl, rfl, trivial⟩⟩
  · have h : i = 12 := by have := of_decide_eq_false h; omega
    subst h
    rw [← entI_all w hw]
    conv => whnf
    intro ρ
    rfl
end Go.Sh.Ythpalblfkpmpeaa
