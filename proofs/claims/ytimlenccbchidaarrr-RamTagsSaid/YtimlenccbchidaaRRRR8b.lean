import Derived.Test.YtimlenccbchidaaRRRRmB
import Derived.Test.YtimlenccbchidaaRRRSh29
import Derived.Test.YtimlenccbchidaaRRRMem2
set_option linter.unusedVariables false
namespace Go.Sh.YtimlenccbchidaaRRR
open Go.Proofs Go.Sh

def capS (m a k : Nat) : Nat → Nat := fun i => if i % 8 < k then capF m a i else 0
theorem eight {i : Nat} (h : i < 8) : i = 0 ∨ i = 1 ∨ i = 2 ∨ i = 3 ∨ i = 4 ∨ i = 5 ∨ i = 6 ∨ i = 7 := by omega
theorem bytes_ok (t : Bool) (m a : Nat) (hm : m < 2 ^ 64) (ha : a < 2 ^ 64) : Pure Try.prog 10 [.agg [.bool t, .int .u64 (m : Int), .int .u64 (a : Int)]] (.agg (b16 (capF m a))) := by
  refine Spec.of_body tabOk Try.func10 rfl (ent Try.func10 rfl (by kernel_rfl)) Try.ntmps10 rfl (by kernel_rfl) (Nat.le_of_ble_eq_true rfl) ?_
  conv => whnf
  refine CodeL.loop tabOk (fun k : Nat => ([(1, .ptr 0 0), (2, .ptr 1 0), (3, .ptr 2 0), (5, .int .i64 k)], [(0, .cells [.bool t, .int .u64 (m : Int), .int .u64 (a : Int)]), (1, .cells (b16 fun _ => 0)), (2, .cells (b16 (capS m a k)))])) (fun k => 8 - k) (fun k => k ≤ 8) rfl (fun k => ⟨rfl, rfl⟩) 0 (Nat.zero_le _) ⟨⟨rfl, rfl, rfl, rfl, trivial⟩, ⟨rfl, rfl, rfl, trivial⟩⟩ ?_
  intro k hk
  conv => whnf
  refine ⟨fun h => ?_, fun h => ?_⟩
  · have h : k < 8 := by have := of_decide_eq_true h; omega
    conv => whnf
    rcases eight h with rfl | rfl | rfl | rfl | rfl | rfl | rfl | rfl
    · refine CodeL.any tabOk Try.checked.mixed [(0, .cells [.bool t, .int .u64 (m : Int), .int .u64 (a : Int)])] (.take 0 (.take 1 (.take 2 (.take 3 (.take 4 (.take 5 (.take 6 (.take 7 (.take 8 (.take 9 (.take 10 (.take 11 (.take 12 (.take 13 (.take 14 (.take 15 (.alt 16 (.take 17 (.alt 18 (.fin) .stop)) .stop))))))))))))))))) (by kernel_rfl) rfl ⟨rfl, trivial⟩ rfl ?_
      conv => whnf
      refine ⟨by decide, ?_⟩
      conv => whnf
      refine ⟨by decide, ?_⟩
      conv => whnf
      refine .here 0 rfl (by decide) ?_
      conv => whnf
      refine ⟨⟨rfl, trivial⟩, ?_⟩
      conv => whnf
      refine .here (0 + 8) rfl (by decide) ?_
      conv => whnf
      refine ⟨⟨rfl, trivial⟩, ?_⟩
      conv => whnf
      have e1 := shr_byte (v := a) (i := 0) (by decide)
      have e2 := shr_byte (v := m) (i := 0) (by decide)
      exact ⟨0 + 1, by decide, by decide, ⟨rfl, rfl, rfl, rfl, trivial⟩, ⟨rfl, rfl, by rw [e1, e2]; rfl, trivial⟩⟩
    · refine CodeL.any tabOk Try.checked.mixed [(0, .cells [.bool t, .int .u64 (m : Int), .int .u64 (a : Int)])] (.take 0 (.take 1 (.take 2 (.take 3 (.take 4 (.take 5 (.take 6 (.take 7 (.take 8 (.take 9 (.take 10 (.take 11 (.take 12 (.take 13 (.take 14 (.take 15 (.alt 16 (.take 17 (.alt 18 (.fin) .stop)) .stop))))))))))))))))) (by kernel_rfl) rfl ⟨rfl, trivial⟩ rfl ?_
      conv => whnf
      refine ⟨by decide, ?_⟩
      conv => whnf
      refine ⟨by decide, ?_⟩
      conv => whnf
      refine .here 1 rfl (by decide) ?_
      conv => whnf
      refine ⟨⟨rfl, trivial⟩, ?_⟩
      conv => whnf
      refine .here (1 + 8) rfl (by decide) ?_
      conv => whnf
      refine ⟨⟨rfl, trivial⟩, ?_⟩
      conv => whnf
      have e1 := shr_byte (v := a) (i := 1) (by decide)
      have e2 := shr_byte (v := m) (i := 1) (by decide)
      exact ⟨1 + 1, by decide, by decide, ⟨rfl, rfl, rfl, rfl, trivial⟩, ⟨rfl, rfl, by rw [e1, e2]; rfl, trivial⟩⟩
    · refine CodeL.any tabOk Try.checked.mixed [(0, .cells [.bool t, .int .u64 (m : Int), .int .u64 (a : Int)])] (.take 0 (.take 1 (.take 2 (.take 3 (.take 4 (.take 5 (.take 6 (.take 7 (.take 8 (.take 9 (.take 10 (.take 11 (.take 12 (.take 13 (.take 14 (.take 15 (.alt 16 (.take 17 (.alt 18 (.fin) .stop)) .stop))))))))))))))))) (by kernel_rfl) rfl ⟨rfl, trivial⟩ rfl ?_
      conv => whnf
      refine ⟨by decide, ?_⟩
      conv => whnf
      refine ⟨by decide, ?_⟩
      conv => whnf
      refine .here 2 rfl (by decide) ?_
      conv => whnf
      refine ⟨⟨rfl, trivial⟩, ?_⟩
      conv => whnf
      refine .here (2 + 8) rfl (by decide) ?_
      conv => whnf
      refine ⟨⟨rfl, trivial⟩, ?_⟩
      conv => whnf
      have e1 := shr_byte (v := a) (i := 2) (by decide)
      have e2 := shr_byte (v := m) (i := 2) (by decide)
      exact ⟨2 + 1, by decide, by decide, ⟨rfl, rfl, rfl, rfl, trivial⟩, ⟨rfl, rfl, by rw [e1, e2]; rfl, trivial⟩⟩
    · refine CodeL.any tabOk Try.checked.mixed [(0, .cells [.bool t, .int .u64 (m : Int), .int .u64 (a : Int)])] (.take 0 (.take 1 (.take 2 (.take 3 (.take 4 (.take 5 (.take 6 (.take 7 (.take 8 (.take 9 (.take 10 (.take 11 (.take 12 (.take 13 (.take 14 (.take 15 (.alt 16 (.take 17 (.alt 18 (.fin) .stop)) .stop))))))))))))))))) (by kernel_rfl) rfl ⟨rfl, trivial⟩ rfl ?_
      conv => whnf
      refine ⟨by decide, ?_⟩
      conv => whnf
      refine ⟨by decide, ?_⟩
      conv => whnf
      refine .here 3 rfl (by decide) ?_
      conv => whnf
      refine ⟨⟨rfl, trivial⟩, ?_⟩
      conv => whnf
      refine .here (3 + 8) rfl (by decide) ?_
      conv => whnf
      refine ⟨⟨rfl, trivial⟩, ?_⟩
      conv => whnf
      have e1 := shr_byte (v := a) (i := 3) (by decide)
      have e2 := shr_byte (v := m) (i := 3) (by decide)
      exact ⟨3 + 1, by decide, by decide, ⟨rfl, rfl, rfl, rfl, trivial⟩, ⟨rfl, rfl, by rw [e1, e2]; rfl, trivial⟩⟩
    · refine CodeL.any tabOk Try.checked.mixed [(0, .cells [.bool t, .int .u64 (m : Int), .int .u64 (a : Int)])] (.take 0 (.take 1 (.take 2 (.take 3 (.take 4 (.take 5 (.take 6 (.take 7 (.take 8 (.take 9 (.take 10 (.take 11 (.take 12 (.take 13 (.take 14 (.take 15 (.alt 16 (.take 17 (.alt 18 (.fin) .stop)) .stop))))))))))))))))) (by kernel_rfl) rfl ⟨rfl, trivial⟩ rfl ?_
      conv => whnf
      refine ⟨by decide, ?_⟩
      conv => whnf
      refine ⟨by decide, ?_⟩
      conv => whnf
      refine .here 4 rfl (by decide) ?_
      conv => whnf
      refine ⟨⟨rfl, trivial⟩, ?_⟩
      conv => whnf
      refine .here (4 + 8) rfl (by decide) ?_
      conv => whnf
      refine ⟨⟨rfl, trivial⟩, ?_⟩
      conv => whnf
      have e1 := shr_byte (v := a) (i := 4) (by decide)
      have e2 := shr_byte (v := m) (i := 4) (by decide)
      exact ⟨4 + 1, by decide, by decide, ⟨rfl, rfl, rfl, rfl, trivial⟩, ⟨rfl, rfl, by rw [e1, e2]; rfl, trivial⟩⟩
    · refine CodeL.any tabOk Try.checked.mixed [(0, .cells [.bool t, .int .u64 (m : Int), .int .u64 (a : Int)])] (.take 0 (.take 1 (.take 2 (.take 3 (.take 4 (.take 5 (.take 6 (.take 7 (.take 8 (.take 9 (.take 10 (.take 11 (.take 12 (.take 13 (.take 14 (.take 15 (.alt 16 (.take 17 (.alt 18 (.fin) .stop)) .stop))))))))))))))))) (by kernel_rfl) rfl ⟨rfl, trivial⟩ rfl ?_
      conv => whnf
      refine ⟨by decide, ?_⟩
      conv => whnf
      refine ⟨by decide, ?_⟩
      conv => whnf
      refine .here 5 rfl (by decide) ?_
      conv => whnf
      refine ⟨⟨rfl, trivial⟩, ?_⟩
      conv => whnf
      refine .here (5 + 8) rfl (by decide) ?_
      conv => whnf
      refine ⟨⟨rfl, trivial⟩, ?_⟩
      conv => whnf
      have e1 := shr_byte (v := a) (i := 5) (by decide)
      have e2 := shr_byte (v := m) (i := 5) (by decide)
      exact ⟨5 + 1, by decide, by decide, ⟨rfl, rfl, rfl, rfl, trivial⟩, ⟨rfl, rfl, by rw [e1, e2]; rfl, trivial⟩⟩
    · refine CodeL.any tabOk Try.checked.mixed [(0, .cells [.bool t, .int .u64 (m : Int), .int .u64 (a : Int)])] (.take 0 (.take 1 (.take 2 (.take 3 (.take 4 (.take 5 (.take 6 (.take 7 (.take 8 (.take 9 (.take 10 (.take 11 (.take 12 (.take 13 (.take 14 (.take 15 (.alt 16 (.take 17 (.alt 18 (.fin) .stop)) .stop))))))))))))))))) (by kernel_rfl) rfl ⟨rfl, trivial⟩ rfl ?_
      conv => whnf
      refine ⟨by decide, ?_⟩
      conv => whnf
      refine ⟨by decide, ?_⟩
      conv => whnf
      refine .here 6 rfl (by decide) ?_
      conv => whnf
      refine ⟨⟨rfl, trivial⟩, ?_⟩
      conv => whnf
      refine .here (6 + 8) rfl (by decide) ?_
      conv => whnf
      refine ⟨⟨rfl, trivial⟩, ?_⟩
      conv => whnf
      have e1 := shr_byte (v := a) (i := 6) (by decide)
      have e2 := shr_byte (v := m) (i := 6) (by decide)
      exact ⟨6 + 1, by decide, by decide, ⟨rfl, rfl, rfl, rfl, trivial⟩, ⟨rfl, rfl, by rw [e1, e2]; rfl, trivial⟩⟩
    · refine CodeL.any tabOk Try.checked.mixed [(0, .cells [.bool t, .int .u64 (m : Int), .int .u64 (a : Int)])] (.take 0 (.take 1 (.take 2 (.take 3 (.take 4 (.take 5 (.take 6 (.take 7 (.take 8 (.take 9 (.take 10 (.take 11 (.take 12 (.take 13 (.take 14 (.take 15 (.alt 16 (.take 17 (.alt 18 (.fin) .stop)) .stop))))))))))))))))) (by kernel_rfl) rfl ⟨rfl, trivial⟩ rfl ?_
      conv => whnf
      refine ⟨by decide, ?_⟩
      conv => whnf
      refine ⟨by decide, ?_⟩
      conv => whnf
      refine .here 7 rfl (by decide) ?_
      conv => whnf
      refine ⟨⟨rfl, trivial⟩, ?_⟩
      conv => whnf
      refine .here (7 + 8) rfl (by decide) ?_
      conv => whnf
      refine ⟨⟨rfl, trivial⟩, ?_⟩
      conv => whnf
      have e1 := shr_byte (v := a) (i := 7) (by decide)
      have e2 := shr_byte (v := m) (i := 7) (by decide)
      exact ⟨7 + 1, by decide, by decide, ⟨rfl, rfl, rfl, rfl, trivial⟩, ⟨rfl, rfl, by rw [e1, e2]; rfl, trivial⟩⟩
  · have h : k = 8 := by have := of_decide_eq_false h; omega
    subst h
    conv => whnf
    intro ρ
    rfl
theorem of_ok (f : Nat → Nat) (t : Bool) (hf : okB f) : Pure Try.prog 19 [.agg (b16 f), .bool t] (.agg [.bool t, .int .u64 (rdN f 8 8 : Nat), .int .u64 (rdN f 0 8 : Nat)]) := by
  refine Spec.of_body tabOk Try.func19 rfl (ent Try.func19 rfl (by kernel_rfl)) Try.ntmps19 rfl (by kernel_rfl) (Nat.le_of_ble_eq_true rfl) ?_
  conv => whnf
  refine CodeL.any tabOk Try.checked.mixed [(0, .cells (b16 f))] (.take 0 (.take 1 (.take 3 (.alt 2 (.alt 4 (.take 5 (.alt 6 (.fin) .stop)) .stop) .stop)))) (by kernel_rfl) rfl ⟨rfl, trivial⟩ rfl ?_
  conv => whnf
  refine VL.slice tabOk ?_
  conv => whnf
  refine ⟨8, 16, 16, rfl, rfl, rfl, rfl, by decide, by decide, by decide, ?_⟩
  conv => whnf
  refine VL.slice tabOk ?_
  conv => whnf
  refine ⟨0, 8, 16, rfl, rfl, rfl, rfl, by decide, by decide, by decide, ?_⟩
  conv => whnf
  refine Spec.of_body tabOk Try.func23 rfl (ent Try.func23 rfl (by kernel_rfl)) Try.ntmps23 rfl (by kernel_rfl) (Nat.le_of_ble_eq_true rfl) ?_
  conv => whnf
  refine CodeL.loop tabOk (fun k : Nat => ([(3, .int .u64 (rdN f 8 k : Nat)), (6, .slice 0 8 8 8), (7, .int .i64 8), (8, .int .i64 (k : Int))], [(0, .cells (b16 f)), (1, .cells [.ff, .int .u64 0, .int .u64 0])])) (fun k => 8 - k) (fun k => k ≤ 8) rfl (fun k => ⟨rfl, rfl⟩) 0 (Nat.zero_le _) ⟨⟨rfl, rfl, rfl, rfl, trivial⟩, ⟨rfl, rfl, trivial⟩⟩ ?_
  intro k hk
  conv => whnf
  refine ⟨fun h => ?_, fun h => ?_⟩
  · have h : k < 8 := by have := of_decide_eq_true h; omega
    conv => whnf
    rcases eight h with rfl | rfl | rfl | rfl | rfl | rfl | rfl | rfl
    · conv => whnf
      refine .here 0 rfl (by decide) ?_
      conv => whnf
      have e1 := or_byte (i := 0) (rdN_lt hf 8 0) (hf (8 + 0)) (by decide)
      refine ⟨by decide, ?_⟩
      conv => whnf
      exact ⟨0 + 1, by decide, by decide, ⟨congrArg (fun x => some (SV.int .u64 x)) e1, rfl, rfl, rfl, trivial⟩, ⟨rfl, rfl, trivial⟩⟩
    · conv => whnf
      refine .here 1 rfl (by decide) ?_
      conv => whnf
      have e1 := or_byte (i := 1) (rdN_lt hf 8 1) (hf (8 + 1)) (by decide)
      refine ⟨by decide, ?_⟩
      conv => whnf
      exact ⟨1 + 1, by decide, by decide, ⟨congrArg (fun x => some (SV.int .u64 x)) e1, rfl, rfl, rfl, trivial⟩, ⟨rfl, rfl, trivial⟩⟩
    · conv => whnf
      refine .here 2 rfl (by decide) ?_
      conv => whnf
      have e1 := or_byte (i := 2) (rdN_lt hf 8 2) (hf (8 + 2)) (by decide)
      refine ⟨by decide, ?_⟩
      conv => whnf
      exact ⟨2 + 1, by decide, by decide, ⟨congrArg (fun x => some (SV.int .u64 x)) e1, rfl, rfl, rfl, trivial⟩, ⟨rfl, rfl, trivial⟩⟩
    · conv => whnf
      refine .here 3 rfl (by decide) ?_
      conv => whnf
      have e1 := or_byte (i := 3) (rdN_lt hf 8 3) (hf (8 + 3)) (by decide)
      refine ⟨by decide, ?_⟩
      conv => whnf
      exact ⟨3 + 1, by decide, by decide, ⟨congrArg (fun x => some (SV.int .u64 x)) e1, rfl, rfl, rfl, trivial⟩, ⟨rfl, rfl, trivial⟩⟩
    · conv => whnf
      refine .here 4 rfl (by decide) ?_
      conv => whnf
      have e1 := or_byte (i := 4) (rdN_lt hf 8 4) (hf (8 + 4)) (by decide)
      refine ⟨by decide, ?_⟩
      conv => whnf
      exact ⟨4 + 1, by decide, by decide, ⟨congrArg (fun x => some (SV.int .u64 x)) e1, rfl, rfl, rfl, trivial⟩, ⟨rfl, rfl, trivial⟩⟩
    · conv => whnf
      refine .here 5 rfl (by decide) ?_
      conv => whnf
      have e1 := or_byte (i := 5) (rdN_lt hf 8 5) (hf (8 + 5)) (by decide)
      refine ⟨by decide, ?_⟩
      conv => whnf
      exact ⟨5 + 1, by decide, by decide, ⟨congrArg (fun x => some (SV.int .u64 x)) e1, rfl, rfl, rfl, trivial⟩, ⟨rfl, rfl, trivial⟩⟩
    · conv => whnf
      refine .here 6 rfl (by decide) ?_
      conv => whnf
      have e1 := or_byte (i := 6) (rdN_lt hf 8 6) (hf (8 + 6)) (by decide)
      refine ⟨by decide, ?_⟩
      conv => whnf
      exact ⟨6 + 1, by decide, by decide, ⟨congrArg (fun x => some (SV.int .u64 x)) e1, rfl, rfl, rfl, trivial⟩, ⟨rfl, rfl, trivial⟩⟩
    · conv => whnf
      refine .here 7 rfl (by decide) ?_
      conv => whnf
      have e1 := or_byte (i := 7) (rdN_lt hf 8 7) (hf (8 + 7)) (by decide)
      refine ⟨by decide, ?_⟩
      conv => whnf
      exact ⟨7 + 1, by decide, by decide, ⟨congrArg (fun x => some (SV.int .u64 x)) e1, rfl, rfl, rfl, trivial⟩, ⟨rfl, rfl, trivial⟩⟩
  have h : k = 8 := by have := of_decide_eq_false h; omega
  subst h
  clear hk
  conv => whnf
  refine ⟨⟨rfl, trivial⟩, ?_⟩
  conv => whnf
  refine Spec.of_body tabOk Try.func23 rfl (ent Try.func23 rfl (by kernel_rfl)) Try.ntmps23 rfl (by kernel_rfl) (Nat.le_of_ble_eq_true rfl) ?_
  conv => whnf
  refine CodeL.loop tabOk (fun k : Nat => ([(3, .int .u64 (rdN f 0 k : Nat)), (6, .slice 0 0 8 16), (7, .int .i64 8), (8, .int .i64 (k : Int))], [(0, .cells (b16 f)), (1, .cells [.ff, .int .u64 0, .int .u64 0])])) (fun k => 8 - k) (fun k => k ≤ 8) rfl (fun k => ⟨rfl, rfl⟩) 0 (Nat.zero_le _) ⟨⟨rfl, rfl, rfl, rfl, trivial⟩, ⟨rfl, rfl, trivial⟩⟩ ?_
  intro k hk
  conv => whnf
  refine ⟨fun h => ?_, fun h => ?_⟩
  · have h : k < 8 := by have := of_decide_eq_true h; omega
    conv => whnf
    rcases eight h with rfl | rfl | rfl | rfl | rfl | rfl | rfl | rfl
    · conv => whnf
      refine .here 0 rfl (by decide) ?_
      conv => whnf
      have e1 := or_byte (i := 0) (rdN_lt hf 0 0) (hf (0 + 0)) (by decide)
      refine ⟨by decide, ?_⟩
      conv => whnf
      exact ⟨0 + 1, by decide, by decide, ⟨congrArg (fun x => some (SV.int .u64 x)) e1, rfl, rfl, rfl, trivial⟩, ⟨rfl, rfl, trivial⟩⟩
    · conv => whnf
      refine .here 1 rfl (by decide) ?_
      conv => whnf
      have e1 := or_byte (i := 1) (rdN_lt hf 0 1) (hf (0 + 1)) (by decide)
      refine ⟨by decide, ?_⟩
      conv => whnf
      exact ⟨1 + 1, by decide, by decide, ⟨congrArg (fun x => some (SV.int .u64 x)) e1, rfl, rfl, rfl, trivial⟩, ⟨rfl, rfl, trivial⟩⟩
    · conv => whnf
      refine .here 2 rfl (by decide) ?_
      conv => whnf
      have e1 := or_byte (i := 2) (rdN_lt hf 0 2) (hf (0 + 2)) (by decide)
      refine ⟨by decide, ?_⟩
      conv => whnf
      exact ⟨2 + 1, by decide, by decide, ⟨congrArg (fun x => some (SV.int .u64 x)) e1, rfl, rfl, rfl, trivial⟩, ⟨rfl, rfl, trivial⟩⟩
    · conv => whnf
      refine .here 3 rfl (by decide) ?_
      conv => whnf
      have e1 := or_byte (i := 3) (rdN_lt hf 0 3) (hf (0 + 3)) (by decide)
      refine ⟨by decide, ?_⟩
      conv => whnf
      exact ⟨3 + 1, by decide, by decide, ⟨congrArg (fun x => some (SV.int .u64 x)) e1, rfl, rfl, rfl, trivial⟩, ⟨rfl, rfl, trivial⟩⟩
    · conv => whnf
      refine .here 4 rfl (by decide) ?_
      conv => whnf
      have e1 := or_byte (i := 4) (rdN_lt hf 0 4) (hf (0 + 4)) (by decide)
      refine ⟨by decide, ?_⟩
      conv => whnf
      exact ⟨4 + 1, by decide, by decide, ⟨congrArg (fun x => some (SV.int .u64 x)) e1, rfl, rfl, rfl, trivial⟩, ⟨rfl, rfl, trivial⟩⟩
    · conv => whnf
      refine .here 5 rfl (by decide) ?_
      conv => whnf
      have e1 := or_byte (i := 5) (rdN_lt hf 0 5) (hf (0 + 5)) (by decide)
      refine ⟨by decide, ?_⟩
      conv => whnf
      exact ⟨5 + 1, by decide, by decide, ⟨congrArg (fun x => some (SV.int .u64 x)) e1, rfl, rfl, rfl, trivial⟩, ⟨rfl, rfl, trivial⟩⟩
    · conv => whnf
      refine .here 6 rfl (by decide) ?_
      conv => whnf
      have e1 := or_byte (i := 6) (rdN_lt hf 0 6) (hf (0 + 6)) (by decide)
      refine ⟨by decide, ?_⟩
      conv => whnf
      exact ⟨6 + 1, by decide, by decide, ⟨congrArg (fun x => some (SV.int .u64 x)) e1, rfl, rfl, rfl, trivial⟩, ⟨rfl, rfl, trivial⟩⟩
    · conv => whnf
      refine .here 7 rfl (by decide) ?_
      conv => whnf
      have e1 := or_byte (i := 7) (rdN_lt hf 0 7) (hf (0 + 7)) (by decide)
      refine ⟨by decide, ?_⟩
      conv => whnf
      exact ⟨7 + 1, by decide, by decide, ⟨congrArg (fun x => some (SV.int .u64 x)) e1, rfl, rfl, rfl, trivial⟩, ⟨rfl, rfl, trivial⟩⟩
  have h : k = 8 := by have := of_decide_eq_false h; omega
  subst h
  clear hk
  conv => whnf
  refine ⟨⟨rfl, trivial⟩, ?_⟩
  conv => whnf
  refine ⟨⟨rfl, trivial⟩, ?_⟩
  conv => whnf
  intro ρ
  rfl
end Go.Sh.YtimlenccbchidaaRRR
