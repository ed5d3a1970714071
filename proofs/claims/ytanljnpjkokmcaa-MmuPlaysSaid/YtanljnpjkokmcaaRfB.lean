import Derived.Test.YtanljnpjkokmcaaRfA
import Derived.Test.YtanljnpjkokmcaaSh31
set_option linter.unusedVariables false
namespace Go.Sh.Ytanljnpjkokmcaa
open Go.Proofs Go.Sh

def stI (N : Nat) (l : List (Nat × Nat)) (b1 b2 : Bool) (c1 c2 : Nat) (a v : Nat) : Nat × Option ((Bool × Nat) × (Bool × Nat)) → Fr × Hp
  | (i, none) => ([(1, .int .u64 (a : Int)), (2, .int .i64 8), (3, .int .u64 (v : Int)), (4, .ptr 2 0), (8, .ptr 3 0), (10, .int .i64 0)], [(2, .cells [.int .i64 (N : Int), .slz b1 0 0 l.length c1, .slz b2 1 0 l.length c2, .nilSlice]), (3, .cells [.int .i64 0, .nilSlice, .nilSlice, .nilSlice]), (0, .view (atV l)), (1, .view (byV l))])
  | (i, some (y1, y2)) => ([(1, .int .u64 (a : Int)), (2, .int .i64 8), (3, .int .u64 (v : Int)), (4, .ptr 2 0), (8, .ptr 3 0), (10, .int .i64 (i : Int))], [(2, .cells [.int .i64 (N : Int), .slz y1.1 6 0 (l ++ stL a v i).length y1.2, .slz y2.1 7 0 (l ++ stL a v i).length y2.2, .nilSlice]), (3, .cells [.int .i64 0, .nilSlice, .nilSlice, .nilSlice]), (6, .row (atV (l ++ stL a v i))), (7, .row (byV (l ++ stL a v i)))])
def stC (l : List (Nat × Nat)) (a v : Nat) : Nat × Option ((Bool × Nat) × (Bool × Nat)) → Prop
  | (i, none) => i = 0
  | (i, some (y1, y2)) => (1 ≤ i ∧ i ≤ 8) ∧ okS (l ++ stL a v i).length y1 ∧ okS (l ++ stL a v i).length y2
theorem refstore_ok (N : Nat) (l : List (Nat × Nat)) (b1 b2 : Bool) (c1 c2 : Nat) (a v : Nat) (hN : N ≤ 64) (hl : l.length ≤ 50000) (h1 : okS l.length (b1, c1)) (h2 : okS l.length (b2, c2)) (ha : a < N * 4096) (hd : a % 8 = 0) (hv : v < 2 ^ 64) :
    Fun Try.prog 17 [.agg [.int .i64 (N : Int), .slz b1 0 0 l.length c1, .slz b2 1 0 l.length c2, .nilSlice], .int .u64 (a : Int), .int .i64 8, .int .u64 (v : Int)] [(0, .view (atV l)), (1, .view (byV l))] 2 2
    (fun y : (Bool × Nat) × (Bool × Nat) => okS (l.length + 8) y.1 ∧ okS (l.length + 8) y.2) (fun y => .tup [.agg [.int .i64 (N : Int), .slz y.1.1 2 0 (l.length + 8) y.1.2, .slz y.2.1 3 0 (l.length + 8) y.2.2, .nilSlice], .int .i64 0]) (fun y => [(2, .row (atV (l ++ stL a v 8))), (3, .row (byV (l ++ stL a v 8)))]) := by
  unfold Fun
  refine Spec.of_body tabOk Try.func17 rfl (ent Try.func17 rfl (by kernel_rfl)) Try.ntmps17 rfl (by kernel_rfl) (Nat.le_of_ble_eq_true rfl) ?_
  conv => whnf
  refine Spec.of_body tabOk Try.func57 rfl (ent Try.func57 rfl (by kernel_rfl)) Try.ntmps57 rfl (by kernel_rfl) (Nat.le_of_ble_eq_true rfl) ?_
  conv => whnf
  refine .f rfl ?_
  conv => whnf
  refine .f rfl ?_
  conv => whnf
  refine .f rfl ?_
  conv => whnf
  refine .t rfl ?_
  conv => whnf
  refine ⟨by decide, ?_⟩
  conv => whnf
  refine .t (by rw [show IntKind.wrap .u64 8 = ((8 : Nat) : Int) from rfl, rem_nat, hd]; rfl) ?_
  conv => whnf
  refine Spec.of_body tabOk Try.func81 rfl (ent Try.func81 rfl (by kernel_rfl)) Try.ntmps81 rfl (by kernel_rfl) (Nat.le_of_ble_eq_true rfl) ?_
  conv => whnf
  have hsz : IntKind.wrap .u64 (IntKind.wrap .u64 (N : Int) * 4096) = ((N * 4096 : Nat) : Int) := by
    rw [wrapn N (by omega), show (N : Int) * 4096 = ((N * 4096 : Nat) : Int) by omega, wrapn _ (by omega)]
  refine .f (by rw [hsz, decide_eq_true (show (a : Int) < ((N * 4096 : Nat) : Int) by omega)]; rfl) ?_
  conv => whnf
  refine CodeL.loopN tabOk 8 (by decide) (stI N l b1 b2 c1 c2 a v) (fun x => 8 - x.1)
    (stC l a v) rfl (fun x => by obtain ⟨_, _ | _⟩ := x <;> rfl) (0, none) rfl (fun k => (k, 0)) (fun _ _ => rfl) ⟨⟨⟨_, rfl, fun _ => rfl⟩, ⟨_, rfl, fun _ => rfl⟩, ⟨_, rfl, fun _ => rfl⟩, ⟨_, rfl, fun _ => rfl⟩, ⟨_, rfl, fun _ => rfl⟩, ⟨_, rfl, fun _ => rfl⟩, trivial⟩,
      Part.keys ⟨⟨by decide, rfl, rfl, _, rfl, fun _ => rfl, Nat.le_refl _, fun _ => Nat.le_refl _, id⟩, ⟨by decide, rfl, rfl, _, rfl, fun _ => rfl, Nat.le_refl _, fun _ => Nat.le_refl _, id⟩, ⟨by decide, rfl, rfl, _, rfl, fun _ => rfl, Nat.le_refl _, fun _ => Nat.le_refl _, id⟩, ⟨by decide, rfl, rfl, _, rfl, fun _ => rfl, Nat.le_refl _, fun _ => Nat.le_refl _, id⟩, trivial⟩ rfl⟩ ?_
  rintro ⟨i, _ | ⟨⟨b3, c3⟩, ⟨b4, c4⟩⟩⟩ hC
  · have h : i = 0 := hC
    subst h
    dsimp only [stI]
    conv => whnf
    refine .t rfl ?_
    have e0 : IntKind.wrap .u64 (IntKind.wrap .i64 (8 * ((0 : Nat) : Int))) = IntKind.wrap .i64 (8 * ((0 : Nat) : Int)) := by
      rw [wrap_i64 _ (by omega) (by omega), show (8 * ((0 : Nat) : Int)) = ((8 * 0 : Nat) : Int) by omega, wrapn _ (by omega)]
    have e1 : IntKind.wrap .u8 (shrI .u64 (v : Int) (IntKind.wrap .u64 (IntKind.wrap .i64 (8 * ((0 : Nat) : Int))))) = ((v / 2 ^ (8 * 0) % 256 : Nat) : Int) := by rw [e0]; exact shr_byte (by omega)
    have e2 : IntKind.wrap .u64 ((a : Int) + IntKind.wrap .u64 ((0 : Nat) : Int)) = ((a + 0 : Nat) : Int) := by rw [wrapn 0 (by omega), wrap_add _ _ (by omega)]
    conv => whnf
    refine ⟨by first | decide | (rw [e0, wrap_i64 _ (by omega) (by omega)]; omega), ?_⟩
    conv => whnf
    refine Spec.fn (lay_ok N (l) b1 b2 c1 c2 (a + 0) (v / 2 ^ (8 * 0) % 256) (by omega) h1 h2 (by omega)) [0, 1] rfl rfl (fun _ => by rw [← e1, ← e2]; rfl) rfl ⟨⟨by decide, rfl, rfl, _, rfl, fun _ => rfl, Nat.le_refl _, fun _ => Nat.le_refl _, fun h => (by cases h)⟩, ⟨by decide, rfl, rfl, _, rfl, fun _ => rfl, Nat.le_refl _, fun _ => Nat.le_refl _, fun h => (by cases h)⟩, trivial⟩ (fun _ _ => ⟨rfl, rfl, rfl, rfl, trivial⟩) (fun y hy => ?_)
    have hl0 : l ++ stL a v 0 = l := by simp [stL]
    have hs1 : l ++ stL a v (0 + 1) = l ++ [(a + 0, v / 2 ^ (8 * 0) % 256)] := by rw [stL_succ, ← List.append_assoc, hl0]
    have hl1 : (l ++ stL a v (0 + 1)).length = (l).length + 1 := by rw [hs1, List.length_append]; rfl
    obtain ⟨⟨b5, c5⟩, b6, c6⟩ := y
    conv => whnf
    exact ⟨(0 + 1, some ((b5, c5), (b6, c6))), toL [(6, 8), (7, 9)], ⟨⟨by omega, by omega⟩, by rw [hl1]; exact hy.1, by rw [hl1]; exact hy.2⟩, by show 8 - (0 + 1) < 8 - 0; omega, toL_low rfl, ⟨⟨_, rfl, fun _ => rfl⟩, ⟨_, rfl, fun _ => rfl⟩, ⟨_, rfl, fun _ => rfl⟩, ⟨_, rfl, fun _ => rfl⟩, ⟨_, rfl, fun _ => rfl⟩, ⟨_, rfl, fun _ => congrArg (Value.int .i64) (by first | rfl | (rw [wrap_i64 _ (by omega) (by omega)]; omega))⟩, trivial⟩,
      Part.keys ⟨⟨by decide, rfl, rfl, _, rfl, fun _ => by rw [hl1]; rfl, Nat.le_refl _, fun _ => Nat.le_refl _, id⟩, ⟨by decide, rfl, rfl, _, rfl, fun _ => rfl, Nat.le_refl _, fun _ => Nat.le_refl _, id⟩, ⟨by decide, rfl, rfl, _, rfl, fun _ => by rw [hs1]; rfl, by rw [hs1]; exact Nat.le_refl _, fun _ => Nat.le_refl _, id⟩, ⟨by decide, rfl, rfl, _, rfl, fun _ => by rw [hs1]; rfl, by rw [hs1]; exact Nat.le_refl _, fun _ => Nat.le_refl _, id⟩, trivial⟩ rfl⟩
  obtain ⟨hi, hc3, hc4⟩ : (1 ≤ i ∧ i ≤ 8) ∧ okS (l ++ stL a v i).length (b3, c3) ∧ okS (l ++ stL a v i).length (b4, c4) := hC
  have hli : (l ++ stL a v i).length = l.length + i := by rw [List.length_append, stL_len]
  dsimp only [stI]
  conv => whnf
  refine ⟨fun h => ?_, fun h => ?_⟩
  · have h : i < 8 := by have := of_decide_eq_true h; omega
    have e0 : IntKind.wrap .u64 (IntKind.wrap .i64 (8 * ((i : Nat) : Int))) = IntKind.wrap .i64 (8 * ((i : Nat) : Int)) := by
      rw [wrap_i64 _ (by omega) (by omega), show (8 * ((i : Nat) : Int)) = ((8 * i : Nat) : Int) by omega, wrapn _ (by omega)]
    have e1 : IntKind.wrap .u8 (shrI .u64 (v : Int) (IntKind.wrap .u64 (IntKind.wrap .i64 (8 * ((i : Nat) : Int))))) = ((v / 2 ^ (8 * i) % 256 : Nat) : Int) := by rw [e0]; exact shr_byte (by omega)
    have e2 : IntKind.wrap .u64 ((a : Int) + IntKind.wrap .u64 ((i : Nat) : Int)) = ((a + i : Nat) : Int) := by rw [wrapn i (by omega), wrap_add _ _ (by omega)]
    conv => whnf
    refine ⟨by first | decide | (rw [e0, wrap_i64 _ (by omega) (by omega)]; omega), ?_⟩
    conv => whnf
    refine Spec.fn (lay_ok N (l ++ stL a v i) b3 b4 c3 c4 (a + i) (v / 2 ^ (8 * i) % 256) (by omega) hc3 hc4 (by omega)) [6, 7] rfl rfl (fun _ => by rw [← e1, ← e2]; rfl) rfl ⟨⟨by decide, rfl, rfl, _, rfl, fun _ => rfl, Nat.le_refl _, fun _ => Nat.le_refl _, fun h => (by cases h)⟩, ⟨by decide, rfl, rfl, _, rfl, fun _ => rfl, Nat.le_refl _, fun _ => Nat.le_refl _, fun h => (by cases h)⟩, trivial⟩ (fun _ _ => ⟨rfl, rfl, rfl, rfl, trivial⟩) (fun y hy => ?_)
    have hl0 : l ++ stL a v i = l ++ stL a v i := rfl
    have hs1 : l ++ stL a v (i + 1) = l ++ stL a v i ++ [(a + i, v / 2 ^ (8 * i) % 256)] := by rw [stL_succ, ← List.append_assoc, hl0]
    have hl1 : (l ++ stL a v (i + 1)).length = (l ++ stL a v i).length + 1 := by rw [hs1, List.length_append]; rfl
    obtain ⟨⟨b5, c5⟩, b6, c6⟩ := y
    conv => whnf
    exact ⟨(i + 1, some ((b5, c5), (b6, c6))), toL [(6, 8), (7, 9)], ⟨⟨by omega, by omega⟩, by rw [hl1]; exact hy.1, by rw [hl1]; exact hy.2⟩, by show 8 - (i + 1) < 8 - i; omega, toL_low rfl, ⟨⟨_, rfl, fun _ => rfl⟩, ⟨_, rfl, fun _ => rfl⟩, ⟨_, rfl, fun _ => rfl⟩, ⟨_, rfl, fun _ => rfl⟩, ⟨_, rfl, fun _ => rfl⟩, ⟨_, rfl, fun _ => congrArg (Value.int .i64) (by first | rfl | (rw [wrap_i64 _ (by omega) (by omega)]; omega))⟩, trivial⟩,
      Part.keys ⟨⟨by decide, rfl, rfl, _, rfl, fun _ => by rw [hl1]; rfl, Nat.le_refl _, fun _ => Nat.le_refl _, id⟩, ⟨by decide, rfl, rfl, _, rfl, fun _ => rfl, Nat.le_refl _, fun _ => Nat.le_refl _, id⟩, ⟨by decide, rfl, rfl, _, rfl, fun _ => by rw [hs1]; rfl, by rw [hs1]; exact Nat.le_refl _, fun _ => Nat.le_refl _, id⟩, ⟨by decide, rfl, rfl, _, rfl, fun _ => by rw [hs1]; rfl, by rw [hs1]; exact Nat.le_refl _, fun _ => Nat.le_refl _, id⟩, trivial⟩ rfl⟩
  · have h : i = 8 := by have := of_decide_eq_false h; omega
    subst h
    rw [hli] at hc3 hc4
    conv => whnf
    exact ⟨((b3, c3), (b4, c4)), toL [(2, 6), (3, 7)], ⟨hc3, hc4⟩, toL_low rfl, Part.keys ⟨⟨by decide, rfl, rfl, _, rfl, fun _ => rfl, Nat.le_refl _, fun _ => Nat.le_refl _, id⟩, ⟨by decide, rfl, rfl, _, rfl, fun _ => rfl, Nat.le_refl _, fun _ => Nat.le_refl _, id⟩, trivial⟩ rfl, fun ρ => by rw [hli]; rfl⟩
end Go.Sh.Ytanljnpjkokmcaa
