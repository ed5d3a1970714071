import Derived.Test.YthpalblfkpmpeaaRfB
set_option linter.unusedVariables false
namespace Go.Sh.Ythpalblfkpmpeaa
open Go.Proofs Go.Sh

theorem add_byte {acc x i : Nat} (ha : acc < 2 ^ (8 * i)) (hx : x < 256) (hi : i < 8) : IntKind.wrap .u64 ((acc : Int) + shlI .u64 (IntKind.wrap .u64 (x : Int)) ((8 * i : Nat) : Int)) = ((acc + x * 2 ^ (8 * i) : Nat) : Int) := by
  have h1 : x * 2 ^ (8 * i) + 2 ^ (8 * i) ≤ 2 ^ 64 := by
    have h3 : (x + 1) * 2 ^ (8 * i) ≤ 256 * 2 ^ (8 * i) := Nat.mul_le_mul_right _ (by omega)
    have h4 : 256 * 2 ^ (8 * i) ≤ 2 ^ 64 := by
      rw [show (256 : Nat) = 2 ^ 8 from rfl, ← Nat.pow_add]; exact Nat.pow_le_pow_right (by decide) (by omega)
    rw [Nat.add_mul, Nat.one_mul] at h3
    omega
  have h0 : 0 < 2 ^ (8 * i) := Nat.pow_pos (by decide)
  rw [wrapn x (by omega), shl_nat x (8 * i) (by omega) (by omega), wrap_add _ _ (by omega)]
theorem refbyte_ok (N : Nat) (l : List (Nat × Nat)) (b1 b2 : Bool) (c1 c2 : Nat) (a : Nat) (hl : l.length ≤ 100000) (h1 : okS l.length (b1, c1)) (h2 : okS l.length (b2, c2)) : Spec Try.prog 56 [.agg [.int .i64 (N : Int), .slz b1 0 0 l.length c1, .slz b2 1 0 l.length c2, .nilSlice], .int .u64 (a : Int)] [(0, .view (atV l)), (1, .view (byV l))] 2 fun v _ _ => ∀ ρ, v.val ρ = (SV.int .u8 (bL l a : Nat)).val ρ := by
  refine Spec.of_body tabOk Try.func56 rfl (ent Try.func56 rfl (by kernel_rfl)) Try.ntmps56 rfl (by kernel_rfl) (Nat.le_of_ble_eq_true rfl) ?_
  conv => whnf
  refine CodeL.loop tabOk (fun i : Nat => ([(1, .int .u64 (a : Int)), (2, .ptr 2 0), (5, .int .i64 ((i : Int) - 1))], [(0, .view (atV l)), (1, .view (byV l)), (2, .cells [.int .i64 (N : Int), .slz b1 0 0 l.length c1, .slz b2 1 0 l.length c2, .nilSlice])])) (fun i => i) (fun i => i ≤ l.length ∧ bL (l.take i) a = bL l a) rfl (fun i => ⟨rfl, rfl⟩) l.length ⟨Nat.le_refl _, by rw [List.take_length]⟩ ⟨⟨rfl, rfl, congrArg (fun x => some (SV.int .i64 x)) (wrap_i64 _ (by omega) (by omega)), trivial⟩, ⟨rfl, rfl, rfl, trivial⟩⟩ ?_
  rintro i ⟨hi, hb⟩
  conv => whnf
  refine ⟨fun h => ?_, fun h => ?_⟩
  · have h : 0 < i := by have := of_decide_eq_true h; omega
    obtain ⟨j, rfl⟩ : ∃ j, i = j + 1 := ⟨i - 1, by omega⟩
    obtain ⟨p, hp⟩ : ∃ p, l[j]? = some p := ⟨_, List.getElem?_eq_getElem (by omega)⟩
    rw [bL_take hp] at hb
    conv => whnf
    refine .there j (by omega) (by omega) ?_
    conv => whnf
    refine .at1 (.int .u64 (p.1 : Nat)) j (by show 0 + j * 1 = _; omega) (atV_get hp) rfl ?_
    conv => whnf
    refine ⟨fun g => ?_, fun g => ?_⟩
    · have g : p.1 = a := by have := of_decide_eq_true g; omega
      rw [if_pos g] at hb
      conv => whnf
      refine .there j (by omega) (by omega) ?_
      conv => whnf
      refine .at1 (.int .u8 (p.2 : Nat)) j (by show 0 + j * 1 = _; omega) (byV_get hp) rfl ?_
      conv => whnf
      intro ρ
      rw [← hb]; rfl
    · have g : p.1 ≠ a := by have := of_decide_eq_false g; omega
      rw [if_neg g] at hb
      conv => whnf
      exact ⟨j, ⟨by omega, hb⟩, by omega, ⟨rfl, rfl, congrArg (fun x => some (SV.int .i64 x)) (by rw [wrap_i64 _ (by omega) (by omega)]; omega), trivial⟩, ⟨rfl, rfl, rfl, trivial⟩⟩
  · have h : i = 0 := by have := of_decide_eq_false h; omega
    subst h
    conv => whnf
    intro ρ
    rw [← hb]; rfl
theorem refload_ok (N : Nat) (l : List (Nat × Nat)) (b1 b2 : Bool) (c1 c2 : Nat) (a : Nat) (hN : N ≤ 64) (hl : l.length ≤ 100000) (hok : okL l) (h1 : okS l.length (b1, c1)) (h2 : okS l.length (b2, c2)) (ha : a < N * 4096) (hd : a % 8 = 0) :
    Spec Try.prog 34 [.agg [.int .i64 (N : Int), .slz b1 0 0 l.length c1, .slz b2 1 0 l.length c2, .nilSlice], .int .u64 (a : Int), .int .i64 8] [(0, .view (atV l)), (1, .view (byV l))] 2 fun v _ _ => ∀ ρ, v.val ρ = (SV.tup [.int .u64 (rdN (bL l) a 8 : Nat), .int .i64 0]).val ρ := by
  refine Spec.of_body tabOk Try.func34 rfl (ent Try.func34 rfl (by kernel_rfl)) Try.ntmps34 rfl (by kernel_rfl) (Nat.le_of_ble_eq_true rfl) ?_
  conv => whnf
  refine Spec.of_body tabOk Try.func51 rfl (ent Try.func51 rfl (by kernel_rfl)) Try.ntmps51 rfl (by kernel_rfl) (Nat.le_of_ble_eq_true rfl) ?_
  conv => whnf
  refine .f rfl ?_
  conv => whnf
  refine .f rfl ?_
  conv => whnf
  refine .f rfl ?_
  conv => whnf
  refine .t rfl ?_
  conv => whnf
  refine ⟨by decide, ?_⟩
  conv => whnf
  refine .t (by rw [show IntKind.wrap .u64 8 = ((8 : Nat) : Int) from rfl, rem_nat, hd]; rfl) ?_
  conv => whnf
  refine Spec.of_body tabOk Try.func60 rfl (ent Try.func60 rfl (by kernel_rfl)) Try.ntmps60 rfl (by kernel_rfl) (Nat.le_of_ble_eq_true rfl) ?_
  conv => whnf
  have hsz : IntKind.wrap .u64 (IntKind.wrap .u64 (N : Int) * 4096) = ((N * 4096 : Nat) : Int) := by
    rw [wrapn N (by omega), show (N : Int) * 4096 = ((N * 4096 : Nat) : Int) by omega, wrapn _ (by omega)]
  refine .f (by rw [hsz, decide_eq_true (show (a : Int) < ((N * 4096 : Nat) : Int) by omega)]; rfl) ?_
  conv => whnf
  refine CodeL.loop tabOk (fun i : Nat => ([(1, .int .u64 (a : Int)), (2, .int .i64 8), (3, .ptr 2 0), (8, .int .u64 (rdN (bL l) a i : Nat)), (9, .int .i64 (i : Int))], [(0, .view (atV l)), (1, .view (byV l)), (2, .cells [.int .i64 (N : Int), .slz b1 0 0 l.length c1, .slz b2 1 0 l.length c2, .nilSlice])])) (fun i => 8 - i) (fun i => i ≤ 8) rfl (fun i => ⟨rfl, rfl⟩) 0 (Nat.zero_le _) ⟨⟨rfl, rfl, rfl, rfl, rfl, trivial⟩, ⟨rfl, rfl, rfl, trivial⟩⟩ ?_
  intro i hi
  have hb := bL_ok hok
  conv => whnf
  refine ⟨fun h => ?_, fun h => ?_⟩
  · have h : i < 8 := by have := of_decide_eq_true h; omega
    have e0 : IntKind.wrap .u64 (IntKind.wrap .i64 (8 * (i : Int))) = ((8 * i : Nat) : Int) := by
      rw [wrap_i64 _ (by omega) (by omega), show (8 * (i : Int)) = ((8 * i : Nat) : Int) by omega, wrapn _ (by omega)]
    have e2 : IntKind.wrap .u64 ((a : Int) + IntKind.wrap .u64 (i : Int)) = ((a + i : Nat) : Int) := by rw [wrapn i (by omega), wrap_add _ _ (by omega)]
    have hx := hb (a + i)
    have e3 := add_byte (acc := rdN (bL l) a i) (x := bL l (a + i)) (i := i) (rdN_lt hb a i) hx h
    conv => whnf
    refine Spec.fn (Fun.read (refbyte_ok N l b1 b2 c1 c2 (a + i) hl h1 h2) rfl) [0, 1] rfl rfl (fun _ => by rw [← e2]; rfl) rfl ⟨⟨by decide, rfl, rfl, _, rfl, fun _ => rfl, Nat.le_refl _, fun _ => Nat.le_refl _, id⟩, ⟨by decide, rfl, rfl, _, rfl, fun _ => rfl, Nat.le_refl _, fun _ => Nat.le_refl _, id⟩, trivial⟩ (fun _ _ => ⟨rfl, rfl, rfl, rfl, trivial⟩) (fun _ _ => ?_)
    conv => whnf
    refine ⟨by rw [e0]; omega, ?_⟩
    conv => whnf
    exact ⟨i + 1, by omega, by omega, ⟨rfl, rfl, rfl, congrArg (fun x => some (SV.int .u64 x)) (by rw [e0]; exact e3), congrArg (fun x => some (SV.int .i64 x)) (by rw [wrap_i64 _ (by omega) (by omega)]; omega), trivial⟩, ⟨rfl, rfl, rfl, trivial⟩⟩
  · have h : i = 8 := by have := of_decide_eq_false h; omega
    subst h
    conv => whnf
    intro ρ
    rfl
end Go.Sh.Ythpalblfkpmpeaa
