import Derived.Test.YthpalblfkpmpeaaTab
import Derived.Test.YthpalblfkpmpeaaMB
set_option linter.unusedVariables false
namespace Go.Sh.Ythpalblfkpmpeaa
open Go.Proofs Go.Sh

theorem fmay_ok (at_ width : Nat) (h1 : width ≤ 64) (h2 : at_ ≤ 64 - width) : Pure Try.prog 59 [.int .i64 (at_ : Int), .int .i64 (width : Int)] .tt := by
  refine Spec.of_body tabOk Try.func59 rfl (ent Try.func59 rfl (by kernel_rfl)) Try.ntmps59 rfl (by kernel_rfl) (Nat.le_of_ble_eq_true rfl) ?_
  conv => whnf
  refine .t (decide_eq_true (by omega)) ?_
  conv => whnf
  refine .t (decide_eq_true (by omega)) ?_
  conv => whnf
  refine .t (decide_eq_true (by omega)) ?_
  conv => whnf
  intro ρ
  show Value.bool (decide ((at_ : Int) ≤ IntKind.wrap .i64 (64 - (width : Int)))) = Value.bool true
  rw [wrap_i64 _ (by omega) (by omega), decide_eq_true (by omega)]
theorem fmask_ok (width : Nat) (h1 : 1 ≤ width) (h2 : width < 64) : Pure Try.prog 48 [.int .i64 (width : Int)] (.int .u64 ((2 ^ width - 1 : Nat) : Int)) := by
  have hp : 2 ^ width < 2 ^ 64 := Nat.pow_lt_pow_right (by decide) h2
  have hp1 : 1 ≤ 2 ^ width := Nat.pow_pos (by decide)
  refine Spec.of_body tabOk Try.func48 rfl (ent Try.func48 rfl (by kernel_rfl)) Try.ntmps48 rfl (by kernel_rfl) (Nat.le_of_ble_eq_true rfl) ?_
  conv => whnf
  refine .f (decide_eq_false (by omega)) ?_
  conv => whnf
  refine .f (decide_eq_false (by omega)) ?_
  conv => whnf
  refine ⟨by omega, ?_⟩
  conv => whnf
  intro ρ
  show Value.int .u64 (IntKind.wrap .u64 (shlI .u64 1 (width : Int) - 1)) = Value.int .u64 ((2 ^ width - 1 : Nat) : Int)
  rw [shl_one width h2, show (((2 ^ width : Nat) : Int) - 1) = ((2 ^ width - 1 : Nat) : Int) by omega, wrapn _ (by omega)]
theorem fget_ok (x at_ width : Nat) (hx : x < 2 ^ 64) (h1 : 1 ≤ width) (h2 : width < 64) (h3 : at_ ≤ 64 - width) : Pure Try.prog 47 [.int .u64 (x : Int), .int .i64 (at_ : Int), .int .i64 (width : Int)] (.int .u64 ((x / 2 ^ at_ % 2 ^ width : Nat) : Int)) := by
  have hp : 2 ^ width < 2 ^ 64 := Nat.pow_lt_pow_right (by decide) h2
  refine Spec.of_body tabOk Try.func47 rfl (ent Try.func47 rfl (by kernel_rfl)) Try.ntmps47 rfl (by kernel_rfl) (Nat.le_of_ble_eq_true rfl) ?_
  conv => whnf
  refine Spec.pure (fmay_ok at_ width (by omega) h3) rfl rfl (fun _ => rfl) ?_
  conv => whnf
  refine CodeL.draw tabOk Try.checked.mixed 7 (by kernel_rfl) rfl ?_
  conv => whnf
  refine ⟨by omega, ?_⟩
  conv => whnf
  refine QCallL.pure (fmask_ok width h1 h2) rfl rfl (fun _ => rfl) ?_
  conv => whnf
  intro ρ
  show Value.int .u64 (band .and .u64 (shrI .u64 (x : Int) (at_ : Int)) ((2 ^ width - 1 : Nat) : Int)) = Value.int .u64 ((x / 2 ^ at_ % 2 ^ width : Nat) : Int)
  rw [shr_nat .u64 x at_ (by show at_ ≤ 64; omega), band_and _ _ (Nat.lt_of_le_of_lt (Nat.shiftRight_le _ _) hx) (by omega), Nat.and_two_pow_sub_one_eq_mod, Nat.shiftRight_eq_div_pow]
/-- Put of a field into 0. -/
theorem fput_ok (at_ width v : Nat) (hv : v < 2 ^ 64) (h1 : 1 ≤ width) (h2 : width < 64) (h3 : at_ ≤ 64 - width) : Pure Try.prog 44 [.int .u64 0, .int .i64 (at_ : Int), .int .i64 (width : Int), .int .u64 (v : Int)] (.int .u64 ((v % 2 ^ width * 2 ^ at_ : Nat) : Int)) := by
  have hp : 2 ^ width < 2 ^ 64 := Nat.pow_lt_pow_right (by decide) h2
  have hpos : 0 < 2 ^ width := Nat.pow_pos (by decide)
  have hb : v % 2 ^ width * 2 ^ at_ < 2 ^ 64 := by
    have a1 : v % 2 ^ width < 2 ^ width := Nat.mod_lt _ hpos
    have a2 : v % 2 ^ width * 2 ^ at_ < 2 ^ width * 2 ^ at_ := Nat.mul_lt_mul_of_pos_right a1 (Nat.pow_pos (by decide))
    rw [← Nat.pow_add] at a2
    exact Nat.lt_of_lt_of_le a2 (Nat.pow_le_pow_right (by decide) (by omega))
  have hm : (2 ^ width - 1) * 2 ^ at_ < 2 ^ 64 := by
    have a2 : (2 ^ width - 1) * 2 ^ at_ < 2 ^ width * 2 ^ at_ := Nat.mul_lt_mul_of_pos_right (by omega) (Nat.pow_pos (by decide))
    rw [← Nat.pow_add] at a2
    exact Nat.lt_of_lt_of_le a2 (Nat.pow_le_pow_right (by decide) (by omega))
  refine Spec.of_body tabOk Try.func44 rfl (ent Try.func44 rfl (by kernel_rfl)) Try.ntmps44 rfl (by kernel_rfl) (Nat.le_of_ble_eq_true rfl) ?_
  conv => whnf
  refine Spec.pure (fmay_ok at_ width (by omega) h3) rfl rfl (fun _ => rfl) ?_
  conv => whnf
  refine Spec.pure (fmask_ok width h1 h2) rfl rfl (fun _ => rfl) ?_
  conv => whnf
  refine CodeL.draw tabOk Try.checked.mixed 12 (by kernel_rfl) rfl ?_
  conv => whnf
  refine ⟨by omega, ?_⟩
  conv => whnf
  refine ⟨by omega, ?_⟩
  conv => whnf
  intro ρ
  show Value.int .u64 (band .or .u64 (band .andNot .u64 0 (shlI .u64 ((2 ^ width - 1 : Nat) : Int) (at_ : Int))) (shlI .u64 (band .and .u64 (v : Int) ((2 ^ width - 1 : Nat) : Int)) (at_ : Int))) = Value.int .u64 ((v % 2 ^ width * 2 ^ at_ : Nat) : Int)
  rw [band_and _ _ hv (by omega), Nat.and_two_pow_sub_one_eq_mod, shl_nat _ _ (by omega) hb, shl_nat _ _ (by omega) hm, show (0 : Int) = ((0 : Nat) : Int) from rfl, band_andNot _ _ (by decide) hm, band_or _ _ (by rw [Nat.zero_and]; decide) hb, Nat.zero_and, Nat.zero_or]

def plc : List Nat := [0, 1, 2, 3, 4, 5, 6, 7, 58, 59, 60, 61]
def wFr (e : Ent) (i : Nat) : Fr := [(3, .int .u64 (wA e i : Int)), (4, .ptr 2 0), (11, .agg [.int .i64 0, .int .i64 1, .int .i64 2, .int .i64 3, .int .i64 4, .int .i64 5, .int .i64 6, .int .i64 7, .int .i64 58, .int .i64 59, .int .i64 60, .int .i64 61]), (12, .int .i64 (i : Int))]
def wHp (e : Ent) : Hp := [(0, .cells (entC e)), (2, .cells [.ptr 0 0, .ptr 0 1, .ptr 0 2, .ptr 0 3, .ptr 0 4, .ptr 0 5, .ptr 0 6, .ptr 0 7, .ptr 0 8, .ptr 0 9, .ptr 0 10, .ptr 0 11])]
theorem word_ok (e : Ent) (he : okE e) : Pure Try.prog 13 [.agg (entC e)] (.int .u64 (entW e : Int)) := by
  have h0 := frN_lt e
  have h1 := bn_lt e.v; have h2 := bn_lt e.r; have h3 := bn_lt e.w; have h4 := bn_lt e.x; have h5 := bn_lt e.u; have h6 := bn_lt e.g; have h7 := bn_lt e.a; have h8 := bn_lt e.d; have h9 := bn_lt e.cw; have h10 := bn_lt e.cr; have h11 := bn_lt e.cd; have h12 := bn_lt e.gn
  have hput := fput_ok 10 44 e.fr.toNat (by have := he.2; omega) (by decide) (by decide) (by decide)
  have hf : (e.fr.toNat % 2 ^ 44 * 2 ^ 10 : Nat) = wA e 0 := by simp only [wA, frN, Nat.reducePow, if_false, Nat.add_zero, Nat.lt_irrefl, Nat.not_lt_zero]
  rw [hf] at hput
  refine Spec.of_body tabOk Try.func13 rfl (ent Try.func13 rfl (by kernel_rfl)) Try.ntmps13 rfl (by kernel_rfl) (Nat.le_of_ble_eq_true rfl) ?_
  conv => whnf
  refine Spec.pure hput rfl rfl (fun ρ => by rw [show ((e.fr.toNat : Nat) : Int) = e.fr from Int.toNat_of_nonneg he.1]; rfl) ?_
  conv => whnf
  refine Spec.of_body tabOk Try.func45 rfl (ent Try.func45 rfl (by kernel_rfl)) Try.ntmps45 rfl (by kernel_rfl) (Nat.le_of_ble_eq_true rfl) ?_
  conv => whnf
  refine CodeL.draw tabOk Try.checked.mixed 37 (by kernel_rfl) rfl ?_
  conv => whnf
  refine Spec.of_body tabOk Try.func46 rfl (ent Try.func46 rfl (by kernel_rfl)) Try.ntmps46 rfl (by kernel_rfl) (Nat.le_of_ble_eq_true rfl) ?_
  conv => whnf
  refine CodeL.loop tabOk (fun i : Nat => (wFr e i, wHp e)) (fun i => 12 - i) (fun i => i ≤ 12) rfl (fun i => ⟨rfl, rfl⟩) 0 (Nat.zero_le _) ⟨⟨rfl, rfl, rfl, rfl, trivial⟩, ⟨rfl, rfl, trivial⟩⟩ ?_
  intro i hi
  conv => whnf
  refine ⟨fun h => ?_, fun h => ?_⟩
  · have h : i < 12 := by have := of_decide_eq_true h; omega
    clear hput hf
    rcases twelve h with rfl | rfl | rfl | rfl | rfl | rfl | rfl | rfl | rfl | rfl | rfl | rfl
    · conv => whnf
      refine .here 0 rfl (by decide) ?_
      conv => whnf
      refine .here 0 rfl (by decide) ?_
      conv => whnf
      refine ⟨fun hb => ?_, fun hb => ?_⟩
      · conv => whnf
        refine ⟨by decide, ?_⟩
        conv => whnf
        exact ⟨(1 : Nat), by decide, by decide, ⟨congrArg (fun x => some (SV.int .u64 x)) (wA_t0 e hb), rfl, rfl, rfl, trivial⟩, ⟨rfl, rfl, trivial⟩⟩
      · conv => whnf
        exact ⟨(1 : Nat), by decide, by decide, ⟨congrArg (fun x : Nat => some (SV.int .u64 x)) (wA_f0 e hb), rfl, rfl, rfl, trivial⟩, ⟨rfl, rfl, trivial⟩⟩
    · conv => whnf
      refine .here 1 rfl (by decide) ?_
      conv => whnf
      refine .here 1 rfl (by decide) ?_
      conv => whnf
      refine ⟨fun hb => ?_, fun hb => ?_⟩
      · conv => whnf
        refine ⟨by decide, ?_⟩
        conv => whnf
        exact ⟨(2 : Nat), by decide, by decide, ⟨congrArg (fun x => some (SV.int .u64 x)) (wA_t1 e hb), rfl, rfl, rfl, trivial⟩, ⟨rfl, rfl, trivial⟩⟩
      · conv => whnf
        exact ⟨(2 : Nat), by decide, by decide, ⟨congrArg (fun x : Nat => some (SV.int .u64 x)) (wA_f1 e hb), rfl, rfl, rfl, trivial⟩, ⟨rfl, rfl, trivial⟩⟩
    · conv => whnf
      refine .here 2 rfl (by decide) ?_
      conv => whnf
      refine .here 2 rfl (by decide) ?_
      conv => whnf
      refine ⟨fun hb => ?_, fun hb => ?_⟩
      · conv => whnf
        refine ⟨by decide, ?_⟩
        conv => whnf
        exact ⟨(3 : Nat), by decide, by decide, ⟨congrArg (fun x => some (SV.int .u64 x)) (wA_t2 e hb), rfl, rfl, rfl, trivial⟩, ⟨rfl, rfl, trivial⟩⟩
      · conv => whnf
        exact ⟨(3 : Nat), by decide, by decide, ⟨congrArg (fun x : Nat => some (SV.int .u64 x)) (wA_f2 e hb), rfl, rfl, rfl, trivial⟩, ⟨rfl, rfl, trivial⟩⟩
    · conv => whnf
      refine .here 3 rfl (by decide) ?_
      conv => whnf
      refine .here 3 rfl (by decide) ?_
      conv => whnf
      refine ⟨fun hb => ?_, fun hb => ?_⟩
      · conv => whnf
        refine ⟨by decide, ?_⟩
        conv => whnf
        exact ⟨(4 : Nat), by decide, by decide, ⟨congrArg (fun x => some (SV.int .u64 x)) (wA_t3 e hb), rfl, rfl, rfl, trivial⟩, ⟨rfl, rfl, trivial⟩⟩
      · conv => whnf
        exact ⟨(4 : Nat), by decide, by decide, ⟨congrArg (fun x : Nat => some (SV.int .u64 x)) (wA_f3 e hb), rfl, rfl, rfl, trivial⟩, ⟨rfl, rfl, trivial⟩⟩
    · conv => whnf
      refine .here 4 rfl (by decide) ?_
      conv => whnf
      refine .here 4 rfl (by decide) ?_
      conv => whnf
      refine ⟨fun hb => ?_, fun hb => ?_⟩
      · conv => whnf
        refine ⟨by decide, ?_⟩
        conv => whnf
        exact ⟨(5 : Nat), by decide, by decide, ⟨congrArg (fun x => some (SV.int .u64 x)) (wA_t4 e hb), rfl, rfl, rfl, trivial⟩, ⟨rfl, rfl, trivial⟩⟩
      · conv => whnf
        exact ⟨(5 : Nat), by decide, by decide, ⟨congrArg (fun x : Nat => some (SV.int .u64 x)) (wA_f4 e hb), rfl, rfl, rfl, trivial⟩, ⟨rfl, rfl, trivial⟩⟩
    · conv => whnf
      refine .here 5 rfl (by decide) ?_
      conv => whnf
      refine .here 5 rfl (by decide) ?_
      conv => whnf
      refine ⟨fun hb => ?_, fun hb => ?_⟩
      · conv => whnf
        refine ⟨by decide, ?_⟩
        conv => whnf
        exact ⟨(6 : Nat), by decide, by decide, ⟨congrArg (fun x => some (SV.int .u64 x)) (wA_t5 e hb), rfl, rfl, rfl, trivial⟩, ⟨rfl, rfl, trivial⟩⟩
      · conv => whnf
        exact ⟨(6 : Nat), by decide, by decide, ⟨congrArg (fun x : Nat => some (SV.int .u64 x)) (wA_f5 e hb), rfl, rfl, rfl, trivial⟩, ⟨rfl, rfl, trivial⟩⟩
    · conv => whnf
      refine .here 6 rfl (by decide) ?_
      conv => whnf
      refine .here 6 rfl (by decide) ?_
      conv => whnf
      refine ⟨fun hb => ?_, fun hb => ?_⟩
      · conv => whnf
        refine ⟨by decide, ?_⟩
        conv => whnf
        exact ⟨(7 : Nat), by decide, by decide, ⟨congrArg (fun x => some (SV.int .u64 x)) (wA_t6 e hb), rfl, rfl, rfl, trivial⟩, ⟨rfl, rfl, trivial⟩⟩
      · conv => whnf
        exact ⟨(7 : Nat), by decide, by decide, ⟨congrArg (fun x : Nat => some (SV.int .u64 x)) (wA_f6 e hb), rfl, rfl, rfl, trivial⟩, ⟨rfl, rfl, trivial⟩⟩
    · conv => whnf
      refine .here 7 rfl (by decide) ?_
      conv => whnf
      refine .here 7 rfl (by decide) ?_
      conv => whnf
      refine ⟨fun hb => ?_, fun hb => ?_⟩
      · conv => whnf
        refine ⟨by decide, ?_⟩
        conv => whnf
        exact ⟨(8 : Nat), by decide, by decide, ⟨congrArg (fun x => some (SV.int .u64 x)) (wA_t7 e hb), rfl, rfl, rfl, trivial⟩, ⟨rfl, rfl, trivial⟩⟩
      · conv => whnf
        exact ⟨(8 : Nat), by decide, by decide, ⟨congrArg (fun x : Nat => some (SV.int .u64 x)) (wA_f7 e hb), rfl, rfl, rfl, trivial⟩, ⟨rfl, rfl, trivial⟩⟩
    · conv => whnf
      refine .here 8 rfl (by decide) ?_
      conv => whnf
      refine .here 8 rfl (by decide) ?_
      conv => whnf
      refine ⟨fun hb => ?_, fun hb => ?_⟩
      · conv => whnf
        refine ⟨by decide, ?_⟩
        conv => whnf
        exact ⟨(9 : Nat), by decide, by decide, ⟨congrArg (fun x => some (SV.int .u64 x)) (wA_t8 e hb), rfl, rfl, rfl, trivial⟩, ⟨rfl, rfl, trivial⟩⟩
      · conv => whnf
        exact ⟨(9 : Nat), by decide, by decide, ⟨congrArg (fun x : Nat => some (SV.int .u64 x)) (wA_f8 e hb), rfl, rfl, rfl, trivial⟩, ⟨rfl, rfl, trivial⟩⟩
    · conv => whnf
      refine .here 9 rfl (by decide) ?_
      conv => whnf
      refine .here 9 rfl (by decide) ?_
      conv => whnf
      refine ⟨fun hb => ?_, fun hb => ?_⟩
      · conv => whnf
        refine ⟨by decide, ?_⟩
        conv => whnf
        exact ⟨(10 : Nat), by decide, by decide, ⟨congrArg (fun x => some (SV.int .u64 x)) (wA_t9 e hb), rfl, rfl, rfl, trivial⟩, ⟨rfl, rfl, trivial⟩⟩
      · conv => whnf
        exact ⟨(10 : Nat), by decide, by decide, ⟨congrArg (fun x : Nat => some (SV.int .u64 x)) (wA_f9 e hb), rfl, rfl, rfl, trivial⟩, ⟨rfl, rfl, trivial⟩⟩
    · conv => whnf
      refine .here 10 rfl (by decide) ?_
      conv => whnf
      refine .here 10 rfl (by decide) ?_
      conv => whnf
      refine ⟨fun hb => ?_, fun hb => ?_⟩
      · conv => whnf
        refine ⟨by decide, ?_⟩
        conv => whnf
        exact ⟨(11 : Nat), by decide, by decide, ⟨congrArg (fun x => some (SV.int .u64 x)) (wA_t10 e hb), rfl, rfl, rfl, trivial⟩, ⟨rfl, rfl, trivial⟩⟩
      · conv => whnf
        exact ⟨(11 : Nat), by decide, by decide, ⟨congrArg (fun x : Nat => some (SV.int .u64 x)) (wA_f10 e hb), rfl, rfl, rfl, trivial⟩, ⟨rfl, rfl, trivial⟩⟩
    · conv => whnf
      refine .here 11 rfl (by decide) ?_
      conv => whnf
      refine .here 11 rfl (by decide) ?_
      conv => whnf
      refine ⟨fun hb => ?_, fun hb => ?_⟩
      · conv => whnf
        refine ⟨by decide, ?_⟩
        conv => whnf
        exact ⟨(12 : Nat), by decide, by decide, ⟨congrArg (fun x => some (SV.int .u64 x)) (wA_t11 e hb), rfl, rfl, rfl, trivial⟩, ⟨rfl, rfl, trivial⟩⟩
      · conv => whnf
        exact ⟨(12 : Nat), by decide, by decide, ⟨congrArg (fun x : Nat => some (SV.int .u64 x)) (wA_f11 e hb), rfl, rfl, rfl, trivial⟩, ⟨rfl, rfl, trivial⟩⟩
  · have h : i = 12 := by have := of_decide_eq_false h; omega
    subst h
    conv => whnf
    intro ρ
    rfl
end Go.Sh.Ythpalblfkpmpeaa
