import Derived.Test.YtanljnpjkokmcaaTab
import Derived.Test.YtanljnpjkokmcaaMB
set_option linter.unusedVariables false
namespace Go.Sh.Ytanljnpjkokmcaa
open Go.Proofs Go.Sh

theorem fmay_ok (at_ width : Nat) (h1 : width ≤ 64) (h2 : at_ ≤ 64 - width) : Pure Try.prog 67 [.int .i64 (at_ : Int), .int .i64 (width : Int)] .tt := by
  refine Spec.of_body tabOk Try.func67 rfl (ent Try.func67 rfl (by kernel_rfl)) Try.ntmps67 rfl (by kernel_rfl) (Nat.le_of_ble_eq_true rfl) ?_
  conv => whnf
  refine .t (decide_eq_true (by omega)) ?_
  conv => whnf
  refine .t (decide_eq_true (by omega)) ?_
  conv => whnf
  refine .t (decide_eq_true (by omega)) ?_
  conv => whnf
  intro ρ
  show Value.bool (decide ((at_ : Int) ≤ IntKind.wrap .i64 (64 - (width : Int)))) = Value.bool true
  rw [wrap_i64 _ (by omega) (by omega), decide_eq_true (by omega)]
theorem fmask_ok (width : Nat) (h1 : 1 ≤ width) (h2 : width < 64) : Pure Try.prog 68 [.int .i64 (width : Int)] (.int .u64 ((2 ^ width - 1 : Nat) : Int)) := by
  have hp : 2 ^ width < 2 ^ 64 := Nat.pow_lt_pow_right (by decide) h2
  have hp1 : 1 ≤ 2 ^ width := Nat.pow_pos (by decide)
  refine Spec.of_body tabOk Try.func68 rfl (ent Try.func68 rfl (by kernel_rfl)) Try.ntmps68 rfl (by kernel_rfl) (Nat.le_of_ble_eq_true rfl) ?_
  conv => whnf
  refine .f (decide_eq_false (by omega)) ?_
  conv => whnf
  refine .f (decide_eq_false (by omega)) ?_
  conv => whnf
  refine ⟨by omega, ?_⟩
  conv => whnf
  intro ρ
  show Value.int .u64 (IntKind.wrap .u64 (shlI .u64 1 (width : Int) - 1)) = Value.int .u64 ((2 ^ width - 1 : Nat) : Int)
  rw [shl_one width h2, show (((2 ^ width : Nat) : Int) - 1) = ((2 ^ width - 1 : Nat) : Int) by omega, wrapn _ (by omega)]
theorem fget_ok (x at_ width : Nat) (hx : x < 2 ^ 64) (h1 : 1 ≤ width) (h2 : width < 64) (h3 : at_ ≤ 64 - width) : Pure Try.prog 38 [.int .u64 (x : Int), .int .i64 (at_ : Int), .int .i64 (width : Int)] (.int .u64 ((x / 2 ^ at_ % 2 ^ width : Nat) : Int)) := by
  have hp : 2 ^ width < 2 ^ 64 := Nat.pow_lt_pow_right (by decide) h2
  refine Spec.of_body tabOk Try.func38 rfl (ent Try.func38 rfl (by kernel_rfl)) Try.ntmps38 rfl (by kernel_rfl) (Nat.le_of_ble_eq_true rfl) ?_
  conv => whnf
  refine Spec.pure (fmay_ok at_ width (by omega) h3) rfl rfl (fun _ => rfl) ?_
  conv => whnf
  refine CodeL.draw tabOk Try.checked.mixed 7 (by kernel_rfl) rfl ?_
  conv => whnf
  refine ⟨by omega, ?_⟩
  conv => whnf
  refine QCallL.pure (fmask_ok width h1 h2) rfl rfl (fun _ => rfl) ?_
  conv => whnf
  intro ρ
  show Value.int .u64 (band .and .u64 (shrI .u64 (x : Int) (at_ : Int)) ((2 ^ width - 1 : Nat) : Int)) = Value.int .u64 ((x / 2 ^ at_ % 2 ^ width : Nat) : Int)
  rw [shr_nat .u64 x at_ (by show at_ ≤ 64; omega), band_and _ _ (Nat.lt_of_le_of_lt (Nat.shiftRight_le _ _) hx) (by omega), Nat.and_two_pow_sub_one_eq_mod, Nat.shiftRight_eq_div_pow]
/-- Put of a field into 0. -/
theorem fput_ok (at_ width v : Nat) (hv : v < 2 ^ 64) (h1 : 1 ≤ width) (h2 : width < 64) (h3 : at_ ≤ 64 - width) : Pure Try.prog 35 [.int .u64 0, .int .i64 (at_ : Int), .int .i64 (width : Int), .int .u64 (v : Int)] (.int .u64 ((v % 2 ^ width * 2 ^ at_ : Nat) : Int)) := by
  have hp : 2 ^ width < 2 ^ 64 := Nat.pow_lt_pow_right (by decide) h2
  have hpos : 0 < 2 ^ width := Nat.pow_pos (by decide)
  have hb : v % 2 ^ width * 2 ^ at_ < 2 ^ 64 := by
    have a1 : v % 2 ^ width < 2 ^ width := Nat.mod_lt _ hpos
    have a2 : v % 2 ^ width * 2 ^ at_ < 2 ^ width * 2 ^ at_ := Nat.mul_lt_mul_of_pos_right a1 (Nat.pow_pos (by decide))
    rw [← Nat.pow_add] at a2
    exact Nat.lt_of_lt_of_le a2 (Nat.pow_le_pow_right (by decide) (by omega))
  have hm : (2 ^ width - 1) * 2 ^ at_ < 2 ^ 64 := by
    have a2 : (2 ^ width - 1) * 2 ^ at_ < 2 ^ width * 2 ^ at_ := Nat.mul_lt_mul_of_pos_right (by omega) (Nat.pow_pos (by decide))
    rw [← Nat.pow_add] at a2
    exact Nat.lt_of_lt_of_le a2 (Nat.pow_le_pow_right (by decide) (by omega))
  refine Spec.of_body tabOk Try.func35 rfl (ent Try.func35 rfl (by kernel_rfl)) Try.ntmps35 rfl (by kernel_rfl) (Nat.le_of_ble_eq_true rfl) ?_
  conv => whnf
  refine Spec.pure (fmay_ok at_ width (by omega) h3) rfl rfl (fun _ => rfl) ?_
  conv => whnf
  refine Spec.pure (fmask_ok width h1 h2) rfl rfl (fun _ => rfl) ?_
  conv => whnf
  refine CodeL.draw tabOk Try.checked.mixed 12 (by kernel_rfl) rfl ?_
  conv => whnf
  refine ⟨by omega, ?_⟩
  conv => whnf
  refine ⟨by omega, ?_⟩
  conv => whnf
  intro ρ
  show Value.int .u64 (band .or .u64 (band .andNot .u64 0 (shlI .u64 ((2 ^ width - 1 : Nat) : Int) (at_ : Int))) (shlI .u64 (band .and .u64 (v : Int) ((2 ^ width - 1 : Nat) : Int)) (at_ : Int))) = Value.int .u64 ((v % 2 ^ width * 2 ^ at_ : Nat) : Int)
  rw [band_and _ _ hv (by omega), Nat.and_two_pow_sub_one_eq_mod, shl_nat _ _ (by omega) hb, shl_nat _ _ (by omega) hm, show (0 : Int) = ((0 : Nat) : Int) from rfl, band_andNot _ _ (by decide) hm, band_or _ _ (by rw [Nat.zero_and]; decide) hb, Nat.zero_and, Nat.zero_or]

def plc : List Nat := [0, 1, 2, 3, 4, 5, 6, 7, 58, 59, 60, 61]
def wFr (e : Ent) (i : Nat) : Fr := [(3, .int .u64 (wA e i : Int)), (4, .ptr 2 0), (11, .agg [.int .i64 0, .int .i64 1, .int .i64 2, .int .i64 3, .int .i64 4, .int .i64 5, .int .i64 6, .int .i64 7, .int .i64 58, .int .i64 59, .int .i64 60, .int .i64 61]), (12, .int .i64 (i : Int))]
def wHp (e : Ent) : Hp := [(0, .cells (entC e)), (2, .cells [.ptr 0 0, .ptr 0 1, .ptr 0 2, .ptr 0 3, .ptr 0 4, .ptr 0 5, .ptr 0 6, .ptr 0 7, .ptr 0 8, .ptr 0 9, .ptr 0 10, .ptr 0 11])]
theorem word_ok (e : Ent) (he : okE e) : Pure Try.prog 8 [.agg (entC e)] (.int .u64 (entW e : Int)) := by
  have h0 := frN_lt e
  have h1 := bn_lt e.v; have h2 := bn_lt e.r; have h3 := bn_lt e.w; have h4 := bn_lt e.x; have h5 := bn_lt e.u; have h6 := bn_lt e.g; have h7 := bn_lt e.a; have h8 := bn_lt e.d; have h9 := bn_lt e.cw; have h10 := bn_lt e.cr; have h11 := bn_lt e.cd; have h12 := bn_lt e.gn
  have hput := fput_ok 10 44 e.fr.toNat (by have := he.2; omega) (by decide) (by decide) (by decide)
  have hf : (e.fr.toNat % 2 ^ 44 * 2 ^ 10 : Nat) = wA e 0 := by simp only [wA, frN, Nat.reducePow, if_false, Nat.add_zero, Nat.lt_irrefl, Nat.not_lt_zero]
  rw [hf] at hput
  refine Spec.of_body tabOk Try.func8 rfl (ent Try.func8 rfl (by kernel_rfl)) Try.ntmps8 rfl (by kernel_rfl) (Nat.le_of_ble_eq_true rfl) ?_
  conv => whnf
  refine Spec.pure hput rfl rfl (fun ρ => by rw [show ((e.fr.toNat : Nat) : Int) = e.fr from Int.toNat_of_nonneg he.1]; rfl) ?_
  conv => whnf
  refine Spec.of_body tabOk Try.func36 rfl (ent Try.func36 rfl (by kernel_rfl)) Try.ntmps36 rfl (by kernel_rfl) (Nat.le_of_ble_eq_true rfl) ?_
  conv => whnf
  refine CodeL.draw tabOk Try.checked.mixed 37 (by kernel_rfl) rfl ?_
  conv => whnf
  refine Spec.of_body tabOk Try.func37 rfl (ent Try.func37 rfl (by kernel_rfl)) Try.ntmps37 rfl (by kernel_rfl) (Nat.le_of_ble_eq_true rfl) ?_
  conv => whnf
  refine CodeL.loop tabOk (fun i : Nat => (wFr e i, wHp e)) (fun i => 12 - i) (fun i => i ≤ 12) rfl (fun i => ⟨rfl, rfl⟩) 0 (Nat.zero_le _) ⟨⟨rfl, rfl, rfl, rfl, trivial⟩, ⟨rfl, rfl, trivial⟩⟩ ?_
  intro i hi
  conv => whnf
  refine ⟨fun h => ?_, fun h => ?_⟩
  · have h : i < 12 := by have := of_decide_eq_true h; omega
    clear hput hf
    rcases twelve h with rfl | rfl | rfl | rfl | rfl | rfl | rfl | rfl | rfl | rfl | rfl | rfl
    · conv => whnf
      refine .here 0 rfl (by decide) ?_
      conv => whnf
      refine .here 0 rfl (by decide) ?_
      conv => whnf
      refine ⟨fun hb => ?_, fun hb => ?_⟩
      · conv => whnf
        refine ⟨by decide, ?_⟩
        conv => whnf
        exact ⟨(1 : Nat), by decide, by decide, ⟨congrArg (fun x => some (SV.int .u64 x)) (wA_t0 e hb), rfl, rfl, rfl, trivial⟩, ⟨rfl, rfl, trivial⟩⟩
      · conv => whnf
        exact ⟨(1 : Nat), by decide, by decide, ⟨congrArg (fun x : Nat => some (SV.int .u64 x)) (wA_f0 e hb), rfl, rfl, rfl, trivial⟩, ⟨rfl, rfl, trivial⟩⟩
    · conv => whnf
      refine .here 1 rfl (by decide) ?_
      conv => whnf
      refine .here 1 rfl (by decide) ?_
      conv => whnf
      refine ⟨fun hb => ?_, fun hb => ?_⟩
      · conv => whnf
        refine ⟨by decide, ?_⟩
        conv => whnf
        exact ⟨(2 : Nat), by decide, by decide, ⟨congrArg (fun x => some (SV.int .u64 x)) (wA_t1 e hb), rfl, rfl, rfl, trivial⟩, ⟨rfl, rfl, trivial⟩⟩
      · conv => whnf
        exact ⟨(2 : Nat), by decide, by decide, ⟨congrArg (fun x : Nat => some (SV.int .u64 x)) (wA_f1 e hb), rfl, rfl, rfl, trivial⟩, ⟨rfl, rfl, trivial⟩⟩
    · conv => whnf
      refine .here 2 rfl (by decide) ?_
      conv => whnf
      refine .here 2 rfl (by decide) ?_
      conv => whnf
      refine ⟨fun hb => ?_, fun hb => ?_⟩
      · conv => whnf
        refine ⟨by decide, ?_⟩
        conv => whnf
        exact ⟨(3 : Nat), by decide, by decide, ⟨congrArg (fun x => some (SV.int .u64 x)) (wA_t2 e hb), rfl, rfl, rfl, trivial⟩, ⟨rfl, rfl, trivial⟩⟩
      · conv => whnf
        exact ⟨(3 : Nat), by decide, by decide, ⟨congrArg (fun x : Nat => some (SV.int .u64 x)) (wA_f2 e hb), rfl, rfl, rfl, trivial⟩, ⟨rfl, rfl, trivial⟩⟩
    · conv => whnf
      refine .here 3 rfl (by decide) ?_
      conv => whnf
      refine .here 3 rfl (by decide) ?_
      conv => whnf
      refine ⟨fun hb => ?_, fun hb => ?_⟩
      · conv => whnf
        refine ⟨by decide, ?_⟩
        conv => whnf
        exact ⟨(4 : Nat), by decide, by decide, ⟨congrArg (fun x => some (SV.int .u64 x)) (wA_t3 e hb), rfl, rfl, rfl, trivial⟩, ⟨rfl, rfl, trivial⟩⟩
      · conv => whnf
        exact ⟨(4 : Nat), by decide, by decide, ⟨congrArg (fun x : Nat => some (SV.int .u64 x)) (wA_f3 e hb), rfl, rfl, rfl, trivial⟩, ⟨rfl, rfl, trivial⟩⟩
    · conv => whnf
      refine .here 4 rfl (by decide) ?_
      conv => whnf
      refine .here 4 rfl (by decide) ?_
      conv => whnf
      refine ⟨fun hb => ?_, fun hb => ?_⟩
      · conv => whnf
        refine ⟨by decide, ?_⟩
        conv => whnf
        exact ⟨(5 : Nat), by decide, by decide, ⟨congrArg (fun x => some (SV.int .u64 x)) (wA_t4 e hb), rfl, rfl, rfl, trivial⟩, ⟨rfl, rfl, trivial⟩⟩
      · conv => whnf
        exact ⟨(5 : Nat), by decide, by decide, ⟨congrArg (fun x : Nat => some (SV.int .u64 x)) (wA_f4 e hb), rfl, rfl, rfl, trivial⟩, ⟨rfl, rfl, trivial⟩⟩
    · conv => whnf
      refine .here 5 rfl (by decide) ?_
      conv => whnf
      refine .here 5 rfl (by decide) ?_
      conv => whnf
      refine ⟨fun hb => ?_, fun hb => ?_⟩
      · conv => whnf
        refine ⟨by decide, ?_⟩
        conv => whnf
        exact ⟨(6 : Nat), by decide, by decide, ⟨congrArg (fun x => some (SV.int .u64 x)) (wA_t5 e hb), rfl, rfl, rfl, trivial⟩, ⟨rfl, rfl, trivial⟩⟩
      · conv => whnf
        exact ⟨(6 : Nat), by decide, by decide, ⟨congrArg (fun x : Nat => some (SV.int .u64 x)) (wA_f5 e hb), rfl, rfl, rfl, trivial⟩, ⟨rfl, rfl, trivial⟩⟩
    · conv => whnf
      refine .here 6 rfl (by decide) ?_
      conv => whnf
      refine .here 6 rfl (by decide) ?_
      conv => whnf
      refine ⟨fun hb => ?_, fun hb => ?_⟩
      · conv => whnf
        refine ⟨by decide, ?_⟩
        conv => whnf
        exact ⟨(7 : Nat), by decide, by decide, ⟨congrArg (fun x => some (SV.int .u64 x)) (wA_t6 e hb), rfl, rfl, rfl, trivial⟩, ⟨rfl, rfl, trivial⟩⟩
      · conv => whnf
        exact ⟨(7 : Nat), by decide, by decide, ⟨congrArg (fun x : Nat => some (SV.int .u64 x)) (wA_f6 e hb), rfl, rfl, rfl, trivial⟩, ⟨rfl, rfl, trivial⟩⟩
    · conv => whnf
      refine .here 7 rfl (by decide) ?_
      conv => whnf
      refine .here 7 rfl (by decide) ?_
      conv => whnf
      refine ⟨fun hb => ?_, fun hb => ?_⟩
      · conv => whnf
        refine ⟨by decide, ?_⟩
        conv => whnf
        exact ⟨(8 : Nat), by decide, by decide, ⟨congrArg (fun x => some (SV.int .u64 x)) (wA_t7 e hb), rfl, rfl, rfl, trivial⟩, ⟨rfl, rfl, trivial⟩⟩
      · conv => whnf
        exact ⟨(8 : Nat), by decide, by decide, ⟨congrArg (fun x : Nat => some (SV.int .u64 x)) (wA_f7 e hb), rfl, rfl, rfl, trivial⟩, ⟨rfl, rfl, trivial⟩⟩
    · conv => whnf
      refine .here 8 rfl (by decide) ?_
      conv => whnf
      refine .here 8 rfl (by decide) ?_
      conv => whnf
      refine ⟨fun hb => ?_, fun hb => ?_⟩
      · conv => whnf
        refine ⟨by decide, ?_⟩
        conv => whnf
        exact ⟨(9 : Nat), by decide, by decide, ⟨congrArg (fun x => some (SV.int .u64 x)) (wA_t8 e hb), rfl, rfl, rfl, trivial⟩, ⟨rfl, rfl, trivial⟩⟩
      · conv => whnf
        exact ⟨(9 : Nat), by decide, by decide, ⟨congrArg (fun x : Nat => some (SV.int .u64 x)) (wA_f8 e hb), rfl, rfl, rfl, trivial⟩, ⟨rfl, rfl, trivial⟩⟩
    · conv => whnf
      refine .here 9 rfl (by decide) ?_
      conv => whnf
      refine .here 9 rfl (by decide) ?_
      conv => whnf
      refine ⟨fun hb => ?_, fun hb => ?_⟩
      · conv => whnf
        refine ⟨by decide, ?_⟩
        conv => whnf
        exact ⟨(10 : Nat), by decide, by decide, ⟨congrArg (fun x => some (SV.int .u64 x)) (wA_t9 e hb), rfl, rfl, rfl, trivial⟩, ⟨rfl, rfl, trivial⟩⟩
      · conv => whnf
        exact ⟨(10 : Nat), by decide, by decide, ⟨congrArg (fun x : Nat => some (SV.int .u64 x)) (wA_f9 e hb), rfl, rfl, rfl, trivial⟩, ⟨rfl, rfl, trivial⟩⟩
    · conv => whnf
      refine .here 10 rfl (by decide) ?_
      conv => whnf
      refine .here 10 rfl (by decide) ?_
      conv => whnf
      refine ⟨fun hb => ?_, fun hb => ?_⟩
      · conv => whnf
        refine ⟨by decide, ?_⟩
        conv => whnf
        exact ⟨(11 : Nat), by decide, by decide, ⟨congrArg (fun x => some (SV.int .u64 x)) (wA_t10 e hb), rfl, rfl, rfl, trivial⟩, ⟨rfl, rfl, trivial⟩⟩
      · conv => whnf
        exact ⟨(11 : Nat), by decide, by decide, ⟨congrArg (fun x : Nat => some (SV.int .u64 x)) (wA_f10 e hb), rfl, rfl, rfl, trivial⟩, ⟨rfl, rfl, trivial⟩⟩
    · conv => whnf
      refine .here 11 rfl (by decide) ?_
      conv => whnf
      refine .here 11 rfl (by decide) ?_
      conv => whnf
      refine ⟨fun hb => ?_, fun hb => ?_⟩
      · conv => whnf
        refine ⟨by decide, ?_⟩
        conv => whnf
        exact ⟨(12 : Nat), by decide, by decide, ⟨congrArg (fun x => some (SV.int .u64 x)) (wA_t11 e hb), rfl, rfl, rfl, trivial⟩, ⟨rfl, rfl, trivial⟩⟩
      · conv => whnf
        exact ⟨(12 : Nat), by decide, by decide, ⟨congrArg (fun x : Nat => some (SV.int .u64 x)) (wA_f11 e hb), rfl, rfl, rfl, trivial⟩, ⟨rfl, rfl, trivial⟩⟩
  · have h : i = 12 := by have := of_decide_eq_false h; omega
    subst h
    conv => whnf
    intro ρ
    rfl
end Go.Sh.Ytanljnpjkokmcaa

set_option linter.unusedVariables false
namespace Go.Sh.Ytanljnpjkokmcaa
open Go.Proofs Go.Sh

def oFr (w i : Nat) : Fr := [(0, .int .u64 (w : Int)), (2, .ptr 0 0), (3, .ptr 1 0), (4, .ptr 3 0), (11, .agg [.int .i64 0, .int .i64 1, .int .i64 2, .int .i64 3, .int .i64 4, .int .i64 5, .int .i64 6, .int .i64 7, .int .i64 58, .int .i64 59, .int .i64 60, .int .i64 61]), (12, .int .i64 (i : Int))]
def oHp (w i : Nat) : Hp := [(0, .cells [.ff, .ff, .ff, .ff, .ff, .ff, .ff, .ff, .ff, .ff, .ff, .ff, .int .u64 0]), (1, .cells (entI w i)), (3, .cells [.ptr 1 0, .ptr 1 1, .ptr 1 2, .ptr 1 3, .ptr 1 4, .ptr 1 5, .ptr 1 6, .ptr 1 7, .ptr 1 8, .ptr 1 9, .ptr 1 10, .ptr 1 11])]
theorem of_ok (w : Nat) (hw : w < 2 ^ 64) : Pure Try.prog 9 [.int .u64 (w : Int)] (.agg (entC (entOf w))) := by
  have hg := fget_ok w 10 44 hw (by decide) (by decide) (by decide)
  have hb : (w / 2 ^ 10 % 2 ^ 44 : Nat) = w / 1024 % 17592186044416 := by simp only [Nat.reducePow]
  rw [hb] at hg
  refine Spec.of_body tabOk Try.func9 rfl (ent Try.func9 rfl (by kernel_rfl)) Try.ntmps9 rfl (by kernel_rfl) (Nat.le_of_ble_eq_true rfl) ?_
  conv => whnf
  refine Spec.pure hg rfl rfl (fun _ => rfl) ?_
  conv => whnf
  refine Spec.of_body tabOk Try.func36 rfl (ent Try.func36 rfl (by kernel_rfl)) Try.ntmps36 rfl (by kernel_rfl) (Nat.le_of_ble_eq_true rfl) ?_
  conv => whnf
  refine CodeL.draw tabOk Try.checked.mixed 37 (by kernel_rfl) rfl ?_
  conv => whnf
  refine Spec.of_body tabOk Try.func37 rfl (ent Try.func37 rfl (by kernel_rfl)) Try.ntmps37 rfl (by kernel_rfl) (Nat.le_of_ble_eq_true rfl) ?_
  conv => whnf
  refine CodeL.loop tabOk (fun i : Nat => (oFr w i, oHp w i)) (fun i => 12 - i) (fun i => i ≤ 12) rfl (fun i => ⟨rfl, by simp only [oHp, wfH, SO.ok, entI_oks]; rfl⟩) 0 (Nat.zero_le _) ⟨⟨rfl, rfl, rfl, rfl, rfl, rfl, trivial⟩, ⟨rfl, rfl, rfl, trivial⟩⟩ ?_
  intro i hi
  conv => whnf
  refine ⟨fun h => ?_, fun h => ?_⟩
  · have h : i < 12 := by have := of_decide_eq_true h; omega
    clear hg
    rcases twelve h with rfl | rfl | rfl | rfl | rfl | rfl | rfl | rfl | rfl | rfl | rfl | rfl
    · conv => whnf
      refine .here 0 rfl (by decide) ?_
      conv => whnf
      refine CodeL.draw tabOk Try.checked.mixed 8 (by kernel_rfl) rfl ?_
      conv => whnf
      refine .here 0 rfl (by decide) ?_
      conv => whnf
      refine ⟨by decide, ?_⟩
      conv => whnf
      exact ⟨(1 : Nat), by decide, by decide, ⟨rfl, rfl, rfl, rfl, rfl, rfl, trivial⟩, ⟨rfl, rfl, rfl, trivial⟩⟩
    · conv => whnf
      refine .here 1 rfl (by decide) ?_
      conv => whnf
      refine CodeL.draw tabOk Try.checked.mixed 8 (by kernel_rfl) rfl ?_
      conv => whnf
      refine .here 1 rfl (by decide) ?_
      conv => whnf
      refine ⟨by decide, ?_⟩
      conv => whnf
      exact ⟨(2 : Nat), by decide, by decide, ⟨rfl, rfl, rfl, rfl, rfl, rfl, trivial⟩, ⟨rfl, rfl, rfl, trivial⟩⟩
    · conv => whnf
      refine .here 2 rfl (by decide) ?_
      conv => whnf
      refine CodeL.draw tabOk Try.checked.mixed 8 (by kernel_rfl) rfl ?_
      conv => whnf
      refine .here 2 rfl (by decide) ?_
      conv => whnf
      refine ⟨by decide, ?_⟩
      conv => whnf
      exact ⟨(3 : Nat), by decide, by decide, ⟨rfl, rfl, rfl, rfl, rfl, rfl, trivial⟩, ⟨rfl, rfl, rfl, trivial⟩⟩
    · conv => whnf
      refine .here 3 rfl (by decide) ?_
      conv => whnf
      refine CodeL.draw tabOk Try.checked.mixed 8 (by kernel_rfl) rfl ?_
      conv => whnf
      refine .here 3 rfl (by decide) ?_
      conv => whnf
      refine ⟨by decide, ?_⟩
      conv => whnf
      exact ⟨(4 : Nat), by decide, by decide, ⟨rfl, rfl, rfl, rfl, rfl, rfl, trivial⟩, ⟨rfl, rfl, rfl, trivial⟩⟩
    · conv => whnf
      refine .here 4 rfl (by decide) ?_
      conv => whnf
      refine CodeL.draw tabOk Try.checked.mixed 8 (by kernel_rfl) rfl ?_
      conv => whnf
      refine .here 4 rfl (by decide) ?_
      conv => whnf
      refine ⟨by decide, ?_⟩
      conv => whnf
      exact ⟨(5 : Nat), by decide, by decide, ⟨rfl, rfl, rfl, rfl, rfl, rfl, trivial⟩, ⟨rfl, rfl, rfl, trivial⟩⟩
    · conv => whnf
      refine .here 5 rfl (by decide) ?_
      conv => whnf
      refine CodeL.draw tabOk Try.checked.mixed 8 (by kernel_rfl) rfl ?_
      conv => whnf
      refine .here 5 rfl (by decide) ?_
      conv => whnf
      refine ⟨by decide, ?_⟩
      conv => whnf
      exact ⟨(6 : Nat), by decide, by decide, ⟨rfl, rfl, rfl, rfl, rfl, rfl, trivial⟩, ⟨rfl, rfl, rfl, trivial⟩⟩
    · conv => whnf
      refine .here 6 rfl (by decide) ?_
      conv => whnf
      refine CodeL.draw tabOk Try.checked.mixed 8 (by kernel_rfl) rfl ?_
      conv => whnf
      refine .here 6 rfl (by decide) ?_
      conv => whnf
      refine ⟨by decide, ?_⟩
      conv => whnf
      exact ⟨(7 : Nat), by decide, by decide, ⟨rfl, rfl, rfl, rfl, rfl, rfl, trivial⟩, ⟨rfl, rfl, rfl, trivial⟩⟩
    · conv => whnf
      refine .here 7 rfl (by decide) ?_
      conv => whnf
      refine CodeL.draw tabOk Try.checked.mixed 8 (by kernel_rfl) rfl ?_
      conv => whnf
      refine .here 7 rfl (by decide) ?_
      conv => whnf
      refine ⟨by decide, ?_⟩
      conv => whnf
      exact ⟨(8 : Nat), by decide, by decide, ⟨rfl, rfl, rfl, rfl, rfl, rfl, trivial⟩, ⟨rfl, rfl, rfl, trivial⟩⟩
    · conv => whnf
      refine .here 8 rfl (by decide) ?_
      conv => whnf
      refine CodeL.draw tabOk Try.checked.mixed 8 (by kernel_rfl) rfl ?_
      conv => whnf
      refine .here 8 rfl (by decide) ?_
      conv => whnf
      refine ⟨by decide, ?_⟩
      conv => whnf
      exact ⟨(9 : Nat), by decide, by decide, ⟨rfl, rfl, rfl, rfl, rfl, rfl, trivial⟩, ⟨rfl, rfl, rfl, trivial⟩⟩
    · conv => whnf
      refine .here 9 rfl (by decide) ?_
      conv => whnf
      refine CodeL.draw tabOk Try.checked.mixed 8 (by kernel_rfl) rfl ?_
      conv => whnf
      refine .here 9 rfl (by decide) ?_
      conv => whnf
      refine ⟨by decide, ?_⟩
      conv => whnf
      exact ⟨(10 : Nat), by decide, by decide, ⟨rfl, rfl, rfl, rfl, rfl, rfl, trivial⟩, ⟨rfl, rfl, rfl, trivial⟩⟩
    · conv => whnf
      refine .here 10 rfl (by decide) ?_
      conv => whnf
      refine CodeL.draw tabOk Try.checked.mixed 8 (by kernel_rfl) rfl ?_
      conv => whnf
      refine .here 10 rfl (by decide) ?_
      conv => whnf
      refine ⟨by decide, ?_⟩
      conv => whnf
      exact ⟨(11 : Nat), by decide, by decide, ⟨rfl, rfl, rfl, rfl, rfl, rfl, trivial⟩, ⟨rfl, rfl, rfl, trivial⟩⟩
    · conv => whnf
      refine .here 11 rfl (by decide) ?_
      conv => whnf
      refine CodeL.draw tabOk Try.checked.mixed 8 (by kernel_rfl) rfl ?_
      conv => whnf
      refine .here 11 rfl (by decide) ?_
      conv => whnf
      refine ⟨by decide, ?_⟩
      conv => whnf
      exact ⟨(12 : Nat), by decide, by decide, ⟨rfl, rfl, rfl, rfl, rfl, rfl, trivial⟩, ⟨rfl, rfl, rfl, trivial⟩⟩
  · have h : i = 12 := by have := of_decide_eq_false h; omega
    subst h
    rw [← entI_all w hw]
    conv => whnf
    intro ρ
    rfl
end Go.Sh.Ytanljnpjkokmcaa

set_option linter.unusedVariables false
namespace Go.Sh.Ytanljnpjkokmcaa
open Go.Proofs Go.Sh

theorem leaf_ok (e : Ent) : Pure Try.prog 69 [.agg (entC e)] (.bool (leafB e)) := by
  obtain ⟨v, r, w, x, u, g, a, d, cw, cr, cd, gn, fr⟩ := e
  refine Spec.of_body tabOk Try.func69 rfl (ent Try.func69 rfl (by kernel_rfl)) Try.ntmps69 rfl (by kernel_rfl) (Nat.le_of_ble_eq_true rfl) ?_
  repeat' ((try (conv => whnf)); refine IfL.mk (fun h => ?_) (fun h => ?_))
  all_goals
    conv => whnf
    intro ρ
    show Value.bool _ = Value.bool _
    simp_all [leafB]
theorem right_ok (e : Ent) (he : okE e) : Pure Try.prog 88 [.agg (entC e)] (.bool (rightB e)) := by
  have hl := leaf_ok e
  have hm := fmask_ok 44 (by decide) (by decide)
  generalize hL : leafB e = L at hl
  refine Spec.of_body tabOk Try.func88 rfl (ent Try.func88 rfl (by kernel_rfl)) Try.ntmps88 rfl (by kernel_rfl) (Nat.le_of_ble_eq_true rfl) ?_
  have hfr := he.1
  obtain ⟨v, r, w, x, u, g, a, d, cw, cr, cd, gn, fr⟩ := e
  simp only at hfr
  have hmm : ∀ ρ, SV.vals ρ [SV.int .i64 44] = SV.vals ρ [SV.int .i64 ((44 : Nat) : Int)] := fun _ => rfl
  repeat' ((try (conv => whnf)); first
    | refine IfL.mk (fun h => ?_) (fun h => ?_)
    | refine Spec.pure hl rfl rfl (fun _ => rfl) ?_
    | refine CodeL.draw tabOk Try.checked.mixed 5 (by kernel_rfl) rfl ?_
    | refine QCallL.pure hm rfl rfl (fun _ => rfl) ?_
    | refine VL.op (VL.eq tabOk ?_)
    | refine Needs.mk (by kernel_rfl) ?_
    | refine Needs.mk ⟨rfl, by kernel_rfl⟩ ?_)
  all_goals
    conv => whnf
    intro ρ
    show Value.bool _ = Value.bool _
  all_goals
    clear hl hm hmm
    subst hL
    simp_all [rightB, leafB]
  all_goals first
    | (intro g; omega)
    | simp only [Bool.and_assoc]
end Go.Sh.Ytanljnpjkokmcaa

set_option linter.unusedVariables false
namespace Go.Sh.Ytanljnpjkokmcaa
open Go.Proofs Go.Sh

theorem index_ok (va L : Nat) (hv : va < 2 ^ 64) (hL : L < 3) : Pure Try.prog 87 [.int .u64 (va : Int), .int .i64 (L : Int)] (.int .i64 (idxN va L : Nat)) := by
  have hg := fget_ok va (12 + 9 * L) 9 hv (by decide) (by decide) (by omega)
  have hlt : va / 2 ^ (12 + 9 * L) % 2 ^ 9 < 512 := Nat.mod_lt _ (by decide)
  unfold idxN
  have : L = 0 ∨ L = 1 ∨ L = 2 := by omega
  rcases this with rfl | rfl | rfl
  all_goals
    refine Spec.of_body tabOk Try.func87 rfl (ent Try.func87 rfl (by kernel_rfl)) Try.ntmps87 rfl (by kernel_rfl) (Nat.le_of_ble_eq_true rfl) ?_
    conv => whnf
    refine .f rfl ?_
    conv => whnf
    refine .f rfl ?_
    conv => whnf
    refine Spec.pure hg rfl rfl (fun _ => rfl) ?_
    conv => whnf
    intro ρ
    exact congrArg (Value.int .i64) (wrap_i64 _ (by omega) (by omega))
theorem refindex_ok (va L : Nat) (hv : va < 2 ^ 64) (hL : L < 3) : Pure Try.prog 78 [.int .u64 (va : Int), .int .i64 (L : Int)] (.int .i64 (idxN va L : Nat)) := by
  have hq : ∀ i, va / 512 ^ i < 2 ^ 64 := fun i => Nat.lt_of_le_of_lt (Nat.div_le_self _ _) hv
  refine Spec.of_body tabOk Try.func78 rfl (ent Try.func78 rfl (by kernel_rfl)) Try.ntmps78 rfl (by kernel_rfl) (Nat.le_of_ble_eq_true rfl) ?_
  conv => whnf
  refine .f (decide_eq_false (by omega)) ?_
  conv => whnf
  refine .f (decide_eq_false (by omega)) ?_
  conv => whnf
  refine CodeL.loop tabOk (fun i : Nat => ([(0, .int .u64 (va / 512 ^ i : Nat)), (1, .int .i64 (L : Int)), (5, .int .i64 (i : Int))], [])) (fun i => L - i) (fun i => i ≤ L) rfl (fun i => ⟨rfl, rfl⟩) 0 (Nat.zero_le _) ⟨⟨by rw [Nat.pow_zero, Nat.div_one]; rfl, rfl, rfl, trivial⟩, trivial⟩ ?_
  intro i hi
  conv => whnf
  refine ⟨fun h => ?_, fun h => ?_⟩
  · have h : i < L := by have := of_decide_eq_true h; omega
    conv => whnf
    exact ⟨i + 1, by omega, by omega, ⟨congrArg (fun x => some (SV.int .u64 x)) ((quo_nat (va / 512 ^ i) 512 (hq i)).trans (by rw [Nat.div_div_eq_div_mul, Nat.pow_succ])), rfl, congrArg (fun x => some (SV.int .i64 x)) (by rw [wrap_i64 _ (by omega) (by omega)]; omega), trivial⟩, trivial⟩
  · have h : i = L := by have := of_decide_eq_false h; omega
    subst h
    conv => whnf
    intro ρ
    have e1 : IntKind.wrap .u64 (((va / 512 ^ i : Nat) : Int).tdiv 4096) = ((va / 512 ^ i / 4096 : Nat) : Int) := quo_nat (va / 512 ^ i) 4096 (hq i)
    have e2 : ((va / 512 ^ i / 4096 : Nat) : Int).tmod 512 = ((va / 512 ^ i / 4096 % 512 : Nat) : Int) := rem_nat _ 512
    have e3 : va / 512 ^ i / 4096 % 512 = idxN va i := by
      unfold idxN
      rw [Nat.div_div_eq_div_mul, Nat.pow_add, Nat.pow_mul, Nat.mul_comm (512 ^ i)]
    show Value.int .i64 (IntKind.wrap .i64 ((IntKind.wrap .u64 (((va / 512 ^ i : Nat) : Int).tdiv 4096)).tmod 512)) = _
    have e4 : idxN va i < 512 := Nat.mod_lt _ (by decide)
    rw [e1, e2, e3, wrap_i64 _ (by omega) (by omega)]
    rfl
theorem refbit_ok (b : Bool) (p : Nat) (hp : p < 64) : Pure Try.prog 59 [.bool b, .int .u64 (p : Int)] (.int .u64 (bn b * 2 ^ p : Nat)) := by
  refine Spec.of_body tabOk Try.func59 rfl (ent Try.func59 rfl (by kernel_rfl)) Try.ntmps59 rfl (by kernel_rfl) (Nat.le_of_ble_eq_true rfl) ?_
  conv => whnf
  refine ⟨fun h => ?_, fun h => ?_⟩
  · have h : b = true := h
    subst h
    conv => whnf
    refine ⟨by omega, ?_⟩
    conv => whnf
    intro ρ
    exact congrArg (Value.int .u64) ((shl_one p hp).trans (by simp [bn]))
  · have h : b = false := h
    subst h
    conv => whnf
    intro ρ
    exact congrArg (Value.int .u64) (by simp [bn])
theorem refhas_ok (w p : Nat) (hw : w < 2 ^ 64) (hp : p < 64) : Pure Try.prog 89 [.int .u64 (w : Int), .int .u64 (p : Int)] (.bool (w.testBit p)) := by
  refine Spec.of_body tabOk Try.func89 rfl (ent Try.func89 rfl (by kernel_rfl)) Try.ntmps89 rfl (by kernel_rfl) (Nat.le_of_ble_eq_true rfl) ?_
  conv => whnf
  refine ⟨by omega, ?_⟩
  conv => whnf
  intro ρ
  have e1 : shrI .u64 (w : Int) (p : Int) = ((w / 2 ^ p : Nat) : Int) := shr_lit w p (by omega)
  have e2 : ((w / 2 ^ p : Nat) : Int).tmod 2 = ((w / 2 ^ p % 2 : Nat) : Int) := rem_nat _ 2
  refine congrArg Value.bool ?_
  show decide ((shrI .u64 (w : Int) (p : Int)).tmod 2 = 1) = _
  rw [e1, e2, Nat.testBit_eq_decide_div_mod_eq]
  exact decide_eq_decide.2 (by omega)
theorem refleaf_ok (e : Ent) : Pure Try.prog 77 [.agg (entC e)] (.bool (leafB e)) := by
  obtain ⟨v, r, w, x, u, g, a, d, cw, cr, cd, gn, fr⟩ := e
  refine Spec.of_body tabOk Try.func77 rfl (ent Try.func77 rfl (by kernel_rfl)) Try.ntmps77 rfl (by kernel_rfl) (Nat.le_of_ble_eq_true rfl) ?_
  repeat' ((try (conv => whnf)); refine IfL.mk (fun h => ?_) (fun h => ?_))
  all_goals
    conv => whnf
    intro ρ
    show Value.bool _ = Value.bool _
    simp_all [leafB]
theorem refright_ok (e : Ent) (he : okE e) : Pure Try.prog 80 [.agg (entC e)] (.bool (rightB e)) := by
  have hl := refleaf_ok e
  generalize hL : leafB e = L at hl
  have hfr := he.1
  obtain ⟨v, r, w, x, u, g, a, d, cw, cr, cd, gn, fr⟩ := e
  simp only at hfr
  refine Spec.of_body tabOk Try.func80 rfl (ent Try.func80 rfl (by kernel_rfl)) Try.ntmps80 rfl (by kernel_rfl) (Nat.le_of_ble_eq_true rfl) ?_
  repeat' ((try (conv => whnf)); first
    | refine IfL.mk (fun h => ?_) (fun h => ?_)
    | refine Spec.pure hl rfl rfl (fun _ => rfl) ?_)
  all_goals
    conv => whnf
    intro ρ
    show Value.bool _ = Value.bool _
  all_goals
    clear hl
    subst hL
    simp_all [rightB, leafB]
  all_goals first
    | (intro g; omega)
    | omega
    | simp only [Bool.and_assoc]
    | skip
end Go.Sh.Ytanljnpjkokmcaa

set_option linter.unusedVariables false
namespace Go.Sh.Ytanljnpjkokmcaa
open Go.Proofs Go.Sh

theorem five (k : Int) : k = 0 ∨ k = 1 ∨ k = 2 ∨ k = 3 ∨ k = 4 ∨ (k ≠ 0 ∧ k ≠ 1 ∧ k ≠ 2 ∧ k ≠ 3 ∧ k ≠ 4) := by omega
theorem strip_ok (e : Ent) (k : Int) : Pure Try.prog 74 [.agg (entC e), .int .i64 k] (.bool (stripB e k)) := by
  obtain ⟨v, r, w, x, u, g, a, d, cw, cr, cd, gn, fr⟩ := e
  refine Spec.of_body tabOk Try.func74 rfl (ent Try.func74 rfl (by kernel_rfl)) Try.ntmps74 rfl (by kernel_rfl) (Nat.le_of_ble_eq_true rfl) ?_
  repeat' ((try (conv => whnf)); refine IfL.mk (fun h => ?_) (fun h => ?_))
  all_goals
    conv => whnf
    intro ρ
    show Value.bool _ = Value.bool _
    simp_all [stripB]
theorem lets_ok (e : Ent) (k : Int) : Pure Try.prog 70 [.agg (entC e), .int .i64 k] (.bool (letsB e k)) := by
  obtain ⟨v, r, w, x, u, g, a, d, cw, cr, cd, gn, fr⟩ := e
  refine Spec.of_body tabOk Try.func70 rfl (ent Try.func70 rfl (by kernel_rfl)) Try.ntmps70 rfl (by kernel_rfl) (Nat.le_of_ble_eq_true rfl) ?_
  repeat' ((try (conv => whnf)); refine IfL.mk (fun h => ?_) (fun h => ?_))
  all_goals
    conv => whnf
    intro ρ
    show Value.bool _ = Value.bool _
    simp_all [letsB]
theorem check_ok (e : Ent) (k : Int) (tagged gen : Bool) : Pure Try.prog 42 [.agg (entC e), .int .i64 k, .bool tagged, .bool gen] (.int .i64 (chkE e k tagged gen)) := by
  have hl := leaf_ok e
  have ht := lets_ok e k
  unfold chkE
  generalize leafB e = L at hl
  generalize letsB e k = T at ht
  obtain ⟨v, r, w, x, u, g, a, d, cw, cr, cd, gn, fr⟩ := e
  refine Spec.of_body tabOk Try.func42 rfl (ent Try.func42 rfl (by kernel_rfl)) Try.ntmps42 rfl (by kernel_rfl) (Nat.le_of_ble_eq_true rfl) ?_
  repeat' ((try (conv => whnf)); first
    | refine IfL.mk (fun h => ?_) (fun h => ?_)
    | refine Spec.pure hl rfl rfl (fun _ => rfl) ?_
    | refine Spec.pure ht rfl rfl (fun _ => rfl) ?_
    | refine VL.op (VL.eq tabOk ?_))
  all_goals
    conv => whnf
    intro ρ
    show Value.int .i64 _ = Value.int .i64 _
  all_goals
    clear hl ht
    simp_all
theorem refcheck_ok (e : Ent) (k : Int) (tagged gen : Bool) : Pure Try.prog 52 [.agg (entC e), .int .i64 k, .bool tagged, .bool gen] (.int .i64 (chkE e k tagged gen)) := by
  have hl := refleaf_ok e
  unfold chkE
  generalize leafB e = L at hl
  obtain ⟨v, r, w, x, u, g, a, d, cw, cr, cd, gn, fr⟩ := e
  rcases five k with rfl | rfl | rfl | rfl | rfl | ⟨k0, k1, k2, k3, k4⟩
  all_goals
    refine Spec.of_body tabOk Try.func52 rfl (ent Try.func52 rfl (by kernel_rfl)) Try.ntmps52 rfl (by kernel_rfl) (Nat.le_of_ble_eq_true rfl) ?_
    repeat' ((try (conv => whnf)); first
      | refine IfL.t rfl ?_
      | refine IfL.f rfl ?_
      | refine IfL.f (decide_eq_false (by assumption)) ?_
      | refine IfL.mk (fun h => ?_) (fun h => ?_)
      | refine Spec.pure hl rfl rfl (fun _ => rfl) ?_
      | refine VL.op (VL.eq tabOk ?_))
  all_goals
    conv => whnf
    intro ρ
    show Value.int .i64 _ = Value.int .i64 _
  all_goals
    clear hl
    simp_all [letsB]
end Go.Sh.Ytanljnpjkokmcaa

set_option linter.unusedVariables false
namespace Go.Sh.Ytanljnpjkokmcaa
open Go.Proofs Go.Sh

theorem lit_tt (ρ : Env) : SV.val ρ (lit (Value.bool true)) = Value.bool true := rfl
theorem lit_ff (ρ : Env) : SV.val ρ (lit (Value.bool false)) = Value.bool false := rfl
theorem marked_ok (e : Ent) (k : Int) (tagged : Bool) : Pure Try.prog 43 [.agg (entC e), .int .i64 k, .bool tagged] (.agg (entC (markE e k tagged))) := by
  obtain ⟨v, r, w, x, u, g, a, d, cw, cr, cd, gn, fr⟩ := e
  refine Spec.of_body tabOk Try.func43 rfl (ent Try.func43 rfl (by kernel_rfl)) Try.ntmps43 rfl (by kernel_rfl) (Nat.le_of_ble_eq_true rfl) ?_
  repeat' ((try (conv => whnf)); first
    | refine IfL.mk (fun h => ?_) (fun h => ?_)
    | (refine Spec.of_body tabOk Try.func71 rfl (ent Try.func71 rfl (by kernel_rfl)) Try.ntmps71 rfl (by kernel_rfl) (Nat.le_of_ble_eq_true rfl) ?_))
  all_goals
    conv => whnf
    intro ρ
  all_goals
    simp_all [markE, entC, SV.val, SV.vals, oneRes, lit_tt, lit_ff]
theorem refmarked_ok (e : Ent) (k : Int) (tagged : Bool) : Pure Try.prog 53 [.agg (entC e), .int .i64 k, .bool tagged] (.agg (entC (markE e k tagged))) := by
  obtain ⟨v, r, w, x, u, g, a, d, cw, cr, cd, gn, fr⟩ := e
  refine Spec.of_body tabOk Try.func53 rfl (ent Try.func53 rfl (by kernel_rfl)) Try.ntmps53 rfl (by kernel_rfl) (Nat.le_of_ble_eq_true rfl) ?_
  repeat' ((try (conv => whnf)); first
    | refine IfL.mk (fun h => ?_) (fun h => ?_))
  all_goals
    conv => whnf
    intro ρ
  all_goals
    simp_all [markE, entC, SV.val, SV.vals, oneRes, lit_tt, lit_ff]
theorem refof_ok (w : Nat) (hw : w < 2 ^ 64) : Pure Try.prog 79 [.int .u64 (w : Int)] (.agg (entC (entOf w))) := by
  have h0 := refhas_ok w 0 hw (by decide)
  have h1 := refhas_ok w 1 hw (by decide)
  have h2 := refhas_ok w 2 hw (by decide)
  have h3 := refhas_ok w 3 hw (by decide)
  have h4 := refhas_ok w 4 hw (by decide)
  have h5 := refhas_ok w 5 hw (by decide)
  have h6 := refhas_ok w 6 hw (by decide)
  have h7 := refhas_ok w 7 hw (by decide)
  have h58 := refhas_ok w 58 hw (by decide)
  have h59 := refhas_ok w 59 hw (by decide)
  have h60 := refhas_ok w 60 hw (by decide)
  have h61 := refhas_ok w 61 hw (by decide)
  refine Spec.of_body tabOk Try.func79 rfl (ent Try.func79 rfl (by kernel_rfl)) Try.ntmps79 rfl (by kernel_rfl) (Nat.le_of_ble_eq_true rfl) ?_
  conv => whnf
  refine Spec.pure h0 rfl rfl (fun _ => rfl) ?_
  conv => whnf
  refine Spec.pure h1 rfl rfl (fun _ => rfl) ?_
  conv => whnf
  refine Spec.pure h2 rfl rfl (fun _ => rfl) ?_
  conv => whnf
  refine Spec.pure h3 rfl rfl (fun _ => rfl) ?_
  conv => whnf
  refine Spec.pure h4 rfl rfl (fun _ => rfl) ?_
  conv => whnf
  refine Spec.pure h5 rfl rfl (fun _ => rfl) ?_
  conv => whnf
  refine Spec.pure h6 rfl rfl (fun _ => rfl) ?_
  conv => whnf
  refine Spec.pure h7 rfl rfl (fun _ => rfl) ?_
  conv => whnf
  refine Spec.pure h58 rfl rfl (fun _ => rfl) ?_
  conv => whnf
  refine Spec.pure h59 rfl rfl (fun _ => rfl) ?_
  conv => whnf
  refine Spec.pure h60 rfl rfl (fun _ => rfl) ?_
  conv => whnf
  refine Spec.pure h61 rfl rfl (fun _ => rfl) ?_
  conv => whnf
  have e1 : shrI .u64 (w : Int) 10 = ((w / 2 ^ 10 : Nat) : Int) := shr_lit w 10 (by decide)
  have e2 : (shrI .u64 (w : Int) 10).tmod 17592186044416 = ((w / 1024 % 17592186044416 : Nat) : Int) := by
    rw [e1]; exact rem_nat _ 17592186044416
  rw [e2]
  intro ρ
  rfl
theorem refword_ok (e : Ent) (he : okE e) : Pure Try.prog 18 [.agg (entC e)] (.int .u64 (entW e : Int)) := by
  have hb : ∀ b p, p < 64 → Pure Try.prog 59 [.bool b, .int .u64 (p : Nat)] (.int .u64 (bn b * 2 ^ p : Nat)) := refbit_ok
  refine Spec.of_body tabOk Try.func18 rfl (ent Try.func18 rfl (by kernel_rfl)) Try.ntmps18 rfl (by kernel_rfl) (Nat.le_of_ble_eq_true rfl) ?_
  conv => whnf
  refine CodeL.draw tabOk Try.checked.mixed 31 (by kernel_rfl) rfl ?_
  conv => whnf
  refine QCallL.pure (refbit_ok e.v 0 (by decide)) rfl rfl (fun _ => rfl) ?_
  conv => whnf
  refine QCallL.pure (refbit_ok e.r 1 (by decide)) rfl rfl (fun _ => rfl) ?_
  conv => whnf
  refine QCallL.pure (refbit_ok e.w 2 (by decide)) rfl rfl (fun _ => rfl) ?_
  conv => whnf
  refine QCallL.pure (refbit_ok e.x 3 (by decide)) rfl rfl (fun _ => rfl) ?_
  conv => whnf
  refine QCallL.pure (refbit_ok e.u 4 (by decide)) rfl rfl (fun _ => rfl) ?_
  conv => whnf
  refine QCallL.pure (refbit_ok e.g 5 (by decide)) rfl rfl (fun _ => rfl) ?_
  conv => whnf
  refine QCallL.pure (refbit_ok e.a 6 (by decide)) rfl rfl (fun _ => rfl) ?_
  conv => whnf
  refine QCallL.pure (refbit_ok e.d 7 (by decide)) rfl rfl (fun _ => rfl) ?_
  conv => whnf
  refine CodeL.draw tabOk Try.checked.mixed 22 (by kernel_rfl) rfl ?_
  conv => whnf
  refine QCallL.pure (refbit_ok e.cw 58 (by decide)) rfl rfl (fun _ => rfl) ?_
  conv => whnf
  refine QCallL.pure (refbit_ok e.cr 59 (by decide)) rfl rfl (fun _ => rfl) ?_
  conv => whnf
  refine QCallL.pure (refbit_ok e.cd 60 (by decide)) rfl rfl (fun _ => rfl) ?_
  conv => whnf
  refine QCallL.pure (refbit_ok e.gn 61 (by decide)) rfl rfl (fun _ => rfl) ?_
  conv => whnf
  intro ρ
  have hf : shlI .u64 (e.fr.tmod 17592186044416) 10 = ((frN e * 1024 : Nat) : Int) := by
    have h1 : e.fr.tmod 17592186044416 = ((frN e : Nat) : Int) := by
      have := rem_nat e.fr.toNat 17592186044416
      rw [Int.toNat_of_nonneg he.1] at this
      exact this
    have := frN_lt e
    rw [h1, show (10 : Int) = ((10 : Nat) : Int) from rfl, shl_nat _ _ (by decide) (by omega)]
  refine congrArg (Value.int .u64) ?_
  have h0 := frN_lt e
  have b0 := bn_lt e.v; have b1 := bn_lt e.r; have b2 := bn_lt e.w; have b3 := bn_lt e.x; have b4 := bn_lt e.u; have b5 := bn_lt e.g; have b6 := bn_lt e.a; have b7 := bn_lt e.d; have b8 := bn_lt e.cw; have b9 := bn_lt e.cr; have b10 := bn_lt e.cd; have b11 := bn_lt e.gn
  unfold entW
  rw [wA12]
  rw [hf]
  show IntKind.wrap .u64 (IntKind.wrap .u64 (IntKind.wrap .u64 (IntKind.wrap .u64 (IntKind.wrap .u64 (IntKind.wrap .u64 (IntKind.wrap .u64 (IntKind.wrap .u64 (IntKind.wrap .u64 (IntKind.wrap .u64 (IntKind.wrap .u64 (IntKind.wrap .u64 (((bn e.v * 2 ^ 0 : Nat) : Int) + ((bn e.r * 2 ^ 1 : Nat) : Int)) + ((bn e.w * 2 ^ 2 : Nat) : Int)) + ((bn e.x * 2 ^ 3 : Nat) : Int)) + ((bn e.u * 2 ^ 4 : Nat) : Int)) + ((bn e.g * 2 ^ 5 : Nat) : Int)) + ((bn e.a * 2 ^ 6 : Nat) : Int)) + ((bn e.d * 2 ^ 7 : Nat) : Int)) + ((bn e.cw * 2 ^ 58 : Nat) : Int)) + ((bn e.cr * 2 ^ 59 : Nat) : Int)) + ((bn e.cd * 2 ^ 60 : Nat) : Int)) + ((bn e.gn * 2 ^ 61 : Nat) : Int)) + ((frN e * 1024 : Nat) : Int)) = _
  rw [wrap_add _ _ (by omega), wrap_add _ _ (by omega), wrap_add _ _ (by omega), wrap_add _ _ (by omega), wrap_add _ _ (by omega), wrap_add _ _ (by omega), wrap_add _ _ (by omega), wrap_add _ _ (by omega), wrap_add _ _ (by omega), wrap_add _ _ (by omega), wrap_add _ _ (by omega), wrap_add _ _ (by omega)]
  omega
end Go.Sh.Ytanljnpjkokmcaa
