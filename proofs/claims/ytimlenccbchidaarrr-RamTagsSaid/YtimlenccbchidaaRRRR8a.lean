import Derived.Test.YtimlenccbchidaaRRRRmB
set_option linter.unusedVariables false
namespace Go.Sh.YtimlenccbchidaaRRR
open Go.Proofs Go.Sh

theorem rlen (n : Nat) (b t b' t' : Nat → Nat) : (SO.row (ramV n b t)).len = (SO.row (ramV n b' t')).len := by
  show (ramV n b t).length = (ramV n b' t').length
  rw [ramV_len, ramV_len]
/-- Where the number is laid. -/
def plN (x : Int) (n : Nat) : Nat := (8 + (x % (8192 : Nat)).toNat) / n * n % 8184
theorem plN_ok (x : Int) {n : Nat} (hn : okN n) : plN x n % n = 0 ∧ plN x n + n ≤ 8184 := by
  have h := mod_lt' x (m := 8192) (by decide)
  unfold plN
  rcases hn with rfl | rfl | rfl | rfl <;> omega
theorem pl_eq (x : Int) (n : Nat) (s : Int) (hn : okN n) (hs : IntKind.wrap .u64 s = (n : Int)) :
    (IntKind.wrap .u64 (IntKind.wrap .u64 ((IntKind.wrap .u64 (IntKind.wrap .i64 (8 + band .and .i64 x 8191))).tdiv (IntKind.wrap .u64 s)) * IntKind.wrap .u64 s)).tmod 8184 = (plN x n : Int) := by
  have hm : band .and .i64 x 8191 = ((x % (8192 : Nat)).toNat : Int) := band_mask x 13 (by decide)
  have h := mod_lt' x (m := 8192) (by decide)
  unfold plN
  rw [hm, hs]
  generalize (x % (8192 : Nat)).toNat = y at h
  rw [wrap_i64 _ (by omega) (by omega), show (8 : Int) + (y : Int) = ((8 + y : Nat) : Int) by omega, wrapn _ (by omega), quo_nat _ _ (by omega), ← Int.natCast_mul,
    wrapn _ (by rcases hn with rfl | rfl | rfl | rfl <;> omega), show (8184 : Int) = ((8184 : Nat) : Int) from rfl, rem_nat]
theorem byte_eq (v i : Nat) (hv : v < 2 ^ 64) (hi : i < 8) : ((v / 2 ^ (8 * i) % 256 : Nat) : Int) = band .and .u64 (shrI .u64 (v : Int) (IntKind.wrap .u64 (IntKind.wrap .i64 (8 * (i : Int))))) 255 := by
  rw [wrap_i64 _ (by omega) (by omega), show (8 * (i : Int)) = ((8 * i : Nat) : Int) by omega, wrapn _ (by omega), shr_nat .u64 v (8 * i) (by show 8 * i ≤ 64; omega), show (255 : Int) = ((2 ^ 8 - 1 : Nat) : Int) from rfl,
    band_and _ _ (Nat.lt_of_le_of_lt (Nat.shiftRight_le _ _) hv) (by decide), Nat.and_two_pow_sub_one_eq_mod, Nat.shiftRight_eq_div_pow]
theorem low_eq (v n : Nat) (hv : v < 2 ^ 64) (m : Int) (hm : m = ((2 ^ n - 1 : Nat) : Int)) (hn : n ≤ 64) : ((v % 2 ^ n : Nat) : Int) = band .and .u64 (v : Int) m := by
  have : 2 ^ n ≤ 2 ^ 64 := Nat.pow_le_pow_right (by decide) hn
  have : 0 < 2 ^ n := Nat.pow_pos (by decide)
  rw [hm, band_and _ _ hv (by omega), Nat.and_two_pow_sub_one_eq_mod]
theorem numbers_ok (at_ : Int) (v : Nat) (size : Int) (hv : v < 2 ^ 64) : Pure Try.prog 3 [.int .i64 at_, .int .u64 (v : Int), .int .i64 size] .tt := by
  refine Spec.of_body tabOk Try.func3 rfl (ent Try.func3 rfl (by kernel_rfl)) Try.ntmps3 rfl (by kernel_rfl) (Nat.le_of_ble_eq_true rfl) ?_
  conv => whnf
  refine Spec.fn (new_ok 2 (by decide) (by decide)) [] rfl rfl (fun _ => rfl) rfl trivial (fun _ _ => ⟨rfl, rfl, trivial⟩) (fun _ _ => ?_)
  conv => whnf
  refine .f rfl ?_
  conv => whnf
  have hb : band .and .i64 size 3 = ((size % (4 : Nat)).toNat : Int) := band_mask size 2 (by decide)
  have hm := mod_lt' size (m := 4) (by decide)
  rw [hb]
  generalize (size % (4 : Nat)).toNat = k at hm
  clear hb
  have : k = 0 ∨ k = 1 ∨ k = 2 ∨ k = 3 := by omega
  rcases this with rfl | rfl | rfl | rfl
  · refine ⟨by decide, ?_⟩
    conv => whnf
    refine ⟨by decide, ?_⟩
    conv => whnf
    have hp := pl_eq at_ 1 (shlI .i64 1 (IntKind.wrap .u64 ((0 : Nat) : Int))) (.inl rfl) rfl
    have hq := plN_ok at_ (.inl rfl : okN 1)
    rw [hp]
    generalize plN at_ 1 = q at hq
    refine ⟨fun h => ?_, fun h => ?_⟩
    · conv => whnf
      have e1 : IntKind.wrap .u64 (((8 : Nat) : Int) - 1) = ((8 - 1 : Nat) : Int) := by rw [show (((8 : Nat) : Int) - 1) = ((8 - 1 : Nat) : Int) by omega, wrapn _ (by omega)]
      have e2 : IntKind.wrap .u64 (((8 : Nat) : Int) + IntKind.wrap .u64 (shlI .i64 1 (IntKind.wrap .u64 0))) = ((8 + 1 : Nat) : Int) := by
        rw [show IntKind.wrap .u64 (shlI .i64 1 (IntKind.wrap .u64 0)) = ((1 : Nat) : Int) from rfl, ← Int.natCast_add, wrapn _ (by omega)]
      refine Spec.fn (store_ok 2 (fun _ => 0) (fun _ => 0) (8 - 1) (1) (90) (by decide) (.inl rfl) (by omega) (by decide) (by omega)) [0, 1] rfl rfl (fun _ => by rw [← e1]; rfl) rfl ⟨⟨by decide, rfl, rfl, _, rfl, fun _ => rfl, Nat.le_refl _, fun _ => Nat.le_refl _, id⟩, ⟨by decide, rfl, rfl, _, rfl, fun _ => rfl, Nat.le_refl _, fun _ => Nat.le_refl _, id⟩, trivial⟩ (fun _ _ => ⟨rfl, rfl, ⟨_, rfl, rfl, rfl⟩, ⟨_, rfl, rfl, rlen _ _ _ _ _⟩, trivial⟩) (fun _ _ => ?_)
      generalize hb1 : stB (fun _ => 0) (8 - 1) 90 1 = b1
      generalize tagsL (fun _ => 0) (8 - 1) 1 = t1
      have g1 : okB b1 := by rw [← hb1]; exact stB_ok (fun _ => by decide) _ _ _
      conv => whnf
      refine Spec.fn (store_ok 2 (b1) (t1) (8 + 1) (1) (165) (by decide) (.inl rfl) (by omega) (by decide) (by omega)) [0, 1] rfl rfl (fun _ => by rw [← e2]; rfl) rfl ⟨⟨by decide, rfl, rfl, _, rfl, fun _ => rfl, Nat.le_refl _, fun _ => Nat.le_refl _, id⟩, ⟨by decide, rfl, rfl, _, rfl, fun _ => rfl, Nat.le_refl _, fun _ => Nat.le_refl _, id⟩, trivial⟩ (fun _ _ => ⟨rfl, rfl, ⟨_, rfl, rfl, rfl⟩, ⟨_, rfl, rfl, rlen _ _ _ _ _⟩, trivial⟩) (fun _ _ => ?_)
      generalize hb2 : stB b1 (8 + 1) 165 1 = b2
      generalize tagsL t1 (8 + 1) 1 = t2
      have g2 : okB b2 := by rw [← hb2]; exact stB_ok g1 _ _ _
      conv => whnf
      refine Spec.fn (store_ok 2 (b2) (t2) (8) (1) (v) (hv) (.inl rfl) (by omega) (by decide) (by omega)) [0, 1] rfl rfl (fun _ => rfl) rfl ⟨⟨by decide, rfl, rfl, _, rfl, fun _ => rfl, Nat.le_refl _, fun _ => Nat.le_refl _, id⟩, ⟨by decide, rfl, rfl, _, rfl, fun _ => rfl, Nat.le_refl _, fun _ => Nat.le_refl _, id⟩, trivial⟩ (fun _ _ => ⟨rfl, rfl, ⟨_, rfl, rfl, rfl⟩, ⟨_, rfl, rfl, rlen _ _ _ _ _⟩, trivial⟩) (fun _ _ => ?_)
      generalize hb3 : stB b2 8 v 1 = b3
      generalize tagsL t2 8 1 = t3
      have g3 : okB b3 := by rw [← hb3]; exact stB_ok g2 _ _ _
      conv => whnf
      refine .f rfl ?_
      conv => whnf
      refine Spec.fn (load_ok 2 (b3) (t3) (8) (1) g3 (.inl rfl) (by omega) (by decide) (by omega)) [0, 1] rfl rfl (fun _ => rfl) rfl ⟨⟨by decide, rfl, rfl, _, rfl, fun _ => rfl, Nat.le_refl _, fun _ => Nat.le_refl _, id⟩, ⟨by decide, rfl, rfl, _, rfl, fun _ => rfl, Nat.le_refl _, fun _ => Nat.le_refl _, fun _ => rfl⟩, trivial⟩ (fun _ _ => ⟨rfl, rfl, ⟨_, rfl, rfl, rfl⟩, rfl, trivial⟩) (fun _ _ => ?_)
      conv => whnf
      refine Spec.fn (load_ok 2 (b3) (t3) (8 - 1) (1) g3 (.inl rfl) (by omega) (by decide) (by omega)) [0, 1] rfl rfl (fun _ => by rw [← e1]; rfl) rfl ⟨⟨by decide, rfl, rfl, _, rfl, fun _ => rfl, Nat.le_refl _, fun _ => Nat.le_refl _, id⟩, ⟨by decide, rfl, rfl, _, rfl, fun _ => rfl, Nat.le_refl _, fun _ => Nat.le_refl _, fun _ => rfl⟩, trivial⟩ (fun _ _ => ⟨rfl, rfl, ⟨_, rfl, rfl, rfl⟩, rfl, trivial⟩) (fun _ _ => ?_)
      conv => whnf
      refine Spec.fn (load_ok 2 (b3) (t3) (8 + 1) (1) g3 (.inl rfl) (by omega) (by decide) (by omega)) [0, 1] rfl rfl (fun _ => by rw [← e2]; rfl) rfl ⟨⟨by decide, rfl, rfl, _, rfl, fun _ => rfl, Nat.le_refl _, fun _ => Nat.le_refl _, id⟩, ⟨by decide, rfl, rfl, _, rfl, fun _ => rfl, Nat.le_refl _, fun _ => Nat.le_refl _, fun _ => rfl⟩, trivial⟩ (fun _ _ => ⟨rfl, rfl, ⟨_, rfl, rfl, rfl⟩, rfl, trivial⟩) (fun _ _ => ?_)
      have r1 : rdN b3 8 1 = v % 2 ^ (8 * 1) := by rw [← hb3]; exact rd_st _ _ _ (Nat.le_refl _)
      have r2 : rdN b3 (8 - 1) 1 = 90 := by rw [← hb3, rd_st_far _ _ _ _ _ _ (by omega), ← hb2, rd_st_far _ _ _ _ _ _ (by omega), ← hb1]; exact rd_st _ _ _ (Nat.le_refl _)
      have r3 : rdN b3 (8 + 1) 1 = 165 := by rw [← hb3, rd_st_far _ _ _ _ _ _ (by omega), ← hb2]; exact rd_st _ _ _ (Nat.le_refl _)
      have r4 : ∀ i, i < 1 → rdN b3 (8 + i) 1 = v / 2 ^ (8 * i) % 256 := fun i hi => by
        rw [← hb3]; simp only [rdN, Nat.add_zero, Nat.mul_zero, Nat.pow_zero, Nat.mul_one, Nat.zero_add]
        unfold stB; rw [if_pos ⟨by omega, by omega⟩, Nat.add_sub_cancel_left]
      rw [r1, r2, r3]
      clear hb1 hb2 hb3
      conv => whnf
      refine CodeL.loop tabOk (fun i : Nat => ([(1, .int .u64 (v : Int)), (7, .ptr 0 0), (9, .int .i64 ((1 : Nat) : Int)), (10, .int .u64 ((8 : Nat) : Int)), (13, .int .u64 ((v % 2 ^ (8 * 1) : Nat) : Int)), (15, .int .u64 ((90 : Nat) : Int)), (17, .int .u64 ((165 : Nat) : Int)), (19, .int .i64 (i : Int))], [(0, .cells [.slice 1 0 2 2]), (1, .row (ramV 2 b3 t3))])) (fun i => 1 - i) (fun i => i ≤ 1) rfl (fun i => ⟨rfl, rfl⟩) 0 (Nat.zero_le _) ⟨⟨rfl, rfl, rfl, rfl, rfl, rfl, rfl, rfl, trivial⟩, ⟨rfl, rfl, trivial⟩⟩ ?_
      intro i hi
      conv => whnf
      refine ⟨fun h => ?_, fun h => ?_⟩
      · have h : i < 1 := by have := of_decide_eq_true h; omega
        have e3 : IntKind.wrap .u64 (((8 : Nat) : Int) + IntKind.wrap .u64 (i : Int)) = ((8 + i : Nat) : Int) := by rw [wrapn i (by omega), ← Int.natCast_add, wrapn _ (by omega)]
        conv => whnf
        refine Spec.fn (load_ok 2 (b3) (t3) (8 + i) (1) g3 (.inl rfl) (by omega) (by decide) (by omega)) [0, 1] rfl rfl (fun _ => by rw [← e3]; rfl) rfl ⟨⟨by decide, rfl, rfl, _, rfl, fun _ => rfl, Nat.le_refl _, fun _ => Nat.le_refl _, id⟩, ⟨by decide, rfl, rfl, _, rfl, fun _ => rfl, Nat.le_refl _, fun _ => Nat.le_refl _, fun _ => rfl⟩, trivial⟩ (fun _ _ => ⟨rfl, rfl, ⟨_, rfl, rfl, rfl⟩, rfl, trivial⟩) (fun _ _ => ?_)
        rw [r4 i h]
        conv => whnf
        refine ⟨by rw [wrap_i64 _ (by omega) (by omega), show (8 * (i : Int)) = ((8 * i : Nat) : Int) by omega, wrapn _ (by omega)]; omega, ?_⟩
        conv => whnf
        refine .f (by rw [← byte_eq v i hv (by omega)]; simp) ?_
        conv => whnf
        exact ⟨i + 1, by omega, by omega, ⟨rfl, rfl, rfl, rfl, rfl, rfl, rfl, congrArg (fun x => some (SV.int .i64 x)) (by rw [wrap_i64 _ (by omega) (by omega)]; omega), trivial⟩, ⟨rfl, rfl, trivial⟩⟩
      · have h : i = 1 := by have := of_decide_eq_false h; omega
        subst h
        conv => whnf
        refine .t rfl ?_
        conv => whnf
        refine .t rfl ?_
        conv => whnf
        refine .f rfl ?_
        conv => whnf
        refine .t rfl ?_
        conv => whnf
        refine ⟨by decide, ?_⟩
        conv => whnf
        intro ρ
        exact congrArg Value.bool (decide_eq_true (low_eq v _ hv _ rfl (by decide)))
    · have h := of_decide_eq_false h
      conv => whnf
      have e1 : IntKind.wrap .u64 (((q : Nat) : Int) - 1) = ((q - 1 : Nat) : Int) := by rw [show (((q : Nat) : Int) - 1) = ((q - 1 : Nat) : Int) by omega, wrapn _ (by omega)]
      have e2 : IntKind.wrap .u64 (((q : Nat) : Int) + IntKind.wrap .u64 (shlI .i64 1 (IntKind.wrap .u64 0))) = ((q + 1 : Nat) : Int) := by
        rw [show IntKind.wrap .u64 (shlI .i64 1 (IntKind.wrap .u64 0)) = ((1 : Nat) : Int) from rfl, ← Int.natCast_add, wrapn _ (by omega)]
      refine Spec.fn (store_ok 2 (fun _ => 0) (fun _ => 0) (q - 1) (1) (90) (by decide) (.inl rfl) (by omega) (by decide) (by omega)) [0, 1] rfl rfl (fun _ => by rw [← e1]; rfl) rfl ⟨⟨by decide, rfl, rfl, _, rfl, fun _ => rfl, Nat.le_refl _, fun _ => Nat.le_refl _, id⟩, ⟨by decide, rfl, rfl, _, rfl, fun _ => rfl, Nat.le_refl _, fun _ => Nat.le_refl _, id⟩, trivial⟩ (fun _ _ => ⟨rfl, rfl, ⟨_, rfl, rfl, rfl⟩, ⟨_, rfl, rfl, rlen _ _ _ _ _⟩, trivial⟩) (fun _ _ => ?_)
      generalize hb1 : stB (fun _ => 0) (q - 1) 90 1 = b1
      generalize tagsL (fun _ => 0) (q - 1) 1 = t1
      have g1 : okB b1 := by rw [← hb1]; exact stB_ok (fun _ => by decide) _ _ _
      conv => whnf
      refine Spec.fn (store_ok 2 (b1) (t1) (q + 1) (1) (165) (by decide) (.inl rfl) (by omega) (by decide) (by omega)) [0, 1] rfl rfl (fun _ => by rw [← e2]; rfl) rfl ⟨⟨by decide, rfl, rfl, _, rfl, fun _ => rfl, Nat.le_refl _, fun _ => Nat.le_refl _, id⟩, ⟨by decide, rfl, rfl, _, rfl, fun _ => rfl, Nat.le_refl _, fun _ => Nat.le_refl _, id⟩, trivial⟩ (fun _ _ => ⟨rfl, rfl, ⟨_, rfl, rfl, rfl⟩, ⟨_, rfl, rfl, rlen _ _ _ _ _⟩, trivial⟩) (fun _ _ => ?_)
      generalize hb2 : stB b1 (q + 1) 165 1 = b2
      generalize tagsL t1 (q + 1) 1 = t2
      have g2 : okB b2 := by rw [← hb2]; exact stB_ok g1 _ _ _
      conv => whnf
      refine Spec.fn (store_ok 2 (b2) (t2) (q) (1) (v) (hv) (.inl rfl) (by omega) (by decide) (by omega)) [0, 1] rfl rfl (fun _ => rfl) rfl ⟨⟨by decide, rfl, rfl, _, rfl, fun _ => rfl, Nat.le_refl _, fun _ => Nat.le_refl _, id⟩, ⟨by decide, rfl, rfl, _, rfl, fun _ => rfl, Nat.le_refl _, fun _ => Nat.le_refl _, id⟩, trivial⟩ (fun _ _ => ⟨rfl, rfl, ⟨_, rfl, rfl, rfl⟩, ⟨_, rfl, rfl, rlen _ _ _ _ _⟩, trivial⟩) (fun _ _ => ?_)
      generalize hb3 : stB b2 q v 1 = b3
      generalize tagsL t2 q 1 = t3
      have g3 : okB b3 := by rw [← hb3]; exact stB_ok g2 _ _ _
      conv => whnf
      refine .f rfl ?_
      conv => whnf
      refine Spec.fn (load_ok 2 (b3) (t3) (q) (1) g3 (.inl rfl) (by omega) (by decide) (by omega)) [0, 1] rfl rfl (fun _ => rfl) rfl ⟨⟨by decide, rfl, rfl, _, rfl, fun _ => rfl, Nat.le_refl _, fun _ => Nat.le_refl _, id⟩, ⟨by decide, rfl, rfl, _, rfl, fun _ => rfl, Nat.le_refl _, fun _ => Nat.le_refl _, fun _ => rfl⟩, trivial⟩ (fun _ _ => ⟨rfl, rfl, ⟨_, rfl, rfl, rfl⟩, rfl, trivial⟩) (fun _ _ => ?_)
      conv => whnf
      refine Spec.fn (load_ok 2 (b3) (t3) (q - 1) (1) g3 (.inl rfl) (by omega) (by decide) (by omega)) [0, 1] rfl rfl (fun _ => by rw [← e1]; rfl) rfl ⟨⟨by decide, rfl, rfl, _, rfl, fun _ => rfl, Nat.le_refl _, fun _ => Nat.le_refl _, id⟩, ⟨by decide, rfl, rfl, _, rfl, fun _ => rfl, Nat.le_refl _, fun _ => Nat.le_refl _, fun _ => rfl⟩, trivial⟩ (fun _ _ => ⟨rfl, rfl, ⟨_, rfl, rfl, rfl⟩, rfl, trivial⟩) (fun _ _ => ?_)
      conv => whnf
      refine Spec.fn (load_ok 2 (b3) (t3) (q + 1) (1) g3 (.inl rfl) (by omega) (by decide) (by omega)) [0, 1] rfl rfl (fun _ => by rw [← e2]; rfl) rfl ⟨⟨by decide, rfl, rfl, _, rfl, fun _ => rfl, Nat.le_refl _, fun _ => Nat.le_refl _, id⟩, ⟨by decide, rfl, rfl, _, rfl, fun _ => rfl, Nat.le_refl _, fun _ => Nat.le_refl _, fun _ => rfl⟩, trivial⟩ (fun _ _ => ⟨rfl, rfl, ⟨_, rfl, rfl, rfl⟩, rfl, trivial⟩) (fun _ _ => ?_)
      have r1 : rdN b3 q 1 = v % 2 ^ (8 * 1) := by rw [← hb3]; exact rd_st _ _ _ (Nat.le_refl _)
      have r2 : rdN b3 (q - 1) 1 = 90 := by rw [← hb3, rd_st_far _ _ _ _ _ _ (by omega), ← hb2, rd_st_far _ _ _ _ _ _ (by omega), ← hb1]; exact rd_st _ _ _ (Nat.le_refl _)
      have r3 : rdN b3 (q + 1) 1 = 165 := by rw [← hb3, rd_st_far _ _ _ _ _ _ (by omega), ← hb2]; exact rd_st _ _ _ (Nat.le_refl _)
      have r4 : ∀ i, i < 1 → rdN b3 (q + i) 1 = v / 2 ^ (8 * i) % 256 := fun i hi => by
        rw [← hb3]; simp only [rdN, Nat.add_zero, Nat.mul_zero, Nat.pow_zero, Nat.mul_one, Nat.zero_add]
        unfold stB; rw [if_pos ⟨by omega, by omega⟩, Nat.add_sub_cancel_left]
      rw [r1, r2, r3]
      clear hb1 hb2 hb3
      conv => whnf
      refine CodeL.loop tabOk (fun i : Nat => ([(1, .int .u64 (v : Int)), (7, .ptr 0 0), (9, .int .i64 ((1 : Nat) : Int)), (10, .int .u64 ((q : Nat) : Int)), (13, .int .u64 ((v % 2 ^ (8 * 1) : Nat) : Int)), (15, .int .u64 ((90 : Nat) : Int)), (17, .int .u64 ((165 : Nat) : Int)), (19, .int .i64 (i : Int))], [(0, .cells [.slice 1 0 2 2]), (1, .row (ramV 2 b3 t3))])) (fun i => 1 - i) (fun i => i ≤ 1) rfl (fun i => ⟨rfl, rfl⟩) 0 (Nat.zero_le _) ⟨⟨rfl, rfl, rfl, rfl, rfl, rfl, rfl, rfl, trivial⟩, ⟨rfl, rfl, trivial⟩⟩ ?_
      intro i hi
      conv => whnf
      refine ⟨fun h => ?_, fun h => ?_⟩
      · have h : i < 1 := by have := of_decide_eq_true h; omega
        have e3 : IntKind.wrap .u64 (((q : Nat) : Int) + IntKind.wrap .u64 (i : Int)) = ((q + i : Nat) : Int) := by rw [wrapn i (by omega), ← Int.natCast_add, wrapn _ (by omega)]
        conv => whnf
        refine Spec.fn (load_ok 2 (b3) (t3) (q + i) (1) g3 (.inl rfl) (by omega) (by decide) (by omega)) [0, 1] rfl rfl (fun _ => by rw [← e3]; rfl) rfl ⟨⟨by decide, rfl, rfl, _, rfl, fun _ => rfl, Nat.le_refl _, fun _ => Nat.le_refl _, id⟩, ⟨by decide, rfl, rfl, _, rfl, fun _ => rfl, Nat.le_refl _, fun _ => Nat.le_refl _, fun _ => rfl⟩, trivial⟩ (fun _ _ => ⟨rfl, rfl, ⟨_, rfl, rfl, rfl⟩, rfl, trivial⟩) (fun _ _ => ?_)
        rw [r4 i h]
        conv => whnf
        refine ⟨by rw [wrap_i64 _ (by omega) (by omega), show (8 * (i : Int)) = ((8 * i : Nat) : Int) by omega, wrapn _ (by omega)]; omega, ?_⟩
        conv => whnf
        refine .f (by rw [← byte_eq v i hv (by omega)]; simp) ?_
        conv => whnf
        exact ⟨i + 1, by omega, by omega, ⟨rfl, rfl, rfl, rfl, rfl, rfl, rfl, congrArg (fun x => some (SV.int .i64 x)) (by rw [wrap_i64 _ (by omega) (by omega)]; omega), trivial⟩, ⟨rfl, rfl, trivial⟩⟩
      · have h : i = 1 := by have := of_decide_eq_false h; omega
        subst h
        conv => whnf
        refine .t rfl ?_
        conv => whnf
        refine .t rfl ?_
        conv => whnf
        refine .f rfl ?_
        conv => whnf
        refine .t rfl ?_
        conv => whnf
        refine ⟨by decide, ?_⟩
        conv => whnf
        intro ρ
        exact congrArg Value.bool (decide_eq_true (low_eq v _ hv _ rfl (by decide)))
  · refine ⟨by decide, ?_⟩
    conv => whnf
    refine ⟨by decide, ?_⟩
    conv => whnf
    have hp := pl_eq at_ 2 (shlI .i64 1 (IntKind.wrap .u64 ((1 : Nat) : Int))) (.inr (.inl rfl)) rfl
    have hq := plN_ok at_ (.inr (.inl rfl) : okN 2)
    rw [hp]
    generalize plN at_ 2 = q at hq
    refine ⟨fun h => ?_, fun h => ?_⟩
    · conv => whnf
      have e1 : IntKind.wrap .u64 (((8 : Nat) : Int) - 1) = ((8 - 1 : Nat) : Int) := by rw [show (((8 : Nat) : Int) - 1) = ((8 - 1 : Nat) : Int) by omega, wrapn _ (by omega)]
      have e2 : IntKind.wrap .u64 (((8 : Nat) : Int) + IntKind.wrap .u64 (shlI .i64 1 (IntKind.wrap .u64 1))) = ((8 + 2 : Nat) : Int) := by
        rw [show IntKind.wrap .u64 (shlI .i64 1 (IntKind.wrap .u64 1)) = ((2 : Nat) : Int) from rfl, ← Int.natCast_add, wrapn _ (by omega)]
      refine Spec.fn (store_ok 2 (fun _ => 0) (fun _ => 0) (8 - 1) (1) (90) (by decide) (.inl rfl) (by omega) (by decide) (by omega)) [0, 1] rfl rfl (fun _ => by rw [← e1]; rfl) rfl ⟨⟨by decide, rfl, rfl, _, rfl, fun _ => rfl, Nat.le_refl _, fun _ => Nat.le_refl _, id⟩, ⟨by decide, rfl, rfl, _, rfl, fun _ => rfl, Nat.le_refl _, fun _ => Nat.le_refl _, id⟩, trivial⟩ (fun _ _ => ⟨rfl, rfl, ⟨_, rfl, rfl, rfl⟩, ⟨_, rfl, rfl, rlen _ _ _ _ _⟩, trivial⟩) (fun _ _ => ?_)
      generalize hb1 : stB (fun _ => 0) (8 - 1) 90 1 = b1
      generalize tagsL (fun _ => 0) (8 - 1) 1 = t1
      have g1 : okB b1 := by rw [← hb1]; exact stB_ok (fun _ => by decide) _ _ _
      conv => whnf
      refine Spec.fn (store_ok 2 (b1) (t1) (8 + 2) (1) (165) (by decide) (.inl rfl) (by omega) (by decide) (by omega)) [0, 1] rfl rfl (fun _ => by rw [← e2]; rfl) rfl ⟨⟨by decide, rfl, rfl, _, rfl, fun _ => rfl, Nat.le_refl _, fun _ => Nat.le_refl _, id⟩, ⟨by decide, rfl, rfl, _, rfl, fun _ => rfl, Nat.le_refl _, fun _ => Nat.le_refl _, id⟩, trivial⟩ (fun _ _ => ⟨rfl, rfl, ⟨_, rfl, rfl, rfl⟩, ⟨_, rfl, rfl, rlen _ _ _ _ _⟩, trivial⟩) (fun _ _ => ?_)
      generalize hb2 : stB b1 (8 + 2) 165 1 = b2
      generalize tagsL t1 (8 + 2) 1 = t2
      have g2 : okB b2 := by rw [← hb2]; exact stB_ok g1 _ _ _
      conv => whnf
      refine Spec.fn (store_ok 2 (b2) (t2) (8) (2) (v) (hv) (.inr (.inl rfl)) (by omega) (by decide) (by omega)) [0, 1] rfl rfl (fun _ => rfl) rfl ⟨⟨by decide, rfl, rfl, _, rfl, fun _ => rfl, Nat.le_refl _, fun _ => Nat.le_refl _, id⟩, ⟨by decide, rfl, rfl, _, rfl, fun _ => rfl, Nat.le_refl _, fun _ => Nat.le_refl _, id⟩, trivial⟩ (fun _ _ => ⟨rfl, rfl, ⟨_, rfl, rfl, rfl⟩, ⟨_, rfl, rfl, rlen _ _ _ _ _⟩, trivial⟩) (fun _ _ => ?_)
      generalize hb3 : stB b2 8 v 2 = b3
      generalize tagsL t2 8 2 = t3
      have g3 : okB b3 := by rw [← hb3]; exact stB_ok g2 _ _ _
      conv => whnf
      refine .f rfl ?_
      conv => whnf
      refine Spec.fn (load_ok 2 (b3) (t3) (8) (2) g3 (.inr (.inl rfl)) (by omega) (by decide) (by omega)) [0, 1] rfl rfl (fun _ => rfl) rfl ⟨⟨by decide, rfl, rfl, _, rfl, fun _ => rfl, Nat.le_refl _, fun _ => Nat.le_refl _, id⟩, ⟨by decide, rfl, rfl, _, rfl, fun _ => rfl, Nat.le_refl _, fun _ => Nat.le_refl _, fun _ => rfl⟩, trivial⟩ (fun _ _ => ⟨rfl, rfl, ⟨_, rfl, rfl, rfl⟩, rfl, trivial⟩) (fun _ _ => ?_)
      conv => whnf
      refine Spec.fn (load_ok 2 (b3) (t3) (8 - 1) (1) g3 (.inl rfl) (by omega) (by decide) (by omega)) [0, 1] rfl rfl (fun _ => by rw [← e1]; rfl) rfl ⟨⟨by decide, rfl, rfl, _, rfl, fun _ => rfl, Nat.le_refl _, fun _ => Nat.le_refl _, id⟩, ⟨by decide, rfl, rfl, _, rfl, fun _ => rfl, Nat.le_refl _, fun _ => Nat.le_refl _, fun _ => rfl⟩, trivial⟩ (fun _ _ => ⟨rfl, rfl, ⟨_, rfl, rfl, rfl⟩, rfl, trivial⟩) (fun _ _ => ?_)
      conv => whnf
      refine Spec.fn (load_ok 2 (b3) (t3) (8 + 2) (1) g3 (.inl rfl) (by omega) (by decide) (by omega)) [0, 1] rfl rfl (fun _ => by rw [← e2]; rfl) rfl ⟨⟨by decide, rfl, rfl, _, rfl, fun _ => rfl, Nat.le_refl _, fun _ => Nat.le_refl _, id⟩, ⟨by decide, rfl, rfl, _, rfl, fun _ => rfl, Nat.le_refl _, fun _ => Nat.le_refl _, fun _ => rfl⟩, trivial⟩ (fun _ _ => ⟨rfl, rfl, ⟨_, rfl, rfl, rfl⟩, rfl, trivial⟩) (fun _ _ => ?_)
      have r1 : rdN b3 8 2 = v % 2 ^ (8 * 2) := by rw [← hb3]; exact rd_st _ _ _ (Nat.le_refl _)
      have r2 : rdN b3 (8 - 1) 1 = 90 := by rw [← hb3, rd_st_far _ _ _ _ _ _ (by omega), ← hb2, rd_st_far _ _ _ _ _ _ (by omega), ← hb1]; exact rd_st _ _ _ (Nat.le_refl _)
      have r3 : rdN b3 (8 + 2) 1 = 165 := by rw [← hb3, rd_st_far _ _ _ _ _ _ (by omega), ← hb2]; exact rd_st _ _ _ (Nat.le_refl _)
      have r4 : ∀ i, i < 2 → rdN b3 (8 + i) 1 = v / 2 ^ (8 * i) % 256 := fun i hi => by
        rw [← hb3]; simp only [rdN, Nat.add_zero, Nat.mul_zero, Nat.pow_zero, Nat.mul_one, Nat.zero_add]
        unfold stB; rw [if_pos ⟨by omega, by omega⟩, Nat.add_sub_cancel_left]
      rw [r1, r2, r3]
      clear hb1 hb2 hb3
      conv => whnf
      refine CodeL.loop tabOk (fun i : Nat => ([(1, .int .u64 (v : Int)), (7, .ptr 0 0), (9, .int .i64 ((2 : Nat) : Int)), (10, .int .u64 ((8 : Nat) : Int)), (13, .int .u64 ((v % 2 ^ (8 * 2) : Nat) : Int)), (15, .int .u64 ((90 : Nat) : Int)), (17, .int .u64 ((165 : Nat) : Int)), (19, .int .i64 (i : Int))], [(0, .cells [.slice 1 0 2 2]), (1, .row (ramV 2 b3 t3))])) (fun i => 2 - i) (fun i => i ≤ 2) rfl (fun i => ⟨rfl, rfl⟩) 0 (Nat.zero_le _) ⟨⟨rfl, rfl, rfl, rfl, rfl, rfl, rfl, rfl, trivial⟩, ⟨rfl, rfl, trivial⟩⟩ ?_
      intro i hi
      conv => whnf
      refine ⟨fun h => ?_, fun h => ?_⟩
      · have h : i < 2 := by have := of_decide_eq_true h; omega
        have e3 : IntKind.wrap .u64 (((8 : Nat) : Int) + IntKind.wrap .u64 (i : Int)) = ((8 + i : Nat) : Int) := by rw [wrapn i (by omega), ← Int.natCast_add, wrapn _ (by omega)]
        conv => whnf
        refine Spec.fn (load_ok 2 (b3) (t3) (8 + i) (1) g3 (.inl rfl) (by omega) (by decide) (by omega)) [0, 1] rfl rfl (fun _ => by rw [← e3]; rfl) rfl ⟨⟨by decide, rfl, rfl, _, rfl, fun _ => rfl, Nat.le_refl _, fun _ => Nat.le_refl _, id⟩, ⟨by decide, rfl, rfl, _, rfl, fun _ => rfl, Nat.le_refl _, fun _ => Nat.le_refl _, fun _ => rfl⟩, trivial⟩ (fun _ _ => ⟨rfl, rfl, ⟨_, rfl, rfl, rfl⟩, rfl, trivial⟩) (fun _ _ => ?_)
        rw [r4 i h]
        conv => whnf
        refine ⟨by rw [wrap_i64 _ (by omega) (by omega), show (8 * (i : Int)) = ((8 * i : Nat) : Int) by omega, wrapn _ (by omega)]; omega, ?_⟩
        conv => whnf
        refine .f (by rw [← byte_eq v i hv (by omega)]; simp) ?_
        conv => whnf
        exact ⟨i + 1, by omega, by omega, ⟨rfl, rfl, rfl, rfl, rfl, rfl, rfl, congrArg (fun x => some (SV.int .i64 x)) (by rw [wrap_i64 _ (by omega) (by omega)]; omega), trivial⟩, ⟨rfl, rfl, trivial⟩⟩
      · have h : i = 2 := by have := of_decide_eq_false h; omega
        subst h
        conv => whnf
        refine .t rfl ?_
        conv => whnf
        refine .t rfl ?_
        conv => whnf
        refine .f rfl ?_
        conv => whnf
        refine .t rfl ?_
        conv => whnf
        refine ⟨by decide, ?_⟩
        conv => whnf
        intro ρ
        exact congrArg Value.bool (decide_eq_true (low_eq v _ hv _ rfl (by decide)))
    · have h := of_decide_eq_false h
      conv => whnf
      have e1 : IntKind.wrap .u64 (((q : Nat) : Int) - 1) = ((q - 1 : Nat) : Int) := by rw [show (((q : Nat) : Int) - 1) = ((q - 1 : Nat) : Int) by omega, wrapn _ (by omega)]
      have e2 : IntKind.wrap .u64 (((q : Nat) : Int) + IntKind.wrap .u64 (shlI .i64 1 (IntKind.wrap .u64 1))) = ((q + 2 : Nat) : Int) := by
        rw [show IntKind.wrap .u64 (shlI .i64 1 (IntKind.wrap .u64 1)) = ((2 : Nat) : Int) from rfl, ← Int.natCast_add, wrapn _ (by omega)]
      refine Spec.fn (store_ok 2 (fun _ => 0) (fun _ => 0) (q - 1) (1) (90) (by decide) (.inl rfl) (by omega) (by decide) (by omega)) [0, 1] rfl rfl (fun _ => by rw [← e1]; rfl) rfl ⟨⟨by decide, rfl, rfl, _, rfl, fun _ => rfl, Nat.le_refl _, fun _ => Nat.le_refl _, id⟩, ⟨by decide, rfl, rfl, _, rfl, fun _ => rfl, Nat.le_refl _, fun _ => Nat.le_refl _, id⟩, trivial⟩ (fun _ _ => ⟨rfl, rfl, ⟨_, rfl, rfl, rfl⟩, ⟨_, rfl, rfl, rlen _ _ _ _ _⟩, trivial⟩) (fun _ _ => ?_)
      generalize hb1 : stB (fun _ => 0) (q - 1) 90 1 = b1
      generalize tagsL (fun _ => 0) (q - 1) 1 = t1
      have g1 : okB b1 := by rw [← hb1]; exact stB_ok (fun _ => by decide) _ _ _
      conv => whnf
      refine Spec.fn (store_ok 2 (b1) (t1) (q + 2) (1) (165) (by decide) (.inl rfl) (by omega) (by decide) (by omega)) [0, 1] rfl rfl (fun _ => by rw [← e2]; rfl) rfl ⟨⟨by decide, rfl, rfl, _, rfl, fun _ => rfl, Nat.le_refl _, fun _ => Nat.le_refl _, id⟩, ⟨by decide, rfl, rfl, _, rfl, fun _ => rfl, Nat.le_refl _, fun _ => Nat.le_refl _, id⟩, trivial⟩ (fun _ _ => ⟨rfl, rfl, ⟨_, rfl, rfl, rfl⟩, ⟨_, rfl, rfl, rlen _ _ _ _ _⟩, trivial⟩) (fun _ _ => ?_)
      generalize hb2 : stB b1 (q + 2) 165 1 = b2
      generalize tagsL t1 (q + 2) 1 = t2
      have g2 : okB b2 := by rw [← hb2]; exact stB_ok g1 _ _ _
      conv => whnf
      refine Spec.fn (store_ok 2 (b2) (t2) (q) (2) (v) (hv) (.inr (.inl rfl)) (by omega) (by decide) (by omega)) [0, 1] rfl rfl (fun _ => rfl) rfl ⟨⟨by decide, rfl, rfl, _, rfl, fun _ => rfl, Nat.le_refl _, fun _ => Nat.le_refl _, id⟩, ⟨by decide, rfl, rfl, _, rfl, fun _ => rfl, Nat.le_refl _, fun _ => Nat.le_refl _, id⟩, trivial⟩ (fun _ _ => ⟨rfl, rfl, ⟨_, rfl, rfl, rfl⟩, ⟨_, rfl, rfl, rlen _ _ _ _ _⟩, trivial⟩) (fun _ _ => ?_)
      generalize hb3 : stB b2 q v 2 = b3
      generalize tagsL t2 q 2 = t3
      have g3 : okB b3 := by rw [← hb3]; exact stB_ok g2 _ _ _
      conv => whnf
      refine .f rfl ?_
      conv => whnf
      refine Spec.fn (load_ok 2 (b3) (t3) (q) (2) g3 (.inr (.inl rfl)) (by omega) (by decide) (by omega)) [0, 1] rfl rfl (fun _ => rfl) rfl ⟨⟨by decide, rfl, rfl, _, rfl, fun _ => rfl, Nat.le_refl _, fun _ => Nat.le_refl _, id⟩, ⟨by decide, rfl, rfl, _, rfl, fun _ => rfl, Nat.le_refl _, fun _ => Nat.le_refl _, fun _ => rfl⟩, trivial⟩ (fun _ _ => ⟨rfl, rfl, ⟨_, rfl, rfl, rfl⟩, rfl, trivial⟩) (fun _ _ => ?_)
      conv => whnf
      refine Spec.fn (load_ok 2 (b3) (t3) (q - 1) (1) g3 (.inl rfl) (by omega) (by decide) (by omega)) [0, 1] rfl rfl (fun _ => by rw [← e1]; rfl) rfl ⟨⟨by decide, rfl, rfl, _, rfl, fun _ => rfl, Nat.le_refl _, fun _ => Nat.le_refl _, id⟩, ⟨by decide, rfl, rfl, _, rfl, fun _ => rfl, Nat.le_refl _, fun _ => Nat.le_refl _, fun _ => rfl⟩, trivial⟩ (fun _ _ => ⟨rfl, rfl, ⟨_, rfl, rfl, rfl⟩, rfl, trivial⟩) (fun _ _ => ?_)
      conv => whnf
      refine Spec.fn (load_ok 2 (b3) (t3) (q + 2) (1) g3 (.inl rfl) (by omega) (by decide) (by omega)) [0, 1] rfl rfl (fun _ => by rw [← e2]; rfl) rfl ⟨⟨by decide, rfl, rfl, _, rfl, fun _ => rfl, Nat.le_refl _, fun _ => Nat.le_refl _, id⟩, ⟨by decide, rfl, rfl, _, rfl, fun _ => rfl, Nat.le_refl _, fun _ => Nat.le_refl _, fun _ => rfl⟩, trivial⟩ (fun _ _ => ⟨rfl, rfl, ⟨_, rfl, rfl, rfl⟩, rfl, trivial⟩) (fun _ _ => ?_)
      have r1 : rdN b3 q 2 = v % 2 ^ (8 * 2) := by rw [← hb3]; exact rd_st _ _ _ (Nat.le_refl _)
      have r2 : rdN b3 (q - 1) 1 = 90 := by rw [← hb3, rd_st_far _ _ _ _ _ _ (by omega), ← hb2, rd_st_far _ _ _ _ _ _ (by omega), ← hb1]; exact rd_st _ _ _ (Nat.le_refl _)
      have r3 : rdN b3 (q + 2) 1 = 165 := by rw [← hb3, rd_st_far _ _ _ _ _ _ (by omega), ← hb2]; exact rd_st _ _ _ (Nat.le_refl _)
      have r4 : ∀ i, i < 2 → rdN b3 (q + i) 1 = v / 2 ^ (8 * i) % 256 := fun i hi => by
        rw [← hb3]; simp only [rdN, Nat.add_zero, Nat.mul_zero, Nat.pow_zero, Nat.mul_one, Nat.zero_add]
        unfold stB; rw [if_pos ⟨by omega, by omega⟩, Nat.add_sub_cancel_left]
      rw [r1, r2, r3]
      clear hb1 hb2 hb3
      conv => whnf
      refine CodeL.loop tabOk (fun i : Nat => ([(1, .int .u64 (v : Int)), (7, .ptr 0 0), (9, .int .i64 ((2 : Nat) : Int)), (10, .int .u64 ((q : Nat) : Int)), (13, .int .u64 ((v % 2 ^ (8 * 2) : Nat) : Int)), (15, .int .u64 ((90 : Nat) : Int)), (17, .int .u64 ((165 : Nat) : Int)), (19, .int .i64 (i : Int))], [(0, .cells [.slice 1 0 2 2]), (1, .row (ramV 2 b3 t3))])) (fun i => 2 - i) (fun i => i ≤ 2) rfl (fun i => ⟨rfl, rfl⟩) 0 (Nat.zero_le _) ⟨⟨rfl, rfl, rfl, rfl, rfl, rfl, rfl, rfl, trivial⟩, ⟨rfl, rfl, trivial⟩⟩ ?_
      intro i hi
      conv => whnf
      refine ⟨fun h => ?_, fun h => ?_⟩
      · have h : i < 2 := by have := of_decide_eq_true h; omega
        have e3 : IntKind.wrap .u64 (((q : Nat) : Int) + IntKind.wrap .u64 (i : Int)) = ((q + i : Nat) : Int) := by rw [wrapn i (by omega), ← Int.natCast_add, wrapn _ (by omega)]
        conv => whnf
        refine Spec.fn (load_ok 2 (b3) (t3) (q + i) (1) g3 (.inl rfl) (by omega) (by decide) (by omega)) [0, 1] rfl rfl (fun _ => by rw [← e3]; rfl) rfl ⟨⟨by decide, rfl, rfl, _, rfl, fun _ => rfl, Nat.le_refl _, fun _ => Nat.le_refl _, id⟩, ⟨by decide, rfl, rfl, _, rfl, fun _ => rfl, Nat.le_refl _, fun _ => Nat.le_refl _, fun _ => rfl⟩, trivial⟩ (fun _ _ => ⟨rfl, rfl, ⟨_, rfl, rfl, rfl⟩, rfl, trivial⟩) (fun _ _ => ?_)
        rw [r4 i h]
        conv => whnf
        refine ⟨by rw [wrap_i64 _ (by omega) (by omega), show (8 * (i : Int)) = ((8 * i : Nat) : Int) by omega, wrapn _ (by omega)]; omega, ?_⟩
        conv => whnf
        refine .f (by rw [← byte_eq v i hv (by omega)]; simp) ?_
        conv => whnf
        exact ⟨i + 1, by omega, by omega, ⟨rfl, rfl, rfl, rfl, rfl, rfl, rfl, congrArg (fun x => some (SV.int .i64 x)) (by rw [wrap_i64 _ (by omega) (by omega)]; omega), trivial⟩, ⟨rfl, rfl, trivial⟩⟩
      · have h : i = 2 := by have := of_decide_eq_false h; omega
        subst h
        conv => whnf
        refine .t rfl ?_
        conv => whnf
        refine .t rfl ?_
        conv => whnf
        refine .f rfl ?_
        conv => whnf
        refine .t rfl ?_
        conv => whnf
        refine ⟨by decide, ?_⟩
        conv => whnf
        intro ρ
        exact congrArg Value.bool (decide_eq_true (low_eq v _ hv _ rfl (by decide)))
  · refine ⟨by decide, ?_⟩
    conv => whnf
    refine ⟨by decide, ?_⟩
    conv => whnf
    have hp := pl_eq at_ 4 (shlI .i64 1 (IntKind.wrap .u64 ((2 : Nat) : Int))) (.inr (.inr (.inl rfl))) rfl
    have hq := plN_ok at_ (.inr (.inr (.inl rfl)) : okN 4)
    rw [hp]
    generalize plN at_ 4 = q at hq
    refine ⟨fun h => ?_, fun h => ?_⟩
    · conv => whnf
      have e1 : IntKind.wrap .u64 (((8 : Nat) : Int) - 1) = ((8 - 1 : Nat) : Int) := by rw [show (((8 : Nat) : Int) - 1) = ((8 - 1 : Nat) : Int) by omega, wrapn _ (by omega)]
      have e2 : IntKind.wrap .u64 (((8 : Nat) : Int) + IntKind.wrap .u64 (shlI .i64 1 (IntKind.wrap .u64 2))) = ((8 + 4 : Nat) : Int) := by
        rw [show IntKind.wrap .u64 (shlI .i64 1 (IntKind.wrap .u64 2)) = ((4 : Nat) : Int) from rfl, ← Int.natCast_add, wrapn _ (by omega)]
      refine Spec.fn (store_ok 2 (fun _ => 0) (fun _ => 0) (8 - 1) (1) (90) (by decide) (.inl rfl) (by omega) (by decide) (by omega)) [0, 1] rfl rfl (fun _ => by rw [← e1]; rfl) rfl ⟨⟨by decide, rfl, rfl, _, rfl, fun _ => rfl, Nat.le_refl _, fun _ => Nat.le_refl _, id⟩, ⟨by decide, rfl, rfl, _, rfl, fun _ => rfl, Nat.le_refl _, fun _ => Nat.le_refl _, id⟩, trivial⟩ (fun _ _ => ⟨rfl, rfl, ⟨_, rfl, rfl, rfl⟩, ⟨_, rfl, rfl, rlen _ _ _ _ _⟩, trivial⟩) (fun _ _ => ?_)
      generalize hb1 : stB (fun _ => 0) (8 - 1) 90 1 = b1
      generalize tagsL (fun _ => 0) (8 - 1) 1 = t1
      have g1 : okB b1 := by rw [← hb1]; exact stB_ok (fun _ => by decide) _ _ _
      conv => whnf
      refine Spec.fn (store_ok 2 (b1) (t1) (8 + 4) (1) (165) (by decide) (.inl rfl) (by omega) (by decide) (by omega)) [0, 1] rfl rfl (fun _ => by rw [← e2]; rfl) rfl ⟨⟨by decide, rfl, rfl, _, rfl, fun _ => rfl, Nat.le_refl _, fun _ => Nat.le_refl _, id⟩, ⟨by decide, rfl, rfl, _, rfl, fun _ => rfl, Nat.le_refl _, fun _ => Nat.le_refl _, id⟩, trivial⟩ (fun _ _ => ⟨rfl, rfl, ⟨_, rfl, rfl, rfl⟩, ⟨_, rfl, rfl, rlen _ _ _ _ _⟩, trivial⟩) (fun _ _ => ?_)
      generalize hb2 : stB b1 (8 + 4) 165 1 = b2
      generalize tagsL t1 (8 + 4) 1 = t2
      have g2 : okB b2 := by rw [← hb2]; exact stB_ok g1 _ _ _
      conv => whnf
      refine Spec.fn (store_ok 2 (b2) (t2) (8) (4) (v) (hv) (.inr (.inr (.inl rfl))) (by omega) (by decide) (by omega)) [0, 1] rfl rfl (fun _ => rfl) rfl ⟨⟨by decide, rfl, rfl, _, rfl, fun _ => rfl, Nat.le_refl _, fun _ => Nat.le_refl _, id⟩, ⟨by decide, rfl, rfl, _, rfl, fun _ => rfl, Nat.le_refl _, fun _ => Nat.le_refl _, id⟩, trivial⟩ (fun _ _ => ⟨rfl, rfl, ⟨_, rfl, rfl, rfl⟩, ⟨_, rfl, rfl, rlen _ _ _ _ _⟩, trivial⟩) (fun _ _ => ?_)
      generalize hb3 : stB b2 8 v 4 = b3
      generalize tagsL t2 8 4 = t3
      have g3 : okB b3 := by rw [← hb3]; exact stB_ok g2 _ _ _
      conv => whnf
      refine .f rfl ?_
      conv => whnf
      refine Spec.fn (load_ok 2 (b3) (t3) (8) (4) g3 (.inr (.inr (.inl rfl))) (by omega) (by decide) (by omega)) [0, 1] rfl rfl (fun _ => rfl) rfl ⟨⟨by decide, rfl, rfl, _, rfl, fun _ => rfl, Nat.le_refl _, fun _ => Nat.le_refl _, id⟩, ⟨by decide, rfl, rfl, _, rfl, fun _ => rfl, Nat.le_refl _, fun _ => Nat.le_refl _, fun _ => rfl⟩, trivial⟩ (fun _ _ => ⟨rfl, rfl, ⟨_, rfl, rfl, rfl⟩, rfl, trivial⟩) (fun _ _ => ?_)
      conv => whnf
      refine Spec.fn (load_ok 2 (b3) (t3) (8 - 1) (1) g3 (.inl rfl) (by omega) (by decide) (by omega)) [0, 1] rfl rfl (fun _ => by rw [← e1]; rfl) rfl ⟨⟨by decide, rfl, rfl, _, rfl, fun _ => rfl, Nat.le_refl _, fun _ => Nat.le_refl _, id⟩, ⟨by decide, rfl, rfl, _, rfl, fun _ => rfl, Nat.le_refl _, fun _ => Nat.le_refl _, fun _ => rfl⟩, trivial⟩ (fun _ _ => ⟨rfl, rfl, ⟨_, rfl, rfl, rfl⟩, rfl, trivial⟩) (fun _ _ => ?_)
      conv => whnf
      refine Spec.fn (load_ok 2 (b3) (t3) (8 + 4) (1) g3 (.inl rfl) (by omega) (by decide) (by omega)) [0, 1] rfl rfl (fun _ => by rw [← e2]; rfl) rfl ⟨⟨by decide, rfl, rfl, _, rfl, fun _ => rfl, Nat.le_refl _, fun _ => Nat.le_refl _, id⟩, ⟨by decide, rfl, rfl, _, rfl, fun _ => rfl, Nat.le_refl _, fun _ => Nat.le_refl _, fun _ => rfl⟩, trivial⟩ (fun _ _ => ⟨rfl, rfl, ⟨_, rfl, rfl, rfl⟩, rfl, trivial⟩) (fun _ _ => ?_)
      have r1 : rdN b3 8 4 = v % 2 ^ (8 * 4) := by rw [← hb3]; exact rd_st _ _ _ (Nat.le_refl _)
      have r2 : rdN b3 (8 - 1) 1 = 90 := by rw [← hb3, rd_st_far _ _ _ _ _ _ (by omega), ← hb2, rd_st_far _ _ _ _ _ _ (by omega), ← hb1]; exact rd_st _ _ _ (Nat.le_refl _)
      have r3 : rdN b3 (8 + 4) 1 = 165 := by rw [← hb3, rd_st_far _ _ _ _ _ _ (by omega), ← hb2]; exact rd_st _ _ _ (Nat.le_refl _)
      have r4 : ∀ i, i < 4 → rdN b3 (8 + i) 1 = v / 2 ^ (8 * i) % 256 := fun i hi => by
        rw [← hb3]; simp only [rdN, Nat.add_zero, Nat.mul_zero, Nat.pow_zero, Nat.mul_one, Nat.zero_add]
        unfold stB; rw [if_pos ⟨by omega, by omega⟩, Nat.add_sub_cancel_left]
      rw [r1, r2, r3]
      clear hb1 hb2 hb3
      conv => whnf
      refine CodeL.loop tabOk (fun i : Nat => ([(1, .int .u64 (v : Int)), (7, .ptr 0 0), (9, .int .i64 ((4 : Nat) : Int)), (10, .int .u64 ((8 : Nat) : Int)), (13, .int .u64 ((v % 2 ^ (8 * 4) : Nat) : Int)), (15, .int .u64 ((90 : Nat) : Int)), (17, .int .u64 ((165 : Nat) : Int)), (19, .int .i64 (i : Int))], [(0, .cells [.slice 1 0 2 2]), (1, .row (ramV 2 b3 t3))])) (fun i => 4 - i) (fun i => i ≤ 4) rfl (fun i => ⟨rfl, rfl⟩) 0 (Nat.zero_le _) ⟨⟨rfl, rfl, rfl, rfl, rfl, rfl, rfl, rfl, trivial⟩, ⟨rfl, rfl, trivial⟩⟩ ?_
      intro i hi
      conv => whnf
      refine ⟨fun h => ?_, fun h => ?_⟩
      · have h : i < 4 := by have := of_decide_eq_true h; omega
        have e3 : IntKind.wrap .u64 (((8 : Nat) : Int) + IntKind.wrap .u64 (i : Int)) = ((8 + i : Nat) : Int) := by rw [wrapn i (by omega), ← Int.natCast_add, wrapn _ (by omega)]
        conv => whnf
        refine Spec.fn (load_ok 2 (b3) (t3) (8 + i) (1) g3 (.inl rfl) (by omega) (by decide) (by omega)) [0, 1] rfl rfl (fun _ => by rw [← e3]; rfl) rfl ⟨⟨by decide, rfl, rfl, _, rfl, fun _ => rfl, Nat.le_refl _, fun _ => Nat.le_refl _, id⟩, ⟨by decide, rfl, rfl, _, rfl, fun _ => rfl, Nat.le_refl _, fun _ => Nat.le_refl _, fun _ => rfl⟩, trivial⟩ (fun _ _ => ⟨rfl, rfl, ⟨_, rfl, rfl, rfl⟩, rfl, trivial⟩) (fun _ _ => ?_)
        rw [r4 i h]
        conv => whnf
        refine ⟨by rw [wrap_i64 _ (by omega) (by omega), show (8 * (i : Int)) = ((8 * i : Nat) : Int) by omega, wrapn _ (by omega)]; omega, ?_⟩
        conv => whnf
        refine .f (by rw [← byte_eq v i hv (by omega)]; simp) ?_
        conv => whnf
        exact ⟨i + 1, by omega, by omega, ⟨rfl, rfl, rfl, rfl, rfl, rfl, rfl, congrArg (fun x => some (SV.int .i64 x)) (by rw [wrap_i64 _ (by omega) (by omega)]; omega), trivial⟩, ⟨rfl, rfl, trivial⟩⟩
      · have h : i = 4 := by have := of_decide_eq_false h; omega
        subst h
        conv => whnf
        refine .t rfl ?_
        conv => whnf
        refine .t rfl ?_
        conv => whnf
        refine .f rfl ?_
        conv => whnf
        refine .t rfl ?_
        conv => whnf
        refine ⟨by decide, ?_⟩
        conv => whnf
        intro ρ
        exact congrArg Value.bool (decide_eq_true (low_eq v _ hv _ rfl (by decide)))
    · have h := of_decide_eq_false h
      conv => whnf
      have e1 : IntKind.wrap .u64 (((q : Nat) : Int) - 1) = ((q - 1 : Nat) : Int) := by rw [show (((q : Nat) : Int) - 1) = ((q - 1 : Nat) : Int) by omega, wrapn _ (by omega)]
      have e2 : IntKind.wrap .u64 (((q : Nat) : Int) + IntKind.wrap .u64 (shlI .i64 1 (IntKind.wrap .u64 2))) = ((q + 4 : Nat) : Int) := by
        rw [show IntKind.wrap .u64 (shlI .i64 1 (IntKind.wrap .u64 2)) = ((4 : Nat) : Int) from rfl, ← Int.natCast_add, wrapn _ (by omega)]
      refine Spec.fn (store_ok 2 (fun _ => 0) (fun _ => 0) (q - 1) (1) (90) (by decide) (.inl rfl) (by omega) (by decide) (by omega)) [0, 1] rfl rfl (fun _ => by rw [← e1]; rfl) rfl ⟨⟨by decide, rfl, rfl, _, rfl, fun _ => rfl, Nat.le_refl _, fun _ => Nat.le_refl _, id⟩, ⟨by decide, rfl, rfl, _, rfl, fun _ => rfl, Nat.le_refl _, fun _ => Nat.le_refl _, id⟩, trivial⟩ (fun _ _ => ⟨rfl, rfl, ⟨_, rfl, rfl, rfl⟩, ⟨_, rfl, rfl, rlen _ _ _ _ _⟩, trivial⟩) (fun _ _ => ?_)
      generalize hb1 : stB (fun _ => 0) (q - 1) 90 1 = b1
      generalize tagsL (fun _ => 0) (q - 1) 1 = t1
      have g1 : okB b1 := by rw [← hb1]; exact stB_ok (fun _ => by decide) _ _ _
      conv => whnf
      refine Spec.fn (store_ok 2 (b1) (t1) (q + 4) (1) (165) (by decide) (.inl rfl) (by omega) (by decide) (by omega)) [0, 1] rfl rfl (fun _ => by rw [← e2]; rfl) rfl ⟨⟨by decide, rfl, rfl, _, rfl, fun _ => rfl, Nat.le_refl _, fun _ => Nat.le_refl _, id⟩, ⟨by decide, rfl, rfl, _, rfl, fun _ => rfl, Nat.le_refl _, fun _ => Nat.le_refl _, id⟩, trivial⟩ (fun _ _ => ⟨rfl, rfl, ⟨_, rfl, rfl, rfl⟩, ⟨_, rfl, rfl, rlen _ _ _ _ _⟩, trivial⟩) (fun _ _ => ?_)
      generalize hb2 : stB b1 (q + 4) 165 1 = b2
      generalize tagsL t1 (q + 4) 1 = t2
      have g2 : okB b2 := by rw [← hb2]; exact stB_ok g1 _ _ _
      conv => whnf
      refine Spec.fn (store_ok 2 (b2) (t2) (q) (4) (v) (hv) (.inr (.inr (.inl rfl))) (by omega) (by decide) (by omega)) [0, 1] rfl rfl (fun _ => rfl) rfl ⟨⟨by decide, rfl, rfl, _, rfl, fun _ => rfl, Nat.le_refl _, fun _ => Nat.le_refl _, id⟩, ⟨by decide, rfl, rfl, _, rfl, fun _ => rfl, Nat.le_refl _, fun _ => Nat.le_refl _, id⟩, trivial⟩ (fun _ _ => ⟨rfl, rfl, ⟨_, rfl, rfl, rfl⟩, ⟨_, rfl, rfl, rlen _ _ _ _ _⟩, trivial⟩) (fun _ _ => ?_)
      generalize hb3 : stB b2 q v 4 = b3
      generalize tagsL t2 q 4 = t3
      have g3 : okB b3 := by rw [← hb3]; exact stB_ok g2 _ _ _
      conv => whnf
      refine .f rfl ?_
      conv => whnf
      refine Spec.fn (load_ok 2 (b3) (t3) (q) (4) g3 (.inr (.inr (.inl rfl))) (by omega) (by decide) (by omega)) [0, 1] rfl rfl (fun _ => rfl) rfl ⟨⟨by decide, rfl, rfl, _, rfl, fun _ => rfl, Nat.le_refl _, fun _ => Nat.le_refl _, id⟩, ⟨by decide, rfl, rfl, _, rfl, fun _ => rfl, Nat.le_refl _, fun _ => Nat.le_refl _, fun _ => rfl⟩, trivial⟩ (fun _ _ => ⟨rfl, rfl, ⟨_, rfl, rfl, rfl⟩, rfl, trivial⟩) (fun _ _ => ?_)
      conv => whnf
      refine Spec.fn (load_ok 2 (b3) (t3) (q - 1) (1) g3 (.inl rfl) (by omega) (by decide) (by omega)) [0, 1] rfl rfl (fun _ => by rw [← e1]; rfl) rfl ⟨⟨by decide, rfl, rfl, _, rfl, fun _ => rfl, Nat.le_refl _, fun _ => Nat.le_refl _, id⟩, ⟨by decide, rfl, rfl, _, rfl, fun _ => rfl, Nat.le_refl _, fun _ => Nat.le_refl _, fun _ => rfl⟩, trivial⟩ (fun _ _ => ⟨rfl, rfl, ⟨_, rfl, rfl, rfl⟩, rfl, trivial⟩) (fun _ _ => ?_)
      conv => whnf
      refine Spec.fn (load_ok 2 (b3) (t3) (q + 4) (1) g3 (.inl rfl) (by omega) (by decide) (by omega)) [0, 1] rfl rfl (fun _ => by rw [← e2]; rfl) rfl ⟨⟨by decide, rfl, rfl, _, rfl, fun _ => rfl, Nat.le_refl _, fun _ => Nat.le_refl _, id⟩, ⟨by decide, rfl, rfl, _, rfl, fun _ => rfl, Nat.le_refl _, fun _ => Nat.le_refl _, fun _ => rfl⟩, trivial⟩ (fun _ _ => ⟨rfl, rfl, ⟨_, rfl, rfl, rfl⟩, rfl, trivial⟩) (fun _ _ => ?_)
      have r1 : rdN b3 q 4 = v % 2 ^ (8 * 4) := by rw [← hb3]; exact rd_st _ _ _ (Nat.le_refl _)
      have r2 : rdN b3 (q - 1) 1 = 90 := by rw [← hb3, rd_st_far _ _ _ _ _ _ (by omega), ← hb2, rd_st_far _ _ _ _ _ _ (by omega), ← hb1]; exact rd_st _ _ _ (Nat.le_refl _)
      have r3 : rdN b3 (q + 4) 1 = 165 := by rw [← hb3, rd_st_far _ _ _ _ _ _ (by omega), ← hb2]; exact rd_st _ _ _ (Nat.le_refl _)
      have r4 : ∀ i, i < 4 → rdN b3 (q + i) 1 = v / 2 ^ (8 * i) % 256 := fun i hi => by
        rw [← hb3]; simp only [rdN, Nat.add_zero, Nat.mul_zero, Nat.pow_zero, Nat.mul_one, Nat.zero_add]
        unfold stB; rw [if_pos ⟨by omega, by omega⟩, Nat.add_sub_cancel_left]
      rw [r1, r2, r3]
      clear hb1 hb2 hb3
      conv => whnf
      refine CodeL.loop tabOk (fun i : Nat => ([(1, .int .u64 (v : Int)), (7, .ptr 0 0), (9, .int .i64 ((4 : Nat) : Int)), (10, .int .u64 ((q : Nat) : Int)), (13, .int .u64 ((v % 2 ^ (8 * 4) : Nat) : Int)), (15, .int .u64 ((90 : Nat) : Int)), (17, .int .u64 ((165 : Nat) : Int)), (19, .int .i64 (i : Int))], [(0, .cells [.slice 1 0 2 2]), (1, .row (ramV 2 b3 t3))])) (fun i => 4 - i) (fun i => i ≤ 4) rfl (fun i => ⟨rfl, rfl⟩) 0 (Nat.zero_le _) ⟨⟨rfl, rfl, rfl, rfl, rfl, rfl, rfl, rfl, trivial⟩, ⟨rfl, rfl, trivial⟩⟩ ?_
      intro i hi
      conv => whnf
      refine ⟨fun h => ?_, fun h => ?_⟩
      · have h : i < 4 := by have := of_decide_eq_true h; omega
        have e3 : IntKind.wrap .u64 (((q : Nat) : Int) + IntKind.wrap .u64 (i : Int)) = ((q + i : Nat) : Int) := by rw [wrapn i (by omega), ← Int.natCast_add, wrapn _ (by omega)]
        conv => whnf
        refine Spec.fn (load_ok 2 (b3) (t3) (q + i) (1) g3 (.inl rfl) (by omega) (by decide) (by omega)) [0, 1] rfl rfl (fun _ => by rw [← e3]; rfl) rfl ⟨⟨by decide, rfl, rfl, _, rfl, fun _ => rfl, Nat.le_refl _, fun _ => Nat.le_refl _, id⟩, ⟨by decide, rfl, rfl, _, rfl, fun _ => rfl, Nat.le_refl _, fun _ => Nat.le_refl _, fun _ => rfl⟩, trivial⟩ (fun _ _ => ⟨rfl, rfl, ⟨_, rfl, rfl, rfl⟩, rfl, trivial⟩) (fun _ _ => ?_)
        rw [r4 i h]
        conv => whnf
        refine ⟨by rw [wrap_i64 _ (by omega) (by omega), show (8 * (i : Int)) = ((8 * i : Nat) : Int) by omega, wrapn _ (by omega)]; omega, ?_⟩
        conv => whnf
        refine .f (by rw [← byte_eq v i hv (by omega)]; simp) ?_
        conv => whnf
        exact ⟨i + 1, by omega, by omega, ⟨rfl, rfl, rfl, rfl, rfl, rfl, rfl, congrArg (fun x => some (SV.int .i64 x)) (by rw [wrap_i64 _ (by omega) (by omega)]; omega), trivial⟩, ⟨rfl, rfl, trivial⟩⟩
      · have h : i = 4 := by have := of_decide_eq_false h; omega
        subst h
        conv => whnf
        refine .t rfl ?_
        conv => whnf
        refine .t rfl ?_
        conv => whnf
        refine .f rfl ?_
        conv => whnf
        refine .t rfl ?_
        conv => whnf
        refine ⟨by decide, ?_⟩
        conv => whnf
        intro ρ
        exact congrArg Value.bool (decide_eq_true (low_eq v _ hv _ rfl (by decide)))
  · refine ⟨by decide, ?_⟩
    conv => whnf
    refine ⟨by decide, ?_⟩
    conv => whnf
    have hp := pl_eq at_ 8 (shlI .i64 1 (IntKind.wrap .u64 ((3 : Nat) : Int))) (.inr (.inr (.inr rfl))) rfl
    have hq := plN_ok at_ (.inr (.inr (.inr rfl)) : okN 8)
    rw [hp]
    generalize plN at_ 8 = q at hq
    refine ⟨fun h => ?_, fun h => ?_⟩
    · conv => whnf
      have e1 : IntKind.wrap .u64 (((8 : Nat) : Int) - 1) = ((8 - 1 : Nat) : Int) := by rw [show (((8 : Nat) : Int) - 1) = ((8 - 1 : Nat) : Int) by omega, wrapn _ (by omega)]
      have e2 : IntKind.wrap .u64 (((8 : Nat) : Int) + IntKind.wrap .u64 (shlI .i64 1 (IntKind.wrap .u64 3))) = ((8 + 8 : Nat) : Int) := by
        rw [show IntKind.wrap .u64 (shlI .i64 1 (IntKind.wrap .u64 3)) = ((8 : Nat) : Int) from rfl, ← Int.natCast_add, wrapn _ (by omega)]
      refine Spec.fn (store_ok 2 (fun _ => 0) (fun _ => 0) (8 - 1) (1) (90) (by decide) (.inl rfl) (by omega) (by decide) (by omega)) [0, 1] rfl rfl (fun _ => by rw [← e1]; rfl) rfl ⟨⟨by decide, rfl, rfl, _, rfl, fun _ => rfl, Nat.le_refl _, fun _ => Nat.le_refl _, id⟩, ⟨by decide, rfl, rfl, _, rfl, fun _ => rfl, Nat.le_refl _, fun _ => Nat.le_refl _, id⟩, trivial⟩ (fun _ _ => ⟨rfl, rfl, ⟨_, rfl, rfl, rfl⟩, ⟨_, rfl, rfl, rlen _ _ _ _ _⟩, trivial⟩) (fun _ _ => ?_)
      generalize hb1 : stB (fun _ => 0) (8 - 1) 90 1 = b1
      generalize tagsL (fun _ => 0) (8 - 1) 1 = t1
      have g1 : okB b1 := by rw [← hb1]; exact stB_ok (fun _ => by decide) _ _ _
      conv => whnf
      refine Spec.fn (store_ok 2 (b1) (t1) (8 + 8) (1) (165) (by decide) (.inl rfl) (by omega) (by decide) (by omega)) [0, 1] rfl rfl (fun _ => by rw [← e2]; rfl) rfl ⟨⟨by decide, rfl, rfl, _, rfl, fun _ => rfl, Nat.le_refl _, fun _ => Nat.le_refl _, id⟩, ⟨by decide, rfl, rfl, _, rfl, fun _ => rfl, Nat.le_refl _, fun _ => Nat.le_refl _, id⟩, trivial⟩ (fun _ _ => ⟨rfl, rfl, ⟨_, rfl, rfl, rfl⟩, ⟨_, rfl, rfl, rlen _ _ _ _ _⟩, trivial⟩) (fun _ _ => ?_)
      generalize hb2 : stB b1 (8 + 8) 165 1 = b2
      generalize tagsL t1 (8 + 8) 1 = t2
      have g2 : okB b2 := by rw [← hb2]; exact stB_ok g1 _ _ _
      conv => whnf
      refine Spec.fn (store_ok 2 (b2) (t2) (8) (8) (v) (hv) (.inr (.inr (.inr rfl))) (by omega) (by decide) (by omega)) [0, 1] rfl rfl (fun _ => rfl) rfl ⟨⟨by decide, rfl, rfl, _, rfl, fun _ => rfl, Nat.le_refl _, fun _ => Nat.le_refl _, id⟩, ⟨by decide, rfl, rfl, _, rfl, fun _ => rfl, Nat.le_refl _, fun _ => Nat.le_refl _, id⟩, trivial⟩ (fun _ _ => ⟨rfl, rfl, ⟨_, rfl, rfl, rfl⟩, ⟨_, rfl, rfl, rlen _ _ _ _ _⟩, trivial⟩) (fun _ _ => ?_)
      generalize hb3 : stB b2 8 v 8 = b3
      generalize tagsL t2 8 8 = t3
      have g3 : okB b3 := by rw [← hb3]; exact stB_ok g2 _ _ _
      conv => whnf
      refine .f rfl ?_
      conv => whnf
      refine Spec.fn (load_ok 2 (b3) (t3) (8) (8) g3 (.inr (.inr (.inr rfl))) (by omega) (by decide) (by omega)) [0, 1] rfl rfl (fun _ => rfl) rfl ⟨⟨by decide, rfl, rfl, _, rfl, fun _ => rfl, Nat.le_refl _, fun _ => Nat.le_refl _, id⟩, ⟨by decide, rfl, rfl, _, rfl, fun _ => rfl, Nat.le_refl _, fun _ => Nat.le_refl _, fun _ => rfl⟩, trivial⟩ (fun _ _ => ⟨rfl, rfl, ⟨_, rfl, rfl, rfl⟩, rfl, trivial⟩) (fun _ _ => ?_)
      conv => whnf
      refine Spec.fn (load_ok 2 (b3) (t3) (8 - 1) (1) g3 (.inl rfl) (by omega) (by decide) (by omega)) [0, 1] rfl rfl (fun _ => by rw [← e1]; rfl) rfl ⟨⟨by decide, rfl, rfl, _, rfl, fun _ => rfl, Nat.le_refl _, fun _ => Nat.le_refl _, id⟩, ⟨by decide, rfl, rfl, _, rfl, fun _ => rfl, Nat.le_refl _, fun _ => Nat.le_refl _, fun _ => rfl⟩, trivial⟩ (fun _ _ => ⟨rfl, rfl, ⟨_, rfl, rfl, rfl⟩, rfl, trivial⟩) (fun _ _ => ?_)
      conv => whnf
      refine Spec.fn (load_ok 2 (b3) (t3) (8 + 8) (1) g3 (.inl rfl) (by omega) (by decide) (by omega)) [0, 1] rfl rfl (fun _ => by rw [← e2]; rfl) rfl ⟨⟨by decide, rfl, rfl, _, rfl, fun _ => rfl, Nat.le_refl _, fun _ => Nat.le_refl _, id⟩, ⟨by decide, rfl, rfl, _, rfl, fun _ => rfl, Nat.le_refl _, fun _ => Nat.le_refl _, fun _ => rfl⟩, trivial⟩ (fun _ _ => ⟨rfl, rfl, ⟨_, rfl, rfl, rfl⟩, rfl, trivial⟩) (fun _ _ => ?_)
      have r1 : rdN b3 8 8 = v % 2 ^ (8 * 8) := by rw [← hb3]; exact rd_st _ _ _ (Nat.le_refl _)
      have r2 : rdN b3 (8 - 1) 1 = 90 := by rw [← hb3, rd_st_far _ _ _ _ _ _ (by omega), ← hb2, rd_st_far _ _ _ _ _ _ (by omega), ← hb1]; exact rd_st _ _ _ (Nat.le_refl _)
      have r3 : rdN b3 (8 + 8) 1 = 165 := by rw [← hb3, rd_st_far _ _ _ _ _ _ (by omega), ← hb2]; exact rd_st _ _ _ (Nat.le_refl _)
      have r4 : ∀ i, i < 8 → rdN b3 (8 + i) 1 = v / 2 ^ (8 * i) % 256 := fun i hi => by
        rw [← hb3]; simp only [rdN, Nat.add_zero, Nat.mul_zero, Nat.pow_zero, Nat.mul_one, Nat.zero_add]
        unfold stB; rw [if_pos ⟨by omega, by omega⟩, Nat.add_sub_cancel_left]
      rw [r1, r2, r3]
      clear hb1 hb2 hb3
      conv => whnf
      refine CodeL.loop tabOk (fun i : Nat => ([(1, .int .u64 (v : Int)), (7, .ptr 0 0), (9, .int .i64 ((8 : Nat) : Int)), (10, .int .u64 ((8 : Nat) : Int)), (13, .int .u64 ((v % 2 ^ (8 * 8) : Nat) : Int)), (15, .int .u64 ((90 : Nat) : Int)), (17, .int .u64 ((165 : Nat) : Int)), (19, .int .i64 (i : Int))], [(0, .cells [.slice 1 0 2 2]), (1, .row (ramV 2 b3 t3))])) (fun i => 8 - i) (fun i => i ≤ 8) rfl (fun i => ⟨rfl, rfl⟩) 0 (Nat.zero_le _) ⟨⟨rfl, rfl, rfl, rfl, rfl, rfl, rfl, rfl, trivial⟩, ⟨rfl, rfl, trivial⟩⟩ ?_
      intro i hi
      conv => whnf
      refine ⟨fun h => ?_, fun h => ?_⟩
      · have h : i < 8 := by have := of_decide_eq_true h; omega
        have e3 : IntKind.wrap .u64 (((8 : Nat) : Int) + IntKind.wrap .u64 (i : Int)) = ((8 + i : Nat) : Int) := by rw [wrapn i (by omega), ← Int.natCast_add, wrapn _ (by omega)]
        conv => whnf
        refine Spec.fn (load_ok 2 (b3) (t3) (8 + i) (1) g3 (.inl rfl) (by omega) (by decide) (by omega)) [0, 1] rfl rfl (fun _ => by rw [← e3]; rfl) rfl ⟨⟨by decide, rfl, rfl, _, rfl, fun _ => rfl, Nat.le_refl _, fun _ => Nat.le_refl _, id⟩, ⟨by decide, rfl, rfl, _, rfl, fun _ => rfl, Nat.le_refl _, fun _ => Nat.le_refl _, fun _ => rfl⟩, trivial⟩ (fun _ _ => ⟨rfl, rfl, ⟨_, rfl, rfl, rfl⟩, rfl, trivial⟩) (fun _ _ => ?_)
        rw [r4 i h]
        conv => whnf
        refine ⟨by rw [wrap_i64 _ (by omega) (by omega), show (8 * (i : Int)) = ((8 * i : Nat) : Int) by omega, wrapn _ (by omega)]; omega, ?_⟩
        conv => whnf
        refine .f (by rw [← byte_eq v i hv (by omega)]; simp) ?_
        conv => whnf
        exact ⟨i + 1, by omega, by omega, ⟨rfl, rfl, rfl, rfl, rfl, rfl, rfl, congrArg (fun x => some (SV.int .i64 x)) (by rw [wrap_i64 _ (by omega) (by omega)]; omega), trivial⟩, ⟨rfl, rfl, trivial⟩⟩
      · have h : i = 8 := by have := of_decide_eq_false h; omega
        subst h
        conv => whnf
        refine .t rfl ?_
        conv => whnf
        refine .t rfl ?_
        conv => whnf
        refine .t rfl ?_
        conv => whnf
        refine .t (decide_eq_true (by rw [Nat.mod_eq_of_lt hv])) ?_
        conv => whnf
        intro ρ
        rfl
    · have h := of_decide_eq_false h
      conv => whnf
      have e1 : IntKind.wrap .u64 (((q : Nat) : Int) - 1) = ((q - 1 : Nat) : Int) := by rw [show (((q : Nat) : Int) - 1) = ((q - 1 : Nat) : Int) by omega, wrapn _ (by omega)]
      have e2 : IntKind.wrap .u64 (((q : Nat) : Int) + IntKind.wrap .u64 (shlI .i64 1 (IntKind.wrap .u64 3))) = ((q + 8 : Nat) : Int) := by
        rw [show IntKind.wrap .u64 (shlI .i64 1 (IntKind.wrap .u64 3)) = ((8 : Nat) : Int) from rfl, ← Int.natCast_add, wrapn _ (by omega)]
      refine Spec.fn (store_ok 2 (fun _ => 0) (fun _ => 0) (q - 1) (1) (90) (by decide) (.inl rfl) (by omega) (by decide) (by omega)) [0, 1] rfl rfl (fun _ => by rw [← e1]; rfl) rfl ⟨⟨by decide, rfl, rfl, _, rfl, fun _ => rfl, Nat.le_refl _, fun _ => Nat.le_refl _, id⟩, ⟨by decide, rfl, rfl, _, rfl, fun _ => rfl, Nat.le_refl _, fun _ => Nat.le_refl _, id⟩, trivial⟩ (fun _ _ => ⟨rfl, rfl, ⟨_, rfl, rfl, rfl⟩, ⟨_, rfl, rfl, rlen _ _ _ _ _⟩, trivial⟩) (fun _ _ => ?_)
      generalize hb1 : stB (fun _ => 0) (q - 1) 90 1 = b1
      generalize tagsL (fun _ => 0) (q - 1) 1 = t1
      have g1 : okB b1 := by rw [← hb1]; exact stB_ok (fun _ => by decide) _ _ _
      conv => whnf
      refine Spec.fn (store_ok 2 (b1) (t1) (q + 8) (1) (165) (by decide) (.inl rfl) (by omega) (by decide) (by omega)) [0, 1] rfl rfl (fun _ => by rw [← e2]; rfl) rfl ⟨⟨by decide, rfl, rfl, _, rfl, fun _ => rfl, Nat.le_refl _, fun _ => Nat.le_refl _, id⟩, ⟨by decide, rfl, rfl, _, rfl, fun _ => rfl, Nat.le_refl _, fun _ => Nat.le_refl _, id⟩, trivial⟩ (fun _ _ => ⟨rfl, rfl, ⟨_, rfl, rfl, rfl⟩, ⟨_, rfl, rfl, rlen _ _ _ _ _⟩, trivial⟩) (fun _ _ => ?_)
      generalize hb2 : stB b1 (q + 8) 165 1 = b2
      generalize tagsL t1 (q + 8) 1 = t2
      have g2 : okB b2 := by rw [← hb2]; exact stB_ok g1 _ _ _
      conv => whnf
      refine Spec.fn (store_ok 2 (b2) (t2) (q) (8) (v) (hv) (.inr (.inr (.inr rfl))) (by omega) (by decide) (by omega)) [0, 1] rfl rfl (fun _ => rfl) rfl ⟨⟨by decide, rfl, rfl, _, rfl, fun _ => rfl, Nat.le_refl _, fun _ => Nat.le_refl _, id⟩, ⟨by decide, rfl, rfl, _, rfl, fun _ => rfl, Nat.le_refl _, fun _ => Nat.le_refl _, id⟩, trivial⟩ (fun _ _ => ⟨rfl, rfl, ⟨_, rfl, rfl, rfl⟩, ⟨_, rfl, rfl, rlen _ _ _ _ _⟩, trivial⟩) (fun _ _ => ?_)
      generalize hb3 : stB b2 q v 8 = b3
      generalize tagsL t2 q 8 = t3
      have g3 : okB b3 := by rw [← hb3]; exact stB_ok g2 _ _ _
      conv => whnf
      refine .f rfl ?_
      conv => whnf
      refine Spec.fn (load_ok 2 (b3) (t3) (q) (8) g3 (.inr (.inr (.inr rfl))) (by omega) (by decide) (by omega)) [0, 1] rfl rfl (fun _ => rfl) rfl ⟨⟨by decide, rfl, rfl, _, rfl, fun _ => rfl, Nat.le_refl _, fun _ => Nat.le_refl _, id⟩, ⟨by decide, rfl, rfl, _, rfl, fun _ => rfl, Nat.le_refl _, fun _ => Nat.le_refl _, fun _ => rfl⟩, trivial⟩ (fun _ _ => ⟨rfl, rfl, ⟨_, rfl, rfl, rfl⟩, rfl, trivial⟩) (fun _ _ => ?_)
      conv => whnf
      refine Spec.fn (load_ok 2 (b3) (t3) (q - 1) (1) g3 (.inl rfl) (by omega) (by decide) (by omega)) [0, 1] rfl rfl (fun _ => by rw [← e1]; rfl) rfl ⟨⟨by decide, rfl, rfl, _, rfl, fun _ => rfl, Nat.le_refl _, fun _ => Nat.le_refl _, id⟩, ⟨by decide, rfl, rfl, _, rfl, fun _ => rfl, Nat.le_refl _, fun _ => Nat.le_refl _, fun _ => rfl⟩, trivial⟩ (fun _ _ => ⟨rfl, rfl, ⟨_, rfl, rfl, rfl⟩, rfl, trivial⟩) (fun _ _ => ?_)
      conv => whnf
      refine Spec.fn (load_ok 2 (b3) (t3) (q + 8) (1) g3 (.inl rfl) (by omega) (by decide) (by omega)) [0, 1] rfl rfl (fun _ => by rw [← e2]; rfl) rfl ⟨⟨by decide, rfl, rfl, _, rfl, fun _ => rfl, Nat.le_refl _, fun _ => Nat.le_refl _, id⟩, ⟨by decide, rfl, rfl, _, rfl, fun _ => rfl, Nat.le_refl _, fun _ => Nat.le_refl _, fun _ => rfl⟩, trivial⟩ (fun _ _ => ⟨rfl, rfl, ⟨_, rfl, rfl, rfl⟩, rfl, trivial⟩) (fun _ _ => ?_)
      have r1 : rdN b3 q 8 = v % 2 ^ (8 * 8) := by rw [← hb3]; exact rd_st _ _ _ (Nat.le_refl _)
      have r2 : rdN b3 (q - 1) 1 = 90 := by rw [← hb3, rd_st_far _ _ _ _ _ _ (by omega), ← hb2, rd_st_far _ _ _ _ _ _ (by omega), ← hb1]; exact rd_st _ _ _ (Nat.le_refl _)
      have r3 : rdN b3 (q + 8) 1 = 165 := by rw [← hb3, rd_st_far _ _ _ _ _ _ (by omega), ← hb2]; exact rd_st _ _ _ (Nat.le_refl _)
      have r4 : ∀ i, i < 8 → rdN b3 (q + i) 1 = v / 2 ^ (8 * i) % 256 := fun i hi => by
        rw [← hb3]; simp only [rdN, Nat.add_zero, Nat.mul_zero, Nat.pow_zero, Nat.mul_one, Nat.zero_add]
        unfold stB; rw [if_pos ⟨by omega, by omega⟩, Nat.add_sub_cancel_left]
      rw [r1, r2, r3]
      clear hb1 hb2 hb3
      conv => whnf
      refine CodeL.loop tabOk (fun i : Nat => ([(1, .int .u64 (v : Int)), (7, .ptr 0 0), (9, .int .i64 ((8 : Nat) : Int)), (10, .int .u64 ((q : Nat) : Int)), (13, .int .u64 ((v % 2 ^ (8 * 8) : Nat) : Int)), (15, .int .u64 ((90 : Nat) : Int)), (17, .int .u64 ((165 : Nat) : Int)), (19, .int .i64 (i : Int))], [(0, .cells [.slice 1 0 2 2]), (1, .row (ramV 2 b3 t3))])) (fun i => 8 - i) (fun i => i ≤ 8) rfl (fun i => ⟨rfl, rfl⟩) 0 (Nat.zero_le _) ⟨⟨rfl, rfl, rfl, rfl, rfl, rfl, rfl, rfl, trivial⟩, ⟨rfl, rfl, trivial⟩⟩ ?_
      intro i hi
      conv => whnf
      refine ⟨fun h => ?_, fun h => ?_⟩
      · have h : i < 8 := by have := of_decide_eq_true h; omega
        have e3 : IntKind.wrap .u64 (((q : Nat) : Int) + IntKind.wrap .u64 (i : Int)) = ((q + i : Nat) : Int) := by rw [wrapn i (by omega), ← Int.natCast_add, wrapn _ (by omega)]
        conv => whnf
        refine Spec.fn (load_ok 2 (b3) (t3) (q + i) (1) g3 (.inl rfl) (by omega) (by decide) (by omega)) [0, 1] rfl rfl (fun _ => by rw [← e3]; rfl) rfl ⟨⟨by decide, rfl, rfl, _, rfl, fun _ => rfl, Nat.le_refl _, fun _ => Nat.le_refl _, id⟩, ⟨by decide, rfl, rfl, _, rfl, fun _ => rfl, Nat.le_refl _, fun _ => Nat.le_refl _, fun _ => rfl⟩, trivial⟩ (fun _ _ => ⟨rfl, rfl, ⟨_, rfl, rfl, rfl⟩, rfl, trivial⟩) (fun _ _ => ?_)
        rw [r4 i h]
        conv => whnf
        refine ⟨by rw [wrap_i64 _ (by omega) (by omega), show (8 * (i : Int)) = ((8 * i : Nat) : Int) by omega, wrapn _ (by omega)]; omega, ?_⟩
        conv => whnf
        refine .f (by rw [← byte_eq v i hv (by omega)]; simp) ?_
        conv => whnf
        exact ⟨i + 1, by omega, by omega, ⟨rfl, rfl, rfl, rfl, rfl, rfl, rfl, congrArg (fun x => some (SV.int .i64 x)) (by rw [wrap_i64 _ (by omega) (by omega)]; omega), trivial⟩, ⟨rfl, rfl, trivial⟩⟩
      · have h : i = 8 := by have := of_decide_eq_false h; omega
        subst h
        conv => whnf
        refine .t rfl ?_
        conv => whnf
        refine .t rfl ?_
        conv => whnf
        refine .t rfl ?_
        conv => whnf
        refine .t (decide_eq_true (by rw [Nat.mod_eq_of_lt hv])) ?_
        conv => whnf
        intro ρ
        rfl
end Go.Sh.YtimlenccbchidaaRRR
