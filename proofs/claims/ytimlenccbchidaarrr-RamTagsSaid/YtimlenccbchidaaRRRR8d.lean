import Derived.Test.YtimlenccbchidaaRRRR8c
import Derived.Test.YtimlenccbchidaaRRRR8a
import Derived.Test.YtimlenccbchidaaRRRSh30
set_option linter.unusedVariables false
namespace Go.Sh.YtimlenccbchidaaRRR
open Go.Proofs Go.Sh

def sw45 : Nat → Nat × Nat := fun k => if k = 4 then (5, 0) else if k = 5 then (4, 0) else (k, 0)
theorem sw45_low : ∀ k, k < 4 → sw45 k = (k, 0) := fun k h => by
  unfold sw45; rw [if_neg (by omega), if_neg (by omega)]
theorem sw45_inj (i j : Nat) (hi : i < 6) (hj : j < 6) (h : i ≠ j) : (sw45 i).1 ≠ (sw45 j).1 := by
  unfold sw45
  split <;> split <;> (try split) <;> (try split) <;> simp only [] <;> omega
theorem cover_one (o : Nat) (j : Nat) : coverP ((o % 4096 : Nat) : Int) ((1 : Nat) : Int) j = decide (o % 4096 / 16 = j) := by
  unfold coverP
  exact decide_eq_decide.2 (by omega)
/-- The tag of a granule behind the store of a byte. -/
theorem tags_far (t : Nat → Nat) (p o : Nat) (tg : Bool) (hp : p % 16 = 0) : getB (tagsL (fset t (p / 4096) (withS (t (p / 4096)) ((p % 4096 / 16 : Nat) : Int) tg)) o 1 (p / 4096)) ((p % 4096 / 16 : Nat) : Int) = (decide (o / 16 ≠ p / 16) && tg) := by
  have hk : p % 4096 / 16 < 256 := by omega
  rw [getB_nat _ _ hk]
  unfold tagsL
  by_cases e : p / 4096 = o / 4096
  · rw [← e, fset_same, fset_same, diffS_bit, buildS_bit _ _ _ (by decide), withS_bit, cover_one]
    rw [if_pos ⟨by omega, by omega, by omega⟩]
    have : decide (o / 16 ≠ p / 16) = !decide (o % 4096 / 16 = p % 4096 / 16) := by
      rw [← decide_not]; exact decide_eq_decide.2 (by omega)
    rw [this, decide_eq_true hk]
    cases tg <;> simp
  · rw [fset_ne _ _ e, fset_same, withS_bit, if_pos ⟨by omega, by omega, by omega⟩, decide_eq_true (show o / 16 ≠ p / 16 by omega)]; rfl
theorem flat4 : FlatT Try.prog 4 [.bool] := FlatT.bool Try.underlying4
theorem flat22 : FlatT Try.prog 22 [.int .u64] := FlatT.int Try.underlying22
theorem flat33 : FlatT Try.prog 33 [.bool, .int .u64, .int .u64] := FlatT.struct Try.underlying33 (by kernel_rfl) ⟨rfl, [.bool], _, rfl, flat4, by kernel_rfl, ⟨rfl, [.int .u64], _, rfl, flat22, by kernel_rfl, ⟨rfl, [.int .u64], _, rfl, flat22, by kernel_rfl, rfl⟩⟩⟩
set_option maxHeartbeats 2000000 in
theorem ramtags_ok (tg : Bool) (m ad : Nat) (at_ off : Int) (hm : m < 2 ^ 64) (hc : ad < 2 ^ 64) : Pure Try.prog 4 [.agg [.bool tg, .int .u64 (m : Int), .int .u64 (ad : Int)], .int .i64 at_, .int .i64 off] .tt := by
  refine Spec.of_body tabOk Try.func4 rfl (ent Try.func4 rfl (by kernel_rfl)) Try.ntmps4 rfl (by kernel_rfl) (Nat.le_of_ble_eq_true rfl) ?_
  conv => whnf
  refine Spec.fn (new_ok 2 (by decide) (by decide)) [] rfl rfl (fun _ => rfl) rfl trivial (fun _ _ => ⟨rfl, rfl, trivial⟩) (fun _ _ => ?_)
  conv => whnf
  refine .f rfl ?_
  conv => whnf
  have e1 : band .and .i64 at_ 511 = ((at_ % (512 : Nat)).toNat : Int) := band_mask at_ 9 (by decide)
  have h1 := mod_lt' at_ (m := 512) (by decide)
  have e2 : band .and .i64 off 8191 = ((off % (8192 : Nat)).toNat : Int) := band_mask off 13 (by decide)
  have h2 := mod_lt' off (m := 8192) (by decide)
  have ep : IntKind.wrap .u64 (IntKind.wrap .u64 (band .and .i64 at_ 511) * 16) = (((at_ % (512 : Nat)).toNat * 16 : Nat) : Int) := by
    rw [e1, wrapn _ (by omega), show (((at_ % (512 : Nat)).toNat : Nat) : Int) * 16 = (((at_ % (512 : Nat)).toNat * 16 : Nat) : Int) by omega, wrapn _ (by omega)]
  have hp : (at_ % (512 : Nat)).toNat * 16 < 8192 ∧ (at_ % (512 : Nat)).toNat * 16 % 16 = 0 := by omega
  have eo : IntKind.wrap .u64 (band .and .i64 off 8191) = ((off % (8192 : Nat)).toNat : Int) := by
    rw [e2, wrapn _ (by omega)]
  generalize (at_ % (512 : Nat)).toNat * 16 = p at hp ep
  generalize (off % (8192 : Nat)).toNat = o at h2 eo
  clear e1 e2 h1
  rw [ep]
  refine Spec.fn (storecap_ok 2 (fun _ => 0) (fun _ => 0) p tg m ad hm hc (by omega) (by decide) hp.2) [1, 2] rfl rfl (fun _ => rfl) rfl ⟨⟨by decide, rfl, rfl, _, rfl, fun _ => rfl, Nat.le_refl _, fun _ => Nat.le_refl _, id⟩, ⟨by decide, rfl, rfl, _, rfl, fun _ => rfl, Nat.le_refl _, fun _ => Nat.le_refl _, id⟩, trivial⟩ (fun _ _ => ⟨rfl, rfl, ⟨_, rfl, rfl, rfl⟩, ⟨_, rfl, rfl, rlen _ _ _ _ _⟩, trivial⟩) (fun _ _ => ?_)
  have f1 : ∀ j, j < 16 → cpB (fun _ => 0) p (capF m ad) (p + j) = capF m ad j := fun j hj => by rw [cpB_in ⟨by omega, by omega⟩, Nat.add_sub_cancel_left]
  have g1 : okB (cpB (fun _ => 0) p (capF m ad)) := cpB_ok (fun _ => by decide) (capF_ok m ad) p
  have f2 := tags_far (fun _ => 0) p o tg hp.2
  generalize cpB (fun _ => 0) p (capF m ad) = b1 at f1 g1
  generalize fset (fun _ => 0) (p / 4096) (withS ((fun _ => 0) (p / 4096)) ((p % 4096 / 16 : Nat) : Int) tg) = t1 at f2
  conv => whnf
  refine .f rfl ?_
  conv => whnf
  rw [eo]
  refine Spec.fn (store_ok 2 (b1) (t1) (o) (1) (171) (by decide) (.inl rfl) (by omega) (by decide) (by omega)) [1, 2] rfl rfl (fun _ => rfl) rfl ⟨⟨by decide, rfl, rfl, _, rfl, fun _ => rfl, Nat.le_refl _, fun _ => Nat.le_refl _, id⟩, ⟨by decide, rfl, rfl, _, rfl, fun _ => rfl, Nat.le_refl _, fun _ => Nat.le_refl _, id⟩, trivial⟩ (fun _ _ => ⟨rfl, rfl, ⟨_, rfl, rfl, rfl⟩, ⟨_, rfl, rfl, rlen _ _ _ _ _⟩, trivial⟩) (fun _ _ => ?_)
  have f3 : ∀ j, j < 16 → stB b1 o 171 1 (p + j) = if p + j = o then 171 else capF m ad j := fun j hj => by
    unfold stB
    by_cases e : p + j = o
    · rw [if_pos (by omega), if_pos e, show p + j - o = 0 by omega]
    · rw [if_neg (by omega), if_neg e, f1 j hj]
  have g2 : okB (stB b1 o 171 1) := stB_ok g1 _ _ _
  have r1 : rdN (stB b1 o 171 1) o 1 = 171 := rd_st _ _ _ (Nat.le_refl _)
  generalize stB b1 o 171 1 = b2 at f3 g2 r1
  generalize tagsL t1 o 1 = t2 at f2
  clear f1 g1
  conv => whnf
  refine .f rfl ?_
  conv => whnf
  refine Spec.fn (loadcap_ok 2 b2 t2 p g2 (by omega) (by decide) hp.2) [1, 2] rfl rfl (fun _ => rfl) rfl ⟨⟨by decide, rfl, rfl, _, rfl, fun _ => rfl, Nat.le_refl _, fun _ => Nat.le_refl _, id⟩, ⟨by decide, rfl, rfl, _, rfl, fun _ => rfl, Nat.le_refl _, fun _ => Nat.le_refl _, fun _ => rfl⟩, trivial⟩ (fun _ _ => ⟨rfl, rfl, ⟨_, rfl, rfl, rfl⟩, rfl, trivial⟩) (fun _ _ => ?_)
  rw [f2]
  have gf : okB fun i => b2 (p + i) := fun i => g2 _
  have f4 : ∀ j, j < 16 → (fun i => b2 (p + i)) j = if p + j = o then 171 else capF m ad j := f3
  generalize (fun i => b2 (p + i)) = f at gf f4
  have k1 : ∀ j, j < 16 → capF (rdN f 8 8) (rdN f 0 8) j = if p + j = o then 171 else capF m ad j := fun j hj => by rw [capF_rd gf hj, f4 j hj]
  have k2 : o / 16 ≠ p / 16 → rdN f 8 8 = m ∧ rdN f 0 8 = ad := fun h => rd_capF hm hc fun j hj => by rw [f4 j hj, if_neg (by omega)]
  have k3 : rdN f 8 8 < 2 ^ 64 := rdN_lt gf 8 8
  have k4 : rdN f 0 8 < 2 ^ 64 := rdN_lt gf 0 8
  generalize rdN f 8 8 = m2 at k1 k2 k3
  generalize rdN f 0 8 = a2 at k1 k2 k4
  clear f4 gf f3 f2
  conv => whnf
  refine Spec.fn (load_ok 2 (b2) (t2) (o) (1) g2 (.inl rfl) (by omega) (by decide) (by omega)) [1, 2] rfl rfl (fun _ => by rw [← eo]; rfl) rfl ⟨⟨by decide, rfl, rfl, _, rfl, fun _ => rfl, Nat.le_refl _, fun _ => Nat.le_refl _, id⟩, ⟨by decide, rfl, rfl, _, rfl, fun _ => rfl, Nat.le_refl _, fun _ => Nat.le_refl _, fun _ => rfl⟩, trivial⟩ (fun _ _ => ⟨rfl, rfl, ⟨_, rfl, rfl, rfl⟩, rfl, trivial⟩) (fun _ _ => ?_)
  rw [r1]
  conv => whnf
  refine .f rfl ?_
  conv => whnf
  have q1 : IntKind.wrap .u64 ((o : Int).tdiv 16) = ((o / 16 : Nat) : Int) := quo_nat o 16 (by omega)
  have q2 : IntKind.wrap .u64 ((p : Int).tdiv 16) = ((p / 16 : Nat) : Int) := quo_nat p 16 (by omega)
  rw [q1, q2]
  by_cases hin : o / 16 = p / 16
  · rw [decide_eq_true (show ((o / 16 : Nat) : Int) = ((p / 16 : Nat) : Int) by omega), decide_eq_false (show ¬ o / 16 ≠ p / 16 by omega), Bool.false_and]
    refine .t rfl ?_
    conv => whnf
    refine .f rfl ?_
    conv => whnf
    refine .f rfl ?_
    conv => whnf
    refine CodeL.cut 6 (by decide) (fun _ : Unit => ([(10, .int .u64 (o : Int)), (15, .tt), (16, .ptr 4 0), (17, .ptr 5 0)], [(4, .row (SV.vals zenv (b16 (capF m ad)))), (5, .row (SV.vals zenv (b16 (capF m2 a2))))])) (fun _ => True) (fun _ => rfl) ?_ (fun _ _ => ?_)
    · refine CodeL.any tabOk Try.checked.mixed [(0, .cells [.bool tg, .int .u64 (m : Int), .int .u64 (ad : Int)]), (3, .cells [.bool false, .int .u64 (m2 : Int), .int .u64 (a2 : Int)])] (.take 0 (.take 2 (.alt 1 (.alt 3 (.alt 4 (.alt 5 (.alt 6 (.alt 7 (.fin) .stop) .stop) .stop) (.alt 5 (.alt 4 (.alt 6 (.alt 7 (.fin) .stop) .stop) .stop) .stop)) (.alt 4 (.alt 3 (.alt 5 (.alt 6 (.alt 7 (.fin) .stop) .stop) .stop) (.alt 5 (.alt 3 (.alt 6 (.alt 7 (.fin) .stop) .stop) .stop) .stop)) (.alt 5 (.alt 3 (.alt 4 (.alt 6 (.alt 7 (.fin) .stop) .stop) .stop) (.alt 4 (.alt 3 (.alt 6 (.alt 7 (.fin) .stop) .stop) .stop) .stop)) .stop))) (.alt 4 (.alt 1 (.alt 3 (.alt 5 (.alt 6 (.alt 7 (.fin) .stop) .stop) .stop) (.alt 5 (.alt 3 (.alt 6 (.alt 7 (.fin) .stop) .stop) .stop) .stop)) (.alt 5 (.alt 1 (.alt 3 (.alt 6 (.alt 7 (.fin) .stop) .stop) .stop) .stop) .stop)) (.alt 5 (.alt 1 (.alt 3 (.alt 4 (.alt 6 (.alt 7 (.fin) .stop) .stop) .stop) (.alt 4 (.alt 3 (.alt 6 (.alt 7 (.fin) .stop) .stop) .stop) .stop)) (.alt 4 (.alt 1 (.alt 3 (.alt 6 (.alt 7 (.fin) .stop) .stop) .stop) .stop) .stop)) .stop))))) (by kernel_rfl) rfl ⟨rfl, rfl, trivial⟩ rfl ?_
      have z0 : (0 : Nat) < 1 := by decide
      repeat' ((try (conv => whnf)); first
        | (refine Spec.pure (bytes_ok tg m ad hm hc) rfl rfl (fun _ => rfl) ?_)
        | (refine Spec.pure (bytes_ok false m2 a2 (k3) (k4)) rfl rfl (fun _ => rfl) ?_)
        | (refine Needs.mk ⟨rfl, rfl, trivial⟩ ?_)
        | (refine And.intro ?_ ?_)
        | exact ⟨(), fun k => (k, 0), trivial, fun _ _ => rfl, ⟨⟨_, rfl, fun _ => rfl⟩, ⟨_, rfl, fun _ => rfl⟩, ⟨_, rfl, fun _ => rfl⟩, ⟨_, rfl, fun _ => rfl⟩, trivial⟩, Part.same ⟨⟨by decide, rfl, rfl, _, rfl, fun _ => rfl, Nat.le_refl _, fun _ => Nat.le_refl _, id⟩, ⟨by decide, rfl, rfl, _, rfl, fun _ => rfl, Nat.le_refl _, fun _ => Nat.le_refl _, id⟩, trivial⟩ (fun i j _ _ h => h)⟩
        | exact ⟨(), sw45, trivial, sw45_low, ⟨⟨_, rfl, fun _ => rfl⟩, ⟨_, rfl, fun _ => rfl⟩, ⟨_, rfl, fun _ => rfl⟩, ⟨_, rfl, fun _ => rfl⟩, trivial⟩, Part.same ⟨⟨by decide, rfl, rfl, _, rfl, fun _ => rfl, Nat.le_refl _, fun _ => Nat.le_refl _, id⟩, ⟨by decide, rfl, rfl, _, rfl, fun _ => rfl, Nat.le_refl _, fun _ => Nat.le_refl _, id⟩, trivial⟩ sw45_inj⟩)
    conv => whnf
    refine CodeL.loop tabOk (fun i : Nat => ([(10, .int .u64 (o : Int)), (15, .tt), (16, .ptr 4 0), (17, .ptr 5 0), (18, .int .i64 (i : Int))], [(4, .row (SV.vals zenv (b16 (capF m ad)))), (5, .row (SV.vals zenv (b16 (capF m2 a2))))])) (fun i => 16 - i) (fun i => i ≤ 16) rfl (fun i => ⟨rfl, rfl⟩) 0 (Nat.zero_le _) ⟨⟨rfl, rfl, rfl, rfl, rfl, trivial⟩, ⟨rfl, rfl, trivial⟩⟩ ?_
    intro i hi
    conv => whnf
    refine ⟨fun h => ?_, fun h => ?_⟩
    · have h : i < 16 := by have := of_decide_eq_true h; omega
      conv => whnf
      refine CodeL.draw tabOk Try.checked.mixed 18 (by kernel_rfl) rfl ?_
      conv => whnf
      refine .there i rfl h ?_
      conv => whnf
      refine .at1 (.int .u8 (capF m ad i : Nat)) i (by show 0 + i * 1 = i; omega) (b16_get _ h) rfl ?_
      conv => whnf
      refine .there i rfl h ?_
      conv => whnf
      refine .at1 (.int .u8 (capF m2 a2 i : Nat)) i (by show 0 + i * 1 = i; omega) (b16_get _ h) rfl ?_
      conv => whnf
      refine ⟨fun hne => ?_, fun hne => ?_⟩
      · have hne : capF m ad i ≠ capF m2 a2 i := fun e => by rw [e] at hne; simp at hne
        have ho : o = p + i := Decidable.byContradiction fun e => hne (by rw [k1 i h, if_neg (fun g => e g.symm)])
        have ho2 : IntKind.wrap .i64 ((o : Int).tmod 16) = (i : Int) := by
          rw [show (16 : Int) = ((16 : Nat) : Int) from rfl, rem_nat, wrap_i64 _ (by omega) (by omega)]; omega
        conv => whnf
        refine .f (by rw [ho2]; simp) ?_
        conv => whnf
        exact ⟨i + 1, by omega, by omega, ⟨rfl, rfl, rfl, rfl, congrArg (fun x => some (SV.int .i64 x)) (by rw [wrap_i64 _ (by omega) (by omega)]; omega), trivial⟩, ⟨rfl, rfl, trivial⟩⟩
      · conv => whnf
        exact ⟨i + 1, by omega, by omega, ⟨rfl, rfl, rfl, rfl, congrArg (fun x => some (SV.int .i64 x)) (by rw [wrap_i64 _ (by omega) (by omega)]; omega), trivial⟩, ⟨rfl, rfl, trivial⟩⟩
    · have h : i = 16 := by have := of_decide_eq_false h; omega
      subst h
      conv => whnf
      intro ρ
      rfl
  · rw [decide_eq_false (show ¬ ((o / 16 : Nat) : Int) = ((p / 16 : Nat) : Int) by omega), decide_eq_true hin, Bool.true_and]
    obtain ⟨i1, i2⟩ := k2 hin
    rw [i1, i2]
    rw [i1, i2] at k1
    clear k2 k3 k4
    clear i1 i2
    refine .f rfl ?_
    conv => whnf
    refine .t rfl ?_
    conv => whnf
    refine VL.op (VL.eq tabOk ?_)
    conv => whnf
    refine ⟨by kernel_rfl, ?_⟩
    conv => whnf
    refine ⟨⟨rfl, by kernel_rfl⟩, ?_⟩
    conv => whnf
    refine .f (by simp) ?_
    conv => whnf
    refine CodeL.cut 6 (by decide) (fun _ : Unit => ([(10, .int .u64 (o : Int)), (15, .ff), (16, .ptr 4 0), (17, .ptr 5 0)], [(4, .row (SV.vals zenv (b16 (capF m ad)))), (5, .row (SV.vals zenv (b16 (capF m ad))))])) (fun _ => True) (fun _ => rfl) ?_ (fun _ _ => ?_)
    · refine CodeL.any tabOk Try.checked.mixed [(0, .cells [.bool tg, .int .u64 (m : Int), .int .u64 (ad : Int)]), (3, .cells [.bool tg, .int .u64 (m : Int), .int .u64 (ad : Int)])] (.take 0 (.take 2 (.alt 1 (.alt 3 (.alt 4 (.alt 5 (.alt 6 (.alt 7 (.fin) .stop) .stop) .stop) (.alt 5 (.alt 4 (.alt 6 (.alt 7 (.fin) .stop) .stop) .stop) .stop)) (.alt 4 (.alt 3 (.alt 5 (.alt 6 (.alt 7 (.fin) .stop) .stop) .stop) (.alt 5 (.alt 3 (.alt 6 (.alt 7 (.fin) .stop) .stop) .stop) .stop)) (.alt 5 (.alt 3 (.alt 4 (.alt 6 (.alt 7 (.fin) .stop) .stop) .stop) (.alt 4 (.alt 3 (.alt 6 (.alt 7 (.fin) .stop) .stop) .stop) .stop)) .stop))) (.alt 4 (.alt 1 (.alt 3 (.alt 5 (.alt 6 (.alt 7 (.fin) .stop) .stop) .stop) (.alt 5 (.alt 3 (.alt 6 (.alt 7 (.fin) .stop) .stop) .stop) .stop)) (.alt 5 (.alt 1 (.alt 3 (.alt 6 (.alt 7 (.fin) .stop) .stop) .stop) .stop) .stop)) (.alt 5 (.alt 1 (.alt 3 (.alt 4 (.alt 6 (.alt 7 (.fin) .stop) .stop) .stop) (.alt 4 (.alt 3 (.alt 6 (.alt 7 (.fin) .stop) .stop) .stop) .stop)) (.alt 4 (.alt 1 (.alt 3 (.alt 6 (.alt 7 (.fin) .stop) .stop) .stop) .stop) .stop)) .stop))))) (by kernel_rfl) rfl ⟨rfl, rfl, trivial⟩ rfl ?_
      have z0 : (0 : Nat) < 1 := by decide
      repeat' ((try (conv => whnf)); first
        | (refine Spec.pure (bytes_ok tg m ad hm hc) rfl rfl (fun _ => rfl) ?_)
        | (refine Spec.pure (bytes_ok tg m ad (hm) (hc)) rfl rfl (fun _ => rfl) ?_)
        | (refine Needs.mk ⟨rfl, rfl, trivial⟩ ?_)
        | (refine And.intro ?_ ?_)
        | exact ⟨(), fun k => (k, 0), trivial, fun _ _ => rfl, ⟨⟨_, rfl, fun _ => rfl⟩, ⟨_, rfl, fun _ => rfl⟩, ⟨_, rfl, fun _ => rfl⟩, ⟨_, rfl, fun _ => rfl⟩, trivial⟩, Part.same ⟨⟨by decide, rfl, rfl, _, rfl, fun _ => rfl, Nat.le_refl _, fun _ => Nat.le_refl _, id⟩, ⟨by decide, rfl, rfl, _, rfl, fun _ => rfl, Nat.le_refl _, fun _ => Nat.le_refl _, id⟩, trivial⟩ (fun i j _ _ h => h)⟩
        | exact ⟨(), sw45, trivial, sw45_low, ⟨⟨_, rfl, fun _ => rfl⟩, ⟨_, rfl, fun _ => rfl⟩, ⟨_, rfl, fun _ => rfl⟩, ⟨_, rfl, fun _ => rfl⟩, trivial⟩, Part.same ⟨⟨by decide, rfl, rfl, _, rfl, fun _ => rfl, Nat.le_refl _, fun _ => Nat.le_refl _, id⟩, ⟨by decide, rfl, rfl, _, rfl, fun _ => rfl, Nat.le_refl _, fun _ => Nat.le_refl _, id⟩, trivial⟩ sw45_inj⟩)
    conv => whnf
    refine CodeL.loop tabOk (fun i : Nat => ([(10, .int .u64 (o : Int)), (15, .ff), (16, .ptr 4 0), (17, .ptr 5 0), (18, .int .i64 (i : Int))], [(4, .row (SV.vals zenv (b16 (capF m ad)))), (5, .row (SV.vals zenv (b16 (capF m ad))))])) (fun i => 16 - i) (fun i => i ≤ 16) rfl (fun i => ⟨rfl, rfl⟩) 0 (Nat.zero_le _) ⟨⟨rfl, rfl, rfl, rfl, rfl, trivial⟩, ⟨rfl, rfl, trivial⟩⟩ ?_
    intro i hi
    conv => whnf
    refine ⟨fun h => ?_, fun h => ?_⟩
    · have h : i < 16 := by have := of_decide_eq_true h; omega
      conv => whnf
      refine CodeL.draw tabOk Try.checked.mixed 18 (by kernel_rfl) rfl ?_
      conv => whnf
      refine .there i rfl h ?_
      conv => whnf
      refine .at1 (.int .u8 (capF m ad i : Nat)) i (by show 0 + i * 1 = i; omega) (b16_get _ h) rfl ?_
      conv => whnf
      refine .there i rfl h ?_
      conv => whnf
      refine .at1 (.int .u8 (capF m ad i : Nat)) i (by show 0 + i * 1 = i; omega) (b16_get _ h) rfl ?_
      conv => whnf
      refine ⟨fun hne => ?_, fun hne => ?_⟩
      · have hne : capF m ad i ≠ capF m ad i := fun e => by rw [e] at hne; simp at hne
        exact absurd (by rw [k1 i h, if_neg (by omega)]) hne
      · conv => whnf
        exact ⟨i + 1, by omega, by omega, ⟨rfl, rfl, rfl, rfl, congrArg (fun x => some (SV.int .i64 x)) (by rw [wrap_i64 _ (by omega) (by omega)]; omega), trivial⟩, ⟨rfl, rfl, trivial⟩⟩
    · have h : i = 16 := by have := of_decide_eq_false h; omega
      subst h
      conv => whnf
      intro ρ
      rfl
end Go.Sh.YtimlenccbchidaaRRR
