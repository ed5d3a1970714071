import Derived.Test.YthpalblfkpmpeaaPtE
set_option linter.unusedVariables false
namespace Go.Sh.Ythpalblfkpmpeaa
open Go.Proofs Go.Sh

theorem lit_tt (ρ : Env) : SV.val ρ (lit (Value.bool true)) = Value.bool true := rfl
theorem lit_ff (ρ : Env) : SV.val ρ (lit (Value.bool false)) = Value.bool false := rfl
theorem marked_ok (e : Ent) (k : Int) (tagged : Bool) : Pure Try.prog 20 [.agg (entC e), .int .i64 k, .bool tagged] (.agg (entC (markE e k tagged))) := by
  obtain ⟨v, r, w, x, u, g, a, d, cw, cr, cd, gn, fr⟩ := e
  refine Spec.of_body tabOk Try.func20 rfl (ent Try.func20 rfl (by kernel_rfl)) Try.ntmps20 rfl (by kernel_rfl) (Nat.le_of_ble_eq_true rfl) ?_
  repeat' ((try (conv => whnf)); first
    | refine IfL.mk (fun h => ?_) (fun h => ?_)
    | (refine Spec.of_body tabOk Try.func50 rfl (ent Try.func50 rfl (by kernel_rfl)) Try.ntmps50 rfl (by kernel_rfl) (Nat.le_of_ble_eq_true rfl) ?_))
  all_goals
    conv => whnf
    intro ρ
  all_goals
    simp_all [markE, entC, SV.val, SV.vals, oneRes, lit_tt, lit_ff]
theorem refmarked_ok (e : Ent) (k : Int) (tagged : Bool) : Pure Try.prog 21 [.agg (entC e), .int .i64 k, .bool tagged] (.agg (entC (markE e k tagged))) := by
  obtain ⟨v, r, w, x, u, g, a, d, cw, cr, cd, gn, fr⟩ := e
  refine Spec.of_body tabOk Try.func21 rfl (ent Try.func21 rfl (by kernel_rfl)) Try.ntmps21 rfl (by kernel_rfl) (Nat.le_of_ble_eq_true rfl) ?_
  repeat' ((try (conv => whnf)); first
    | refine IfL.mk (fun h => ?_) (fun h => ?_))
  all_goals
    conv => whnf
    intro ρ
  all_goals
    simp_all [markE, entC, SV.val, SV.vals, oneRes, lit_tt, lit_ff]
theorem refof_ok (w : Nat) (hw : w < 2 ^ 64) : Pure Try.prog 35 [.int .u64 (w : Int)] (.agg (entC (entOf w))) := by
  have h0 := refhas_ok w 0 hw (by decide)
  have h1 := refhas_ok w 1 hw (by decide)
  have h2 := refhas_ok w 2 hw (by decide)
  have h3 := refhas_ok w 3 hw (by decide)
  have h4 := refhas_ok w 4 hw (by decide)
  have h5 := refhas_ok w 5 hw (by decide)
  have h6 := refhas_ok w 6 hw (by decide)
  have h7 := refhas_ok w 7 hw (by decide)
  have h58 := refhas_ok w 58 hw (by decide)
  have h59 := refhas_ok w 59 hw (by decide)
  have h60 := refhas_ok w 60 hw (by decide)
  have h61 := refhas_ok w 61 hw (by decide)
  refine Spec.of_body tabOk Try.func35 rfl (ent Try.func35 rfl (by kernel_rfl)) Try.ntmps35 rfl (by kernel_rfl) (Nat.le_of_ble_eq_true rfl) ?_
  conv => whnf
  refine Spec.pure h0 rfl rfl (fun _ => rfl) ?_
  conv => whnf
  refine Spec.pure h1 rfl rfl (fun _ => rfl) ?_
  conv => whnf
  refine Spec.pure h2 rfl rfl (fun _ => rfl) ?_
  conv => whnf
  refine Spec.pure h3 rfl rfl (fun _ => rfl) ?_
  conv => whnf
  refine Spec.pure h4 rfl rfl (fun _ => rfl) ?_
  conv => whnf
  refine Spec.pure h5 rfl rfl (fun _ => rfl) ?_
  conv => whnf
  refine Spec.pure h6 rfl rfl (fun _ => rfl) ?_
  conv => whnf
  refine Spec.pure h7 rfl rfl (fun _ => rfl) ?_
  conv => whnf
  refine Spec.pure h58 rfl rfl (fun _ => rfl) ?_
  conv => whnf
  refine Spec.pure h59 rfl rfl (fun _ => rfl) ?_
  conv => whnf
  refine Spec.pure h60 rfl rfl (fun _ => rfl) ?_
  conv => whnf
  refine Spec.pure h61 rfl rfl (fun _ => rfl) ?_
  conv => whnf
  have e1 : shrI .u64 (w : Int) 10 = ((w / 2 ^ 10 : Nat) : Int) := shr_lit w 10 (by decide)
  have e2 : (shrI .u64 (w : Int) 10).tmod 17592186044416 = ((w / 1024 % 17592186044416 : Nat) : Int) := by
    rw [e1]; exact rem_nat _ 17592186044416
  rw [e2]
  intro ρ
  rfl
theorem refword_ok (e : Ent) (he : okE e) : Pure Try.prog 27 [.agg (entC e)] (.int .u64 (entW e : Int)) := by
  have hb : ∀ b p, p < 64 → Pure Try.prog 53 [.bool b, .int .u64 (p : Nat)] (.int .u64 (bn b * 2 ^ p : Nat)) := refbit_ok
  refine Spec.of_body tabOk Try.func27 rfl (ent Try.func27 rfl (by kernel_rfl)) Try.ntmps27 rfl (by kernel_rfl) (Nat.le_of_ble_eq_true rfl) ?_
  conv => whnf
  refine CodeL.draw tabOk Try.checked.mixed 31 (by kernel_rfl) rfl ?_
  conv => whnf
  refine QCallL.pure (refbit_ok e.v 0 (by decide)) rfl rfl (fun _ => rfl) ?_
  conv => whnf
  refine QCallL.pure (refbit_ok e.r 1 (by decide)) rfl rfl (fun _ => rfl) ?_
  conv => whnf
  refine QCallL.pure (refbit_ok e.w 2 (by decide)) rfl rfl (fun _ => rfl) ?_
  conv => whnf
  refine QCallL.pure (refbit_ok e.x 3 (by decide)) rfl rfl (fun _ => rfl) ?_
  conv => whnf
  refine QCallL.pure (refbit_ok e.u 4 (by decide)) rfl rfl (fun _ => rfl) ?_
  conv => whnf
  refine QCallL.pure (refbit_ok e.g 5 (by decide)) rfl rfl (fun _ => rfl) ?_
  conv => whnf
  refine QCallL.pure (refbit_ok e.a 6 (by decide)) rfl rfl (fun _ => rfl) ?_
  conv => whnf
  refine QCallL.pure (refbit_ok e.d 7 (by decide)) rfl rfl (fun _ => rfl) ?_
  conv => whnf
  refine CodeL.draw tabOk Try.checked.mixed 22 (by kernel_rfl) rfl ?_
  conv => whnf
  refine QCallL.pure (refbit_ok e.cw 58 (by decide)) rfl rfl (fun _ => rfl) ?_
  conv => whnf
  refine QCallL.pure (refbit_ok e.cr 59 (by decide)) rfl rfl (fun _ => rfl) ?_
  conv => whnf
  refine QCallL.pure (refbit_ok e.cd 60 (by decide)) rfl rfl (fun _ => rfl) ?_
  conv => whnf
  refine QCallL.pure (refbit_ok e.gn 61 (by decide)) rfl rfl (fun _ => rfl) ?_
  conv => whnf
  intro ρ
  have hf : shlI .u64 (e.fr.tmod 17592186044416) 10 = ((frN e * 1024 : Nat) : Int) := by
    have h1 : e.fr.tmod 17592186044416 = ((frN e : Nat) : Int) := by
      have := rem_nat e.fr.toNat 17592186044416
      rw [Int.toNat_of_nonneg he.1] at this
      exact this
    have := frN_lt e
    rw [h1, show (10 : Int) = ((10 : Nat) : Int) from rfl, shl_nat _ _ (by decide) (by omega)]
  refine congrArg (Value.int .u64) ?_
  have h0 := frN_lt e
  have b0 := bn_lt e.v; have b1 := bn_lt e.r; have b2 := bn_lt e.w; have b3 := bn_lt e.x; have b4 := bn_lt e.u; have b5 := bn_lt e.g; have b6 := bn_lt e.a; have b7 := bn_lt e.d; have b8 := bn_lt e.cw; have b9 := bn_lt e.cr; have b10 := bn_lt e.cd; have b11 := bn_lt e.gn
  unfold entW
  rw [wA12]
  rw [hf]
  show IntKind.wrap .u64 (IntKind.wrap .u64 (IntKind.wrap .u64 (IntKind.wrap .u64 (IntKind.wrap .u64 (IntKind.wrap .u64 (IntKind.wrap .u64 (IntKind.wrap .u64 (IntKind.wrap .u64 (IntKind.wrap .u64 (IntKind.wrap .u64 (IntKind.wrap .u64 (((bn e.v * 2 ^ 0 : Nat) : Int) + ((bn e.r * 2 ^ 1 : Nat) : Int)) + ((bn e.w * 2 ^ 2 : Nat) : Int)) + ((bn e.x * 2 ^ 3 : Nat) : Int)) + ((bn e.u * 2 ^ 4 : Nat) : Int)) + ((bn e.g * 2 ^ 5 : Nat) : Int)) + ((bn e.a * 2 ^ 6 : Nat) : Int)) + ((bn e.d * 2 ^ 7 : Nat) : Int)) + ((bn e.cw * 2 ^ 58 : Nat) : Int)) + ((bn e.cr * 2 ^ 59 : Nat) : Int)) + ((bn e.cd * 2 ^ 60 : Nat) : Int)) + ((bn e.gn * 2 ^ 61 : Nat) : Int)) + ((frN e * 1024 : Nat) : Int)) = _
  rw [wrap_add _ _ (by omega), wrap_add _ _ (by omega), wrap_add _ _ (by omega), wrap_add _ _ (by omega), wrap_add _ _ (by omega), wrap_add _ _ (by omega), wrap_add _ _ (by omega), wrap_add _ _ (by omega), wrap_add _ _ (by omega), wrap_add _ _ (by omega), wrap_add _ _ (by omega), wrap_add _ _ (by omega)]
  omega
end Go.Sh.Ythpalblfkpmpeaa
