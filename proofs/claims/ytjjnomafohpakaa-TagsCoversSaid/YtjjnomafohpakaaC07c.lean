import Derived.Test.YtjjnomafohpakaaC07b
set_option linter.unusedVariables false
namespace Go.Sh.Ytjjnomafohpakaa
open Go.Proofs Go.Sh

theorem cov152 : buildS (coverP 15 2) 256 = 3 := by decide +kernel
theorem sameSet (s : Nat) : (decide (wd s 0 = wd s 0) && (decide (wd s 1 = wd s 1) && (decide (wd s 2 = wd s 2) && decide (wd s 3 = wd s 3)))) = true := by simp
theorem covers_ok (off n : Int) (ho : i64 off) (hn : i64 n) : Pure Try.prog 3 [.int .i64 off, .int .i64 n] .tt := by
  have hc := cover_ok off n ho hn
  have hr := refcover_ok off n ho hn
  have hd := cover_ok 15 2 (by unfold i64; omega) (by unfold i64; omega)
  rw [cov152] at hd
  generalize buildS (coverP off n) 256 = S at hc hr
  refine Spec.of_body tabOk Try.func3 rfl (ent Try.func3 rfl (by kernel_rfl)) Try.ntmps3 rfl (by kernel_rfl) (Nat.le_of_ble_eq_true rfl) ?_
  conv => whnf
  refine Spec.pure (aligned_ok off) rfl rfl (fun _ => rfl) ?_
  conv => whnf
  refine ⟨fun h0 => ?_, fun h0 => ?_⟩
  · have h0 := of_decide_eq_true h0
    conv => whnf
    refine ⟨fun h1 => ?_, fun h1 => ?_⟩
    · have h1 := of_decide_eq_true h1
      have em : off.tmod 16 = off % 16 := Int.tmod_eq_emod_of_nonneg h0
      conv => whnf
      refine ⟨fun h2 => ?_, fun h2 => ?_⟩
      · have h2 := of_decide_eq_true h2
        rw [em] at h2
        have hb : alignedB off = true := decide_eq_true (by omega)
        conv => whnf
        refine Spec.pure hc rfl rfl (fun _ => rfl) ?_
        conv => whnf
        refine Spec.pure hr rfl rfl (fun _ => rfl) ?_
        conv => whnf
        refine VL.op (VL.eq tabOk ?_)
        conv => whnf
        refine ⟨by kernel_rfl, ?_⟩
        conv => whnf
        refine .t (sameSet _) ?_
        conv => whnf
        refine .t (decide_eq_true (by rw [hb, Int.tdiv_eq_ediv_of_nonneg h0, wrap_i64 _ (by omega) (by omega)]; rfl)) ?_
        conv => whnf
        refine VL.op (VL.eq tabOk ?_)
        conv => whnf
        refine .t (by rw [hb, em, h2]; rfl) ?_
        conv => whnf
        refine Spec.pure hd rfl rfl (fun _ => rfl) ?_
        conv => whnf
        refine VL.op (VL.eq tabOk ?_)
        conv => whnf
        refine ⟨by kernel_rfl, ?_⟩
        conv => whnf
        intro ρ
        rfl
      · have h2 := of_decide_eq_false h2
        rw [em] at h2
        have hb : alignedB off = false := decide_eq_false (by omega)
        conv => whnf
        refine Spec.pure hc rfl rfl (fun _ => rfl) ?_
        conv => whnf
        refine Spec.pure hr rfl rfl (fun _ => rfl) ?_
        conv => whnf
        refine VL.op (VL.eq tabOk ?_)
        conv => whnf
        refine ⟨by kernel_rfl, ?_⟩
        conv => whnf
        refine .t (sameSet _) ?_
        conv => whnf
        refine .t (decide_eq_true (by rw [hb]; rfl)) ?_
        conv => whnf
        refine VL.op (VL.eq tabOk ?_)
        conv => whnf
        refine .t (by rw [hb, em, decide_eq_false h2]; rfl) ?_
        conv => whnf
        refine Spec.pure hd rfl rfl (fun _ => rfl) ?_
        conv => whnf
        refine VL.op (VL.eq tabOk ?_)
        conv => whnf
        refine ⟨by kernel_rfl, ?_⟩
        conv => whnf
        intro ρ
        rfl
    · have h1 := of_decide_eq_false h1
      have hb : alignedB off = false := decide_eq_false (by omega)
      conv => whnf
      refine Spec.pure hc rfl rfl (fun _ => rfl) ?_
      conv => whnf
      refine Spec.pure hr rfl rfl (fun _ => rfl) ?_
      conv => whnf
      refine VL.op (VL.eq tabOk ?_)
      conv => whnf
      refine ⟨by kernel_rfl, ?_⟩
      conv => whnf
      refine .t (sameSet _) ?_
      conv => whnf
      refine .t (decide_eq_true (by rw [hb]; rfl)) ?_
      conv => whnf
      refine VL.op (VL.eq tabOk ?_)
      conv => whnf
      refine .t (by rw [hb]; rfl) ?_
      conv => whnf
      refine Spec.pure hd rfl rfl (fun _ => rfl) ?_
      conv => whnf
      refine VL.op (VL.eq tabOk ?_)
      conv => whnf
      refine ⟨by kernel_rfl, ?_⟩
      conv => whnf
      intro ρ
      rfl
  · have h0 := of_decide_eq_false h0
    have hb : alignedB off = false := decide_eq_false (by omega)
    conv => whnf
    refine Spec.pure hc rfl rfl (fun _ => rfl) ?_
    conv => whnf
    refine Spec.pure hr rfl rfl (fun _ => rfl) ?_
    conv => whnf
    refine VL.op (VL.eq tabOk ?_)
    conv => whnf
    refine ⟨by kernel_rfl, ?_⟩
    conv => whnf
    refine .t (sameSet _) ?_
    conv => whnf
    refine .t (decide_eq_true (by rw [hb]; rfl)) ?_
    conv => whnf
    refine VL.op (VL.eq tabOk ?_)
    conv => whnf
    refine .t (by rw [hb]; rfl) ?_
    conv => whnf
    refine Spec.pure hd rfl rfl (fun _ => rfl) ?_
    conv => whnf
    refine VL.op (VL.eq tabOk ?_)
    conv => whnf
    refine ⟨by kernel_rfl, ?_⟩
    conv => whnf
    intro ρ
    rfl
end Go.Sh.Ytjjnomafohpakaa
