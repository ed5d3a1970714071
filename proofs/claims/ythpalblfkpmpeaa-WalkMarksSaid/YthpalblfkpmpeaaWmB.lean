import Derived.Test.YthpalblfkpmpeaaWmA
set_option linter.unusedVariables false
namespace Go.Sh.Ythpalblfkpmpeaa
open Go.Proofs Go.Sh

set_option maxHeartbeats 1000000 in
theorem marks_ok (A : List Lay) (b0 : Bool) (c0 : Nat) (va : Nat) (k h1 : Int) (hA : A.length ≤ maxLen) (he : ∀ x ∈ A, okE x.e) (h0 : okS A.length (b0, c0)) (hva : va < 2 ^ 64) : Spec Try.prog 7 [.slz b0 0 0 A.length c0, .int .u64 (va : Int), .agg [.int .i64 k, .int .i64 h1]] [(0, .view (laysV A))] 1 fun v _ _ => ∀ ρ, v.val ρ = SV.tt.val ρ := by
  have c5 := one_ok
  refine Spec.of_body tabOk Try.func7 rfl (ent Try.func7 rfl (by kernel_rfl)) Try.ntmps7 rfl (by kernel_rfl) (Nat.le_of_ble_eq_true rfl) ?_
  conv => whnf
  refine Spec.fn (laid_ok A b0 c0 hA he h0) [0] rfl rfl (fun _ => rfl) rfl ⟨⟨by decide, rfl, rfl, _, rfl, fun _ => rfl, Nat.le_refl _, fun _ => Nat.le_refl _, id⟩, trivial⟩ (fun _ _ => ⟨rfl, rfl, rfl, trivial⟩) (fun y hy => ?_)
  generalize A.take (kL A) = B at hy
  have w1 := walk_ok 8 (memL B) y.1 0 va (memL_ok B) (by decide) (by decide) (by decide) hva
  have hmb := memL_ok B
  generalize memL B = b at w1 hmb
  conv => whnf
  refine CodeL.draw tabOk Try.checked.mixed 8 (by kernel_rfl) rfl ?_
  conv => whnf
  generalize decide (band .and .i64 h1 1 = 1) = tg
  rcases ho : walkF b 8 0 va with _ | ⟨x, a⟩
  all_goals
    rw [ho] at w1
    refine Spec.fn w1 [2, 3] rfl rfl (fun _ => rfl) rfl ⟨⟨by decide, rfl, rfl, _, rfl, fun _ => rfl, Nat.le_refl _, fun _ => Nat.le_refl _, id⟩, ⟨by decide, rfl, rfl, _, rfl, fun _ => rfl, Nat.le_refl _, fun _ => Nat.le_refl _, fun h => (by cases h)⟩, trivial⟩ (fun _ _ => ⟨rfl, rfl, ⟨_, rfl, rfl, rfl⟩, rfl, trivial⟩) (fun _ _ => ?_)
  · conv => whnf
    refine .t rfl ?_
    conv => whnf
    refine Spec.pure c5 rfl rfl (fun _ => rfl) ?_
    conv => whnf
    intro ρ
    rfl
  obtain ⟨hx, hbad, hal, ha⟩ := walk_is ho
  obtain ⟨hlf, hrt, hfr, hxv⟩ := good_of hbad
  have hxo : okE x := by rw [hx]; exact entOf_ok _
  conv => whnf
  refine .f rfl ?_
  conv => whnf
  have c1 := check_ok x k tg (decide (band .and .i64 h1 2 = 2))
  refine Spec.pure c1 rfl rfl (fun _ => rfl) ?_
  conv => whnf
  refine ⟨fun hc => ?_, fun hc => ?_⟩
  · conv => whnf
    refine Spec.pure c5 rfl rfl (fun _ => rfl) ?_
    conv => whnf
    intro ρ
    rfl
  have hc : chkE x k tg (decide (band .and .i64 h1 2 = 2)) = 0 := by simpa using hc
  conv => whnf
  refine Spec.fn (mark_ok b y.1 x a k tg hxo ha hal) [2, 3] rfl rfl (fun _ => rfl) rfl ⟨⟨by decide, rfl, rfl, _, rfl, fun _ => rfl, Nat.le_refl _, fun _ => Nat.le_refl _, id⟩, ⟨by decide, rfl, rfl, _, rfl, fun _ => rfl, Nat.le_refl _, fun _ => Nat.le_refl _, fun _ => rfl⟩, trivial⟩ (fun _ _ => ⟨rfl, rfl, ⟨_, rfl, rfl, rfl⟩, ⟨_, rfl, rfl, rlen _ _ _ _ _⟩, trivial⟩) (fun z hz => ?_)
  have hmr : rightB (markE x k tg) = rightB x := mark_right k tg hlf
  have hcut : cutE (markE x k tg) = markE x k tg := cut_small hxo.1 (by show x.fr < 64; omega)
  have hw2 : walkF (mkB b a (markE x k tg) z.1) 8 0 va = some (markE x k tg, a) := by
    rcases z with ⟨_ | _, t2⟩
    · show walkF b 8 0 va = _
      rw [ho, hz rfl]
    · exact walk_mark (x := x) (e := markE x k tg) rfl rfl hmr rfl hcut ho
  have hmb2 : okB (mkB b a (markE x k tg) z.1) := by
    rcases z with ⟨_ | _, t2⟩
    · exact hmb
    · exact stB_ok hmb _ _ _
  have w2 := walk_ok 8 (mkB b a (markE x k tg) z.1) z.2 0 va hmb2 (by decide) (by decide) (by decide) hva
  rw [hw2] at w2
  have c3 := marked_ok x k tg
  have c4 := marked_ok (markE x k tg) k tg
  rw [mark_twice] at c4
  have c6 := check_ok (markE x k tg) k tg (decide (band .and .i64 h1 2 = 2))
  rw [mark_chk, hc] at c6
  have c7 := right_ok (markE x k tg) hxo
  rw [hmr, hrt] at c7
  conv => whnf
  refine Spec.fn w2 [2, 3] rfl rfl (fun _ => rfl) rfl ⟨⟨by decide, rfl, rfl, _, rfl, fun _ => rfl, Nat.le_refl _, fun _ => Nat.le_refl _, id⟩, ⟨by decide, rfl, rfl, _, rfl, fun _ => rfl, Nat.le_refl _, fun _ => Nat.le_refl _, fun h => (by cases h)⟩, trivial⟩ (fun _ _ => ⟨rfl, rfl, ⟨_, rfl, rfl, rfl⟩, rfl, trivial⟩) (fun _ _ => ?_)
  conv => whnf
  refine CodeL.draw tabOk Try.checked.mixed 34 (by kernel_rfl) rfl ?_
  repeat' ((try (conv => whnf)); first
    | refine QCallL.pure c3 rfl rfl (fun _ => rfl) ?_
    | refine QCallL.pure c4 rfl rfl (fun _ => rfl) ?_
    | refine VL.qop rfl (VL.eq tabOk ?_)
    | refine Needs.mk ⟨rfl, by kernel_rfl⟩ ?_
    | refine Needs.mk (by kernel_rfl) ?_
    | refine IfL.t rfl ?_
    | refine IfL.f rfl ?_
    | (refine IfL.f ?hx ?_; case hx => (simp [markE]; done)))
  conv => whnf
  refine CodeL.any tabOk Try.checked.mixed [(7, .cells (fndC x (a : Int)))] (.take 0 (.take 1 (.take 2 (.take 3 (.take 4 (.take 5 (.take 6 (.take 7 (.take 8 (.take 9 (.alt 10 (.take 11 (.alt 12 (.take 13 (.alt 14 (.fin) .stop)) .stop)) .stop))))))))))) (by kernel_rfl) rfl ⟨rfl, trivial⟩ rfl ?_
  conv => whnf
  refine ⟨⟨rfl, trivial⟩, ?_⟩
  conv => whnf
  refine ⟨⟨rfl, trivial⟩, ?_⟩
  conv => whnf
  refine ⟨⟨rfl, trivial⟩, ?_⟩
  repeat' ((try (conv => whnf)); first
    | refine Spec.pure c6 rfl rfl (fun _ => rfl) ?_
    | refine Spec.pure c7 rfl rfl (fun _ => rfl) ?_
    | refine Spec.pure c5 rfl rfl (fun _ => rfl) ?_
    | refine VL.op (VL.eq tabOk ?_)
    | refine Needs.mk ⟨rfl, by kernel_rfl⟩ ?_
    | refine Needs.mk (by kernel_rfl) ?_
    | refine IfL.t rfl ?_
    | refine IfL.f rfl ?_
    | (refine IfL.t ?hx ?_; case hx => (simp [markE]; done)))
  conv => whnf
  intro ρ
  rfl
end Go.Sh.Ythpalblfkpmpeaa
