import Derived.Test.YthpalblfkpmpeaaLdB
import Derived.Test.YthpalblfkpmpeaaMB
import Derived.Test.YthpalblfkpmpeaaSh30
import Derived.Test.YthpalblfkpmpeaaSh32
set_option linter.unusedVariables false
namespace Go.Sh.Ythpalblfkpmpeaa
open Go.Proofs Go.Sh

theorem flat4 : FlatT Try.prog 4 [.bool] := FlatT.bool Try.underlying4
theorem flat23 : FlatT Try.prog 23 [.int .u64] := FlatT.int Try.underlying23
theorem flat32 : FlatT Try.prog 32 [.bool, .bool, .bool, .bool, .bool, .bool, .bool, .bool, .bool, .bool, .bool, .bool, .int .u64] := FlatT.struct Try.underlying32 (by kernel_rfl) ⟨rfl, [.bool], _, rfl, flat4, by kernel_rfl, ⟨rfl, [.bool], _, rfl, flat4, by kernel_rfl, ⟨rfl, [.bool], _, rfl, flat4, by kernel_rfl, ⟨rfl, [.bool], _, rfl, flat4, by kernel_rfl, ⟨rfl, [.bool], _, rfl, flat4, by kernel_rfl, ⟨rfl, [.bool], _, rfl, flat4, by kernel_rfl, ⟨rfl, [.bool], _, rfl, flat4, by kernel_rfl, ⟨rfl, [.bool], _, rfl, flat4, by kernel_rfl, ⟨rfl, [.bool], _, rfl, flat4, by kernel_rfl, ⟨rfl, [.bool], _, rfl, flat4, by kernel_rfl, ⟨rfl, [.bool], _, rfl, flat4, by kernel_rfl, ⟨rfl, [.bool], _, rfl, flat4, by kernel_rfl, ⟨rfl, [.int .u64], _, rfl, flat23, by kernel_rfl, rfl⟩⟩⟩⟩⟩⟩⟩⟩⟩⟩⟩⟩⟩
theorem leaves_ok (a0 a1 a2 o0 o1 o2 : Int) (e : Ent) : Pure Try.prog 5 [.agg [.int .i64 a0, .int .i64 a1, .int .i64 a2], .agg [.int .i64 o0, .int .i64 o1, .int .i64 o2], .agg (entC e)] .tt := by
  have ei : band .and .i64 a0 255 = ((a0 % (256 : Nat)).toNat : Int) := band_mask a0 8 (by decide)
  have ej : band .and .i64 a1 511 = ((a1 % (512 : Nat)).toNat : Int) := band_mask a1 9 (by decide)
  have ek : band .and .i64 a2 511 = ((a2 % (512 : Nat)).toNat : Int) := band_mask a2 9 (by decide)
  have hi := mod_lt' a0 (m := 256) (by decide)
  have hj := mod_lt' a1 (m := 512) (by decide)
  have hk := mod_lt' a2 (m := 512) (by decide)
  have ex : band .and .i64 o0 255 = ((o0 % (256 : Nat)).toNat : Int) := band_mask o0 8 (by decide)
  have ey : band .and .i64 o1 511 = ((o1 % (512 : Nat)).toNat : Int) := band_mask o1 9 (by decide)
  have ez : band .and .i64 o2 511 = ((o2 % (512 : Nat)).toNat : Int) := band_mask o2 9 (by decide)
  have hx := mod_lt' o0 (m := 256) (by decide)
  have hy := mod_lt' o1 (m := 512) (by decide)
  have hz := mod_lt' o2 (m := 512) (by decide)
  refine Spec.of_body tabOk Try.func5 rfl (ent Try.func5 rfl (by kernel_rfl)) Try.ntmps5 rfl (by kernel_rfl) (Nat.le_of_ble_eq_true rfl) ?_
  conv => whnf
  refine CodeL.draw tabOk Try.checked.mixed 12 (by kernel_rfl) rfl ?_
  conv => whnf
  rw [ei, ej, ek]
  generalize (a0 % (256 : Nat)).toNat = i at hi
  generalize (a1 % (512 : Nat)).toNat = j at hj
  generalize (a2 % (512 : Nat)).toNat = k at hk
  clear ei ej ek
  obtain ⟨E, hE, h7⟩ : ∃ E : Ent, E = { e with fr := 7 } ∧ E.fr = 7 := ⟨_, rfl, rfl⟩
  have hE7 : okE E := by constructor <;> (rw [h7]; decide)
  have hAL : ∀ x ∈ AL i j k E, okE x.e := by
    intro x hx
    simp only [AL, List.mem_cons, List.not_mem_nil, or_false] at hx
    rcases hx with rfl | rfl | rfl
    · exact ⟨by show (0 : Int) ≤ 1; decide, by show (1 : Int) < _; decide⟩
    · exact ⟨by show (0 : Int) ≤ 2; decide, by show (2 : Int) < _; decide⟩
    · exact hE7
  have hl := laid_ok (AL i j k E) false 3 (by show 3 ≤ maxLen; decide) hAL ⟨by show (3 : Nat) ≤ 3; decide, fun h => by cases h⟩
  rw [show (AL i j k E).take (kL (AL i j k E)) = AL i j k E from rfl] at hl
  refine OpL.bsl tabOk ?_
  conv => whnf
  refine Spec.fn hl [5] rfl rfl (fun _ => rfl) rfl ⟨⟨by decide, rfl, rfl, _, rfl, fun _ => by rw [hE]; rfl, by show (laysV (AL i j k E)).length ≤ 45; rw [laysV_len]; exact Nat.le_refl 45, fun _ => Nat.le_refl _, fun h => (by cases h)⟩, trivial⟩ (fun _ _ => ⟨rfl, rfl, rfl, trivial⟩) (fun y gy => ?_)
  have hl2 := laid_ok [⟨0, (i : Int), E⟩] false 1 (by show 1 ≤ maxLen; decide) (by intro x hx; simp only [List.mem_cons, List.not_mem_nil, or_false] at hx; subst hx; exact hE7) ⟨by show (1 : Nat) ≤ 1; decide, fun h => by cases h⟩
  rw [show [(⟨0, (i : Int), E⟩ : Lay)].take (kL [⟨0, (i : Int), E⟩]) = [⟨0, (i : Int), E⟩] from rfl] at hl2
  have w1 := walk_ok 8 (memL (AL i j k E)) y.1 0 (vaN i j k) (memL_ok _) (by decide) (by decide) (by decide) (by have := (idx_va hi hj hk).2.2.2; omega)
  have w2 := walk_ok 8 (memL (AL i j k E)) y.1 0 (vaN (o0 % (256 : Nat)).toNat (o1 % (512 : Nat)).toNat (o2 % (512 : Nat)).toNat) (memL_ok _) (by decide) (by decide) (by decide) (by have := (idx_va hx hy hz).2.2.2; omega)
  rw [walkF_memL, walk3 h7 hi hj hk hi hj hk] at w1
  rw [walkF_memL, walk3 h7 hi hj hk hx hy hz] at w2
  have s1 := shlor hi hj hk
  have s2 := shlor hx hy hz
  generalize (o0 % (256 : Nat)).toNat = x at hx ex w2 s2
  generalize (o1 % (512 : Nat)).toNat = y1 at hy ey w2 s2
  generalize (o2 % (512 : Nat)).toNat = z at hz ez w2 s2
  have hle := leaf_ok E
  have hri := right_ok E hE7
  have hwo := word_ok E hE7
  have hof := of_ok (entW E) (entW_lt E)
  rw [entOf_entW, show ({ E with fr := (frN E : Nat) } : Ent) = E from cut7 h7] at hof
  have c5 := one_ok
  unfold goodB at w1 w2
  conv => whnf
  refine Spec.of_body tabOk Try.func17 rfl (ent Try.func17 rfl (by kernel_rfl)) Try.ntmps17 rfl (by kernel_rfl) (Nat.le_of_ble_eq_true rfl) ?_
  conv => whnf
  rw [s1]
  generalize leafB E = L at w1 w2 hle
  generalize rightB E = R at w1 w2 hri
  cases L
  · rw [if_neg (fun g => by simp at g)] at w1 w2
    refine Spec.fn w1 [6, 7] rfl rfl (fun _ => rfl) rfl ⟨⟨by decide, rfl, rfl, _, rfl, fun _ => rfl, Nat.le_refl _, fun _ => Nat.le_refl _, id⟩, ⟨by decide, rfl, rfl, _, rfl, fun _ => rfl, Nat.le_refl _, fun _ => Nat.le_refl _, fun h => (by cases h)⟩, trivial⟩ (fun _ _ => ⟨rfl, rfl, ⟨_, rfl, rfl, rfl⟩, rfl, trivial⟩) (fun _ _ => ?_)
    conv => whnf
    refine CodeL.draw tabOk Try.checked.mixed 12 (by kernel_rfl) rfl ?_
    conv => whnf
    rw [ex, ey, ez]
    refine Spec.of_body tabOk Try.func17 rfl (ent Try.func17 rfl (by kernel_rfl)) Try.ntmps17 rfl (by kernel_rfl) (Nat.le_of_ble_eq_true rfl) ?_
    conv => whnf
    rw [s2]
    refine Spec.fn w2 [6, 7] rfl rfl (fun _ => rfl) rfl ⟨⟨by decide, rfl, rfl, _, rfl, fun _ => rfl, Nat.le_refl _, fun _ => Nat.le_refl _, id⟩, ⟨by decide, rfl, rfl, _, rfl, fun _ => rfl, Nat.le_refl _, fun _ => Nat.le_refl _, fun h => (by cases h)⟩, trivial⟩ (fun _ _ => ⟨rfl, rfl, ⟨_, rfl, rfl, rfl⟩, rfl, trivial⟩) (fun _ _ => ?_)
    repeat' ((try (conv => whnf)); first
      | refine Spec.pure hle rfl rfl (fun _ => by rw [hE]; rfl) ?_
      | refine Spec.pure hri rfl rfl (fun _ => by rw [hE]; rfl) ?_
      | refine CodeL.draw tabOk Try.checked.mixed 34 (by kernel_rfl) rfl ?_
      | refine QCallL.pure hwo rfl rfl (fun _ => by rw [hE]; rfl) ?_
      | refine QCallL.pure hof rfl rfl (fun _ => rfl) ?_
      | refine VL.qop rfl (VL.eq tabOk ?_)
      | refine Needs.mk ⟨rfl, by kernel_rfl⟩ ?_
      | refine Needs.mk (by kernel_rfl) ?_
      | refine IfL.t rfl ?_
      | refine IfL.f rfl ?_
      | (refine IfL.t ?hx ?_; case hx => (simp; done))
      | (refine IfL.f ?hx ?_; case hx => (simp; done))
      | refine OpL.bsl tabOk ?_
      | refine IfL.mk (fun h => ?_) (fun h => ?_))
    all_goals
      conv => whnf
      refine Spec.fn hl2 [13] rfl rfl (fun _ => rfl) rfl ⟨⟨by decide, rfl, rfl, _, rfl, fun _ => by rw [hE]; rfl, by show (laysV [⟨0, (i : Int), E⟩]).length ≤ 15; rw [laysV_len]; exact Nat.le_refl 15, fun _ => Nat.le_refl _, fun h => (by cases h)⟩, trivial⟩ (fun _ _ => ⟨rfl, rfl, rfl, trivial⟩) (fun y gy => ?_)
      have w3 := walk_ok 8 (memL [⟨0, (i : Int), E⟩]) y.1 0 (vaN i j k) (memL_ok _) (by decide) (by decide) (by decide) (by have := (idx_va hi hj hk).2.2.2; omega)
      rw [walkF_memL, walk1 h7 hi hj hk] at w3
      conv => whnf
      refine Spec.of_body tabOk Try.func17 rfl (ent Try.func17 rfl (by kernel_rfl)) Try.ntmps17 rfl (by kernel_rfl) (Nat.le_of_ble_eq_true rfl) ?_
      conv => whnf
      rw [s1]
      refine Spec.fn w3 [14, 15] rfl rfl (fun _ => rfl) rfl ⟨⟨by decide, rfl, rfl, _, rfl, fun _ => rfl, Nat.le_refl _, fun _ => Nat.le_refl _, id⟩, ⟨by decide, rfl, rfl, _, rfl, fun _ => rfl, Nat.le_refl _, fun _ => Nat.le_refl _, fun h => (by cases h)⟩, trivial⟩ (fun _ _ => ⟨rfl, rfl, ⟨_, rfl, rfl, rfl⟩, rfl, trivial⟩) (fun _ _ => ?_)
      conv => whnf
      refine IfL.t rfl ?_
      conv => whnf
      refine Spec.pure c5 rfl rfl (fun _ => rfl) ?_
      conv => whnf
      intro ρ
      rfl
  cases R
  · rw [if_neg (fun g => by simp at g)] at w1 w2
    refine Spec.fn w1 [6, 7] rfl rfl (fun _ => rfl) rfl ⟨⟨by decide, rfl, rfl, _, rfl, fun _ => rfl, Nat.le_refl _, fun _ => Nat.le_refl _, id⟩, ⟨by decide, rfl, rfl, _, rfl, fun _ => rfl, Nat.le_refl _, fun _ => Nat.le_refl _, fun h => (by cases h)⟩, trivial⟩ (fun _ _ => ⟨rfl, rfl, ⟨_, rfl, rfl, rfl⟩, rfl, trivial⟩) (fun _ _ => ?_)
    conv => whnf
    refine CodeL.draw tabOk Try.checked.mixed 12 (by kernel_rfl) rfl ?_
    conv => whnf
    rw [ex, ey, ez]
    refine Spec.of_body tabOk Try.func17 rfl (ent Try.func17 rfl (by kernel_rfl)) Try.ntmps17 rfl (by kernel_rfl) (Nat.le_of_ble_eq_true rfl) ?_
    conv => whnf
    rw [s2]
    refine Spec.fn w2 [6, 7] rfl rfl (fun _ => rfl) rfl ⟨⟨by decide, rfl, rfl, _, rfl, fun _ => rfl, Nat.le_refl _, fun _ => Nat.le_refl _, id⟩, ⟨by decide, rfl, rfl, _, rfl, fun _ => rfl, Nat.le_refl _, fun _ => Nat.le_refl _, fun h => (by cases h)⟩, trivial⟩ (fun _ _ => ⟨rfl, rfl, ⟨_, rfl, rfl, rfl⟩, rfl, trivial⟩) (fun _ _ => ?_)
    repeat' ((try (conv => whnf)); first
      | refine Spec.pure hle rfl rfl (fun _ => by rw [hE]; rfl) ?_
      | refine Spec.pure hri rfl rfl (fun _ => by rw [hE]; rfl) ?_
      | refine CodeL.draw tabOk Try.checked.mixed 34 (by kernel_rfl) rfl ?_
      | refine QCallL.pure hwo rfl rfl (fun _ => by rw [hE]; rfl) ?_
      | refine QCallL.pure hof rfl rfl (fun _ => rfl) ?_
      | refine VL.qop rfl (VL.eq tabOk ?_)
      | refine Needs.mk ⟨rfl, by kernel_rfl⟩ ?_
      | refine Needs.mk (by kernel_rfl) ?_
      | refine IfL.t rfl ?_
      | refine IfL.f rfl ?_
      | (refine IfL.t ?hx ?_; case hx => (simp; done))
      | (refine IfL.f ?hx ?_; case hx => (simp; done))
      | refine OpL.bsl tabOk ?_
      | refine IfL.mk (fun h => ?_) (fun h => ?_))
    all_goals
      conv => whnf
      refine Spec.fn hl2 [13] rfl rfl (fun _ => rfl) rfl ⟨⟨by decide, rfl, rfl, _, rfl, fun _ => by rw [hE]; rfl, by show (laysV [⟨0, (i : Int), E⟩]).length ≤ 15; rw [laysV_len]; exact Nat.le_refl 15, fun _ => Nat.le_refl _, fun h => (by cases h)⟩, trivial⟩ (fun _ _ => ⟨rfl, rfl, rfl, trivial⟩) (fun y gy => ?_)
      have w3 := walk_ok 8 (memL [⟨0, (i : Int), E⟩]) y.1 0 (vaN i j k) (memL_ok _) (by decide) (by decide) (by decide) (by have := (idx_va hi hj hk).2.2.2; omega)
      rw [walkF_memL, walk1 h7 hi hj hk] at w3
      conv => whnf
      refine Spec.of_body tabOk Try.func17 rfl (ent Try.func17 rfl (by kernel_rfl)) Try.ntmps17 rfl (by kernel_rfl) (Nat.le_of_ble_eq_true rfl) ?_
      conv => whnf
      rw [s1]
      refine Spec.fn w3 [14, 15] rfl rfl (fun _ => rfl) rfl ⟨⟨by decide, rfl, rfl, _, rfl, fun _ => rfl, Nat.le_refl _, fun _ => Nat.le_refl _, id⟩, ⟨by decide, rfl, rfl, _, rfl, fun _ => rfl, Nat.le_refl _, fun _ => Nat.le_refl _, fun h => (by cases h)⟩, trivial⟩ (fun _ _ => ⟨rfl, rfl, ⟨_, rfl, rfl, rfl⟩, rfl, trivial⟩) (fun _ _ => ?_)
      conv => whnf
      refine IfL.t rfl ?_
      conv => whnf
      refine Spec.pure c5 rfl rfl (fun _ => rfl) ?_
      conv => whnf
      intro ρ
      rfl
  rw [if_pos ⟨⟨rfl, rfl, rfl⟩, rfl⟩] at w1
  by_cases hs : x = i ∧ y1 = j ∧ z = k
  · rw [if_pos ⟨hs, rfl⟩] at w2
    obtain ⟨q1, q2, q3⟩ := hs
    subst x
    subst y1
    subst z
    refine Spec.fn w1 [6, 7] rfl rfl (fun _ => rfl) rfl ⟨⟨by decide, rfl, rfl, _, rfl, fun _ => rfl, Nat.le_refl _, fun _ => Nat.le_refl _, id⟩, ⟨by decide, rfl, rfl, _, rfl, fun _ => rfl, Nat.le_refl _, fun _ => Nat.le_refl _, fun h => (by cases h)⟩, trivial⟩ (fun _ _ => ⟨rfl, rfl, ⟨_, rfl, rfl, rfl⟩, rfl, trivial⟩) (fun _ _ => ?_)
    conv => whnf
    refine CodeL.draw tabOk Try.checked.mixed 12 (by kernel_rfl) rfl ?_
    conv => whnf
    rw [ex, ey, ez]
    refine Spec.of_body tabOk Try.func17 rfl (ent Try.func17 rfl (by kernel_rfl)) Try.ntmps17 rfl (by kernel_rfl) (Nat.le_of_ble_eq_true rfl) ?_
    conv => whnf
    rw [s2]
    refine Spec.fn w2 [6, 7] rfl rfl (fun _ => rfl) rfl ⟨⟨by decide, rfl, rfl, _, rfl, fun _ => rfl, Nat.le_refl _, fun _ => Nat.le_refl _, id⟩, ⟨by decide, rfl, rfl, _, rfl, fun _ => rfl, Nat.le_refl _, fun _ => Nat.le_refl _, fun h => (by cases h)⟩, trivial⟩ (fun _ _ => ⟨rfl, rfl, ⟨_, rfl, rfl, rfl⟩, rfl, trivial⟩) (fun _ _ => ?_)
    repeat' ((try (conv => whnf)); first
      | refine Spec.pure hle rfl rfl (fun _ => by rw [hE]; rfl) ?_
      | refine Spec.pure hri rfl rfl (fun _ => by rw [hE]; rfl) ?_
      | refine CodeL.draw tabOk Try.checked.mixed 34 (by kernel_rfl) rfl ?_
      | refine QCallL.pure hwo rfl rfl (fun _ => by rw [hE]; rfl) ?_
      | refine QCallL.pure hof rfl rfl (fun _ => rfl) ?_
      | refine VL.qop rfl (VL.eq tabOk ?_)
      | refine Needs.mk ⟨rfl, by kernel_rfl⟩ ?_
      | refine Needs.mk (by kernel_rfl) ?_
      | refine IfL.t rfl ?_
      | refine IfL.f rfl ?_
      | (refine IfL.t ?hx ?_; case hx => (simp; done))
      | (refine IfL.f ?hx ?_; case hx => (simp; done))
      | refine OpL.bsl tabOk ?_
      | refine IfL.mk (fun h => ?_) (fun h => ?_))
    all_goals
      conv => whnf
      refine Spec.fn hl2 [13] rfl rfl (fun _ => rfl) rfl ⟨⟨by decide, rfl, rfl, _, rfl, fun _ => by rw [hE]; rfl, by show (laysV [⟨0, (i : Int), E⟩]).length ≤ 15; rw [laysV_len]; exact Nat.le_refl 15, fun _ => Nat.le_refl _, fun h => (by cases h)⟩, trivial⟩ (fun _ _ => ⟨rfl, rfl, rfl, trivial⟩) (fun y gy => ?_)
      have w3 := walk_ok 8 (memL [⟨0, (i : Int), E⟩]) y.1 0 (vaN i j k) (memL_ok _) (by decide) (by decide) (by decide) (by have := (idx_va hi hj hk).2.2.2; omega)
      rw [walkF_memL, walk1 h7 hi hj hk] at w3
      conv => whnf
      refine Spec.of_body tabOk Try.func17 rfl (ent Try.func17 rfl (by kernel_rfl)) Try.ntmps17 rfl (by kernel_rfl) (Nat.le_of_ble_eq_true rfl) ?_
      conv => whnf
      rw [s1]
      refine Spec.fn w3 [14, 15] rfl rfl (fun _ => rfl) rfl ⟨⟨by decide, rfl, rfl, _, rfl, fun _ => rfl, Nat.le_refl _, fun _ => Nat.le_refl _, id⟩, ⟨by decide, rfl, rfl, _, rfl, fun _ => rfl, Nat.le_refl _, fun _ => Nat.le_refl _, fun h => (by cases h)⟩, trivial⟩ (fun _ _ => ⟨rfl, rfl, ⟨_, rfl, rfl, rfl⟩, rfl, trivial⟩) (fun _ _ => ?_)
      conv => whnf
      refine IfL.t rfl ?_
      conv => whnf
      refine Spec.pure c5 rfl rfl (fun _ => rfl) ?_
      conv => whnf
      intro ρ
      rfl
  · rw [if_neg (fun g => hs g.1)] at w2
    refine Spec.fn w1 [6, 7] rfl rfl (fun _ => rfl) rfl ⟨⟨by decide, rfl, rfl, _, rfl, fun _ => rfl, Nat.le_refl _, fun _ => Nat.le_refl _, id⟩, ⟨by decide, rfl, rfl, _, rfl, fun _ => rfl, Nat.le_refl _, fun _ => Nat.le_refl _, fun h => (by cases h)⟩, trivial⟩ (fun _ _ => ⟨rfl, rfl, ⟨_, rfl, rfl, rfl⟩, rfl, trivial⟩) (fun _ _ => ?_)
    conv => whnf
    refine CodeL.draw tabOk Try.checked.mixed 12 (by kernel_rfl) rfl ?_
    conv => whnf
    rw [ex, ey, ez]
    refine Spec.of_body tabOk Try.func17 rfl (ent Try.func17 rfl (by kernel_rfl)) Try.ntmps17 rfl (by kernel_rfl) (Nat.le_of_ble_eq_true rfl) ?_
    conv => whnf
    rw [s2]
    refine Spec.fn w2 [6, 7] rfl rfl (fun _ => rfl) rfl ⟨⟨by decide, rfl, rfl, _, rfl, fun _ => rfl, Nat.le_refl _, fun _ => Nat.le_refl _, id⟩, ⟨by decide, rfl, rfl, _, rfl, fun _ => rfl, Nat.le_refl _, fun _ => Nat.le_refl _, fun h => (by cases h)⟩, trivial⟩ (fun _ _ => ⟨rfl, rfl, ⟨_, rfl, rfl, rfl⟩, rfl, trivial⟩) (fun _ _ => ?_)
    repeat' ((try (conv => whnf)); first
      | refine Spec.pure hle rfl rfl (fun _ => by rw [hE]; rfl) ?_
      | refine Spec.pure hri rfl rfl (fun _ => by rw [hE]; rfl) ?_
      | refine CodeL.draw tabOk Try.checked.mixed 34 (by kernel_rfl) rfl ?_
      | refine QCallL.pure hwo rfl rfl (fun _ => by rw [hE]; rfl) ?_
      | refine QCallL.pure hof rfl rfl (fun _ => rfl) ?_
      | refine VL.qop rfl (VL.eq tabOk ?_)
      | refine Needs.mk ⟨rfl, by kernel_rfl⟩ ?_
      | refine Needs.mk (by kernel_rfl) ?_
      | refine IfL.t rfl ?_
      | refine IfL.f rfl ?_
      | (refine IfL.t ?hx ?_; case hx => (simp; done))
      | (refine IfL.f ?hx ?_; case hx => (simp; done))
      | refine OpL.bsl tabOk ?_
      | refine IfL.mk (fun h => ?_) (fun h => ?_))
    all_goals
      conv => whnf
      refine Spec.fn hl2 [13] rfl rfl (fun _ => rfl) rfl ⟨⟨by decide, rfl, rfl, _, rfl, fun _ => by rw [hE]; rfl, by show (laysV [⟨0, (i : Int), E⟩]).length ≤ 15; rw [laysV_len]; exact Nat.le_refl 15, fun _ => Nat.le_refl _, fun h => (by cases h)⟩, trivial⟩ (fun _ _ => ⟨rfl, rfl, rfl, trivial⟩) (fun y gy => ?_)
      have w3 := walk_ok 8 (memL [⟨0, (i : Int), E⟩]) y.1 0 (vaN i j k) (memL_ok _) (by decide) (by decide) (by decide) (by have := (idx_va hi hj hk).2.2.2; omega)
      rw [walkF_memL, walk1 h7 hi hj hk] at w3
      conv => whnf
      refine Spec.of_body tabOk Try.func17 rfl (ent Try.func17 rfl (by kernel_rfl)) Try.ntmps17 rfl (by kernel_rfl) (Nat.le_of_ble_eq_true rfl) ?_
      conv => whnf
      rw [s1]
      refine Spec.fn w3 [14, 15] rfl rfl (fun _ => rfl) rfl ⟨⟨by decide, rfl, rfl, _, rfl, fun _ => rfl, Nat.le_refl _, fun _ => Nat.le_refl _, id⟩, ⟨by decide, rfl, rfl, _, rfl, fun _ => rfl, Nat.le_refl _, fun _ => Nat.le_refl _, fun h => (by cases h)⟩, trivial⟩ (fun _ _ => ⟨rfl, rfl, ⟨_, rfl, rfl, rfl⟩, rfl, trivial⟩) (fun _ _ => ?_)
      conv => whnf
      refine IfL.t rfl ?_
      conv => whnf
      refine Spec.pure c5 rfl rfl (fun _ => rfl) ?_
      conv => whnf
      intro ρ
      rfl
end Go.Sh.Ythpalblfkpmpeaa
