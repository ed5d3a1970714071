import Derived.Test.YtimlenccbchidaaRRRR8b
set_option linter.unusedVariables false
namespace Go.Sh.YtimlenccbchidaaRRR
open Go.Proofs Go.Sh

theorem gran16 (a : Nat) : IntKind.wrap .i64 (((a % 4096 : Nat) : Int).tdiv 16) = ((a % 4096 / 16 : Nat) : Int) := by
  have h : ((a % 4096 : Nat) : Int).tdiv 16 = ((a % 4096 / 16 : Nat) : Int) := Int.ofNat_tdiv (a % 4096) 16
  rw [h, wrap_i64 _ (by omega) (by omega)]
theorem storecap_ok (N : Nat) (b t : Nat → Nat) (a : Nat) (tg : Bool) (m ad : Nat) (hm : m < 2 ^ 64) (hc : ad < 2 ^ 64) (ha : a < N * 4096) (hN : N ≤ 64) (hd : a % 16 = 0) : Fun Try.prog 8 [.ptr 0 0, .int .u64 (a : Int), .agg [.bool tg, .int .u64 (m : Int), .int .u64 (ad : Int)]] [(0, .cells [.slice 1 0 N N]), (1, .row (ramV N b t))] 2 0 (fun _ : Unit => True) (fun _ => .int .i64 0) (fun _ => [(0, .cells [.slice 1 0 N N]), (1, .row (ramV N (cpB b a (capF m ad)) (fset t (a / 4096) (withS (t (a / 4096)) ((a % 4096 / 16 : Nat) : Int) tg))))]) := by
  unfold Fun
  have hal : a % 4096 + 16 ≤ 4096 := by omega
  refine Spec.of_body tabOk Try.func8 rfl (ent Try.func8 rfl (by kernel_rfl)) Try.ntmps8 rfl (by kernel_rfl) (Nat.le_of_ble_eq_true rfl) ?_
  conv => whnf
  refine Spec.of_body tabOk Try.func12 rfl (ent Try.func12 rfl (by kernel_rfl)) Try.ntmps12 rfl (by kernel_rfl) (Nat.le_of_ble_eq_true rfl) ?_
  conv => whnf
  refine Spec.of_body tabOk Try.func21 rfl (ent Try.func21 rfl (by kernel_rfl)) Try.ntmps21 rfl (by kernel_rfl) (Nat.le_of_ble_eq_true rfl) ?_
  conv => whnf
  refine .f (decide_eq_false (by omega)) ?_
  conv => whnf
  refine ⟨by decide, ?_⟩
  conv => whnf
  refine .f (by rw [show (16 : Int) = ((16 : Nat) : Int) from rfl, rem_nat, hd]; rfl) ?_
  conv => whnf
  have hw : IntKind.wrap .u64 ((a : Int).tdiv 4096) = ((a / 4096 : Nat) : Int) := quo_nat a 4096 (by omega)
  refine .f (by rw [hw, wrapn N (by omega)]; exact decide_eq_false (by omega)) ?_
  conv => whnf
  refine .there (a / 4096) hw (by omega) ?_
  conv => whnf
  refine .f rfl ?_
  conv => whnf
  have ho : IntKind.wrap .i64 ((a : Int).tmod 4096) = ((a % 4096 : Nat) : Int) := by
    rw [show (4096 : Int) = ((4096 : Nat) : Int) from rfl, rem_nat, wrap_i64 _ (by omega) (by omega)]
  rw [ho]
  refine Spec.pure (bytes_ok tg m ad hm hc) rfl rfl (fun _ => rfl) ?_
  conv => whnf
  refine CodeL.draw tabOk Try.checked.mixed 6 (by kernel_rfl) rfl ?_
  conv => whnf
  refine VL.qop rfl (VL.slice tabOk ?_)
  conv => whnf
  refine ⟨a % 4096, 4096, 4096, rfl, rfl, rfl, rfl, by omega, by decide, by decide, ?_⟩
  conv => whnf
  refine VL.qop rfl (VL.slice tabOk ?_)
  conv => whnf
  refine ⟨0, 16, 16, rfl, rfl, rfl, rfl, by decide, by decide, by decide, ?_⟩
  conv => whnf
  refine OpL.copy tabOk ?_
  conv => whnf
  have hmin : (16 - 0).min (4096 - a % 4096) = 16 := Nat.min_eq_left (by omega)
  have hoff : sOff 4096 (a % 4096) (0 + a / 4096 * 4100 + 0) 1 = a / 4096 * 4100 + a % 4096 := by
    rw [sOff_lt (by omega)]; omega
  refine ⟨.row (ramV N (cpB b a (capF m ad)) t), fun _ => SV.vals zenv (b16 (capF m ad)), ?_, fun ρ => ⟨?_, ?_⟩, fun _ _ _ => trivial, ?_, rfl, rfl, fun ρ => ⟨?_, ?_⟩⟩
  rotate_left
  · rw [hmin]; rfl
  · rw [hmin]; rfl
  · show (ramV N _ t).length = (ramV N b t).length; rw [ramV_len, ramV_len]
  · rw [hmin]
    show sOff 4096 (a % 4096) (0 + a / 4096 * 4100 + 0) 1 + 16 * 1 ≤ (ramV N b t).length
    rw [hoff, ramV_len]; omega
  · show ramV N (cpB b a (capF m ad)) t = setRange (ramV N b t) (sOff 4096 (a % 4096) (0 + a / 4096 * 4100 + 0) 1) (SV.vals zenv (b16 (capF m ad)))
    rw [hoff, ramV_cp b t _ (by omega) (by omega), show a / 4096 * 4096 + a % 4096 = a by omega]
  conv => whnf
  refine CodeL.draw tabOk Try.checked.mixed 12 (by kernel_rfl) rfl ?_
  conv => whnf
  refine .atN (setCells (t (a / 4096))) (a / 4096 * 4100 + 4096) (by show 0 + a / 4096 * 4100 + 4096 = _; omega) (by rw [ramV_len]; show _ + 4 ≤ _; omega) (ramV_tags _ t (by omega)) rfl ?_
  conv => whnf
  have h16 := gran16 a
  refine QCallL.pure (with_ok (t (a / 4096)) ((a % 4096 / 16 : Nat) : Int) tg) rfl rfl (fun _ => by rw [← h16]; rfl) ?_
  conv => whnf
  refine .row (ramV N (cpB b a (capF m ad)) (fset t (a / 4096) (withS (t (a / 4096)) ((a % 4096 / 16 : Nat) : Int) tg))) (setCells (withS (t (a / 4096)) ((a % 4096 / 16 : Nat) : Int) tg)) (a / 4096 * 4100 + 4096) (by show 0 + a / 4096 * 4100 + 4096 = _; omega) (fun _ => rfl) rfl rfl rfl (by rw [ramV_len]; show _ + 4 ≤ _; omega) (ramV_sett _ _ _ (by omega)) ?_
  conv => whnf
  exact ⟨(), fun i => (i, 0), trivial, fun _ _ => rfl, Part.same ⟨⟨by decide, rfl, rfl, _, rfl, fun _ => rfl, Nat.le_refl _, fun _ => Nat.le_refl _, id⟩, ⟨by decide, rfl, rfl, _, rfl, fun _ => rfl, Nat.le_refl _, fun _ => Nat.le_refl _, id⟩, trivial⟩ (fun i j _ _ h => h), fun ρ => rfl⟩
theorem loadcap_ok (N : Nat) (b t : Nat → Nat) (a : Nat) (hb : okB b) (ha : a < N * 4096) (hN : N ≤ 64) (hd : a % 16 = 0) : Fun Try.prog 9 [.ptr 0 0, .int .u64 (a : Int)] [(0, .cells [.slice 1 0 N N]), (1, .view (ramV N b t))] 2 0 (fun _ : Unit => True) (fun _ => .tup [.agg [.bool (getB (t (a / 4096)) ((a % 4096 / 16 : Nat) : Int)), .int .u64 (rdN (fun i => b (a + i)) 8 8 : Nat), .int .u64 (rdN (fun i => b (a + i)) 0 8 : Nat)], .int .i64 0]) (fun _ => [(0, .cells [.slice 1 0 N N])]) := by
  unfold Fun
  have hal : a % 4096 + 16 ≤ 4096 := by omega
  refine Spec.of_body tabOk Try.func9 rfl (ent Try.func9 rfl (by kernel_rfl)) Try.ntmps9 rfl (by kernel_rfl) (Nat.le_of_ble_eq_true rfl) ?_
  conv => whnf
  refine Spec.of_body tabOk Try.func12 rfl (ent Try.func12 rfl (by kernel_rfl)) Try.ntmps12 rfl (by kernel_rfl) (Nat.le_of_ble_eq_true rfl) ?_
  conv => whnf
  refine Spec.of_body tabOk Try.func21 rfl (ent Try.func21 rfl (by kernel_rfl)) Try.ntmps21 rfl (by kernel_rfl) (Nat.le_of_ble_eq_true rfl) ?_
  conv => whnf
  refine .f (decide_eq_false (by omega)) ?_
  conv => whnf
  refine ⟨by decide, ?_⟩
  conv => whnf
  refine .f (by rw [show (16 : Int) = ((16 : Nat) : Int) from rfl, rem_nat, hd]; rfl) ?_
  conv => whnf
  have hw : IntKind.wrap .u64 ((a : Int).tdiv 4096) = ((a / 4096 : Nat) : Int) := quo_nat a 4096 (by omega)
  refine .f (by rw [hw, wrapn N (by omega)]; exact decide_eq_false (by omega)) ?_
  conv => whnf
  refine .there (a / 4096) hw (by omega) ?_
  conv => whnf
  refine .f rfl ?_
  conv => whnf
  have ho : IntKind.wrap .i64 ((a : Int).tmod 4096) = ((a % 4096 : Nat) : Int) := by
    rw [show (4096 : Int) = ((4096 : Nat) : Int) from rfl, rem_nat, wrap_i64 _ (by omega) (by omega)]
  rw [ho]
  refine CodeL.draw tabOk Try.checked.mixed 17 (by kernel_rfl) rfl ?_
  conv => whnf
  refine VL.qop rfl (VL.slice tabOk ?_)
  conv => whnf
  refine ⟨a % 4096, a % 4096 + 16, 4096, rfl, ?_, rfl, rfl, by omega, by omega, by decide, ?_⟩
  · show IntKind.wrap .i64 (((a % 4096 : Nat) : Int) + 16) = ((a % 4096 + 16 : Nat) : Int)
    rw [wrap_i64 _ (by omega) (by omega)]; omega
  conv => whnf
  refine VL.qop rfl (VL.s2a tabOk ?_)
  conv => whnf
  refine ⟨by omega, ?_⟩
  conv => whnf
  have hoff : sOff 4096 (a % 4096) (0 + a / 4096 * 4100 + 0) 1 = a / 4096 * 4100 + a % 4096 := by
    rw [sOff_lt (by omega)]; omega
  have hbb : (fun i => b (a / 4096 * 4096 + a % 4096 + i)) = fun i => b (a + i) := by
    funext i; rw [show a / 4096 * 4096 + a % 4096 = a by omega]
  refine .atN (b16 fun i => b (a + i)) (a / 4096 * 4100 + a % 4096) hoff (by rw [ramV_len]; show _ + 16 ≤ _; omega) (by rw [← hbb]; exact ramV_b16 b t (by omega) (by omega)) rfl ?_
  conv => whnf
  refine .atN (setCells (t (a / 4096))) (a / 4096 * 4100 + 4096) (by show 0 + a / 4096 * 4100 + 4096 = _; omega) (by rw [ramV_len]; show _ + 4 ≤ _; omega) (ramV_tags _ t (by omega)) rfl ?_
  conv => whnf
  have h16 := gran16 a
  refine QCallL.pure (get_ok (t (a / 4096)) ((a % 4096 / 16 : Nat) : Int)) rfl rfl (fun _ => by rw [← h16]; rfl) ?_
  conv => whnf
  refine QCallL.pure (of_ok (fun i => b (a + i)) (getB (t (a / 4096)) ((a % 4096 / 16 : Nat) : Int)) (fun i => hb _)) rfl rfl (fun _ => rfl) ?_
  conv => whnf
  exact ⟨(), fun i => (i, 0), trivial, fun _ _ => rfl, Part.same ⟨⟨by decide, rfl, rfl, _, rfl, fun _ => rfl, Nat.le_refl _, fun _ => Nat.le_refl _, id⟩, trivial⟩ (fun i j _ _ h => h), fun ρ => rfl⟩
end Go.Sh.YtimlenccbchidaaRRR
