import Derived.Test.YtmfpndffepjcpaaC11d
set_option linter.unusedVariables false
namespace Go.Sh.Ytmfpndffepjcpaa
open Go.Proofs Go.Sh

theorem flush_ok (s : Nat → List Ln) (rest : List Value) (hs : okT s) (a : Int) : Spec Try.prog 15 [.ptr 0 0, .int .u64 a] [(0, .row (tlbC s rest))] 1 fun v H' _ => (∀ ρ, v.val ρ = (SV.tup []).val ρ) ∧ subH [(0, .row (tlbC (filtS (fun x => !isA a x) s 4) rest))] H' := by
  refine Spec.of_body tabOk Try.func15 rfl (ent Try.func15 rfl (by kernel_rfl)) Try.ntmps15 rfl (by kernel_rfl) (Nat.le_of_ble_eq_true rfl) ?_
  conv => whnf
  refine Spec.of_body tabOk Try.func25 rfl (ent Try.func25 rfl (by kernel_rfl)) Try.ntmps25 rfl (by kernel_rfl) (Nat.le_of_ble_eq_true rfl) ?_
  conv => whnf
  refine CodeL.loop tabOk (fun i : Nat => ([(0, .ptr 0 0), (1, .func 26 [.ptr 1 0]), (7, .int .i64 (i : Int))], (0, .row (tlbC (filtS (fun x => !isA a x) s i) rest)) :: [(1, .cells [.int .u64 a])])) (fun i => 4 - i) (fun i => i ≤ 4) rfl (fun i => ⟨rfl, rfl⟩) 0 (Nat.zero_le _) ⟨⟨rfl, rfl, rfl, trivial⟩, ⟨by rw [filtS_zero]; rfl, ⟨rfl, trivial⟩⟩⟩ ?_
  intro i hi
  conv => whnf
  refine ⟨fun h => ?_, fun h => ?_⟩
  · have h : i < 4 := by have := of_decide_eq_true h; omega
    have hs1 : okT (filtS (fun x => !isA a x) s i) := okT_filtS hs i
    conv => whnf
    refine .there i rfl h ?_
    conv => whnf
    refine Spec.set (q := i) (l' := (s i).filter fun x => !isA a x) (args0 := [.ptr 0 0, .func 26 [.ptr 1 0]]) (u0 := 2) (caps := [(1, .view [.int .u64 a])]) (by rw [filtS_at]; exact dropFlush_ok a (s i) (hs i)) [(1, 0)] hs1 h (Nat.le_trans (List.length_filter_le _ _) (hs i)) rfl (noWr_out rfl) (fun ρ => ha_at (by show 0 + 0 + i * 33 = 33 * i; omega)) rfl ⟨⟨by decide, rfl, _, Lies.one rfl fun _ => rfl⟩, trivial⟩ rfl rfl ?_
    rw [filtS_succ]
    conv => whnf
    exact ⟨i + 1, by omega, by omega, ⟨rfl, rfl, congrArg (fun x => some (SV.int .i64 x)) (by rw [wrap_i64' _ (by omega) (by omega)]; omega), trivial⟩, ⟨rfl, ⟨rfl, trivial⟩⟩⟩
  · have h : i = 4 := by have := of_decide_eq_false h; omega
    subst h
    conv => whnf
    exact ⟨fun _ => rfl, rfl, trivial⟩
theorem clear_ok (s : Nat → List Ln) (rest : List Value) (hs : okT s) : Spec Try.prog 17 [.ptr 0 0] [(0, .row (tlbC s rest))] 1 fun v H' _ => (∀ ρ, v.val ρ = (SV.tup []).val ρ) ∧ subH [(0, .row (tlbC (filtS (fun x => !isT x) s 4) rest))] H' := by
  refine Spec.of_body tabOk Try.func17 rfl (ent Try.func17 rfl (by kernel_rfl)) Try.ntmps17 rfl (by kernel_rfl) (Nat.le_of_ble_eq_true rfl) ?_
  conv => whnf
  refine Spec.of_body tabOk Try.func25 rfl (ent Try.func25 rfl (by kernel_rfl)) Try.ntmps25 rfl (by kernel_rfl) (Nat.le_of_ble_eq_true rfl) ?_
  conv => whnf
  refine CodeL.loop tabOk (fun i : Nat => ([(0, .ptr 0 0), (1, .func 27 []), (7, .int .i64 (i : Int))], (0, .row (tlbC (filtS (fun x => !isT x) s i) rest)) :: [])) (fun i => 4 - i) (fun i => i ≤ 4) rfl (fun i => ⟨rfl, rfl⟩) 0 (Nat.zero_le _) ⟨⟨rfl, rfl, rfl, trivial⟩, ⟨by rw [filtS_zero]; rfl, trivial⟩⟩ ?_
  intro i hi
  conv => whnf
  refine ⟨fun h => ?_, fun h => ?_⟩
  · have h : i < 4 := by have := of_decide_eq_true h; omega
    have hs1 : okT (filtS (fun x => !isT x) s i) := okT_filtS hs i
    conv => whnf
    refine .there i rfl h ?_
    conv => whnf
    refine Spec.set (q := i) (l' := (s i).filter fun x => !isT x) (args0 := [.ptr 0 0, .func 27 []]) (u0 := 1) (caps := []) (by rw [filtS_at]; exact dropClear_ok (s i) (hs i)) [] hs1 h (Nat.le_trans (List.length_filter_le _ _) (hs i)) rfl (noWr_out rfl) (fun ρ => ha_at (by show 0 + 0 + i * 33 = 33 * i; omega)) rfl trivial rfl rfl ?_
    rw [filtS_succ]
    conv => whnf
    exact ⟨i + 1, by omega, by omega, ⟨rfl, rfl, congrArg (fun x => some (SV.int .i64 x)) (by rw [wrap_i64' _ (by omega) (by omega)]; omega), trivial⟩, ⟨rfl, trivial⟩⟩
  · have h : i = 4 := by have := of_decide_eq_false h; omega
    subst h
    conv => whnf
    exact ⟨fun _ => rfl, rfl, trivial⟩

theorem lines_ok (s : Nat → List Ln) (rest : List Value) (hs : okT s) : Fun Try.prog 8 [.ptr 0 0] [(0, .view (tlbC s rest))] 1 1 (okS (preL s 4).length) (fun x => .slz x.1 1 0 (preL s 4).length x.2) (fun x => [(1, .row (linesV (preL s 4)))]) := by
  unfold Fun
  refine Spec.of_body tabOk Try.func8 rfl (ent Try.func8 rfl (by kernel_rfl)) Try.ntmps8 rfl (by kernel_rfl) (Nat.le_of_ble_eq_true rfl) ?_
  conv => whnf
  refine CodeL.loopG tabOk 2 (by decide) (fun x : Nat × Bool × Nat => ([(0, .ptr 0 0), (3, .slz x.2.1 1 0 (preL s x.1).length x.2.2), (8, .int .i64 (x.1 : Int))], [(0, .view (tlbC s rest)), (1, .vec (linesV (preL s x.1)) (x.2.2 * 16))]))
    (fun x => 4 - x.1) (fun x => x.1 ≤ 4 ∧ okS (preL s x.1).length x.2) rfl (fun x => rfl) (0, true, 0) ⟨Nat.zero_le _, Nat.le_refl _, fun _ => rfl⟩ (fun i => (i, 0)) (fun _ _ => rfl) ⟨⟨⟨_, rfl, fun _ => rfl⟩, ⟨_, rfl, fun _ => rfl⟩, ⟨_, rfl, fun _ => rfl⟩, trivial⟩,
      Part.same ⟨⟨by decide, rfl, rfl, _, rfl, fun _ => rfl, Nat.le_refl _, fun _ => Nat.le_refl _, id⟩, ⟨by decide, rfl, rfl, _, rfl, fun _ => rfl, Nat.le_refl _, fun _ => Nat.le_refl _, id⟩, trivial⟩ (fun i j _ _ h => h)⟩ ?_
  rintro ⟨i, b, c⟩ ⟨hi, hc⟩
  have hi : i ≤ 4 := hi
  have hc : okS (preL s i).length (b, c) := hc
  dsimp only
  conv => whnf
  refine ⟨fun h => ?_, fun h => ?_⟩
  · have h : i < 4 := by have := of_decide_eq_true h; omega
    have hl := hs i
    have hp := preL_len hs i
    conv => whnf
    refine .there i rfl h ?_
    conv => whnf
    refine CodeL.draw tabOk Try.checked.mixed 13 (by kernel_rfl) rfl ?_
    conv => whnf
    refine .at1 (.int .i64 ((s i).length : Int)) (33 * i + 32) (by show 0 + 0 + i * 33 + 32 = _; omega) (tlbC_n hs rest h) rfl ?_
    conv => whnf
    refine .at1 (.int .i64 ((s i).length : Int)) (33 * i + 32) (by show 0 + 0 + i * 33 + 32 = _; omega) (tlbC_n hs rest h) rfl ?_
    conv => whnf
    refine VL.qop rfl (VL.slice tabOk ?_)
    conv => whnf
    refine ⟨0, (s i).length, (s i).length, rfl, rfl, rfl, rfl, Nat.zero_le _, Nat.le_refl _, hl, ?_⟩
    conv => whnf
    refine OpL.app tabOk ?_
    conv => whnf
    refine ⟨linesV (s i), fun ρ => ?_, by rw [linesV_len, Nat.sub_zero], by rw [linesV_len], rfl, hc.1, by omega, by show ((preL s i).length + ((s i).length - 0)) * 48 ≤ 140737488355328; omega, fun b' c' hc' hb' => ?_⟩
    · show ((tlbC s rest).drop (sOff (s i).length 0 (0 + 0 + i * 33 + 0) 16)).take (((s i).length - 0) * 16) = linesV (s i)
      rw [sOff_zero, Nat.sub_zero, show 0 + 0 + i * 33 + 0 = 33 * i by omega, tlbC_lines hs rest h]
    have hlen : (preL s (i + 1)).length = (preL s i).length + ((s i).length - 0) := by simp only [preL, List.length_append, Nat.sub_zero]
    conv => whnf
    exact ⟨(i + 1, b', c'), to1 1 2, ⟨by show i + 1 ≤ 4; omega, by rw [hlen]; exact hc', fun h => (hb' h).2⟩, by simp only; omega, to1_low (by decide), ⟨⟨_, rfl, fun _ => rfl⟩, ⟨_, rfl, fun ρ => by rw [hlen]; rfl⟩, ⟨_, rfl, fun _ => congrArg (fun x => Value.int .i64 x) (by rw [wrap_i64' _ (by omega) (by omega)]; omega)⟩, trivial⟩,
      Part.same ⟨⟨by decide, rfl, rfl, _, rfl, fun _ => rfl, Nat.le_refl _, fun _ => Nat.le_refl _, id⟩, ⟨by decide, rfl, rfl, _, rfl, fun _ => by simp only [SO.vals, preL, linesV_append], Nat.le_refl _, fun _ => by show (linesV (preL s (i + 1))).length ≤ c' * 16; rw [linesV_len, hlen]; exact Nat.mul_le_mul_right _ hc', id⟩, trivial⟩ (to1_inj (.inr (by decide)))⟩
  · have h : i = 4 := by have := of_decide_eq_false h; omega
    subst h
    conv => whnf
    exact ⟨(b, c), fun i => (i, 0), hc, fun _ _ => rfl, Part.same ⟨⟨by decide, rfl, rfl, _, rfl, fun _ => rfl, by show (linesV (preL s 4)).length ≤ c * 16; rw [linesV_len]; exact Nat.mul_le_mul_right _ hc.1, fun _ => Nat.le_refl _, id⟩, trivial⟩ (fun i j _ _ h => h), fun ρ => rfl⟩
end Go.Sh.Ytmfpndffepjcpaa
