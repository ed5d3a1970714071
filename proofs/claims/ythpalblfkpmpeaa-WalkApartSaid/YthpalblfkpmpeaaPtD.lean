import Derived.Test.YthpalblfkpmpeaaPtC
set_option linter.unusedVariables false
namespace Go.Sh.Ythpalblfkpmpeaa
open Go.Proofs Go.Sh

theorem index_ok (va L : Nat) (hv : va < 2 ^ 64) (hL : L < 3) : Pure Try.prog 31 [.int .u64 (va : Int), .int .i64 (L : Int)] (.int .i64 (idxN va L : Nat)) := by
  have hg := fget_ok va (12 + 9 * L) 9 hv (by decide) (by decide) (by omega)
  have hlt : va / 2 ^ (12 + 9 * L) % 2 ^ 9 < 512 := Nat.mod_lt _ (by decide)
  unfold idxN
  have : L = 0 ∨ L = 1 ∨ L = 2 := by omega
  rcases this with rfl | rfl | rfl
  all_goals
    refine Spec.of_body tabOk Try.func31 rfl (ent Try.func31 rfl (by kernel_rfl)) Try.ntmps31 rfl (by kernel_rfl) (Nat.le_of_ble_eq_true rfl) ?_
    conv => whnf
    refine .f rfl ?_
    conv => whnf
    refine .f rfl ?_
    conv => whnf
    refine Spec.pure hg rfl rfl (fun _ => rfl) ?_
    conv => whnf
    intro ρ
    exact congrArg (Value.int .i64) (wrap_i64 _ (by omega) (by omega))
theorem refindex_ok (va L : Nat) (hv : va < 2 ^ 64) (hL : L < 3) : Pure Try.prog 33 [.int .u64 (va : Int), .int .i64 (L : Int)] (.int .i64 (idxN va L : Nat)) := by
  have hq : ∀ i, va / 512 ^ i < 2 ^ 64 := fun i => Nat.lt_of_le_of_lt (Nat.div_le_self _ _) hv
  refine Spec.of_body tabOk Try.func33 rfl (ent Try.func33 rfl (by kernel_rfl)) Try.ntmps33 rfl (by kernel_rfl) (Nat.le_of_ble_eq_true rfl) ?_
  conv => whnf
  refine .f (decide_eq_false (by omega)) ?_
  conv => whnf
  refine .f (decide_eq_false (by omega)) ?_
  conv => whnf
  refine CodeL.loop tabOk (fun i : Nat => ([(0, .int .u64 (va / 512 ^ i : Nat)), (1, .int .i64 (L : Int)), (5, .int .i64 (i : Int))], [])) (fun i => L - i) (fun i => i ≤ L) rfl (fun i => ⟨rfl, rfl⟩) 0 (Nat.zero_le _) ⟨⟨by rw [Nat.pow_zero, Nat.div_one]; rfl, rfl, rfl, trivial⟩, trivial⟩ ?_
  intro i hi
  conv => whnf
  refine ⟨fun h => ?_, fun h => ?_⟩
  · have h : i < L := by have := of_decide_eq_true h; omega
    conv => whnf
    exact ⟨i + 1, by omega, by omega, ⟨congrArg (fun x => some (SV.int .u64 x)) ((quo_nat (va / 512 ^ i) 512 (hq i)).trans (by rw [Nat.div_div_eq_div_mul, Nat.pow_succ])), rfl, congrArg (fun x => some (SV.int .i64 x)) (by rw [wrap_i64 _ (by omega) (by omega)]; omega), trivial⟩, trivial⟩
  · have h : i = L := by have := of_decide_eq_false h; omega
    subst h
    conv => whnf
    intro ρ
    have e1 : IntKind.wrap .u64 (((va / 512 ^ i : Nat) : Int).tdiv 4096) = ((va / 512 ^ i / 4096 : Nat) : Int) := quo_nat (va / 512 ^ i) 4096 (hq i)
    have e2 : ((va / 512 ^ i / 4096 : Nat) : Int).tmod 512 = ((va / 512 ^ i / 4096 % 512 : Nat) : Int) := rem_nat _ 512
    have e3 : va / 512 ^ i / 4096 % 512 = idxN va i := by
      unfold idxN
      rw [Nat.div_div_eq_div_mul, Nat.pow_add, Nat.pow_mul, Nat.mul_comm (512 ^ i)]
    show Value.int .i64 (IntKind.wrap .i64 ((IntKind.wrap .u64 (((va / 512 ^ i : Nat) : Int).tdiv 4096)).tmod 512)) = _
    have e4 : idxN va i < 512 := Nat.mod_lt _ (by decide)
    rw [e1, e2, e3, wrap_i64 _ (by omega) (by omega)]
    rfl
theorem refbit_ok (b : Bool) (p : Nat) (hp : p < 64) : Pure Try.prog 53 [.bool b, .int .u64 (p : Int)] (.int .u64 (bn b * 2 ^ p : Nat)) := by
  refine Spec.of_body tabOk Try.func53 rfl (ent Try.func53 rfl (by kernel_rfl)) Try.ntmps53 rfl (by kernel_rfl) (Nat.le_of_ble_eq_true rfl) ?_
  conv => whnf
  refine ⟨fun h => ?_, fun h => ?_⟩
  · have h : b = true := h
    subst h
    conv => whnf
    refine ⟨by omega, ?_⟩
    conv => whnf
    intro ρ
    exact congrArg (Value.int .u64) ((shl_one p hp).trans (by simp [bn]))
  · have h : b = false := h
    subst h
    conv => whnf
    intro ρ
    exact congrArg (Value.int .u64) (by simp [bn])
theorem refhas_ok (w p : Nat) (hw : w < 2 ^ 64) (hp : p < 64) : Pure Try.prog 57 [.int .u64 (w : Int), .int .u64 (p : Int)] (.bool (w.testBit p)) := by
  refine Spec.of_body tabOk Try.func57 rfl (ent Try.func57 rfl (by kernel_rfl)) Try.ntmps57 rfl (by kernel_rfl) (Nat.le_of_ble_eq_true rfl) ?_
  conv => whnf
  refine ⟨by omega, ?_⟩
  conv => whnf
  intro ρ
  have e1 : shrI .u64 (w : Int) (p : Int) = ((w / 2 ^ p : Nat) : Int) := shr_lit w p (by omega)
  have e2 : ((w / 2 ^ p : Nat) : Int).tmod 2 = ((w / 2 ^ p % 2 : Nat) : Int) := rem_nat _ 2
  refine congrArg Value.bool ?_
  show decide ((shrI .u64 (w : Int) (p : Int)).tmod 2 = 1) = _
  rw [e1, e2, Nat.testBit_eq_decide_div_mod_eq]
  exact decide_eq_decide.2 (by omega)
theorem refleaf_ok (e : Ent) : Pure Try.prog 37 [.agg (entC e)] (.bool (leafB e)) := by
  obtain ⟨v, r, w, x, u, g, a, d, cw, cr, cd, gn, fr⟩ := e
  refine Spec.of_body tabOk Try.func37 rfl (ent Try.func37 rfl (by kernel_rfl)) Try.ntmps37 rfl (by kernel_rfl) (Nat.le_of_ble_eq_true rfl) ?_
  repeat' ((try (conv => whnf)); refine IfL.mk (fun h => ?_) (fun h => ?_))
  all_goals
    conv => whnf
    intro ρ
    show Value.bool _ = Value.bool _
    simp_all [leafB]
theorem refright_ok (e : Ent) (he : okE e) : Pure Try.prog 36 [.agg (entC e)] (.bool (rightB e)) := by
  have hl := refleaf_ok e
  generalize hL : leafB e = L at hl
  have hfr := he.1
  obtain ⟨v, r, w, x, u, g, a, d, cw, cr, cd, gn, fr⟩ := e
  simp only at hfr
  refine Spec.of_body tabOk Try.func36 rfl (ent Try.func36 rfl (by kernel_rfl)) Try.ntmps36 rfl (by kernel_rfl) (Nat.le_of_ble_eq_true rfl) ?_
  repeat' ((try (conv => whnf)); first
    | refine IfL.mk (fun h => ?_) (fun h => ?_)
    | refine Spec.pure hl rfl rfl (fun _ => rfl) ?_)
  all_goals
    conv => whnf
    intro ρ
    show Value.bool _ = Value.bool _
  all_goals
    clear hl
    subst hL
    simp_all [rightB, leafB]
  all_goals first
    | (intro g; omega)
    | omega
    | simp only [Bool.and_assoc]
    | skip
end Go.Sh.Ythpalblfkpmpeaa
