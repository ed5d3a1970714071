import Derived.Test.YtanljnpjkokmcaaTgA
import Derived.Test.YtanljnpjkokmcaaMB
set_option linter.unusedVariables false
namespace Go.Sh.Ytanljnpjkokmcaa
open Go.Proofs Go.Sh

theorem number_ok (n : Nat) (hn : okN n) : Pure Try.prog 29 [.int .i64 (n : Int)] (.tup [.int .u64 (n : Int), .tt]) := by
  rcases hn with rfl | rfl | rfl | rfl
  all_goals
    refine Spec.of_body tabOk Try.func29 rfl (ent Try.func29 rfl (by kernel_rfl)) Try.ntmps29 rfl (by kernel_rfl) (Nat.le_of_ble_eq_true rfl) ?_
    repeat ((conv => whnf); first | refine .t rfl ?_ | refine .f rfl ?_)
    intro ρ
    rfl
theorem load_ok (N : Nat) (b t : Nat → Nat) (a n : Nat) (hb : okB b) (hn : okN n) (ha : a < N * 4096) (hN : N ≤ 64) (hd : a % n = 0) : Fun Try.prog 11 [.ptr 0 0, .int .u64 (a : Int), .int .i64 (n : Int)] [(0, .cells [.slice 1 0 N N]), (1, .view (ramV N b t))] 2 0 (fun _ : Unit => True) (fun _ => .tup [.int .u64 (rdN b a n : Int), .int .i64 0]) (fun _ => [(0, .cells [.slice 1 0 N N])]) := by
  unfold Fun
  have hal : a % 4096 + n ≤ 4096 := by rcases hn with rfl | rfl | rfl | rfl <;> omega
  have hn0 : 0 < n ∧ n ≤ 8 := by rcases hn with rfl | rfl | rfl | rfl <;> decide
  refine Spec.of_body tabOk Try.func11 rfl (ent Try.func11 rfl (by kernel_rfl)) Try.ntmps11 rfl (by kernel_rfl) (Nat.le_of_ble_eq_true rfl) ?_
  conv => whnf
  refine Spec.pure (number_ok n hn) rfl rfl (fun _ => rfl) ?_
  conv => whnf
  refine Spec.of_body tabOk Try.func30 rfl (ent Try.func30 rfl (by kernel_rfl)) Try.ntmps30 rfl (by kernel_rfl) (Nat.le_of_ble_eq_true rfl) ?_
  conv => whnf
  refine Spec.of_body tabOk Try.func65 rfl (ent Try.func65 rfl (by kernel_rfl)) Try.ntmps65 rfl (by kernel_rfl) (Nat.le_of_ble_eq_true rfl) ?_
  conv => whnf
  refine .f (decide_eq_false (by omega)) ?_
  conv => whnf
  refine ⟨by omega, ?_⟩
  conv => whnf
  refine .f (by rw [rem_nat, hd]; rfl) ?_
  conv => whnf
  have hw : IntKind.wrap .u64 ((a : Int).tdiv 4096) = ((a / 4096 : Nat) : Int) := quo_nat a 4096 (by omega)
  refine .f (by rw [hw, wrapn N (by omega)]; exact decide_eq_false (by omega)) ?_
  conv => whnf
  refine .there (a / 4096) hw (by omega) ?_
  conv => whnf
  refine .t rfl ?_
  conv => whnf
  refine .f rfl ?_
  conv => whnf
  refine Spec.of_body tabOk Try.func31 rfl (ent Try.func31 rfl (by kernel_rfl)) Try.ntmps31 rfl (by kernel_rfl) (Nat.le_of_ble_eq_true rfl) ?_
  conv => whnf
  have ho : IntKind.wrap .i64 ((a : Int).tmod 4096) = ((a % 4096 : Nat) : Int) := by
    rw [show (4096 : Int) = ((4096 : Nat) : Int) from rfl, rem_nat, wrap_i64 _ (by omega) (by omega)]
  refine CodeL.loop tabOk (fun i : Nat => ([(1, .func 48 [.ptr 4 0, .ptr 2 0, .ptr 3 0]), (5, .int .i64 (n : Int)), (6, .int .i64 (i : Int))], [(0, .cells [.slice 1 0 N N]), (1, .view (ramV N b t)), (2, .cells [.ptrx 1 (0 + a / 4096 * 4100)]), (3, .cells [.int .i64 (a % 4096 : Nat)]), (4, .cells [.int .u64 (rdN b a i : Nat)])])) (fun i => n - i) (fun i => i ≤ n) rfl (fun i => ⟨rfl, rfl⟩) 0 (Nat.zero_le _) ⟨⟨rfl, rfl, rfl, trivial⟩, ⟨rfl, rfl, rfl, congrArg (fun x => some (SO.cells [.int .i64 x])) ho, rfl, trivial⟩⟩ ?_
  intro i hi
  conv => whnf
  refine ⟨fun h => ?_, fun h => ?_⟩
  · have h : i < n := by have := of_decide_eq_true h; omega
    conv => whnf
    refine Spec.of_body tabOk Try.func48 rfl (ent Try.func48 rfl (by kernel_rfl)) Try.ntmps48 rfl (by kernel_rfl) (Nat.le_of_ble_eq_true rfl) ?_
    conv => whnf
    refine CodeL.draw tabOk Try.checked.mixed 14 (by kernel_rfl) rfl ?_
    conv => whnf
    refine .there (a % 4096 + i) (by rw [wrap_i64 _ (by omega) (by omega)]; omega) (by omega) ?_
    conv => whnf
    refine .at1 (.int .u8 (b (a + i) : Nat)) (a / 4096 * 4100 + (a % 4096 + i)) (by show 0 + a / 4096 * 4100 + 0 + (a % 4096 + i) * 1 = _; omega) (by rw [ramV_byte b t (by omega) (by omega), show a / 4096 * 4096 + (a % 4096 + i) = a + i by omega]; rfl) rfl ?_
    conv => whnf
    refine ⟨by rw [wrap_i64 _ (by omega) (by omega)]; omega, ?_⟩
    conv => whnf
    have hby := or_byte (i := i) (rdN_lt hb a i) (hb (a + i)) (by omega)
    exact ⟨i + 1, by omega, by omega, ⟨rfl, rfl, congrArg (fun x => some (SV.int .i64 x)) (by rw [wrap_i64 _ (by omega) (by omega)]; omega), trivial⟩, ⟨rfl, rfl, rfl, rfl, congrArg (fun x => some (SO.cells [.int .u64 x])) hby, trivial⟩⟩
  · have h : i = n := by have := of_decide_eq_false h; omega
    subst h
    conv => whnf
    exact ⟨(), fun i => (i, 0), trivial, fun _ _ => rfl, Part.same ⟨⟨by decide, rfl, rfl, _, rfl, fun _ => rfl, Nat.le_refl _, fun _ => Nat.le_refl _, id⟩, trivial⟩ (fun i j _ _ h => h), fun ρ => rfl⟩
/-- The tags behind n bytes laid at a. -/
def tagsL (t : Nat → Nat) (a n : Nat) : Nat → Nat := fset t (a / 4096) (diffS (t (a / 4096)) (buildS (coverP ((a % 4096 : Nat) : Int) (n : Int)) 256))
theorem store_ok (N : Nat) (b t : Nat → Nat) (a n v : Nat) (hv : v < 2 ^ 64) (hn : okN n) (ha : a < N * 4096) (hN : N ≤ 64) (hd : a % n = 0) : Fun Try.prog 7 [.ptr 0 0, .int .u64 (a : Int), .int .i64 (n : Int), .int .u64 (v : Int)] [(0, .cells [.slice 1 0 N N]), (1, .row (ramV N b t))] 2 0 (fun _ : Unit => True) (fun _ => .int .i64 0) (fun _ => [(0, .cells [.slice 1 0 N N]), (1, .row (ramV N (stB b a v n) (tagsL t a n)))]) := by
  unfold Fun
  have hal : a % 4096 + n ≤ 4096 := by rcases hn with rfl | rfl | rfl | rfl <;> omega
  have hn0 : 0 < n ∧ n ≤ 8 := by rcases hn with rfl | rfl | rfl | rfl <;> decide
  refine Spec.of_body tabOk Try.func7 rfl (ent Try.func7 rfl (by kernel_rfl)) Try.ntmps7 rfl (by kernel_rfl) (Nat.le_of_ble_eq_true rfl) ?_
  conv => whnf
  refine Spec.pure (number_ok n hn) rfl rfl (fun _ => rfl) ?_
  conv => whnf
  refine Spec.of_body tabOk Try.func30 rfl (ent Try.func30 rfl (by kernel_rfl)) Try.ntmps30 rfl (by kernel_rfl) (Nat.le_of_ble_eq_true rfl) ?_
  conv => whnf
  refine Spec.of_body tabOk Try.func65 rfl (ent Try.func65 rfl (by kernel_rfl)) Try.ntmps65 rfl (by kernel_rfl) (Nat.le_of_ble_eq_true rfl) ?_
  conv => whnf
  refine .f (decide_eq_false (by omega)) ?_
  conv => whnf
  refine ⟨by omega, ?_⟩
  conv => whnf
  refine .f (by rw [rem_nat, hd]; rfl) ?_
  conv => whnf
  have hw : IntKind.wrap .u64 ((a : Int).tdiv 4096) = ((a / 4096 : Nat) : Int) := quo_nat a 4096 (by omega)
  refine .f (by rw [hw, wrapn N (by omega)]; exact decide_eq_false (by omega)) ?_
  conv => whnf
  refine .there (a / 4096) hw (by omega) ?_
  conv => whnf
  refine .t rfl ?_
  conv => whnf
  refine .f rfl ?_
  conv => whnf
  refine Spec.of_body tabOk Try.func31 rfl (ent Try.func31 rfl (by kernel_rfl)) Try.ntmps31 rfl (by kernel_rfl) (Nat.le_of_ble_eq_true rfl) ?_
  conv => whnf
  have ho : IntKind.wrap .i64 ((a : Int).tmod 4096) = ((a % 4096 : Nat) : Int) := by
    rw [show (4096 : Int) = ((4096 : Nat) : Int) from rfl, rem_nat, wrap_i64 _ (by omega) (by omega)]
  refine CodeL.loop tabOk (fun i : Nat => ([(1, .func 32 [.ptr 2 0, .ptr 3 0, .ptr 4 0]), (5, .int .i64 (n : Int)), (6, .int .i64 (i : Int))], [(0, .cells [.slice 1 0 N N]), (1, .row (ramV N (stB b a v i) t)), (2, .cells [.int .u64 (v : Nat)]), (3, .cells [.ptrx 1 (0 + a / 4096 * 4100)]), (4, .cells [.int .i64 (a % 4096 : Nat)])])) (fun i => n - i) (fun i => i ≤ n) rfl (fun i => ⟨rfl, rfl⟩) 0 (Nat.zero_le _) ⟨⟨rfl, rfl, rfl, trivial⟩, ⟨rfl, by rw [stB_zero]; rfl, rfl, rfl, congrArg (fun x => some (SO.cells [.int .i64 x])) ho, trivial⟩⟩ ?_
  intro i hi
  conv => whnf
  refine ⟨fun h => ?_, fun h => ?_⟩
  · have h : i < n := by have := of_decide_eq_true h; omega
    conv => whnf
    refine Spec.of_body tabOk Try.func32 rfl (ent Try.func32 rfl (by kernel_rfl)) Try.ntmps32 rfl (by kernel_rfl) (Nat.le_of_ble_eq_true rfl) ?_
    conv => whnf
    refine CodeL.draw tabOk Try.checked.mixed 11 (by kernel_rfl) rfl ?_
    conv => whnf
    refine ⟨by rw [wrap_i64 _ (by omega) (by omega)]; omega, ?_⟩
    conv => whnf
    refine .there (a % 4096 + i) (by rw [wrap_i64 _ (by omega) (by omega)]; omega) (by omega) ?_
    conv => whnf
    have hby := shr_byte (v := v) (i := i) (by omega)
    refine .row (ramV N (stB b a v (i + 1)) t) [.int .u8 (v / 2 ^ (8 * i) % 256 : Nat)] (a / 4096 * 4100 + (a % 4096 + i)) (by show 0 + a / 4096 * 4100 + 0 + (a % 4096 + i) * 1 = _; omega) (fun _ => congrArg (fun x => [Value.int .u8 x]) hby) rfl rfl rfl (by rw [ramV_len]; show _ + 1 ≤ _; omega) (by rw [← stB_succ]; exact (ramV_setb _ _ _ (by omega) (by omega)).trans (by rw [show a / 4096 * 4096 + (a % 4096 + i) = a + i by omega])) ?_
    conv => whnf
    exact ⟨i + 1, by omega, by omega, ⟨rfl, rfl, congrArg (fun x => some (SV.int .i64 x)) (by rw [wrap_i64 _ (by omega) (by omega)]; omega), trivial⟩, ⟨rfl, rfl, rfl, rfl, rfl, trivial⟩⟩
  · have h : i = n := by have := of_decide_eq_false h; omega
    subst h
    have hcov := cover_ok ((a % 4096 : Nat) : Int) (i : Int) ⟨by omega, by omega⟩ ⟨by omega, by omega⟩
    have hwo := without_ok (t (a / 4096)) (buildS (coverP ((a % 4096 : Nat) : Int) (i : Int)) 256) (buildS_lt _ _)
    generalize hS : buildS (coverP ((a % 4096 : Nat) : Int) (i : Int)) 256 = S at hcov hwo
    conv => whnf
    refine CodeL.draw tabOk Try.checked.mixed 11 (by kernel_rfl) rfl ?_
    conv => whnf
    refine .atN (setCells (t (a / 4096))) (a / 4096 * 4100 + 4096) (by show 0 + a / 4096 * 4100 + 4096 = _; omega) (by rw [ramV_len]; show _ + 4 ≤ _; omega) (ramV_tags _ t (by omega)) rfl ?_
    conv => whnf
    refine QCallL.pure hcov rfl rfl (fun _ => rfl) ?_
    conv => whnf
    refine QCallL.pure hwo rfl rfl (fun _ => rfl) ?_
    conv => whnf
    refine .row (ramV N (stB b a v i) (tagsL t a i)) (setCells (diffS (t (a / 4096)) S)) (a / 4096 * 4100 + 4096) (by show 0 + a / 4096 * 4100 + 4096 = _; omega) (fun _ => rfl) rfl rfl rfl (by rw [ramV_len]; show _ + 4 ≤ _; omega) (by rw [ramV_sett _ _ _ (by omega), tagsL, hS]) ?_
    conv => whnf
    exact ⟨(), fun i => (i, 0), trivial, fun _ _ => rfl, Part.same ⟨⟨by decide, rfl, rfl, _, rfl, fun _ => rfl, Nat.le_refl _, fun _ => Nat.le_refl _, id⟩, ⟨by decide, rfl, rfl, _, rfl, fun _ => rfl, Nat.le_refl _, fun _ => Nat.le_refl _, id⟩, trivial⟩ (fun i j _ _ h => h), fun ρ => rfl⟩
end Go.Sh.Ytanljnpjkokmcaa
