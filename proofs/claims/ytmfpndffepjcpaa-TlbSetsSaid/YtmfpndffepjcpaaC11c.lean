import Derived.Test.YtmfpndffepjcpaaC11b
set_option linter.unusedVariables false
namespace Go.Sh.Ytmfpndffepjcpaa
open Go.Proofs Go.Sh

theorem drop_ok (s : Nat → List Ln) (rest : List Value) (hs : okT s) (a n : Int) (hn : 0 ≤ n) : Spec Try.prog 13 [.ptr 0 0, .int .u64 a, .int .u64 n] [(0, .row (tlbC s rest))] 1 fun v H' _ => (∀ ρ, v.val ρ = (SV.tup []).val ρ) ∧ subH [(0, .row (tlbC (fset s (q4 n) ((s (q4 n)).filter fun x => !isP a n x)) rest))] H' := by
  refine Spec.of_body tabOk Try.func13 rfl (ent Try.func13 rfl (by kernel_rfl)) Try.ntmps13 rfl (by kernel_rfl) (Nat.le_of_ble_eq_true rfl) ?_
  conv => whnf
  refine Spec.of_body tabOk Try.func21 rfl (ent Try.func21 rfl (by kernel_rfl)) Try.ntmps21 rfl (by kernel_rfl) (Nat.le_of_ble_eq_true rfl) ?_
  conv => whnf
  refine .there (q4 n) (q4_eq hn) (q4_lt n) ?_
  conv => whnf
  refine Spec.of_body tabOk Try.func23 rfl (ent Try.func23 rfl (by kernel_rfl)) Try.ntmps23 rfl (by kernel_rfl) (Nat.le_of_ble_eq_true rfl) ?_
  conv => whnf
  refine Spec.set (q := q4 n) (dropPage_ok a n (s (q4 n)) (hs _)) [(1, 0), (2, 0)] hs (q4_lt n) (Nat.le_trans (List.length_filter_le _ _) (hs _)) rfl (noWr_out rfl) (fun ρ => ha_at (by show 0 + 0 + q4 n * 33 = 33 * q4 n; omega)) rfl ⟨⟨by decide, rfl, _, Lies.one rfl fun _ => rfl⟩, ⟨by decide, rfl, _, Lies.one rfl fun _ => rfl⟩, trivial⟩ rfl rfl ?_
  conv => whnf
  exact ⟨fun _ => rfl, rfl, trivial⟩

theorem put_ok (s : Nat → List Ln) (rest : List Value) (hs : okT s) (l : Ln) (hn : 0 ≤ l.num) : Spec Try.prog 6 [.ptr 0 0, .agg (lnC l)] [(0, .row (tlbC s rest))] 1 fun v H' _ => (∀ ρ, v.val ρ = (SV.tup []).val ρ) ∧ subH [(0, .row (tlbC (putS s l) rest))] H' := by
  have hq := q4_lt l.num
  have hfl : ((s (q4 l.num)).filter fun x => !isP l.asid l.num x).length ≤ 2 := Nat.le_trans (List.length_filter_le _ _) (hs _)
  unfold putS
  refine Spec.of_body tabOk Try.func6 rfl (ent Try.func6 rfl (by kernel_rfl)) Try.ntmps6 rfl (by kernel_rfl) (Nat.le_of_ble_eq_true rfl) ?_
  conv => whnf
  refine Spec.of_body tabOk Try.func21 rfl (ent Try.func21 rfl (by kernel_rfl)) Try.ntmps21 rfl (by kernel_rfl) (Nat.le_of_ble_eq_true rfl) ?_
  conv => whnf
  refine .there (q4 l.num) (q4_eq hn) (q4_lt l.num) ?_
  conv => whnf
  refine Spec.of_body tabOk Try.func23 rfl (ent Try.func23 rfl (by kernel_rfl)) Try.ntmps23 rfl (by kernel_rfl) (Nat.le_of_ble_eq_true rfl) ?_
  conv => whnf
  refine Spec.set (q := q4 l.num) (dropPage_ok l.asid l.num (s (q4 l.num)) (hs _)) [(2, 0), (3, 0)] hs (q4_lt l.num) hfl rfl (noWr_out rfl) (fun ρ => ha_at (by show 0 + 0 + q4 l.num * 33 = 33 * q4 l.num; omega)) rfl ⟨⟨by decide, rfl, _, Lies.one rfl fun _ => rfl⟩, ⟨by decide, rfl, _, Lies.one rfl fun _ => rfl⟩, trivial⟩ rfl rfl ?_
  generalize q4 l.num = q at hq hfl
  generalize hL : (s q).filter (fun x => !isP l.asid l.num x) = L at hfl
  have hs1 : okT (fset s q L) := okT_fset hs hfl
  have e1 : fset s q L q = L := fset_same _ _ _
  conv => whnf
  refine .at1 (.int .i64 (L.length : Int)) (33 * q + 32) (by show 0 + 0 + q * 33 + 32 = _; omega) (by have := tlbC_n hs1 rest hq; rw [e1] at this; exact this) rfl ?_
  conv => whnf
  refine ⟨fun h2 => ?_, fun h2 => ?_⟩
  · have h2 : L.length = 2 := by have := of_decide_eq_true h2; omega
    obtain ⟨x, y, rfl⟩ : ∃ x y, L = [x, y] := by
      rcases le2 hfl with rfl | ⟨a, rfl⟩ | h
      · cases h2
      · cases h2
      · exact h
    conv => whnf
    refine Spec.set (q := q) (l' := [y]) (args0 := [.ptr 0 0, .int .i64 0]) (u0 := 1) (caps := []) (by rw [e1]; exact take20_ok x y) [] hs1 hq (lek rfl) rfl (noWr_out rfl) (fun ρ => ha_at (by show 0 + 0 + q * 33 = 33 * q; omega)) rfl trivial rfl rfl ?_
    rw [fset_twice]
    generalize hst' : fset s q [y] = st
    have hst : okT st := by rw [← hst']; exact okT_fset hs (lek rfl)
    have e2 : st q = [y] := by rw [← hst']; exact fset_same _ _ _
    have h1 : (st q).length ≤ 1 := by rw [e2]; exact lek rfl
    conv => whnf
    refine CodeL.draw tabOk Try.checked.mixed 9 (by kernel_rfl) rfl ?_
    conv => whnf
    refine .at1 (.int .i64 ((st q).length : Int)) (33 * q + 32) (by show 0 + 0 + q * 33 + 32 = _; omega) (tlbC_n hst rest hq) rfl ?_
    conv => whnf
    refine .there (st q).length rfl (by omega) ?_
    conv => whnf
    refine .row (tlbM st q l rest) (lnC l) (33 * q + 16 * (st q).length) (by show 0 + 0 + q * 33 + 0 + (st q).length * 16 = _; omega) (fun _ => rfl) rfl rfl rfl (by rw [tlbC_len hst]; show _ + 16 ≤ _; omega) (tlbC_mid hst rest hq h1 l) ?_
    conv => whnf
    refine .at1 (.int .i64 ((st q).length : Int)) (33 * q + 32) (by show 0 + 0 + q * 33 + 32 = _; omega) (tlbM_n hst rest hq h1 l) rfl ?_
    conv => whnf
    refine .row (tlbC (fset st q (st q ++ [l])) rest) [.int .i64 (((st q).length : Int) + 1)] (33 * q + 32) (by show 0 + 0 + q * 33 + 32 = _; omega) (fun ρ => ?_) rfl rfl rfl (by rw [tlbM_len hst rest hq h1 l, tlbC_len hst]; show _ + 1 ≤ _; omega) (tlbM_put hst rest hq h1 l) ?_
    · show [Value.int .i64 (IntKind.wrap .i64 (((st q).length : Int) + 1))] = [Value.int .i64 (((st q).length : Int) + 1)]
      rw [wrap_i64' _ (by omega) (by omega)]
    conv => whnf
    refine ⟨fun _ => rfl, ?_, trivial⟩
    · rw [e2, ← hst', fset_twice]; rfl
  · have h2 : L.length ≠ 2 := by have := of_decide_eq_false h2; omega
    generalize hst' : fset s q L = st at hs1 e1
    have hst := hs1
    have h1 : (st q).length ≤ 1 := by rw [e1]; omega
    conv => whnf
    refine CodeL.draw tabOk Try.checked.mixed 9 (by kernel_rfl) rfl ?_
    conv => whnf
    refine .at1 (.int .i64 ((st q).length : Int)) (33 * q + 32) (by show 0 + 0 + q * 33 + 32 = _; omega) (tlbC_n hst rest hq) rfl ?_
    conv => whnf
    refine .there (st q).length rfl (by omega) ?_
    conv => whnf
    refine .row (tlbM st q l rest) (lnC l) (33 * q + 16 * (st q).length) (by show 0 + 0 + q * 33 + 0 + (st q).length * 16 = _; omega) (fun _ => rfl) rfl rfl rfl (by rw [tlbC_len hst]; show _ + 16 ≤ _; omega) (tlbC_mid hst rest hq h1 l) ?_
    conv => whnf
    refine .at1 (.int .i64 ((st q).length : Int)) (33 * q + 32) (by show 0 + 0 + q * 33 + 32 = _; omega) (tlbM_n hst rest hq h1 l) rfl ?_
    conv => whnf
    refine .row (tlbC (fset st q (st q ++ [l])) rest) [.int .i64 (((st q).length : Int) + 1)] (33 * q + 32) (by show 0 + 0 + q * 33 + 32 = _; omega) (fun ρ => ?_) rfl rfl rfl (by rw [tlbM_len hst rest hq h1 l, tlbC_len hst]; show _ + 1 ≤ _; omega) (tlbM_put hst rest hq h1 l) ?_
    · show [Value.int .i64 (IntKind.wrap .i64 (((st q).length : Int) + 1))] = [Value.int .i64 (((st q).length : Int) + 1)]
      rw [wrap_i64' _ (by omega) (by omega)]
    conv => whnf
    refine ⟨fun _ => rfl, ?_, trivial⟩
    · rw [e1, ← hst', fset_twice, putL, if_neg h2]; rfl
end Go.Sh.Ytmfpndffepjcpaa
