import Derived.Test.YtjjnomafohpakaaC07d
import Derived.Test.YtjjnomafohpakaaSh21
set_option linter.unusedVariables false
namespace Go.Sh.Ytjjnomafohpakaa
open Go.Proofs Go.Sh

def bitsL (s : Nat) : Nat → List Value
  | 0 => []
  | n + 1 => bitsL s n ++ (match s.testBit n with | true => [.int .i64 n] | false => [])
theorem bitsL_length (s : Nat) : ∀ n, (bitsL s n).length = cnt s n
  | 0 => rfl
  | n + 1 => by
    rw [bitsL, List.length_append, bitsL_length s n, cnt]
    cases s.testBit n <;> rfl
theorem bitsL_no {s k : Nat} (h : s.testBit k = false) : bitsL s (k + 1) = bitsL s k ∧ cnt s (k + 1) = cnt s k := by
  rw [bitsL, cnt, h]; simp
theorem bitsL_yes {s k : Nat} (h : s.testBit k = true) : bitsL s (k + 1) = bitsL s k ++ [.int .i64 k] ∧ cnt s (k + 1) = cnt s k + 1 := by
  rw [bitsL, cnt, h]; simp

theorem all_ok (s : Nat) : Makes Try.prog 10 [setV s] (.slicen 0 0 (cnt s 256) 1) [(0, .row (bitsL s 256))] 2 := by
  unfold Makes
  refine Spec.of_body tabOk Try.func10 rfl (ent Try.func10 rfl (by kernel_rfl)) Try.ntmps10 rfl (by kernel_rfl) (Nat.le_of_ble_eq_true rfl) ?_
  conv => whnf
  refine CodeL.loopN tabOk 3 (by decide) (fun x : Nat × Option Nat => match x with
    | (k, none) => ([(3, .ptr 1 0), (4, .func 19 [.ptr 0 0, .ptr 1 0]), (7, .int .i64 k)], [(0, .cells (setCells s)), (1, .cells [.nilSlice])])
    | (k, some c) => ([(3, .ptr 1 0), (4, .func 19 [.ptr 0 0, .ptr 1 0]), (7, .int .i64 k)], [(0, .cells (setCells s)), (1, .cells [.slice 2 0 (cnt s k) c]), (2, .vec (bitsL s k) (c * 1))]))
    (fun x => 256 - x.1) (fun x => x.1 ≤ 256 ∧ match x.2 with | none => cnt s x.1 = 0 | some c => 0 < cnt s x.1 ∧ cnt s x.1 ≤ c) rfl (fun x => by obtain ⟨k, _ | c⟩ := x <;> rfl) (0, none) ⟨Nat.zero_le _, rfl⟩ (to1 2 2) (to1_low (by decide)) ⟨⟨⟨_, rfl, fun _ => rfl⟩, ⟨_, rfl, fun _ => rfl⟩, ⟨_, rfl, fun _ => rfl⟩, trivial⟩, Part.same ⟨⟨by decide, rfl, rfl, _, rfl, fun _ => rfl, Nat.le_refl _, fun _ => Nat.le_refl _, id⟩, ⟨by decide, rfl, rfl, _, rfl, fun _ => rfl, Nat.le_refl _, fun _ => Nat.le_refl _, id⟩, trivial⟩ (to1_inj (.inl rfl))⟩ ?_
  rintro ⟨k, c⟩ ⟨hk, hc⟩
  have hk : k ≤ 256 := hk
  cases c with
  | none =>
    have hc : cnt s k = 0 := hc
    conv => whnf
    refine ⟨fun g => ?_, fun g => ?_⟩
    · have g : k < 256 := by have := of_decide_eq_true g; omega
      conv => whnf
      refine Spec.of_body tabOk Try.func19 rfl (ent Try.func19 rfl (by kernel_rfl)) Try.ntmps19 rfl (by kernel_rfl) (Nat.le_of_ble_eq_true rfl) ?_
      conv => whnf
      refine Spec.pure (get_ok s k) rfl rfl (fun _ => rfl) ?_
      conv => whnf
      refine ⟨fun gb => ?_, fun gb => ?_⟩
      · have hb : s.testBit k = true := (getB_nat s k g).symm.trans gb
        obtain ⟨b1, b2⟩ := bitsL_yes hb
        conv => whnf
        refine OpL.bsl tabOk ?_
        conv => whnf
        refine OpL.append tabOk ?_
        conv => whnf
        refine ⟨[.int .i64 k], fun _ => rfl, rfl, by decide, rfl, rfl, by decide, by decide, by decide, fun c' hc' => ?_⟩
        conv => whnf
        have e0 : bitsL s k = [] := List.length_eq_zero_iff.1 ((bitsL_length s k).trans hc)
        exact ⟨(k + 1, some c'), to1 2 4, ⟨by omega, by rw [b2]; omega, by rw [b2]; omega⟩, by simp only; omega, to1_low (by decide), ⟨⟨_, rfl, fun _ => rfl⟩, ⟨_, rfl, fun _ => rfl⟩, ⟨_, rfl, fun _ => by rw [wrap_succ k g]; rfl⟩, trivial⟩,
          Part.same ⟨⟨by decide, rfl, rfl, _, rfl, fun _ => rfl, Nat.le_refl _, fun _ => Nat.le_refl _, id⟩, ⟨by decide, rfl, rfl, _, rfl, fun _ => by rw [b2, hc]; rfl, Nat.le_refl _, fun _ => Nat.le_refl _, id⟩, ⟨by decide, rfl, rfl, _, rfl, fun _ => by rw [b1, e0]; rfl, Nat.le_refl _, fun _ => by rw [b1, e0]; show 1 ≤ c' * 1; omega, id⟩, trivial⟩ (to1_inj (.inr (by decide)))⟩
      · have hb : s.testBit k = false := (getB_nat s k g).symm.trans gb
        obtain ⟨b1, b2⟩ := bitsL_no hb
        conv => whnf
        exact ⟨(k + 1, none), to1 2 2, ⟨by omega, b2.trans hc⟩, by simp only; omega, to1_low (by decide), ⟨⟨_, rfl, fun _ => rfl⟩, ⟨_, rfl, fun _ => rfl⟩, ⟨_, rfl, fun _ => by rw [wrap_succ k g]; rfl⟩, trivial⟩,
          Part.same ⟨⟨by decide, rfl, rfl, _, rfl, fun _ => rfl, Nat.le_refl _, fun _ => Nat.le_refl _, id⟩, ⟨by decide, rfl, rfl, _, rfl, fun _ => rfl, Nat.le_refl _, fun _ => Nat.le_refl _, id⟩, trivial⟩ (to1_inj (.inl rfl))⟩
    · have g : k = 256 := by have := of_decide_eq_false g; omega
      subst g
      conv => whnf
      have e0 : bitsL s 256 = [] := List.length_eq_zero_iff.1 ((bitsL_length s 256).trans hc)
      refine ⟨fun _ => (0, 0), fun i => if i = 1 then some 0 else none, fun i so hi => ?_, ⟨fun i so hi => ?_, fun i j si sj hi hj hij => ?_⟩, fun ρ => by rw [hc]; rfl⟩
      · rw [look_cons] at hi
        split at hi
        · rename_i e; subst e; rfl
        · cases hi
      · rw [look_cons] at hi
        split at hi
        · rename_i e; subst e; injection hi with hi; subst hi
          rw [e0]
          exact ⟨by decide, trivial, .cells (setCells s), rfl, fun _ j v hj => (by cases hj), Nat.zero_le _, fun _ => Nat.le_refl _, id⟩
        · cases hi
      · rw [look_cons] at hi hj
        split at hi
        · split at hj
          · omega
          · cases hj
        · cases hi
  | some c =>
    have hc : 0 < cnt s k ∧ cnt s k ≤ c := hc
    have hck := cnt_le s k
    conv => whnf
    refine ⟨fun g => ?_, fun g => ?_⟩
    · have g : k < 256 := by have := of_decide_eq_true g; omega
      conv => whnf
      refine Spec.of_body tabOk Try.func19 rfl (ent Try.func19 rfl (by kernel_rfl)) Try.ntmps19 rfl (by kernel_rfl) (Nat.le_of_ble_eq_true rfl) ?_
      conv => whnf
      refine Spec.pure (get_ok s k) rfl rfl (fun _ => rfl) ?_
      conv => whnf
      refine ⟨fun gb => ?_, fun gb => ?_⟩
      · have hb : s.testBit k = true := (getB_nat s k g).symm.trans gb
        obtain ⟨b1, b2⟩ := bitsL_yes hb
        conv => whnf
        refine OpL.bsl tabOk ?_
        conv => whnf
        refine OpL.append tabOk ?_
        conv => whnf
        refine ⟨[.int .i64 k], fun _ => rfl, rfl, by decide, by rw [bitsL_length]; exact (Nat.mul_one _).symm, rfl, hc.2, by omega, by show (cnt s k + 1) * 8 ≤ _; omega, fun c' hc' => ?_⟩
        conv => whnf
        exact ⟨(k + 1, some c'), to1 2 4, ⟨by omega, by rw [b2]; omega, by rw [b2]; omega⟩, by simp only; omega, to1_low (by decide), ⟨⟨_, rfl, fun _ => rfl⟩, ⟨_, rfl, fun _ => rfl⟩, ⟨_, rfl, fun _ => by rw [wrap_succ k g]; rfl⟩, trivial⟩,
          Part.same ⟨⟨by decide, rfl, rfl, _, rfl, fun _ => rfl, Nat.le_refl _, fun _ => Nat.le_refl _, id⟩, ⟨by decide, rfl, rfl, _, rfl, fun _ => by rw [b2]; rfl, Nat.le_refl _, fun _ => Nat.le_refl _, id⟩, ⟨by decide, rfl, rfl, _, rfl, fun _ => by rw [b1]; rfl, Nat.le_refl _, fun _ => by show (bitsL s (k + 1)).length ≤ c' * 1; rw [bitsL_length, b2]; omega, id⟩, trivial⟩ (to1_inj (.inr (by decide)))⟩
      · have hb : s.testBit k = false := (getB_nat s k g).symm.trans gb
        obtain ⟨b1, b2⟩ := bitsL_no hb
        conv => whnf
        exact ⟨(k + 1, some c), to1 2 2, ⟨by omega, by rw [b2]; exact hc⟩, by simp only; omega, to1_low (by decide), ⟨⟨_, rfl, fun _ => rfl⟩, ⟨_, rfl, fun _ => rfl⟩, ⟨_, rfl, fun _ => by rw [wrap_succ k g]; rfl⟩, trivial⟩,
          Part.same ⟨⟨by decide, rfl, rfl, _, rfl, fun _ => rfl, Nat.le_refl _, fun _ => Nat.le_refl _, id⟩, ⟨by decide, rfl, rfl, _, rfl, fun _ => by rw [b2]; rfl, Nat.le_refl _, fun _ => Nat.le_refl _, id⟩, ⟨by decide, rfl, rfl, _, rfl, fun _ => by rw [b1]; rfl, Nat.le_refl _, fun _ => by show (bitsL s (k + 1)).length ≤ c * 1; rw [bitsL_length, b2]; omega, id⟩, trivial⟩ (to1_inj (.inl rfl))⟩
    · have g : k = 256 := by have := of_decide_eq_false g; omega
      subst g
      conv => whnf
      refine ⟨fun _ => (2, 0), fun i => if i = 1 then some c else none, fun i so hi => ?_, ⟨fun i so hi => ?_, fun i j si sj hi hj hij => ?_⟩, fun ρ => ?_⟩
      · rw [look_cons] at hi
        split at hi
        · rename_i e; subst e; rfl
        · cases hi
      · rw [look_cons] at hi
        split at hi
        · rename_i e; subst e; injection hi with hi; subst hi
          exact ⟨by decide, trivial, .vec (bitsL s 256) (c * 1), rfl, fun _ j v hj => by rw [Nat.zero_add]; exact hj, by show 0 + (bitsL s 256).length ≤ c * 1; rw [bitsL_length]; omega, fun _ => Nat.le_refl _, id⟩
        · cases hi
      · rw [look_cons] at hi hj
        split at hi
        · split at hj
          · omega
          · cases hj
        · cases hi
      · obtain ⟨n, hn⟩ : ∃ n, cnt s 256 = n + 1 := ⟨cnt s 256 - 1, by omega⟩
        rw [hn]; rfl

theorem refall_ok (s : Nat) : Makes Try.prog 11 [setV s] (.slicen 0 0 (cnt s 256) 1) [(0, .row (bitsL s 256))] 2 := by
  unfold Makes
  refine Spec.of_body tabOk Try.func11 rfl (ent Try.func11 rfl (by kernel_rfl)) Try.ntmps11 rfl (by kernel_rfl) (Nat.le_of_ble_eq_true rfl) ?_
  conv => whnf
  refine CodeL.loopN tabOk 2 (by decide) (fun x : Nat × Option Nat => match x with
    | (k, none) => ([(1, .ptr 0 0), (3, .nilSlice), (4, .int .i64 k)], [(0, .cells (setCells s))])
    | (k, some c) => ([(1, .ptr 0 0), (3, .slice 1 0 (cnt s k) c), (4, .int .i64 k)], [(0, .cells (setCells s)), (1, .vec (bitsL s k) (c * 1))]))
    (fun x => 256 - x.1) (fun x => x.1 ≤ 256 ∧ match x.2 with | none => cnt s x.1 = 0 | some c => 0 < cnt s x.1 ∧ cnt s x.1 ≤ c) rfl (fun x => by obtain ⟨k, _ | c⟩ := x <;> rfl) (0, none) ⟨Nat.zero_le _, rfl⟩ (to1 1 1) (to1_low (by decide)) ⟨⟨⟨_, rfl, fun _ => rfl⟩, ⟨_, rfl, fun _ => rfl⟩, ⟨_, rfl, fun _ => rfl⟩, trivial⟩, Part.same ⟨⟨by decide, rfl, rfl, _, rfl, fun _ => rfl, Nat.le_refl _, fun _ => Nat.le_refl _, id⟩, trivial⟩ (to1_inj (.inl rfl))⟩ ?_
  rintro ⟨k, c⟩ ⟨hk, hc⟩
  have hk : k ≤ 256 := hk
  cases c with
  | none =>
    have hc : cnt s k = 0 := hc
    conv => whnf
    refine ⟨fun g => ?_, fun g => ?_⟩
    · have g : k < 256 := by have := of_decide_eq_true g; omega
      conv => whnf
      refine Spec.pure (refget_ok s k) rfl rfl (fun _ => rfl) ?_
      conv => whnf
      refine ⟨fun gb => ?_, fun gb => ?_⟩
      · have hb : s.testBit k = true := (getB_nat s k g).symm.trans gb
        obtain ⟨b1, b2⟩ := bitsL_yes hb
        conv => whnf
        refine OpL.bsl tabOk ?_
        conv => whnf
        refine OpL.append tabOk ?_
        conv => whnf
        refine ⟨[.int .i64 k], fun _ => rfl, rfl, by decide, rfl, rfl, by decide, by decide, by decide, fun c' hc' => ?_⟩
        conv => whnf
        have e0 : bitsL s k = [] := List.length_eq_zero_iff.1 ((bitsL_length s k).trans hc)
        exact ⟨(k + 1, some c'), to1 1 3, ⟨by omega, by rw [b2]; omega, by rw [b2]; omega⟩, by simp only; omega, to1_low (by decide), ⟨⟨_, rfl, fun _ => rfl⟩, ⟨_, rfl, fun _ => by rw [b2, hc]; rfl⟩, ⟨_, rfl, fun _ => by rw [wrap_succ k g]; rfl⟩, trivial⟩,
          Part.same ⟨⟨by decide, rfl, rfl, _, rfl, fun _ => rfl, Nat.le_refl _, fun _ => Nat.le_refl _, id⟩, ⟨by decide, rfl, rfl, _, rfl, fun _ => by rw [b1, e0]; rfl, Nat.le_refl _, fun _ => by rw [b1, e0]; show 1 ≤ c' * 1; omega, id⟩, trivial⟩ (to1_inj (.inr (by decide)))⟩
      · have hb : s.testBit k = false := (getB_nat s k g).symm.trans gb
        obtain ⟨b1, b2⟩ := bitsL_no hb
        conv => whnf
        exact ⟨(k + 1, none), to1 1 1, ⟨by omega, b2.trans hc⟩, by simp only; omega, to1_low (by decide), ⟨⟨_, rfl, fun _ => rfl⟩, ⟨_, rfl, fun _ => rfl⟩, ⟨_, rfl, fun _ => by rw [wrap_succ k g]; rfl⟩, trivial⟩,
          Part.same ⟨⟨by decide, rfl, rfl, _, rfl, fun _ => rfl, Nat.le_refl _, fun _ => Nat.le_refl _, id⟩, trivial⟩ (to1_inj (.inl rfl))⟩
    · have g : k = 256 := by have := of_decide_eq_false g; omega
      subst g
      conv => whnf
      have e0 : bitsL s 256 = [] := List.length_eq_zero_iff.1 ((bitsL_length s 256).trans hc)
      refine ⟨fun _ => (0, 0), fun i => if i = 1 then some 0 else none, fun i so hi => ?_, ⟨fun i so hi => ?_, fun i j si sj hi hj hij => ?_⟩, fun ρ => by rw [hc]; rfl⟩
      · rw [look_cons] at hi
        split at hi
        · rename_i e; subst e; rfl
        · cases hi
      · rw [look_cons] at hi
        split at hi
        · rename_i e; subst e; injection hi with hi; subst hi
          rw [e0]
          exact ⟨by decide, trivial, .cells (setCells s), rfl, fun _ j v hj => (by cases hj), Nat.zero_le _, fun _ => Nat.le_refl _, id⟩
        · cases hi
      · rw [look_cons] at hi hj
        split at hi
        · split at hj
          · omega
          · cases hj
        · cases hi
  | some c =>
    have hc : 0 < cnt s k ∧ cnt s k ≤ c := hc
    have hck := cnt_le s k
    conv => whnf
    refine ⟨fun g => ?_, fun g => ?_⟩
    · have g : k < 256 := by have := of_decide_eq_true g; omega
      conv => whnf
      refine Spec.pure (refget_ok s k) rfl rfl (fun _ => rfl) ?_
      conv => whnf
      refine ⟨fun gb => ?_, fun gb => ?_⟩
      · have hb : s.testBit k = true := (getB_nat s k g).symm.trans gb
        obtain ⟨b1, b2⟩ := bitsL_yes hb
        conv => whnf
        refine OpL.bsl tabOk ?_
        conv => whnf
        refine OpL.append tabOk ?_
        conv => whnf
        refine ⟨[.int .i64 k], fun _ => rfl, rfl, by decide, by rw [bitsL_length]; exact (Nat.mul_one _).symm, rfl, hc.2, by omega, by show (cnt s k + 1) * 8 ≤ _; omega, fun c' hc' => ?_⟩
        conv => whnf
        exact ⟨(k + 1, some c'), to1 1 3, ⟨by omega, by rw [b2]; omega, by rw [b2]; omega⟩, by simp only; omega, to1_low (by decide), ⟨⟨_, rfl, fun _ => rfl⟩, ⟨_, rfl, fun _ => by rw [b2]; rfl⟩, ⟨_, rfl, fun _ => by rw [wrap_succ k g]; rfl⟩, trivial⟩,
          Part.same ⟨⟨by decide, rfl, rfl, _, rfl, fun _ => rfl, Nat.le_refl _, fun _ => Nat.le_refl _, id⟩, ⟨by decide, rfl, rfl, _, rfl, fun _ => by rw [b1]; rfl, Nat.le_refl _, fun _ => by show (bitsL s (k + 1)).length ≤ c' * 1; rw [bitsL_length, b2]; omega, id⟩, trivial⟩ (to1_inj (.inr (by decide)))⟩
      · have hb : s.testBit k = false := (getB_nat s k g).symm.trans gb
        obtain ⟨b1, b2⟩ := bitsL_no hb
        conv => whnf
        exact ⟨(k + 1, some c), to1 1 1, ⟨by omega, by rw [b2]; exact hc⟩, by simp only; omega, to1_low (by decide), ⟨⟨_, rfl, fun _ => rfl⟩, ⟨_, rfl, fun _ => by rw [b2]; rfl⟩, ⟨_, rfl, fun _ => by rw [wrap_succ k g]; rfl⟩, trivial⟩,
          Part.same ⟨⟨by decide, rfl, rfl, _, rfl, fun _ => rfl, Nat.le_refl _, fun _ => Nat.le_refl _, id⟩, ⟨by decide, rfl, rfl, _, rfl, fun _ => by rw [b1]; rfl, Nat.le_refl _, fun _ => by show (bitsL s (k + 1)).length ≤ c * 1; rw [bitsL_length, b2]; omega, id⟩, trivial⟩ (to1_inj (.inl rfl))⟩
    · have g : k = 256 := by have := of_decide_eq_false g; omega
      subst g
      conv => whnf
      refine ⟨fun _ => (1, 0), fun i => if i = 1 then some c else none, fun i so hi => ?_, ⟨fun i so hi => ?_, fun i j si sj hi hj hij => ?_⟩, fun ρ => ?_⟩
      · rw [look_cons] at hi
        split at hi
        · rename_i e; subst e; rfl
        · cases hi
      · rw [look_cons] at hi
        split at hi
        · rename_i e; subst e; injection hi with hi; subst hi
          exact ⟨by decide, trivial, .vec (bitsL s 256) (c * 1), rfl, fun _ j v hj => by rw [Nat.zero_add]; exact hj, by show 0 + (bitsL s 256).length ≤ c * 1; rw [bitsL_length]; omega, fun _ => Nat.le_refl _, id⟩
        · cases hi
      · rw [look_cons] at hi hj
        split at hi
        · split at hj
          · omega
          · cases hj
        · cases hi
      · obtain ⟨n, hn⟩ : ∃ n, cnt s 256 = n + 1 := ⟨cnt s 256 - 1, by omega⟩
        rw [hn]; rfl
end Go.Sh.Ytjjnomafohpakaa
