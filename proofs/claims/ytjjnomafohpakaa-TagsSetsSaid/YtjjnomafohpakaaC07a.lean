import Derived.Test.YtjjnomafohpakaaChecked
import Derived.Test.YtjjnomafohpakaaSh18
import Derived.Test.YtjjnomafohpakaaSet1
set_option linter.unusedVariables false
namespace Go.Sh.Ytjjnomafohpakaa
open Go.Proofs Go.Sh

theorem row3 : TIok Try.prog 3 ⟨.int .i64, 1, 8, .cells [.int .i64 0]⟩ := .of_cells (.int .i64 0) Try.underlying3 (by kernel_rfl) rfl rfl rfl rfl
theorem row4 : TIok Try.prog 4 ⟨.bool, 1, 1, .cells [.ff]⟩ := .of_cells (.bool false) Try.underlying4 (by kernel_rfl) rfl rfl rfl rfl
theorem row24 : TIok Try.prog 24 ⟨.int .u64, 1, 8, .cells [.int .u64 0]⟩ := .of_cells (.int .u64 0) Try.underlying24 (by kernel_rfl) rfl rfl rfl rfl
theorem row25 : TIok Try.prog 25 ⟨.array 4 24, 4, 32, .cells [.int .u64 0, .int .u64 0, .int .u64 0, .int .u64 0]⟩ := .of_cells (.agg #[.int .u64 0, .int .u64 0, .int .u64 0, .int .u64 0]) Try.underlying25 (by kernel_rfl) rfl rfl rfl rfl
theorem row26 : TIok Try.prog 26 ⟨.array 4 24, 4, 32, .cells [.int .u64 0, .int .u64 0, .int .u64 0, .int .u64 0]⟩ := .of_cells (.agg #[.int .u64 0, .int .u64 0, .int .u64 0, .int .u64 0]) Try.underlying26 (by kernel_rfl) rfl rfl rfl rfl
theorem row30 : TIok Try.prog 30 ⟨.slice 3, 1, 24, .cells [.nilSlice]⟩ := .of_cells (.slice none 0 0) Try.underlying30 (by kernel_rfl) rfl rfl rfl rfl
theorem row42 : TIok Try.prog 42 ⟨.array 2 3, 2, 16, .cells [.int .i64 0, .int .i64 0]⟩ := .of_cells (.agg #[.int .i64 0, .int .i64 0]) Try.underlying42 (by kernel_rfl) rfl rfl rfl rfl
theorem row46 : TIok Try.prog 46 ⟨.int .u64, 1, 8, .cells [.int .u64 0]⟩ := .of_cells (.int .u64 0) Try.underlying46 (by kernel_rfl) rfl rfl rfl rfl
def tab : Tab := [(3, ⟨.int .i64, 1, 8, .cells [.int .i64 0]⟩), (4, ⟨.bool, 1, 1, .cells [.ff]⟩), (24, ⟨.int .u64, 1, 8, .cells [.int .u64 0]⟩), (25, ⟨.array 4 24, 4, 32, .cells [.int .u64 0, .int .u64 0, .int .u64 0, .int .u64 0]⟩), (26, ⟨.array 4 24, 4, 32, .cells [.int .u64 0, .int .u64 0, .int .u64 0, .int .u64 0]⟩), (30, ⟨.slice 3, 1, 24, .cells [.nilSlice]⟩), (42, ⟨.array 2 3, 2, 16, .cells [.int .i64 0, .int .i64 0]⟩), (46, ⟨.int .u64, 1, 8, .cells [.int .u64 0]⟩)]
theorem tabOk : TabOk Try.prog tab := .cons row3 <| .cons row4 <| .cons row24 <| .cons row25 <| .cons row26 <| .cons row30 <| .cons row42 <| .cons row46 <| .nil _


theorem is_ok (i : Int) : Pure Try.prog 21 [.int .i64 i] (.bool (decide (0 ≤ i ∧ i < 256))) := by
  refine Spec.of_body tabOk Try.func21 rfl (ent Try.func21 rfl (by kernel_rfl)) Try.ntmps21 rfl (by kernel_rfl) (Nat.le_of_ble_eq_true rfl) ?_
  conv => whnf
  refine ⟨fun h => ?_, fun h => ?_⟩
  · conv => whnf
    intro ρ
    have h : 0 ≤ i := of_decide_eq_true h
    show Value.bool _ = Value.bool _
    simp [h]
  · conv => whnf
    intro ρ
    have h : ¬ 0 ≤ i := of_decide_eq_false h
    show Value.bool _ = Value.bool _
    simp [h]

theorem word4 (i : Int) (h : 0 ≤ i ∧ i < 256) : i / 64 = (0 : Nat) ∨ i / 64 = (1 : Nat) ∨ i / 64 = (2 : Nat) ∨ i / 64 = (3 : Nat) := by omega

theorem get_ok (s : Nat) (i : Int) : Pure Try.prog 14 [setV s, .int .i64 i] (.bool (getB s i)) := by
  refine Spec.of_body tabOk Try.func14 rfl (ent Try.func14 rfl (by kernel_rfl)) Try.ntmps14 rfl (by kernel_rfl) (Nat.le_of_ble_eq_true rfl) ?_
  conv => whnf
  refine Spec.pure (is_ok i) rfl rfl (fun _ => rfl) ?_
  conv => whnf
  refine ⟨fun h => ?_, fun h => ?_⟩
  · have h := of_decide_eq_true h
    rcases word4 i h with e | e | e | e
    all_goals
      conv => whnf
      first
        | refine ⟨0, idx_word i 0 h.1 h.2 e, by decide, .inl ?_⟩
        | refine ⟨1, idx_word i 1 h.1 h.2 e, by decide, .inl ?_⟩
        | refine ⟨2, idx_word i 2 h.1 h.2 e, by decide, .inl ?_⟩
        | refine ⟨3, idx_word i 3 h.1 h.2 e, by decide, .inl ?_⟩
      conv => whnf
      refine ⟨by rw [idx_bit i h.1]; omega, ?_⟩
      conv => whnf
      intro ρ
      show Value.bool _ = Value.bool _
      congr 1
      first
        | rw [get_word s i 0 h.1 h.2 e]
        | rw [get_word s i 1 h.1 h.2 e]
        | rw [get_word s i 2 h.1 h.2 e]
        | rw [get_word s i 3 h.1 h.2 e]
      simp only [getB, h, and_self, decide_true, Bool.true_and]
      cases s.testBit i.toNat <;> rfl
  · conv => whnf
    intro ρ
    show Value.bool _ = Value.bool _
    simp [getB, h]

theorem with_ok (s : Nat) (i : Int) (t : Bool) : Pure Try.prog 16 [setV s, .int .i64 i, .bool t] (setV (withS s i t)) := by
  refine Spec.of_body tabOk Try.func16 rfl (ent Try.func16 rfl (by kernel_rfl)) Try.ntmps16 rfl (by kernel_rfl) (Nat.le_of_ble_eq_true rfl) ?_
  conv => whnf
  refine Spec.pure (is_ok i) rfl rfl (fun _ => rfl) ?_
  conv => whnf
  refine ⟨fun h => ?_, fun h => ?_⟩
  · have h : ¬ (0 ≤ i ∧ i < 256) := by simpa only [Bool.not_eq_true', decide_eq_false_iff_not] using h
    conv => whnf
    intro ρ
    rw [withS_out _ _ _ h]; rfl
  · have h : 0 ≤ i ∧ i < 256 := by simpa using h
    conv => whnf
    refine ⟨by rw [idx_bit i h.1]; omega, ?_⟩
    conv => whnf
    refine ⟨fun ht => ?_, fun ht => ?_⟩
    all_goals
      subst ht
      rcases word4 i h with e | e | e | e
      all_goals
        conv => whnf
        first
          | (refine .lit 0 (idx_word i 0 h.1 h.2 e) (by decide) ?_; (conv => whnf); refine .lit 0 (idx_word i 0 h.1 h.2 e) (by decide) ?_)
          | (refine .lit 1 (idx_word i 1 h.1 h.2 e) (by decide) ?_; (conv => whnf); refine .lit 1 (idx_word i 1 h.1 h.2 e) (by decide) ?_)
          | (refine .lit 2 (idx_word i 2 h.1 h.2 e) (by decide) ?_; (conv => whnf); refine .lit 2 (idx_word i 2 h.1 h.2 e) (by decide) ?_)
          | (refine .lit 3 (idx_word i 3 h.1 h.2 e) (by decide) ?_; (conv => whnf); refine .lit 3 (idx_word i 3 h.1 h.2 e) (by decide) ?_)
        conv => whnf
        intro ρ
        exact setV_cells ρ (by first | exact (wd_other s i _ 0 (by omega)).symm | exact wd_set s i 0 h.1 h.2 e | exact wd_clear s i 0 h.1 h.2 e) (by first | exact (wd_other s i _ 1 (by omega)).symm | exact wd_set s i 1 h.1 h.2 e | exact wd_clear s i 1 h.1 h.2 e)
          (by first | exact (wd_other s i _ 2 (by omega)).symm | exact wd_set s i 2 h.1 h.2 e | exact wd_clear s i 2 h.1 h.2 e) (by first | exact (wd_other s i _ 3 (by omega)).symm | exact wd_set s i 3 h.1 h.2 e | exact wd_clear s i 3 h.1 h.2 e)

theorem refget_ok (s : Nat) (i : Int) : Pure Try.prog 15 [setV s, .int .i64 i] (.bool (getB s i)) := by
  refine Spec.of_body tabOk Try.func15 rfl (ent Try.func15 rfl (by kernel_rfl)) Try.ntmps15 rfl (by kernel_rfl) (Nat.le_of_ble_eq_true rfl) ?_
  conv => whnf
  refine ⟨fun h0 => ?_, fun h0 => ?_⟩
  · have h0 : 0 ≤ i := of_decide_eq_true h0
    conv => whnf
    refine ⟨fun h1 => ?_, fun h1 => ?_⟩
    · have h : 0 ≤ i ∧ i < 256 := ⟨h0, of_decide_eq_true h1⟩
      rcases word4 i h with e | e | e | e
      all_goals
        conv => whnf
        first
          | refine .lit 0 (idx_word i 0 h.1 h.2 e) (by decide) ?_
          | refine .lit 1 (idx_word i 1 h.1 h.2 e) (by decide) ?_
          | refine .lit 2 (idx_word i 2 h.1 h.2 e) (by decide) ?_
          | refine .lit 3 (idx_word i 3 h.1 h.2 e) (by decide) ?_
        conv => whnf
        refine ⟨by rw [wrap_mod64 i h.1, idx_bit i h.1]; omega, ?_⟩
        conv => whnf
        intro ρ
        show Value.bool _ = Value.bool _
        congr 1
        rw [wrap_mod64 i h.1]
        first
          | rw [get_word s i 0 h.1 h.2 e]
          | rw [get_word s i 1 h.1 h.2 e]
          | rw [get_word s i 2 h.1 h.2 e]
          | rw [get_word s i 3 h.1 h.2 e]
        simp only [getB, h, and_self, decide_true, Bool.true_and]
        cases s.testBit i.toNat <;> rfl
    · conv => whnf
      intro ρ
      have h1 := of_decide_eq_false h1
      show Value.bool _ = Value.bool _
      simp [getB, h1]
  · conv => whnf
    intro ρ
    have h0 := of_decide_eq_false h0
    show Value.bool _ = Value.bool _
    simp [getB, h0]

theorem refwith_ok (s : Nat) (i : Int) (t : Bool) : Pure Try.prog 17 [setV s, .int .i64 i, .bool t] (setV (withS s i t)) := by
  refine Spec.of_body tabOk Try.func17 rfl (ent Try.func17 rfl (by kernel_rfl)) Try.ntmps17 rfl (by kernel_rfl) (Nat.le_of_ble_eq_true rfl) ?_
  conv => whnf
  refine ⟨fun h0 => ?_, fun h0 => ?_⟩
  · have h : ¬ (0 ≤ i ∧ i < 256) := fun g => by have := of_decide_eq_true h0; omega
    conv => whnf
    intro ρ
    rw [withS_out _ _ _ h]; rfl
  · conv => whnf
    refine ⟨fun h1 => ?_, fun h1 => ?_⟩
    · have h : ¬ (0 ≤ i ∧ i < 256) := fun g => by have := of_decide_eq_true h1; omega
      conv => whnf
      intro ρ
      rw [withS_out _ _ _ h]; rfl
    · have h : 0 ≤ i ∧ i < 256 := by have := of_decide_eq_false h0; have := of_decide_eq_false h1; omega
      rcases word4 i h with e | e | e | e
      all_goals
        conv => whnf
        first
          | refine .lit 0 (idx_word i 0 h.1 h.2 e) (by decide) ?_
          | refine .lit 1 (idx_word i 1 h.1 h.2 e) (by decide) ?_
          | refine .lit 2 (idx_word i 2 h.1 h.2 e) (by decide) ?_
          | refine .lit 3 (idx_word i 3 h.1 h.2 e) (by decide) ?_
        conv => whnf
        refine ⟨by rw [wrap_mod64 i h.1, idx_bit i h.1]; omega, ?_⟩
        conv => whnf
        first
          | refine .lit 0 (idx_word i 0 h.1 h.2 e) (by decide) ?_
          | refine .lit 1 (idx_word i 1 h.1 h.2 e) (by decide) ?_
          | refine .lit 2 (idx_word i 2 h.1 h.2 e) (by decide) ?_
          | refine .lit 3 (idx_word i 3 h.1 h.2 e) (by decide) ?_
        conv => whnf
        refine ⟨fun ht => ?_, fun ht => ?_⟩
        · subst ht
          conv => whnf
          first
            | refine .lit 0 (idx_word i 0 h.1 h.2 e) (by decide) ?_
            | refine .lit 1 (idx_word i 1 h.1 h.2 e) (by decide) ?_
            | refine .lit 2 (idx_word i 2 h.1 h.2 e) (by decide) ?_
            | refine .lit 3 (idx_word i 3 h.1 h.2 e) (by decide) ?_
          conv => whnf
          refine ⟨by rw [wrap_mod64 i h.1, idx_bit i h.1]; omega, ?_⟩
          conv => whnf
          first
            | refine .lit 0 (idx_word i 0 h.1 h.2 e) (by decide) ?_
            | refine .lit 1 (idx_word i 1 h.1 h.2 e) (by decide) ?_
            | refine .lit 2 (idx_word i 2 h.1 h.2 e) (by decide) ?_
            | refine .lit 3 (idx_word i 3 h.1 h.2 e) (by decide) ?_
          conv => whnf
          intro ρ
          rw [wrap_mod64 i h.1]
          exact setV_cells ρ (by first | exact (wd_other s i _ 0 (by omega)).symm | exact wd_both s i 0 h.1 h.2 e) (by first | exact (wd_other s i _ 1 (by omega)).symm | exact wd_both s i 1 h.1 h.2 e)
            (by first | exact (wd_other s i _ 2 (by omega)).symm | exact wd_both s i 2 h.1 h.2 e) (by first | exact (wd_other s i _ 3 (by omega)).symm | exact wd_both s i 3 h.1 h.2 e)
        · subst ht
          conv => whnf
          intro ρ
          rw [wrap_mod64 i h.1]
          exact setV_cells ρ (by first | exact (wd_other s i _ 0 (by omega)).symm | exact wd_clear s i 0 h.1 h.2 e) (by first | exact (wd_other s i _ 1 (by omega)).symm | exact wd_clear s i 1 h.1 h.2 e)
            (by first | exact (wd_other s i _ 2 (by omega)).symm | exact wd_clear s i 2 h.1 h.2 e) (by first | exact (wd_other s i _ 3 (by omega)).symm | exact wd_clear s i 3 h.1 h.2 e)

end Go.Sh.Ytjjnomafohpakaa
