import Derived.Test.YtkopfaenfaelfaaTab
import Derived.Test.YtkopfaenfaelfaaSet2
set_option linter.unusedVariables false
namespace Go.Sh.Ytkopfaenfaelfaa
open Go.Proofs Go.Sh

theorem is_ok (i : Int) : Pure Try.prog 25 [.int .i64 i] (.bool (decide (0 ≤ i ∧ i < 256))) := by
  refine Spec.of_body tabOk Try.func25 rfl (ent Try.func25 rfl (by kernel_rfl)) Try.ntmps25 rfl (by kernel_rfl) (Nat.le_of_ble_eq_true rfl) ?_
  conv => whnf
  refine ⟨fun h => ?_, fun h => ?_⟩
  · conv => whnf
    intro ρ
    have h : 0 ≤ i := of_decide_eq_true h
    show Value.bool _ = Value.bool _
    simp [h]
  · conv => whnf
    intro ρ
    have h : ¬ 0 ≤ i := of_decide_eq_false h
    show Value.bool _ = Value.bool _
    simp [h]

theorem word4 (i : Int) (h : 0 ≤ i ∧ i < 256) : i / 64 = (0 : Nat) ∨ i / 64 = (1 : Nat) ∨ i / 64 = (2 : Nat) ∨ i / 64 = (3 : Nat) := by omega

theorem with_ok (s : Nat) (i : Int) (t : Bool) : Pure Try.prog 36 [setV s, .int .i64 i, .bool t] (setV (withS s i t)) := by
  refine Spec.of_body tabOk Try.func36 rfl (ent Try.func36 rfl (by kernel_rfl)) Try.ntmps36 rfl (by kernel_rfl) (Nat.le_of_ble_eq_true rfl) ?_
  conv => whnf
  refine Spec.pure (is_ok i) rfl rfl (fun _ => rfl) ?_
  conv => whnf
  refine ⟨fun h => ?_, fun h => ?_⟩
  · have h : ¬ (0 ≤ i ∧ i < 256) := by simpa only [Bool.not_eq_true', decide_eq_false_iff_not] using h
    conv => whnf
    intro ρ
    rw [withS_out _ _ _ h]; rfl
  · have h : 0 ≤ i ∧ i < 256 := by simpa using h
    conv => whnf
    refine ⟨by rw [idx_bit i h.1]; omega, ?_⟩
    conv => whnf
    refine ⟨fun ht => ?_, fun ht => ?_⟩
    all_goals
      subst ht
      rcases word4 i h with e | e | e | e
      all_goals
        conv => whnf
        first
          | (refine .lit 0 (idx_word i 0 h.1 h.2 e) (by decide) ?_; (conv => whnf); refine .lit 0 (idx_word i 0 h.1 h.2 e) (by decide) ?_)
          | (refine .lit 1 (idx_word i 1 h.1 h.2 e) (by decide) ?_; (conv => whnf); refine .lit 1 (idx_word i 1 h.1 h.2 e) (by decide) ?_)
          | (refine .lit 2 (idx_word i 2 h.1 h.2 e) (by decide) ?_; (conv => whnf); refine .lit 2 (idx_word i 2 h.1 h.2 e) (by decide) ?_)
          | (refine .lit 3 (idx_word i 3 h.1 h.2 e) (by decide) ?_; (conv => whnf); refine .lit 3 (idx_word i 3 h.1 h.2 e) (by decide) ?_)
        conv => whnf
        intro ρ
        exact setV_cells ρ (by first | exact (wd_other s i _ 0 (by omega)).symm | exact wd_set s i 0 h.1 h.2 e | exact wd_clear s i 0 h.1 h.2 e) (by first | exact (wd_other s i _ 1 (by omega)).symm | exact wd_set s i 1 h.1 h.2 e | exact wd_clear s i 1 h.1 h.2 e)
          (by first | exact (wd_other s i _ 2 (by omega)).symm | exact wd_set s i 2 h.1 h.2 e | exact wd_clear s i 2 h.1 h.2 e) (by first | exact (wd_other s i _ 3 (by omega)).symm | exact wd_set s i 3 h.1 h.2 e | exact wd_clear s i 3 h.1 h.2 e)

/-- Does the run of n bytes at off meet granule j? -/
def coverP (off n : Int) (j : Nat) : Bool := decide (1 ≤ n ∧ off ≤ 16 * j + 15 ∧ 16 * j < off + n)

/-- The last byte's granule. -/
def lastI (o m : Int) : Int := IntKind.wrap .i64 (IntKind.wrap .i64 (o + (if IntKind.wrap .i64 (4096 - o) < m then IntKind.wrap .i64 (4096 - o) else m)) - 1)
theorem cover_math (o m : Int) (h0 : 0 ≤ o) (h1 : o < 4096) (h2 : 1 ≤ m) (h3 : m ≤ 9223372036854775807) (k : Nat) (hk : k < 256) :
    (IntKind.wrap .i64 (o.tdiv 16) ≤ k → decide ((k : Int) ≤ IntKind.wrap .i64 ((lastI o m).tdiv 16)) = coverP o m k) ∧ (¬ IntKind.wrap .i64 (o.tdiv 16) ≤ k → coverP o m k = false) := by
  have e1 : IntKind.wrap .i64 (4096 - o) = 4096 - o := wrap_i64 _ (by omega) (by omega)
  have e2 : IntKind.wrap .i64 (o.tdiv 16) = o / 16 := by rw [Int.tdiv_eq_ediv_of_nonneg h0, wrap_i64 _ (by omega) (by omega)]
  have e3 : lastI o m = o + (if 4096 - o < m then 4096 - o else m) - 1 := by
    unfold lastI
    rw [e1]
    split
    · rw [wrap_i64 (o + _) (by omega) (by omega), wrap_i64 _ (by omega) (by omega)]
    · rw [wrap_i64 (o + _) (by omega) (by omega), wrap_i64 _ (by omega) (by omega)]
  have e4 : 0 ≤ lastI o m ∧ lastI o m < 4096 := by rw [e3]; split <;> omega
  have e5 : IntKind.wrap .i64 ((lastI o m).tdiv 16) = lastI o m / 16 := by rw [Int.tdiv_eq_ediv_of_nonneg e4.1, wrap_i64 _ (by omega) (by omega)]
  rw [e2, e5, e3]
  unfold coverP
  constructor
  · intro h
    apply decide_eq_decide.2
    split <;> omega
  · intro h
    exact decide_eq_false (by omega)

theorem cover_ok (off n : Int) (ho : i64 off) (hn : i64 n) : Pure Try.prog 32 [.int .i64 off, .int .i64 n] (setV (buildS (coverP off n) 256)) := by
  refine Spec.of_body tabOk Try.func32 rfl (ent Try.func32 rfl (by kernel_rfl)) Try.ntmps32 rfl (by kernel_rfl) (Nat.le_of_ble_eq_true rfl) ?_
  conv => whnf
  refine ⟨fun h0 => ?_, fun h0 => ?_⟩
  · have h0 := of_decide_eq_true h0
    conv => whnf
    intro ρ
    rw [buildS_none (coverP off n) (fun j _ => decide_eq_false (by omega))]; rfl
  have h0 := of_decide_eq_false h0
  conv => whnf
  refine ⟨fun h1 => ?_, fun h1 => ?_⟩
  · have h1 := of_decide_eq_true h1
    conv => whnf
    intro ρ
    rw [buildS_none (coverP off n) (fun j _ => decide_eq_false (by omega))]; rfl
  have h1 := of_decide_eq_false h1
  obtain ⟨ho1, ho2⟩ := ho
  obtain ⟨hn1, hn2⟩ := hn
  conv => whnf
  refine ⟨fun h2 => ?_, fun h2 => ?_⟩
  · have h2 := of_decide_eq_true h2
    have en : IntKind.wrap .i64 (n + off) = n + off := wrap_i64 _ (by omega) (by omega)
    have en' : IntKind.wrap .i64 (off + n) = off + n := wrap_i64 _ (by omega) (by omega)
    have eq : 1 ≤ n + off → buildS (coverP 0 (n + off)) 256 = buildS (coverP off n) 256 := fun g => buildS_congr fun j hj => decide_eq_decide.2 (by omega)
    conv => whnf
    refine ⟨fun h3 => ?_, fun h3 => ?_⟩
    · have h3 := of_decide_eq_true h3
      conv => whnf
      refine ⟨fun h4 => ?_, fun h4 => ?_⟩
      · have h4 := of_decide_eq_true h4
        rw [en'] at h4
        conv => whnf
        intro ρ
        rw [buildS_none (coverP off n) (fun j _ => decide_eq_false (by omega))]; rfl
      · have h4 := of_decide_eq_false h4
        rw [en'] at h4
        conv => whnf
        refine ⟨fun h5 => ?_, fun h5 => ?_⟩
        · have h5 := of_decide_eq_true h5
          rw [wrap_i64 (0 - off) (by omega) (by omega)] at h5
          conv => whnf
          intro ρ
          rw [buildS_none (coverP off n) (fun j _ => decide_eq_false (by omega))]; rfl
        · have h5 := of_decide_eq_false h5
          rw [wrap_i64 (0 - off) (by omega) (by omega)] at h5
          have hb : 0 ≤ (0 : Int) ∧ (0 : Int) < 4096 ∧ 1 ≤ n + off ∧ n + off ≤ 9223372036854775807 := by omega
          conv => whnf
          rw [en]
          refine CodeL.loop tabOk (fun k : Nat => ([(0, .int .i64 (0)), (1, .int .i64 (n + off)), (4, .ptr 0 0), (5, .ptr 1 0), (6, .int .i64 (lastI (0) (n + off))), (42, .int .i64 k)], [(0, .cells [.int .u64 0, .int .u64 0, .int .u64 0, .int .u64 0]), (1, .cells (setCells (buildS (coverP (0) (n + off)) k)))])) (fun k => 256 - k) (fun k => k ≤ 256) rfl (fun k => ⟨rfl, rfl⟩) 0 (Nat.zero_le _) ⟨⟨rfl, rfl, rfl, rfl, rfl, rfl, trivial⟩, ⟨rfl, (by show _ = some (SO.cells (setCells 0)); rw [setCells_zero]; rfl), trivial⟩⟩ ?_
          intro k hk
          conv => whnf
          refine ⟨fun h => ?_, fun h => ?_⟩
          · have h : k < 256 := by have := of_decide_eq_true h; omega
            have hm := cover_math (0) (n + off) hb.1 hb.2.1 hb.2.2.1 hb.2.2.2 k h
            conv => whnf
            refine ⟨fun g => ?_, fun g => ?_⟩
            · have g := hm.1 (of_decide_eq_true g)
              conv => whnf
              refine Spec.pure (with_ok (buildS (coverP (0) (n + off)) k) k (coverP (0) (n + off) k)) rfl rfl (fun ρ => by rw [← g]; rfl) ?_
              conv => whnf
              exact ⟨k + 1, by omega, by omega, ⟨rfl, rfl, rfl, rfl, rfl, congrArg (fun x => some (SV.int .i64 x)) (wrap_succ k h), trivial⟩, ⟨rfl, rfl, trivial⟩⟩
            · have g := hm.2 (of_decide_eq_false g)
              conv => whnf
              refine Spec.pure (with_ok (buildS (coverP (0) (n + off)) k) k (coverP (0) (n + off) k)) rfl rfl (fun ρ => by rw [g]; rfl) ?_
              conv => whnf
              exact ⟨k + 1, by omega, by omega, ⟨rfl, rfl, rfl, rfl, rfl, congrArg (fun x => some (SV.int .i64 x)) (wrap_succ k h), trivial⟩, ⟨rfl, rfl, trivial⟩⟩
          · have h : k = 256 := by have := of_decide_eq_false h; omega
            subst h
            conv => whnf
            intro ρ
            rw [← eq hb.2.2.1]; rfl
    · have h3 := of_decide_eq_false h3
      conv => whnf
      refine ⟨fun h5 => ?_, fun h5 => ?_⟩
      · have h5 := of_decide_eq_true h5
        rw [wrap_i64 (0 - off) (by omega) (by omega)] at h5
        conv => whnf
        intro ρ
        rw [buildS_none (coverP off n) (fun j _ => decide_eq_false (by omega))]; rfl
      · have h5 := of_decide_eq_false h5
        rw [wrap_i64 (0 - off) (by omega) (by omega)] at h5
        have hb : 0 ≤ (0 : Int) ∧ (0 : Int) < 4096 ∧ 1 ≤ n + off ∧ n + off ≤ 9223372036854775807 := by omega
        conv => whnf
        rw [en]
        refine CodeL.loop tabOk (fun k : Nat => ([(0, .int .i64 (0)), (1, .int .i64 (n + off)), (4, .ptr 0 0), (5, .ptr 1 0), (6, .int .i64 (lastI (0) (n + off))), (42, .int .i64 k)], [(0, .cells [.int .u64 0, .int .u64 0, .int .u64 0, .int .u64 0]), (1, .cells (setCells (buildS (coverP (0) (n + off)) k)))])) (fun k => 256 - k) (fun k => k ≤ 256) rfl (fun k => ⟨rfl, rfl⟩) 0 (Nat.zero_le _) ⟨⟨rfl, rfl, rfl, rfl, rfl, rfl, trivial⟩, ⟨rfl, (by show _ = some (SO.cells (setCells 0)); rw [setCells_zero]; rfl), trivial⟩⟩ ?_
        intro k hk
        conv => whnf
        refine ⟨fun h => ?_, fun h => ?_⟩
        · have h : k < 256 := by have := of_decide_eq_true h; omega
          have hm := cover_math (0) (n + off) hb.1 hb.2.1 hb.2.2.1 hb.2.2.2 k h
          conv => whnf
          refine ⟨fun g => ?_, fun g => ?_⟩
          · have g := hm.1 (of_decide_eq_true g)
            conv => whnf
            refine Spec.pure (with_ok (buildS (coverP (0) (n + off)) k) k (coverP (0) (n + off) k)) rfl rfl (fun ρ => by rw [← g]; rfl) ?_
            conv => whnf
            exact ⟨k + 1, by omega, by omega, ⟨rfl, rfl, rfl, rfl, rfl, congrArg (fun x => some (SV.int .i64 x)) (wrap_succ k h), trivial⟩, ⟨rfl, rfl, trivial⟩⟩
          · have g := hm.2 (of_decide_eq_false g)
            conv => whnf
            refine Spec.pure (with_ok (buildS (coverP (0) (n + off)) k) k (coverP (0) (n + off) k)) rfl rfl (fun ρ => by rw [g]; rfl) ?_
            conv => whnf
            exact ⟨k + 1, by omega, by omega, ⟨rfl, rfl, rfl, rfl, rfl, congrArg (fun x => some (SV.int .i64 x)) (wrap_succ k h), trivial⟩, ⟨rfl, rfl, trivial⟩⟩
        · have h : k = 256 := by have := of_decide_eq_false h; omega
          subst h
          conv => whnf
          intro ρ
          rw [← eq hb.2.2.1]; rfl
  · have h2 := of_decide_eq_false h2
    have hb : 0 ≤ off ∧ off < 4096 ∧ 1 ≤ n ∧ n ≤ 9223372036854775807 := by omega
    conv => whnf
    refine CodeL.loop tabOk (fun k : Nat => ([(0, .int .i64 (off)), (1, .int .i64 (n)), (4, .ptr 0 0), (5, .ptr 1 0), (6, .int .i64 (lastI (off) (n))), (42, .int .i64 k)], [(0, .cells [.int .u64 0, .int .u64 0, .int .u64 0, .int .u64 0]), (1, .cells (setCells (buildS (coverP (off) (n)) k)))])) (fun k => 256 - k) (fun k => k ≤ 256) rfl (fun k => ⟨rfl, rfl⟩) 0 (Nat.zero_le _) ⟨⟨rfl, rfl, rfl, rfl, rfl, rfl, trivial⟩, ⟨rfl, (by show _ = some (SO.cells (setCells 0)); rw [setCells_zero]; rfl), trivial⟩⟩ ?_
    intro k hk
    conv => whnf
    refine ⟨fun h => ?_, fun h => ?_⟩
    · have h : k < 256 := by have := of_decide_eq_true h; omega
      have hm := cover_math (off) (n) hb.1 hb.2.1 hb.2.2.1 hb.2.2.2 k h
      conv => whnf
      refine ⟨fun g => ?_, fun g => ?_⟩
      · have g := hm.1 (of_decide_eq_true g)
        conv => whnf
        refine Spec.pure (with_ok (buildS (coverP (off) (n)) k) k (coverP (off) (n) k)) rfl rfl (fun ρ => by rw [← g]; rfl) ?_
        conv => whnf
        exact ⟨k + 1, by omega, by omega, ⟨rfl, rfl, rfl, rfl, rfl, congrArg (fun x => some (SV.int .i64 x)) (wrap_succ k h), trivial⟩, ⟨rfl, rfl, trivial⟩⟩
      · have g := hm.2 (of_decide_eq_false g)
        conv => whnf
        refine Spec.pure (with_ok (buildS (coverP (off) (n)) k) k (coverP (off) (n) k)) rfl rfl (fun ρ => by rw [g]; rfl) ?_
        conv => whnf
        exact ⟨k + 1, by omega, by omega, ⟨rfl, rfl, rfl, rfl, rfl, congrArg (fun x => some (SV.int .i64 x)) (wrap_succ k h), trivial⟩, ⟨rfl, rfl, trivial⟩⟩
    · have h : k = 256 := by have := of_decide_eq_false h; omega
      subst h
      conv => whnf
      intro ρ
      rfl
theorem setCells_of {s : Nat} {a b c d : Int} (h0 : a = wd s 0) (h1 : b = wd s 1) (h2 : c = wd s 2) (h3 : d = wd s 3) : [SV.int .u64 a, .int .u64 b, .int .u64 c, .int .u64 d] = setCells s := by subst h0 h1 h2 h3; rfl
theorem without_ok (s t : Nat) (ht : t < 2 ^ 256) : Pure Try.prog 14 [setV s, setV t] (setV (diffS s t)) := by
  have e0 := mixS_zero s t
  have e4 := mixS_four s t ht
  generalize hm : mixS s t = M at e0 e4
  have other : ∀ k i, i ≠ k → wd (M k) i = wd (M (k + 1)) i := fun k i h => by rw [← hm]; exact wd_mix_other s t k i h
  have at_ : ∀ k, band .andNot .u64 (wd (M k) k) (wd t k) = wd (M (k + 1)) k := fun k => by rw [← hm]; exact wd_mix_at s t k
  rw [← e4]
  refine Spec.of_body tabOk Try.func14 rfl (ent Try.func14 rfl (by kernel_rfl)) Try.ntmps14 rfl (by kernel_rfl) (Nat.le_of_ble_eq_true rfl) ?_
  conv => whnf
  refine CodeL.loop tabOk (fun k : Nat => ([(2, .ptr 0 0), (3, .ptr 1 0), (4, .ptr 2 0), (6, .int .i64 k)], [(0, .cells (setCells (M k))), (1, .cells (setCells t)), (2, .cells [.int .u64 0, .int .u64 0, .int .u64 0, .int .u64 0])])) (fun k => 4 - k) (fun k => k ≤ 4) rfl (fun k => ⟨rfl, rfl⟩) 0 (Nat.zero_le _) ⟨⟨rfl, rfl, rfl, rfl, trivial⟩, ⟨by rw [e0]; rfl, rfl, rfl, trivial⟩⟩ ?_
  intro k hk
  conv => whnf
  refine ⟨fun h => ?_, fun h => ?_⟩
  · have h : k < 4 := by have := of_decide_eq_true h; omega
    conv => whnf
    refine CodeL.draw tabOk Try.checked.mixed 8 (by kernel_rfl) rfl ?_
    have : k = 0 ∨ k = 1 ∨ k = 2 ∨ k = 3 := by omega
    rcases this with rfl | rfl | rfl | rfl
    · conv => whnf
      refine .lit 0 rfl (by decide) ?_
      conv => whnf
      refine .lit 0 rfl (by decide) ?_
      conv => whnf
      refine .lit 0 rfl (by decide) ?_
      conv => whnf
      exact ⟨1, by decide, by decide, ⟨rfl, rfl, rfl, rfl, trivial⟩, ⟨congrArg (fun x => some (SO.cells x)) (setCells_of (at_ 0) (other 0 1 (by decide)) (other 0 2 (by decide)) (other 0 3 (by decide))), rfl, rfl, trivial⟩⟩
    · conv => whnf
      refine .lit 1 rfl (by decide) ?_
      conv => whnf
      refine .lit 1 rfl (by decide) ?_
      conv => whnf
      refine .lit 1 rfl (by decide) ?_
      conv => whnf
      exact ⟨2, by decide, by decide, ⟨rfl, rfl, rfl, rfl, trivial⟩, ⟨congrArg (fun x => some (SO.cells x)) (setCells_of (other 1 0 (by decide)) (at_ 1) (other 1 2 (by decide)) (other 1 3 (by decide))), rfl, rfl, trivial⟩⟩
    · conv => whnf
      refine .lit 2 rfl (by decide) ?_
      conv => whnf
      refine .lit 2 rfl (by decide) ?_
      conv => whnf
      refine .lit 2 rfl (by decide) ?_
      conv => whnf
      exact ⟨3, by decide, by decide, ⟨rfl, rfl, rfl, rfl, trivial⟩, ⟨congrArg (fun x => some (SO.cells x)) (setCells_of (other 2 0 (by decide)) (other 2 1 (by decide)) (at_ 2) (other 2 3 (by decide))), rfl, rfl, trivial⟩⟩
    · conv => whnf
      refine .lit 3 rfl (by decide) ?_
      conv => whnf
      refine .lit 3 rfl (by decide) ?_
      conv => whnf
      refine .lit 3 rfl (by decide) ?_
      conv => whnf
      exact ⟨4, by decide, by decide, ⟨rfl, rfl, rfl, rfl, trivial⟩, ⟨congrArg (fun x => some (SO.cells x)) (setCells_of (other 3 0 (by decide)) (other 3 1 (by decide)) (other 3 2 (by decide)) (at_ 3)), rfl, rfl, trivial⟩⟩
  · have h : k = 4 := by have := of_decide_eq_false h; omega
    subst h
    conv => whnf
    intro ρ
    rfl
end Go.Sh.Ytkopfaenfaelfaa
