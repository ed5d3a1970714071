import Derived.Test.YtjjnomafohpakaaC07a
set_option linter.unusedVariables false
namespace Go.Sh.Ytjjnomafohpakaa
open Go.Proofs Go.Sh

def alignedB (off : Int) : Bool := decide (0 ≤ off ∧ off < 4096 ∧ off % 16 = 0)
theorem aligned_ok (off : Int) : Pure Try.prog 7 [.int .i64 off] (.tup [.int .i64 (if alignedB off = true then off / 16 else 0), .bool (alignedB off)]) := by
  refine Spec.of_body tabOk Try.func7 rfl (ent Try.func7 rfl (by kernel_rfl)) Try.ntmps7 rfl (by kernel_rfl) (Nat.le_of_ble_eq_true rfl) ?_
  conv => whnf
  refine ⟨fun h0 => ?_, fun h0 => ?_⟩
  · have h0 := of_decide_eq_true h0
    have hb : alignedB off = false := decide_eq_false (by omega)
    rw [hb]
    conv => whnf
    intro ρ
    rfl
  · have h0 := of_decide_eq_false h0
    conv => whnf
    refine ⟨fun h1 => ?_, fun h1 => ?_⟩
    · have h1 := of_decide_eq_true h1
      have hb : alignedB off = false := decide_eq_false (by omega)
      rw [hb]
      conv => whnf
      intro ρ
      rfl
    · have h1 := of_decide_eq_false h1
      conv => whnf
      refine ⟨fun h2 => ?_, fun h2 => ?_⟩
      · have h2 : ¬ off.tmod 16 = 0 := by simpa using h2
        rw [Int.tmod_eq_emod_of_nonneg (by omega)] at h2
        have hb : alignedB off = false := decide_eq_false (by omega)
        rw [hb]
        conv => whnf
        intro ρ
        rfl
      · have h2 : off.tmod 16 = 0 := by simpa using h2
        rw [Int.tmod_eq_emod_of_nonneg (by omega)] at h2
        have hb : alignedB off = true := decide_eq_true (by omega)
        rw [hb]
        conv => whnf
        intro ρ
        show Value.tuple #[.int .i64 (IntKind.wrap .i64 (off.tdiv 16)), .bool true] = Value.tuple #[.int .i64 (off / 16), .bool true]
        rw [Int.tdiv_eq_ediv_of_nonneg (by omega), wrap_i64 _ (by omega) (by omega)]

/-- Does the run of n bytes at off meet granule j? -/
def coverP (off n : Int) (j : Nat) : Bool := decide (1 ≤ n ∧ off ≤ 16 * j + 15 ∧ 16 * j < off + n)

/-- The last byte's granule. -/
def lastI (o m : Int) : Int := IntKind.wrap .i64 (IntKind.wrap .i64 (o + (if IntKind.wrap .i64 (4096 - o) < m then IntKind.wrap .i64 (4096 - o) else m)) - 1)
theorem cover_math (o m : Int) (h0 : 0 ≤ o) (h1 : o < 4096) (h2 : 1 ≤ m) (h3 : m ≤ 9223372036854775807) (k : Nat) (hk : k < 256) :
    (IntKind.wrap .i64 (o.tdiv 16) ≤ k → decide ((k : Int) ≤ IntKind.wrap .i64 ((lastI o m).tdiv 16)) = coverP o m k) ∧ (¬ IntKind.wrap .i64 (o.tdiv 16) ≤ k → coverP o m k = false) := by
  have e1 : IntKind.wrap .i64 (4096 - o) = 4096 - o := wrap_i64 _ (by omega) (by omega)
  have e2 : IntKind.wrap .i64 (o.tdiv 16) = o / 16 := by rw [Int.tdiv_eq_ediv_of_nonneg h0, wrap_i64 _ (by omega) (by omega)]
  have e3 : lastI o m = o + (if 4096 - o < m then 4096 - o else m) - 1 := by
    unfold lastI
    rw [e1]
    split
    · rw [wrap_i64 (o + _) (by omega) (by omega), wrap_i64 _ (by omega) (by omega)]
    · rw [wrap_i64 (o + _) (by omega) (by omega), wrap_i64 _ (by omega) (by omega)]
  have e4 : 0 ≤ lastI o m ∧ lastI o m < 4096 := by rw [e3]; split <;> omega
  have e5 : IntKind.wrap .i64 ((lastI o m).tdiv 16) = lastI o m / 16 := by rw [Int.tdiv_eq_ediv_of_nonneg e4.1, wrap_i64 _ (by omega) (by omega)]
  rw [e2, e5, e3]
  unfold coverP
  constructor
  · intro h
    apply decide_eq_decide.2
    split <;> omega
  · intro h
    exact decide_eq_false (by omega)

theorem cover_ok (off n : Int) (ho : i64 off) (hn : i64 n) : Pure Try.prog 8 [.int .i64 off, .int .i64 n] (setV (buildS (coverP off n) 256)) := by
  refine Spec.of_body tabOk Try.func8 rfl (ent Try.func8 rfl (by kernel_rfl)) Try.ntmps8 rfl (by kernel_rfl) (Nat.le_of_ble_eq_true rfl) ?_
  conv => whnf
  refine ⟨fun h0 => ?_, fun h0 => ?_⟩
  · have h0 := of_decide_eq_true h0
    conv => whnf
    intro ρ
    rw [buildS_none (coverP off n) (fun j _ => decide_eq_false (by omega))]; rfl
  have h0 := of_decide_eq_false h0
  conv => whnf
  refine ⟨fun h1 => ?_, fun h1 => ?_⟩
  · have h1 := of_decide_eq_true h1
    conv => whnf
    intro ρ
    rw [buildS_none (coverP off n) (fun j _ => decide_eq_false (by omega))]; rfl
  have h1 := of_decide_eq_false h1
  obtain ⟨ho1, ho2⟩ := ho
  obtain ⟨hn1, hn2⟩ := hn
  conv => whnf
  refine ⟨fun h2 => ?_, fun h2 => ?_⟩
  · have h2 := of_decide_eq_true h2
    have en : IntKind.wrap .i64 (n + off) = n + off := wrap_i64 _ (by omega) (by omega)
    have en' : IntKind.wrap .i64 (off + n) = off + n := wrap_i64 _ (by omega) (by omega)
    have eq : 1 ≤ n + off → buildS (coverP 0 (n + off)) 256 = buildS (coverP off n) 256 := fun g => buildS_congr fun j hj => decide_eq_decide.2 (by omega)
    conv => whnf
    refine ⟨fun h3 => ?_, fun h3 => ?_⟩
    · have h3 := of_decide_eq_true h3
      conv => whnf
      refine ⟨fun h4 => ?_, fun h4 => ?_⟩
      · have h4 := of_decide_eq_true h4
        rw [en'] at h4
        conv => whnf
        intro ρ
        rw [buildS_none (coverP off n) (fun j _ => decide_eq_false (by omega))]; rfl
      · have h4 := of_decide_eq_false h4
        rw [en'] at h4
        conv => whnf
        refine ⟨fun h5 => ?_, fun h5 => ?_⟩
        · have h5 := of_decide_eq_true h5
          rw [wrap_i64 (0 - off) (by omega) (by omega)] at h5
          conv => whnf
          intro ρ
          rw [buildS_none (coverP off n) (fun j _ => decide_eq_false (by omega))]; rfl
        · have h5 := of_decide_eq_false h5
          rw [wrap_i64 (0 - off) (by omega) (by omega)] at h5
          have hb : 0 ≤ (0 : Int) ∧ (0 : Int) < 4096 ∧ 1 ≤ n + off ∧ n + off ≤ 9223372036854775807 := by omega
          conv => whnf
          rw [en]
          refine CodeL.loop tabOk (fun k : Nat => ([(0, .int .i64 (0)), (1, .int .i64 (n + off)), (4, .ptr 0 0), (5, .ptr 1 0), (6, .int .i64 (lastI (0) (n + off))), (42, .int .i64 k)], [(0, .cells [.int .u64 0, .int .u64 0, .int .u64 0, .int .u64 0]), (1, .cells (setCells (buildS (coverP (0) (n + off)) k)))])) (fun k => 256 - k) (fun k => k ≤ 256) rfl (fun k => ⟨rfl, rfl⟩) 0 (Nat.zero_le _) ⟨⟨rfl, rfl, rfl, rfl, rfl, rfl, trivial⟩, ⟨rfl, (by show _ = some (SO.cells (setCells 0)); rw [setCells_zero]; rfl), trivial⟩⟩ ?_
          intro k hk
          conv => whnf
          refine ⟨fun h => ?_, fun h => ?_⟩
          · have h : k < 256 := by have := of_decide_eq_true h; omega
            have hm := cover_math (0) (n + off) hb.1 hb.2.1 hb.2.2.1 hb.2.2.2 k h
            conv => whnf
            refine ⟨fun g => ?_, fun g => ?_⟩
            · have g := hm.1 (of_decide_eq_true g)
              conv => whnf
              refine Spec.pure (with_ok (buildS (coverP (0) (n + off)) k) k (coverP (0) (n + off) k)) rfl rfl (fun ρ => by rw [← g]; rfl) ?_
              conv => whnf
              exact ⟨k + 1, by omega, by omega, ⟨rfl, rfl, rfl, rfl, rfl, congrArg (fun x => some (SV.int .i64 x)) (wrap_succ k h), trivial⟩, ⟨rfl, rfl, trivial⟩⟩
            · have g := hm.2 (of_decide_eq_false g)
              conv => whnf
              refine Spec.pure (with_ok (buildS (coverP (0) (n + off)) k) k (coverP (0) (n + off) k)) rfl rfl (fun ρ => by rw [g]; rfl) ?_
              conv => whnf
              exact ⟨k + 1, by omega, by omega, ⟨rfl, rfl, rfl, rfl, rfl, congrArg (fun x => some (SV.int .i64 x)) (wrap_succ k h), trivial⟩, ⟨rfl, rfl, trivial⟩⟩
          · have h : k = 256 := by have := of_decide_eq_false h; omega
            subst h
            conv => whnf
            intro ρ
            rw [← eq hb.2.2.1]; rfl
    · have h3 := of_decide_eq_false h3
      conv => whnf
      refine ⟨fun h5 => ?_, fun h5 => ?_⟩
      · have h5 := of_decide_eq_true h5
        rw [wrap_i64 (0 - off) (by omega) (by omega)] at h5
        conv => whnf
        intro ρ
        rw [buildS_none (coverP off n) (fun j _ => decide_eq_false (by omega))]; rfl
      · have h5 := of_decide_eq_false h5
        rw [wrap_i64 (0 - off) (by omega) (by omega)] at h5
        have hb : 0 ≤ (0 : Int) ∧ (0 : Int) < 4096 ∧ 1 ≤ n + off ∧ n + off ≤ 9223372036854775807 := by omega
        conv => whnf
        rw [en]
        refine CodeL.loop tabOk (fun k : Nat => ([(0, .int .i64 (0)), (1, .int .i64 (n + off)), (4, .ptr 0 0), (5, .ptr 1 0), (6, .int .i64 (lastI (0) (n + off))), (42, .int .i64 k)], [(0, .cells [.int .u64 0, .int .u64 0, .int .u64 0, .int .u64 0]), (1, .cells (setCells (buildS (coverP (0) (n + off)) k)))])) (fun k => 256 - k) (fun k => k ≤ 256) rfl (fun k => ⟨rfl, rfl⟩) 0 (Nat.zero_le _) ⟨⟨rfl, rfl, rfl, rfl, rfl, rfl, trivial⟩, ⟨rfl, (by show _ = some (SO.cells (setCells 0)); rw [setCells_zero]; rfl), trivial⟩⟩ ?_
        intro k hk
        conv => whnf
        refine ⟨fun h => ?_, fun h => ?_⟩
        · have h : k < 256 := by have := of_decide_eq_true h; omega
          have hm := cover_math (0) (n + off) hb.1 hb.2.1 hb.2.2.1 hb.2.2.2 k h
          conv => whnf
          refine ⟨fun g => ?_, fun g => ?_⟩
          · have g := hm.1 (of_decide_eq_true g)
            conv => whnf
            refine Spec.pure (with_ok (buildS (coverP (0) (n + off)) k) k (coverP (0) (n + off) k)) rfl rfl (fun ρ => by rw [← g]; rfl) ?_
            conv => whnf
            exact ⟨k + 1, by omega, by omega, ⟨rfl, rfl, rfl, rfl, rfl, congrArg (fun x => some (SV.int .i64 x)) (wrap_succ k h), trivial⟩, ⟨rfl, rfl, trivial⟩⟩
          · have g := hm.2 (of_decide_eq_false g)
            conv => whnf
            refine Spec.pure (with_ok (buildS (coverP (0) (n + off)) k) k (coverP (0) (n + off) k)) rfl rfl (fun ρ => by rw [g]; rfl) ?_
            conv => whnf
            exact ⟨k + 1, by omega, by omega, ⟨rfl, rfl, rfl, rfl, rfl, congrArg (fun x => some (SV.int .i64 x)) (wrap_succ k h), trivial⟩, ⟨rfl, rfl, trivial⟩⟩
        · have h : k = 256 := by have := of_decide_eq_false h; omega
          subst h
          conv => whnf
          intro ρ
          rw [← eq hb.2.2.1]; rfl
  · have h2 := of_decide_eq_false h2
    have hb : 0 ≤ off ∧ off < 4096 ∧ 1 ≤ n ∧ n ≤ 9223372036854775807 := by omega
    conv => whnf
    refine CodeL.loop tabOk (fun k : Nat => ([(0, .int .i64 (off)), (1, .int .i64 (n)), (4, .ptr 0 0), (5, .ptr 1 0), (6, .int .i64 (lastI (off) (n))), (42, .int .i64 k)], [(0, .cells [.int .u64 0, .int .u64 0, .int .u64 0, .int .u64 0]), (1, .cells (setCells (buildS (coverP (off) (n)) k)))])) (fun k => 256 - k) (fun k => k ≤ 256) rfl (fun k => ⟨rfl, rfl⟩) 0 (Nat.zero_le _) ⟨⟨rfl, rfl, rfl, rfl, rfl, rfl, trivial⟩, ⟨rfl, (by show _ = some (SO.cells (setCells 0)); rw [setCells_zero]; rfl), trivial⟩⟩ ?_
    intro k hk
    conv => whnf
    refine ⟨fun h => ?_, fun h => ?_⟩
    · have h : k < 256 := by have := of_decide_eq_true h; omega
      have hm := cover_math (off) (n) hb.1 hb.2.1 hb.2.2.1 hb.2.2.2 k h
      conv => whnf
      refine ⟨fun g => ?_, fun g => ?_⟩
      · have g := hm.1 (of_decide_eq_true g)
        conv => whnf
        refine Spec.pure (with_ok (buildS (coverP (off) (n)) k) k (coverP (off) (n) k)) rfl rfl (fun ρ => by rw [← g]; rfl) ?_
        conv => whnf
        exact ⟨k + 1, by omega, by omega, ⟨rfl, rfl, rfl, rfl, rfl, congrArg (fun x => some (SV.int .i64 x)) (wrap_succ k h), trivial⟩, ⟨rfl, rfl, trivial⟩⟩
      · have g := hm.2 (of_decide_eq_false g)
        conv => whnf
        refine Spec.pure (with_ok (buildS (coverP (off) (n)) k) k (coverP (off) (n) k)) rfl rfl (fun ρ => by rw [g]; rfl) ?_
        conv => whnf
        exact ⟨k + 1, by omega, by omega, ⟨rfl, rfl, rfl, rfl, rfl, congrArg (fun x => some (SV.int .i64 x)) (wrap_succ k h), trivial⟩, ⟨rfl, rfl, trivial⟩⟩
    · have h : k = 256 := by have := of_decide_eq_false h; omega
      subst h
      conv => whnf
      intro ρ
      rfl
theorem refcover_ok (off n : Int) (ho : i64 off) (hn : i64 n) : Pure Try.prog 9 [.int .i64 off, .int .i64 n] (setV (buildS (coverP off n) 256)) := by
  refine Spec.of_body tabOk Try.func9 rfl (ent Try.func9 rfl (by kernel_rfl)) Try.ntmps9 rfl (by kernel_rfl) (Nat.le_of_ble_eq_true rfl) ?_
  obtain ⟨ho1, ho2⟩ := ho
  obtain ⟨hn1, hn2⟩ := hn
  conv => whnf
  refine CodeL.loop tabOk (fun k : Nat => ([(0, .int .i64 off), (1, .int .i64 n), (4, .ptr 0 0), (5, .ptr 1 0), (6, .int .i64 k)], [(0, .cells [.int .u64 0, .int .u64 0, .int .u64 0, .int .u64 0]), (1, .cells (setCells (buildS (coverP off n) k)))])) (fun k => 256 - k) (fun k => k ≤ 256) rfl (fun k => ⟨rfl, rfl⟩) 0 (Nat.zero_le _) ⟨⟨rfl, rfl, rfl, rfl, rfl, trivial⟩, ⟨rfl, (by show _ = some (SO.cells (setCells 0)); rw [setCells_zero]; rfl), trivial⟩⟩ ?_
  intro k hk
  conv => whnf
  refine ⟨fun h => ?_, fun h => ?_⟩
  · have h : k < 256 := by have := of_decide_eq_true h; omega
    conv => whnf
    refine ⟨fun g0 => ?_, fun g0 => ?_⟩
    · have g0 := of_decide_eq_true g0
      have e1 : IntKind.wrap .i64 (16 * (k : Int)) = 16 * k := wrap_i64 _ (by omega) (by omega)
      have e2 : IntKind.wrap .i64 (16 * (k : Int) + 15) = 16 * k + 15 := wrap_i64 _ (by omega) (by omega)
      conv => whnf
      refine ⟨fun g1 => ?_, fun g1 => ?_⟩
      · have g1 := of_decide_eq_true g1
        rw [e1, e2] at g1
        conv => whnf
        refine ⟨fun g2 => ?_, fun g2 => ?_⟩
        · have g2 := of_decide_eq_true g2
          rw [e1] at g2
          have hp : coverP off n k = true := decide_eq_true (by omega)
          conv => whnf
          refine Spec.pure (refwith_ok (buildS (coverP off n) k) k (coverP off n k)) rfl rfl (fun ρ => by rw [hp]; rfl) ?_
          conv => whnf
          exact ⟨k + 1, by omega, by omega, ⟨rfl, rfl, rfl, rfl, congrArg (fun x => some (SV.int .i64 x)) (wrap_succ k h), trivial⟩, ⟨rfl, rfl, trivial⟩⟩
        · have g2 := of_decide_eq_false g2
          rw [e1] at g2
          conv => whnf
          refine ⟨fun g3 => ?_, fun g3 => ?_⟩
          · have g3 := of_decide_eq_true g3
            rw [e1, wrap_u64, wrap_u64, wrap_u64, wrap_u64] at g3
            have hp : coverP off n k = true := decide_eq_true (by omega)
            conv => whnf
            refine Spec.pure (refwith_ok (buildS (coverP off n) k) k (coverP off n k)) rfl rfl (fun ρ => by rw [hp]; rfl) ?_
            conv => whnf
            exact ⟨k + 1, by omega, by omega, ⟨rfl, rfl, rfl, rfl, congrArg (fun x => some (SV.int .i64 x)) (wrap_succ k h), trivial⟩, ⟨rfl, rfl, trivial⟩⟩
          · have g3 := of_decide_eq_false g3
            rw [e1, wrap_u64, wrap_u64, wrap_u64, wrap_u64] at g3
            have hp : coverP off n k = false := decide_eq_false (by omega)
            conv => whnf
            exact ⟨k + 1, by omega, by omega, ⟨rfl, rfl, rfl, rfl, congrArg (fun x => some (SV.int .i64 x)) (wrap_succ k h), trivial⟩, ⟨rfl, congrArg (fun x => some (SO.cells (setCells x))) (buildS_keep (coverP off n) k h hp), trivial⟩⟩
      · have g1 := of_decide_eq_false g1
        rw [e1, e2] at g1
        have hp : coverP off n k = false := decide_eq_false (by omega)
        conv => whnf
        exact ⟨k + 1, by omega, by omega, ⟨rfl, rfl, rfl, rfl, congrArg (fun x => some (SV.int .i64 x)) (wrap_succ k h), trivial⟩, ⟨rfl, congrArg (fun x => some (SO.cells (setCells x))) (buildS_keep (coverP off n) k h hp), trivial⟩⟩
    · have g0 := of_decide_eq_false g0
      conv => whnf
      intro ρ
      have z : buildS (coverP off n) 256 = buildS (coverP off n) k := (buildS_zero _ (fun j => decide_eq_false (by omega)) 256).trans (buildS_zero _ (fun j => decide_eq_false (by omega)) k).symm
      rw [z]; rfl
  · have h : k = 256 := by have := of_decide_eq_false h; omega
    subst h
    conv => whnf
    intro ρ
    rfl

end Go.Sh.Ytjjnomafohpakaa
