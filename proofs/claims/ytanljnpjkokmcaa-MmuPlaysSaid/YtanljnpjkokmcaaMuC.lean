import Derived.Test.YtanljnpjkokmcaaMuB
import Derived.Test.YtanljnpjkokmcaaRfB
import Derived.Test.YtanljnpjkokmcaaMB
set_option linter.unusedVariables false
namespace Go.Sh.Ytanljnpjkokmcaa
open Go.Proofs Go.Sh

theorem refnew_ok : Pure Try.prog 28 [.int .i64 8] (.tup [.agg [.int .i64 8, .nilSlice, .nilSlice, .nilSlice], .int .i64 0]) := by
  refine Spec.of_body tabOk Try.func28 rfl (ent Try.func28 rfl (by kernel_rfl)) Try.ntmps28 rfl (by kernel_rfl) (Nat.le_of_ble_eq_true rfl) ?_
  conv => whnf
  refine .f rfl ?_
  conv => whnf
  refine .f rfl ?_
  conv => whnf
  intro ρ
  rfl
theorem rowvl (cs : List Value) (ρ : Env) : (SO.vals ρ (SO.row cs)).length ≤ (SO.row cs).len := Nat.le_refl _
theorem plain_ok (s : Nat → List Ln) (root asid : Nat) (gen : Bool) (b t : Nat → Nat) (va : Nat) (k : Int) (tg : Bool) (hs : okT s) (hb : okB b) (hr : root < 2 ^ 64) (hva : va < 2 ^ 64) (hw : walkF b 8 root va = none) : Fun Try.prog 15 [.ptr 0 0, .ptr 1 0, .int .u64 (va : Int), .int .i64 k, .bool tg] [(0, .view (tlbC s (uR root asid gen))), (1, .cells [.slice 2 0 8 8]), (2, .view (ramV 8 b t))] 3 0 (fun _ : Unit => True) (fun _ => .tup [.agg [.int .u64 0, .ff], .int .i64 1]) (fun _ => [(1, .cells [.slice 2 0 8 8])]) := by
  unfold Fun
  have hlo := looked_ok s root asid gen b t va k tg hs hb hr hva
  rw [hw] at hlo
  refine Spec.of_body tabOk Try.func15 rfl (ent Try.func15 rfl (by kernel_rfl)) Try.ntmps15 rfl (by kernel_rfl) (Nat.le_of_ble_eq_true rfl) ?_
  conv => whnf
  refine Spec.fn hlo [0, 1, 2] rfl rfl (fun _ => rfl) rfl ⟨⟨by decide, rfl, rfl, _, rfl, fun _ => rfl, Nat.le_refl _, fun _ => Nat.le_refl _, fun h => (by cases h)⟩, ⟨by decide, rfl, rfl, _, rfl, fun _ => rfl, Nat.le_refl _, fun _ => Nat.le_refl _, id⟩, ⟨by decide, rfl, rfl, _, rfl, fun _ => rfl, Nat.le_refl _, fun _ => Nat.le_refl _, fun h => (by cases h)⟩, trivial⟩ (fun _ _ => ⟨rfl, rfl, rfl, ⟨_, rfl, rfl, rfl⟩, rfl, trivial⟩) (fun _ _ => ?_)
  conv => whnf
  refine .t rfl ?_
  conv => whnf
  exact ⟨(), fun i => (i, 0), trivial, fun _ _ => rfl, Part.keys ⟨⟨by decide, rfl, rfl, _, rfl, fun _ => rfl, Nat.le_refl _, fun _ => Nat.le_refl _, id⟩, trivial⟩ rfl, fun ρ => rfl⟩
theorem setup_ok : Fun Try.prog 6 [] [] 0 4
    (fun y : (Nat → Nat) × (Bool × Nat) × (Bool × Nat) => okS (logL baseL).length y.2.1 ∧ okS (logL baseL).length y.2.2) (fun y => .tup [.ptr 0 0, .agg [.int .i64 8, .slz y.2.1.1 2 0 (logL baseL).length y.2.1.2, .slz y.2.2.1 3 0 (logL baseL).length y.2.2.2, .nilSlice]])
    (fun y => [(0, .cells [.slice 1 0 8 8]), (1, .row (ramV 8 (memL baseL) y.1)), (2, .row (atV (logL baseL))), (3, .row (byV (logL baseL)))]) := by
  unfold Fun
  refine Spec.of_body tabOk Try.func6 rfl (ent Try.func6 rfl (by kernel_rfl)) Try.ntmps6 rfl (by kernel_rfl) (Nat.le_of_ble_eq_true rfl) ?_
  conv => whnf
  refine Spec.fn (new_ok 8 (by decide) (by decide)) [] rfl rfl (fun _ => rfl) rfl trivial (fun _ _ => ⟨rfl, rfl, trivial⟩) (fun _ _ => ?_)
  conv => whnf
  refine Spec.pure refnew_ok rfl rfl (fun _ => rfl) ?_
  conv => whnf
  refine CodeL.ghost ?_
  refine CodeL.ghost ?_
  refine CodeL.loopN tabOk 8 (by decide) (fun x : Nat × (Nat → Nat) × (Bool × Nat) × (Bool × Nat) => ([(1, .ptr 0 0), (2, .ptr 1 0), (4, .ptr 3 0), (6, .int .i64 (x.1 : Int))], [(0, .cells [.int .i64 0, .nilSlice, .nilSlice, .nilSlice]), (1, .cells [.slice 2 0 8 8]), (2, .row (ramV 8 (memL (baseL.take x.1)) x.2.1)), (3, .cells [.int .i64 8, .slz x.2.2.1.1 6 0 (logL (baseL.take x.1)).length x.2.2.1.2, .slz x.2.2.2.1 7 0 (logL (baseL.take x.1)).length x.2.2.2.2, .nilSlice]), (6, .row (atV (logL (baseL.take x.1)))), (7, .row (byV (logL (baseL.take x.1))))]))
    (fun x => 2 - x.1) (fun x => x.1 ≤ 2 ∧ okS (logL (baseL.take x.1)).length x.2.2.1 ∧ okS (logL (baseL.take x.1)).length x.2.2.2) rfl (fun x => rfl) (0, (fun _ => 0), (true, 0), (true, 0)) ⟨Nat.zero_le _, ⟨Nat.le_refl _, fun _ => rfl⟩, ⟨Nat.le_refl _, fun _ => rfl⟩⟩ (toL [(6, 4), (7, 5)]) (toL_low rfl) ⟨⟨⟨_, rfl, fun _ => rfl⟩, ⟨_, rfl, fun _ => rfl⟩, ⟨_, rfl, fun _ => rfl⟩, ⟨_, rfl, fun _ => rfl⟩, trivial⟩,
      Part.keys ⟨⟨by decide, rfl, rfl, _, rfl, fun _ => rfl, Nat.le_refl _, fun _ => Nat.le_refl _, id⟩, ⟨by decide, rfl, rfl, _, rfl, fun _ => rfl, Nat.le_refl _, fun _ => Nat.le_refl _, id⟩, ⟨by decide, rfl, rfl, _, rfl, fun _ => rfl, Nat.le_refl _, fun _ => Nat.le_refl _, id⟩, ⟨by decide, rfl, rfl, _, rfl, fun _ => rfl, Nat.le_refl _, fun _ => Nat.le_refl _, id⟩, ⟨by decide, rfl, rfl, _, rfl, fun _ => rfl, Nat.le_refl _, fun _ => Nat.le_refl _, id⟩, ⟨by decide, rfl, rfl, _, rfl, fun _ => rfl, Nat.le_refl _, fun _ => Nat.le_refl _, id⟩, trivial⟩ rfl⟩ ?_
  rintro ⟨i, t, ⟨b3, c3⟩, ⟨b4, c4⟩⟩ ⟨hi, hc3, hc4⟩
  have hi : i ≤ 2 := hi
  have : i = 0 ∨ i = 1 ∨ i = 2 := by omega
  rcases this with rfl | rfl | rfl
  · have hc3 : okS (logL (baseL.take 0)).length (b3, c3) := hc3
    have hc4 : okS (logL (baseL.take 0)).length (b4, c4) := hc4
    dsimp only
    conv => whnf
    refine .t rfl ?_
    have hx : baseL[(0 : Nat)]? = some ⟨0, 0, eT (0 + 1)⟩ := rfl
    have hat0 : atOf ⟨0, 0, eT (0 + 1)⟩ = 0 * 4096 := by kernel_rfl
    have hex : okE (eT (0 + 1)) := ⟨by decide, by decide⟩
    have hl1 : (logL (baseL.take 1)).length = (logL (baseL.take 0)).length + 8 := by rw [logL_succ hx, List.length_append, stL_len]
    have hs1 : logL (baseL.take 1) = logL (baseL.take 0) ++ stL (0 * 4096) (entW (eT (0 + 1))) 8 := by have := logL_succ hx; rw [hat0] at this; exact this
    have hm1 : memL (baseL.take 1) = stB (memL (baseL.take 0)) (0 * 4096) (entW (eT (0 + 1))) 8 := by have := memL_succ hx; rw [hat0] at this; exact this
    conv => whnf
    refine Spec.pure (word_ok (eT (0 + 1)) hex) rfl rfl (fun _ => rfl) ?_
    conv => whnf
    refine Spec.fn (store_ok 8 (memL (baseL.take 0)) t (0 * 4096) 8 (entW (eT (0 + 1))) (entW_lt _) (.inr (.inr (.inr rfl))) (by decide) (by decide) (by decide)) [1, 2] rfl rfl (fun _ => rfl) rfl ⟨⟨by decide, rfl, rfl, _, rfl, fun _ => rfl, Nat.le_refl _, fun _ => Nat.le_refl _, id⟩, ⟨by decide, rfl, rfl, _, rfl, fun _ => rfl, Nat.le_refl _, fun _ => Nat.le_refl _, id⟩, trivial⟩ (fun _ _ => ⟨rfl, rfl, ⟨_, rfl, rfl, rfl⟩, ⟨_, rfl, rfl, rlen _ _ _ _ _⟩, trivial⟩) (fun _ _ => ?_)
    conv => whnf
    refine CodeL.any tabOk Try.checked.mixed [(8, .cells [.tt, .ff, .ff, .ff, .ff, .ff, .ff, .ff, .ff, .ff, .ff, .ff, .int .u64 1])] (.take 1 (.take 2 (.take 3 (.take 4 (.alt 0 (.alt 5 (.alt 6 (.take 7 (.take 8 (.take 9 (.alt 10 (.fin) .stop)))) .stop) .stop) (.alt 5 (.alt 0 (.alt 6 (.take 7 (.take 8 (.take 9 (.alt 10 (.fin) .stop)))) .stop) .stop) .stop)))))) (by kernel_rfl) rfl ⟨rfl, trivial⟩ rfl ?_
    conv => whnf
    refine ⟨?_, ?_⟩
    · refine ⟨⟨rfl, trivial⟩, ?_⟩
      conv => whnf
      refine Spec.pure (refword_ok (eT (0 + 1)) hex) rfl rfl (fun _ => rfl) ?_
      conv => whnf
      refine ⟨⟨rfl, trivial⟩, ?_⟩
      conv => whnf
      refine Spec.fn (refstore_ok 8 (logL (baseL.take 0)) b3 b4 c3 c4 (0 * 4096) (entW (eT (0 + 1))) (by decide) (by rw [logL_len]; decide) hc3 hc4 (by decide) (by decide) (entW_lt _)) [6, 7] rfl rfl (fun _ => rfl) rfl ⟨⟨by decide, rfl, rfl, _, rfl, fun _ => rfl, Nat.le_refl _, fun _ => Nat.le_refl _, fun h => (by cases h)⟩, ⟨by decide, rfl, rfl, _, rfl, fun _ => rfl, Nat.le_refl _, fun _ => Nat.le_refl _, fun h => (by cases h)⟩, trivial⟩ (fun _ _ => ⟨rfl, rfl, rfl, rfl, trivial⟩) (fun y hy => ?_)
      obtain ⟨⟨b5, c5⟩, b6, c6⟩ := y
      conv => whnf
      refine ⟨⟨rfl, trivial⟩, ?_⟩
      conv => whnf
      refine ⟨⟨rfl, trivial⟩, ?_⟩
      conv => whnf
      exact ⟨(1, tagsL t (0 * 4096) 8, (b5, c5), (b6, c6)), toL [(6, 9), (7, 10)], ⟨by show 1 ≤ 2; decide, by rw [hl1]; exact hy.1, by rw [hl1]; exact hy.2⟩, by show 2 - 1 < 2 - 0; decide, toL_low rfl, ⟨⟨_, rfl, fun _ => rfl⟩, ⟨_, rfl, fun _ => rfl⟩, ⟨_, rfl, fun _ => rfl⟩, ⟨_, rfl, fun _ => rfl⟩, trivial⟩,
        Part.keys ⟨⟨by decide, rfl, rfl, _, rfl, fun _ => rfl, Nat.le_refl _, fun _ => Nat.le_refl _, id⟩, ⟨by decide, rfl, rfl, _, rfl, fun _ => rfl, Nat.le_refl _, fun _ => Nat.le_refl _, id⟩, ⟨by decide, rfl, rfl, _, rfl, fun _ => by rw [hm1]; rfl, (by rw [SO.ren_len]; exact Nat.le_of_eq (rlen _ _ _ _ _)), (fun ρ => (by exact rowvl _ ρ)), fun _ => (by rfl)⟩, ⟨by decide, rfl, rfl, _, rfl, fun _ => by rw [hl1]; rfl, Nat.le_refl _, fun _ => Nat.le_refl _, id⟩, ⟨by decide, rfl, rfl, _, rfl, fun _ => by rw [hs1]; rfl, by rw [hs1]; exact Nat.le_refl _, fun _ => Nat.le_refl _, id⟩, ⟨by decide, rfl, rfl, _, rfl, fun _ => by rw [hs1]; rfl, by rw [hs1]; exact Nat.le_refl _, fun _ => Nat.le_refl _, id⟩, trivial⟩ rfl⟩
    · refine Spec.pure (refword_ok (eT (0 + 1)) hex) rfl rfl (fun _ => rfl) ?_
      conv => whnf
      refine ⟨⟨rfl, trivial⟩, ?_⟩
      conv => whnf
      refine ⟨⟨rfl, trivial⟩, ?_⟩
      conv => whnf
      refine Spec.fn (refstore_ok 8 (logL (baseL.take 0)) b3 b4 c3 c4 (0 * 4096) (entW (eT (0 + 1))) (by decide) (by rw [logL_len]; decide) hc3 hc4 (by decide) (by decide) (entW_lt _)) [6, 7] rfl rfl (fun _ => rfl) rfl ⟨⟨by decide, rfl, rfl, _, rfl, fun _ => rfl, Nat.le_refl _, fun _ => Nat.le_refl _, fun h => (by cases h)⟩, ⟨by decide, rfl, rfl, _, rfl, fun _ => rfl, Nat.le_refl _, fun _ => Nat.le_refl _, fun h => (by cases h)⟩, trivial⟩ (fun _ _ => ⟨rfl, rfl, rfl, rfl, trivial⟩) (fun y hy => ?_)
      obtain ⟨⟨b5, c5⟩, b6, c6⟩ := y
      conv => whnf
      refine ⟨⟨rfl, trivial⟩, ?_⟩
      conv => whnf
      refine ⟨⟨rfl, trivial⟩, ?_⟩
      conv => whnf
      exact ⟨(1, tagsL t (0 * 4096) 8, (b5, c5), (b6, c6)), toL [(6, 9), (7, 10)], ⟨by show 1 ≤ 2; decide, by rw [hl1]; exact hy.1, by rw [hl1]; exact hy.2⟩, by show 2 - 1 < 2 - 0; decide, toL_low rfl, ⟨⟨_, rfl, fun _ => rfl⟩, ⟨_, rfl, fun _ => rfl⟩, ⟨_, rfl, fun _ => rfl⟩, ⟨_, rfl, fun _ => rfl⟩, trivial⟩,
        Part.keys ⟨⟨by decide, rfl, rfl, _, rfl, fun _ => rfl, Nat.le_refl _, fun _ => Nat.le_refl _, id⟩, ⟨by decide, rfl, rfl, _, rfl, fun _ => rfl, Nat.le_refl _, fun _ => Nat.le_refl _, id⟩, ⟨by decide, rfl, rfl, _, rfl, fun _ => by rw [hm1]; rfl, (by rw [SO.ren_len]; exact Nat.le_of_eq (rlen _ _ _ _ _)), (fun ρ => (by exact rowvl _ ρ)), fun _ => (by rfl)⟩, ⟨by decide, rfl, rfl, _, rfl, fun _ => by rw [hl1]; rfl, Nat.le_refl _, fun _ => Nat.le_refl _, id⟩, ⟨by decide, rfl, rfl, _, rfl, fun _ => by rw [hs1]; rfl, by rw [hs1]; exact Nat.le_refl _, fun _ => Nat.le_refl _, id⟩, ⟨by decide, rfl, rfl, _, rfl, fun _ => by rw [hs1]; rfl, by rw [hs1]; exact Nat.le_refl _, fun _ => Nat.le_refl _, id⟩, trivial⟩ rfl⟩
  · have hc3 : okS (logL (baseL.take 1)).length (b3, c3) := hc3
    have hc4 : okS (logL (baseL.take 1)).length (b4, c4) := hc4
    dsimp only
    conv => whnf
    refine .t rfl ?_
    have hx : baseL[(1 : Nat)]? = some ⟨1, 0, eT (1 + 1)⟩ := rfl
    have hat0 : atOf ⟨1, 0, eT (1 + 1)⟩ = 1 * 4096 := by kernel_rfl
    have hex : okE (eT (1 + 1)) := ⟨by decide, by decide⟩
    have hl1 : (logL (baseL.take 2)).length = (logL (baseL.take 1)).length + 8 := by rw [logL_succ hx, List.length_append, stL_len]
    have hs1 : logL (baseL.take 2) = logL (baseL.take 1) ++ stL (1 * 4096) (entW (eT (1 + 1))) 8 := by have := logL_succ hx; rw [hat0] at this; exact this
    have hm1 : memL (baseL.take 2) = stB (memL (baseL.take 1)) (1 * 4096) (entW (eT (1 + 1))) 8 := by have := memL_succ hx; rw [hat0] at this; exact this
    conv => whnf
    refine Spec.pure (word_ok (eT (1 + 1)) hex) rfl rfl (fun _ => rfl) ?_
    conv => whnf
    refine Spec.fn (store_ok 8 (memL (baseL.take 1)) t (1 * 4096) 8 (entW (eT (1 + 1))) (entW_lt _) (.inr (.inr (.inr rfl))) (by decide) (by decide) (by decide)) [1, 2] rfl rfl (fun _ => rfl) rfl ⟨⟨by decide, rfl, rfl, _, rfl, fun _ => rfl, Nat.le_refl _, fun _ => Nat.le_refl _, id⟩, ⟨by decide, rfl, rfl, _, rfl, fun _ => rfl, Nat.le_refl _, fun _ => Nat.le_refl _, id⟩, trivial⟩ (fun _ _ => ⟨rfl, rfl, ⟨_, rfl, rfl, rfl⟩, ⟨_, rfl, rfl, rlen _ _ _ _ _⟩, trivial⟩) (fun _ _ => ?_)
    conv => whnf
    refine CodeL.any tabOk Try.checked.mixed [(8, .cells [.tt, .ff, .ff, .ff, .ff, .ff, .ff, .ff, .ff, .ff, .ff, .ff, .int .u64 2])] (.take 1 (.take 2 (.take 3 (.take 4 (.alt 0 (.alt 5 (.alt 6 (.take 7 (.take 8 (.take 9 (.alt 10 (.fin) .stop)))) .stop) .stop) (.alt 5 (.alt 0 (.alt 6 (.take 7 (.take 8 (.take 9 (.alt 10 (.fin) .stop)))) .stop) .stop) .stop)))))) (by kernel_rfl) rfl ⟨rfl, trivial⟩ rfl ?_
    conv => whnf
    refine ⟨?_, ?_⟩
    · refine ⟨⟨rfl, trivial⟩, ?_⟩
      conv => whnf
      refine Spec.pure (refword_ok (eT (1 + 1)) hex) rfl rfl (fun _ => rfl) ?_
      conv => whnf
      refine ⟨⟨rfl, trivial⟩, ?_⟩
      conv => whnf
      refine Spec.fn (refstore_ok 8 (logL (baseL.take 1)) b3 b4 c3 c4 (1 * 4096) (entW (eT (1 + 1))) (by decide) (by rw [logL_len]; decide) hc3 hc4 (by decide) (by decide) (entW_lt _)) [6, 7] rfl rfl (fun _ => rfl) rfl ⟨⟨by decide, rfl, rfl, _, rfl, fun _ => rfl, Nat.le_refl _, fun _ => Nat.le_refl _, fun h => (by cases h)⟩, ⟨by decide, rfl, rfl, _, rfl, fun _ => rfl, Nat.le_refl _, fun _ => Nat.le_refl _, fun h => (by cases h)⟩, trivial⟩ (fun _ _ => ⟨rfl, rfl, rfl, rfl, trivial⟩) (fun y hy => ?_)
      obtain ⟨⟨b5, c5⟩, b6, c6⟩ := y
      conv => whnf
      refine ⟨⟨rfl, trivial⟩, ?_⟩
      conv => whnf
      refine ⟨⟨rfl, trivial⟩, ?_⟩
      conv => whnf
      exact ⟨(2, tagsL t (1 * 4096) 8, (b5, c5), (b6, c6)), toL [(6, 9), (7, 10)], ⟨by show 2 ≤ 2; decide, by rw [hl1]; exact hy.1, by rw [hl1]; exact hy.2⟩, by show 2 - 2 < 2 - 1; decide, toL_low rfl, ⟨⟨_, rfl, fun _ => rfl⟩, ⟨_, rfl, fun _ => rfl⟩, ⟨_, rfl, fun _ => rfl⟩, ⟨_, rfl, fun _ => rfl⟩, trivial⟩,
        Part.keys ⟨⟨by decide, rfl, rfl, _, rfl, fun _ => rfl, Nat.le_refl _, fun _ => Nat.le_refl _, id⟩, ⟨by decide, rfl, rfl, _, rfl, fun _ => rfl, Nat.le_refl _, fun _ => Nat.le_refl _, id⟩, ⟨by decide, rfl, rfl, _, rfl, fun _ => by rw [hm1]; rfl, (by rw [SO.ren_len]; exact Nat.le_of_eq (rlen _ _ _ _ _)), (fun ρ => (by exact rowvl _ ρ)), fun _ => (by rfl)⟩, ⟨by decide, rfl, rfl, _, rfl, fun _ => by rw [hl1]; rfl, Nat.le_refl _, fun _ => Nat.le_refl _, id⟩, ⟨by decide, rfl, rfl, _, rfl, fun _ => by rw [hs1]; rfl, by rw [hs1]; exact Nat.le_refl _, fun _ => Nat.le_refl _, id⟩, ⟨by decide, rfl, rfl, _, rfl, fun _ => by rw [hs1]; rfl, by rw [hs1]; exact Nat.le_refl _, fun _ => Nat.le_refl _, id⟩, trivial⟩ rfl⟩
    · refine Spec.pure (refword_ok (eT (1 + 1)) hex) rfl rfl (fun _ => rfl) ?_
      conv => whnf
      refine ⟨⟨rfl, trivial⟩, ?_⟩
      conv => whnf
      refine ⟨⟨rfl, trivial⟩, ?_⟩
      conv => whnf
      refine Spec.fn (refstore_ok 8 (logL (baseL.take 1)) b3 b4 c3 c4 (1 * 4096) (entW (eT (1 + 1))) (by decide) (by rw [logL_len]; decide) hc3 hc4 (by decide) (by decide) (entW_lt _)) [6, 7] rfl rfl (fun _ => rfl) rfl ⟨⟨by decide, rfl, rfl, _, rfl, fun _ => rfl, Nat.le_refl _, fun _ => Nat.le_refl _, fun h => (by cases h)⟩, ⟨by decide, rfl, rfl, _, rfl, fun _ => rfl, Nat.le_refl _, fun _ => Nat.le_refl _, fun h => (by cases h)⟩, trivial⟩ (fun _ _ => ⟨rfl, rfl, rfl, rfl, trivial⟩) (fun y hy => ?_)
      obtain ⟨⟨b5, c5⟩, b6, c6⟩ := y
      conv => whnf
      refine ⟨⟨rfl, trivial⟩, ?_⟩
      conv => whnf
      refine ⟨⟨rfl, trivial⟩, ?_⟩
      conv => whnf
      exact ⟨(2, tagsL t (1 * 4096) 8, (b5, c5), (b6, c6)), toL [(6, 9), (7, 10)], ⟨by show 2 ≤ 2; decide, by rw [hl1]; exact hy.1, by rw [hl1]; exact hy.2⟩, by show 2 - 2 < 2 - 1; decide, toL_low rfl, ⟨⟨_, rfl, fun _ => rfl⟩, ⟨_, rfl, fun _ => rfl⟩, ⟨_, rfl, fun _ => rfl⟩, ⟨_, rfl, fun _ => rfl⟩, trivial⟩,
        Part.keys ⟨⟨by decide, rfl, rfl, _, rfl, fun _ => rfl, Nat.le_refl _, fun _ => Nat.le_refl _, id⟩, ⟨by decide, rfl, rfl, _, rfl, fun _ => rfl, Nat.le_refl _, fun _ => Nat.le_refl _, id⟩, ⟨by decide, rfl, rfl, _, rfl, fun _ => by rw [hm1]; rfl, (by rw [SO.ren_len]; exact Nat.le_of_eq (rlen _ _ _ _ _)), (fun ρ => (by exact rowvl _ ρ)), fun _ => (by rfl)⟩, ⟨by decide, rfl, rfl, _, rfl, fun _ => by rw [hl1]; rfl, Nat.le_refl _, fun _ => Nat.le_refl _, id⟩, ⟨by decide, rfl, rfl, _, rfl, fun _ => by rw [hs1]; rfl, by rw [hs1]; exact Nat.le_refl _, fun _ => Nat.le_refl _, id⟩, ⟨by decide, rfl, rfl, _, rfl, fun _ => by rw [hs1]; rfl, by rw [hs1]; exact Nat.le_refl _, fun _ => Nat.le_refl _, id⟩, trivial⟩ rfl⟩
  · have hc3 : okS (logL baseL).length (b3, c3) := hc3
    have hc4 : okS (logL baseL).length (b4, c4) := hc4
    dsimp only
    conv => whnf
    refine .f rfl ?_
    conv => whnf
    refine CodeL.any tabOk Try.checked.mixed [(3, .cells [.int .i64 8, .slz b3 6 0 (logL (baseL.take 2)).length c3, .slz b4 7 0 (logL (baseL.take 2)).length c4, .nilSlice])] (.take 0 (.take 1 (.take 2 (.alt 3 (.fin) .stop)))) (by kernel_rfl) rfl ⟨rfl, trivial⟩ rfl ?_
    conv => whnf
    refine ⟨⟨rfl, trivial⟩, ?_⟩
    conv => whnf
    exact ⟨(t, (b3, c3), (b4, c4)), toL [(0, 1), (1, 2), (2, 6), (3, 7)], ⟨hc3, hc4⟩, fun _ h => absurd h (Nat.not_lt_zero _), Part.keys ⟨⟨by decide, rfl, rfl, _, rfl, fun _ => rfl, Nat.le_refl _, fun _ => Nat.le_refl _, id⟩, ⟨by decide, rfl, rfl, _, rfl, fun _ => rfl, Nat.le_refl _, fun _ => Nat.le_refl _, id⟩, ⟨by decide, rfl, rfl, _, rfl, fun _ => rfl, Nat.le_refl _, fun _ => Nat.le_refl _, id⟩, ⟨by decide, rfl, rfl, _, rfl, fun _ => rfl, Nat.le_refl _, fun _ => Nat.le_refl _, id⟩, trivial⟩ rfl, fun ρ => rfl⟩
end Go.Sh.Ytanljnpjkokmcaa
