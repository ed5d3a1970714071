import Derived.Test.YtanljnpjkokmcaaMuJ
import Derived.Test.YtanljnpjkokmcaaMB
set_option linter.unusedVariables false
namespace Go.Sh.Ytanljnpjkokmcaa
open Go.Proofs Go.Sh

set_option maxHeartbeats 1000000 in
theorem reftrans_ok (R : List RL) (T : List Ent) (l : List (Nat × Nat)) (c0 c1 c2 c3 : Cp) (root asid va : Nat) (gen tg : Bool) (k : Int) (o : Option Ent) (hR : R.length ≤ 1000) (hT : T.length ≤ 1000) (hl : l.length ≤ 10000) (hok : okL l) (h0 : okS R.length c0) (h1 : okS T.length c1) (h2 : okS l.length c2) (h3 : okS l.length c3) (ho : LookT R T (asid : Int) ((va / 4096 : Nat) : Int) o) (hr : root < 2 ^ 64) (hva : va < 2 ^ 64) :
    Fun Try.prog 14 [unV root asid gen 0 R.length c0 1 T.length c1, meV 2 l.length c2 3 c3, .int .u64 (va : Int), .int .i64 k, .bool tg] [(0, .view (refV R)), (1, .view (entsV T)), (2, .view (atV l)), (3, .view (byV l))] 4 4
      (fun x : TrX => x.out = outO va o (walkF (bL l) 8 root va) k tg gen ∧ x.good R T l asid va) (fun x => x.res R T l c0 c1 c2 c3 root asid va gen k) (fun x => x.rows R T l asid va) := by
  obtain ⟨b0, c0⟩ := c0
  obtain ⟨b1, c1⟩ := c1
  obtain ⟨b2, c2⟩ := c2
  obtain ⟨b3, c3⟩ := c3
  unfold Fun
  have hw := refwalk_ok 8 l b2 b3 c2 c3 root va (by decide) (by decide) (by omega) hok h2 h3 hr hva
  have hlk := reflook_ok R b0 c0 (asid : Int) ((va / 4096 : Nat) : Int) (by omega)
  unfold LookT at ho
  generalize hW : walkF (bL l) 8 root va = w at hw ⊢
  have hlT : 0 + T.length + 1 = T.length + 1 := by omega
  have hT1 : IntKind.wrap .u64 (IntKind.wrap .i64 (((T.length + 1 : Nat) : Int) - 1)) = ((T.length : Nat) : Int) := by
    rw [wrap_i64' _ (by omega) (by omega), show ((T.length + 1 : Nat) : Int) - 1 = ((T.length : Nat) : Int) by omega, wrapn _ (by omega)]
  have hq : IntKind.wrap .u64 ((va : Int).tdiv 4096) = ((va / 4096 : Nat) : Int) := quo_nat va 4096 hva
  refine Spec.of_body tabOk Try.func14 rfl (ent Try.func14 rfl (by kernel_rfl)) Try.ntmps14 rfl (by kernel_rfl) (Nat.le_of_ble_eq_true rfl) ?_
  conv => whnf
  refine ⟨fun hm => ?_, fun hm => ?_⟩
  · have hm : ¬ va < 274877906944 := by have := of_decide_eq_true hm; omega
    have hout : ∀ x, x = outO va o w k tg gen ↔ x = .err 1 := fun x => by unfold outO; rw [if_neg hm]
    conv => whnf
    refine CodeL.any tabOk Try.checked.mixed [(4, .cells [.slz b0 0 0 R.length c0, .slz b1 1 0 T.length c1, .int .u64 (root : Int), .int .u64 (asid : Int), .bool gen]), (5, .cells [.int .i64 8, .slz b2 2 0 l.length c2, .slz b3 3 0 l.length c3, .nilSlice])] (.take 0 (.take 1 (.take 2 (.alt 3 (.alt 4 (.alt 5 (.take 6 (.fin)) .stop) .stop) .stop)))) (by kernel_rfl) rfl ⟨rfl, rfl, trivial⟩ rfl ?_
    repeat' ((try (conv => whnf)); first
      | refine Needs.mk ⟨rfl, rfl, trivial⟩ ?_
      | refine And.intro ?_ ?_
      | exact ⟨.err 1, fun i => (i, 0), ⟨(hout _).2 rfl, trivial⟩, fun _ _ => rfl, Part.keys trivial rfl, fun ρ => rfl⟩)
  · have hm : va < 274877906944 := by have := of_decide_eq_false hm; omega
    conv => whnf
    rw [hq]
    generalize R.find? (atP (asid : Int) ((va / 4096 : Nat) : Int)) = f at hlk ho
    rcases f with _ | r
    · have ho : o = none := ho
      have hout : ∀ x, x = outO va o w k tg gen ↔ x = wkO w k tg gen := fun x => by unfold outO; rw [if_pos hm, ho]
      refine Spec.fn (Fun.read hlk rfl) [0] rfl rfl (fun _ => rfl) rfl ⟨⟨by decide, rfl, rfl, _, rfl, fun _ => rfl, Nat.le_refl _, fun _ => Nat.le_refl _, id⟩, trivial⟩ (fun _ _ => ⟨rfl, rfl, rfl, trivial⟩) (fun _ _ => ?_)
      conv => whnf
      rcases w with _ | ⟨x, a⟩
      all_goals
        refine Spec.fn (Fun.read hw rfl) [2, 3] rfl rfl (fun _ => rfl) rfl ⟨⟨by decide, rfl, rfl, _, rfl, fun _ => rfl, Nat.le_refl _, fun _ => Nat.le_refl _, id⟩, ⟨by decide, rfl, rfl, _, rfl, fun _ => rfl, Nat.le_refl _, fun _ => Nat.le_refl _, id⟩, trivial⟩ (fun _ _ => ⟨rfl, rfl, rfl, rfl, trivial⟩) (fun _ _ => ?_)
        conv => whnf
      · refine .t rfl ?_
        conv => whnf
        rw [hq]
        refine Spec.fn (refdrop_ok R b0 c0 (asid : Int) ((va / 4096 : Nat) : Int) (by omega)) [0] rfl rfl (fun _ => rfl) rfl ⟨⟨by decide, rfl, rfl, _, rfl, fun _ => rfl, Nat.le_refl _, fun _ => Nat.le_refl _, id⟩, trivial⟩ (fun _ _ => ⟨rfl, rfl, rfl, trivial⟩) (fun z hz => ?_)
        obtain ⟨zb, zc⟩ := z
        conv => whnf
        refine CodeL.any tabOk Try.checked.mixed [(4, .cells [.slz zb 11 0 (R.filter (keepP (asid : Int) ((va / 4096 : Nat) : Int))).length zc, .slz b1 1 0 T.length c1, .int .u64 (root : Int), .int .u64 (asid : Int), .bool gen]), (5, .cells [.int .i64 8, .slz b2 2 0 l.length c2, .slz b3 3 0 l.length c3, .nilSlice])] (.take 0 (.take 1 (.take 2 (.take 3 (.alt 4 (.alt 5 (.alt 6 (.take 7 (.fin)) .stop) .stop) .stop))))) (by kernel_rfl) rfl ⟨rfl, rfl, trivial⟩ rfl ?_
        repeat' ((try (conv => whnf)); first
          | refine Needs.mk ⟨rfl, rfl, trivial⟩ ?_
          | refine And.intro ?_ ?_
          | exact ⟨.drop (zb, zc), toL [(4, 11)], ⟨(hout _).2 rfl, hz⟩, toL_low rfl, Part.keys ⟨⟨by decide, rfl, rfl, _, rfl, fun _ => rfl, Nat.le_refl _, fun _ => Nat.le_refl _, id⟩, trivial⟩ rfl, fun ρ => rfl⟩)
      · refine .f rfl ?_
        conv => whnf
        refine Spec.pure (refcheck_ok x k tg gen) rfl rfl (fun _ => rfl) ?_
        conv => whnf
        refine ⟨fun hc => ?_, fun hc => ?_⟩
        · have hc : chkE x k tg gen ≠ 0 := by simpa using hc
          conv => whnf
          refine CodeL.any tabOk Try.checked.mixed [(4, .cells [.slz b0 0 0 R.length c0, .slz b1 1 0 T.length c1, .int .u64 (root : Int), .int .u64 (asid : Int), .bool gen]), (5, .cells [.int .i64 8, .slz b2 2 0 l.length c2, .slz b3 3 0 l.length c3, .nilSlice])] (.take 0 (.take 1 (.take 2 (.take 3 (.alt 4 (.alt 5 (.alt 6 (.take 7 (.fin)) .stop) .stop) .stop))))) (by kernel_rfl) rfl ⟨rfl, rfl, trivial⟩ rfl ?_
          repeat' ((try (conv => whnf)); first
            | refine Needs.mk ⟨rfl, rfl, trivial⟩ ?_
            | refine And.intro ?_ ?_
            | exact ⟨.err (chkE x k tg gen), fun i => (i, 0), ⟨(hout _).2 (if_neg hc).symm, trivial⟩, fun _ _ => rfl, Part.keys trivial rfl, fun ρ => rfl⟩)
        · have hc : chkE x k tg gen = 0 := by simpa using hc
          obtain ⟨hx, hbad, hal, ha⟩ := walk_is hW
          have hxo : okE x := by rw [hx]; exact entOf_ok _
          have hxo2 : okE (markE x k tg) := hxo
          conv => whnf
          refine Spec.pure (refmarked_ok x k tg) rfl rfl (fun _ => rfl) ?_
          conv => whnf
          refine VL.op (VL.eq tabOk ?_)
          conv => whnf
          refine Needs.mk (by kernel_rfl) ?_
          conv => whnf
          refine Needs.mk ⟨rfl, by kernel_rfl⟩ ?_
          conv => whnf
          refine ⟨fun hq2 => ?_, fun hq2 => ?_⟩
          · have hme : markE x k tg ≠ x := fun g => by rw [g] at hq2; simp at hq2
            have hout2 : ∀ y, y = outO va o (some (x, a)) k tg gen ↔ y = .fills (markE x k tg) a := fun y => by rw [hout y]; unfold wkO; dsimp only; rw [if_pos hc, if_neg hme]
            clear hout
            generalize markE x k tg = m at hxo2 hout2
            conv => whnf
            refine CodeL.cut 14 (by decide) (fun y : Cp × Cp => ([(2, .int .u64 (va : Int)), (3, .int .i64 k), (5, .ptr 4 0), (6, .ptr 5 0), (10, .ptr 6 0), (11, .ptr 7 0), (12, .ptr 8 0), (21, .ptr 11 0)], [(0, .view (refV R)), (1, .view (entsV T)), (4, .cells [.slz b0 0 0 R.length c0, .slz b1 1 0 T.length c1, .int .u64 (root : Int), .int .u64 (asid : Int), .bool gen]), (5, .cells [.int .i64 8, .slz y.1.1 12 0 (l.length + 8) y.1.2, .slz y.2.1 13 0 (l.length + 8) y.2.2, .nilSlice]), (11, .cells (entC m)), (12, .row (atV (stoL l m a))), (13, .row (byV (stoL l m a))), (6, .cells [.nilSlice, .nilSlice, .int .u64 0, .int .u64 0, .ff]), (7, .cells [.int .i64 0, .nilSlice, .nilSlice, .nilSlice]), (8, .cells [.int .u64 0, .ff])])) (fun y => okS (l.length + 8) y.1 ∧ okS (l.length + 8) y.2) (fun y => rfl) ?_ (fun y hy4 => ?_)
            · refine CodeL.any tabOk Try.checked.mixed [(11, .cells (entC m))] (.take 1 (.take 2 (.alt 0 (.alt 3 (.alt 4 (.take 5 (.take 6 (.take 7 (.alt 8 (.fin) .stop)))) .stop) .stop) (.alt 3 (.alt 0 (.alt 4 (.take 5 (.take 6 (.take 7 (.alt 8 (.fin) .stop)))) .stop) .stop) .stop)))) (by kernel_rfl) rfl ⟨rfl, trivial⟩ rfl ?_
              repeat' ((try (conv => whnf)); first
                | refine Spec.pure (refword_ok m hxo2) rfl rfl (fun _ => rfl) ?_
                | refine Spec.fn (refstore_ok 8 l b2 b3 c2 c3 a (entW m) (by decide) (by omega) h2 h3 ha hal (entW_lt _)) [2, 3] rfl rfl (fun _ => rfl) rfl ⟨⟨by decide, rfl, rfl, _, rfl, fun _ => rfl, Nat.le_refl _, fun _ => Nat.le_refl _, id⟩, ⟨by decide, rfl, rfl, _, rfl, fun _ => rfl, Nat.le_refl _, fun _ => Nat.le_refl _, id⟩, trivial⟩ (fun _ _ => ⟨rfl, rfl, rfl, rfl, trivial⟩) (fun y hy => ?_)
                | refine Needs.mk ⟨rfl, trivial⟩ ?_
                | refine And.intro ?_ ?_
                | exact ⟨y, fun i => (i, 0), hy, fun _ _ => rfl, ⟨⟨_, rfl, fun _ => rfl⟩, ⟨_, rfl, fun _ => rfl⟩, ⟨_, rfl, fun _ => rfl⟩, ⟨_, rfl, fun _ => rfl⟩, ⟨_, rfl, fun _ => rfl⟩, ⟨_, rfl, fun _ => rfl⟩, ⟨_, rfl, fun _ => rfl⟩, ⟨_, rfl, fun _ => rfl⟩, trivial⟩, Part.keys ⟨⟨by decide, rfl, rfl, _, rfl, fun _ => rfl, Nat.le_refl _, fun _ => Nat.le_refl _, id⟩, ⟨by decide, rfl, rfl, _, rfl, fun _ => rfl, Nat.le_refl _, fun _ => Nat.le_refl _, id⟩, ⟨by decide, rfl, rfl, _, rfl, fun _ => rfl, Nat.le_refl _, fun _ => Nat.le_refl _, id⟩, ⟨by decide, rfl, rfl, _, rfl, fun _ => rfl, Nat.le_refl _, fun _ => Nat.le_refl _, id⟩, ⟨by decide, rfl, rfl, _, rfl, fun _ => rfl, Nat.le_refl _, fun _ => Nat.le_refl _, id⟩, ⟨by decide, rfl, rfl, _, rfl, fun _ => rfl, Nat.le_refl _, fun _ => Nat.le_refl _, id⟩, ⟨by decide, rfl, rfl, _, rfl, fun _ => rfl, Nat.le_refl _, fun _ => Nat.le_refl _, id⟩, ⟨by decide, rfl, rfl, _, rfl, fun _ => rfl, Nat.le_refl _, fun _ => Nat.le_refl _, id⟩, ⟨by decide, rfl, rfl, _, rfl, fun _ => rfl, Nat.le_refl _, fun _ => Nat.le_refl _, id⟩, ⟨by decide, rfl, rfl, _, rfl, fun _ => rfl, Nat.le_refl _, fun _ => Nat.le_refl _, id⟩, trivial⟩ rfl⟩)
            · obtain ⟨⟨b4, c4⟩, b5, c5⟩ := y
              dsimp only
              conv => whnf
              refine CodeL.cut (14 + 4) (by decide) (fun y : Cp => ([(2, .int .u64 (va : Int)), (3, .int .i64 k), (5, .ptr 4 0), (6, .ptr 5 0), (10, .ptr 6 0), (11, .ptr 7 0), (12, .ptr 8 0), (21, .ptr 11 0)], [(0, .view (refV R)), (4, .cells [.slz b0 0 0 R.length c0, .slz y.1 (14 + 3) 0 (T.length + 1) y.2, .int .u64 (root : Int), .int .u64 (asid : Int), .bool gen]), (5, .cells [.int .i64 8, .slz b4 12 0 (l.length + 8) c4, .slz b5 13 0 (l.length + 8) c5, .nilSlice]), (11, .cells (entC m)), (14 + 3, .row (entsV (T ++ [m]))), (12, .row (atV (stoL l m a))), (13, .row (byV (stoL l m a))), (6, .cells [.nilSlice, .nilSlice, .int .u64 0, .int .u64 0, .ff]), (7, .cells [.int .i64 0, .nilSlice, .nilSlice, .nilSlice]), (8, .cells [.int .u64 0, .ff])])) (fun y => okS (T.length + 1) y) (fun y => rfl) ?_ (fun y hy => ?_)
              · refine CodeL.any tabOk Try.checked.mixed [(11, .cells (entC m))] (.take 1 (.take 4 (.alt 0 (.alt 2 (.alt 3 (.alt 5 (.alt 6 (.take 7 (.alt 8 (.fin) .stop)) .stop) .stop) (.alt 5 (.alt 3 (.alt 6 (.take 7 (.alt 8 (.fin) .stop)) .stop) .stop) .stop)) (.alt 5 (.alt 2 (.alt 3 (.alt 6 (.take 7 (.alt 8 (.fin) .stop)) .stop) .stop) .stop) .stop)) (.alt 2 (.alt 0 (.alt 3 (.alt 5 (.alt 6 (.take 7 (.alt 8 (.fin) .stop)) .stop) .stop) (.alt 5 (.alt 3 (.alt 6 (.take 7 (.alt 8 (.fin) .stop)) .stop) .stop) .stop)) (.alt 5 (.alt 0 (.alt 3 (.alt 6 (.take 7 (.alt 8 (.fin) .stop)) .stop) .stop) .stop) .stop)) (.alt 5 (.alt 0 (.alt 2 (.alt 3 (.alt 6 (.take 7 (.alt 8 (.fin) .stop)) .stop) .stop) .stop) (.alt 2 (.alt 0 (.alt 3 (.alt 6 (.take 7 (.alt 8 (.fin) .stop)) .stop) .stop) .stop) .stop)) .stop))))) (by kernel_rfl) rfl ⟨rfl, trivial⟩ rfl ?_
                repeat' ((try (conv => whnf)); first
                  | refine Needs.mk ⟨rfl, trivial⟩ ?_
                  | refine And.intro ?_ ?_
                  | (refine OpL.bsl0 tabOk ?_; conv => whnf
                     refine Needs.mk ⟨rfl, trivial⟩ ?_)
                  | (refine OpL.bsl tabOk ?_; conv => whnf
                     refine Needs.mk ⟨rfl, trivial⟩ ?_)
                  | (refine OpL.app tabOk ?_; conv => whnf
                     refine ⟨entsV T, fun ρ => by show ((entsV T).drop 0).take (T.length * 13) = _; rw [List.drop_zero, ← entsV_len, List.take_length], entsV_len T, rfl, rfl, Nat.le_refl _, by omega, by show _ * 24 ≤ 140737488355328; omega, fun b7 c7 hc7 hb7 => ?_⟩)
                  | (refine OpL.app tabOk ?_; conv => whnf
                     refine ⟨entVs m, fun ρ => rfl, rfl, by show ([] ++ entsV T).length = _; rw [List.nil_append, entsV_len, Nat.zero_add], rfl, hc7, by omega, by show _ * 24 ≤ 140737488355328; omega, fun b8 c8 hc8 hb8 => ?_⟩))
                all_goals
                  exact ⟨(b8, c8), fun i => (i, 0), ⟨by rw [← hlT]; exact hc8, fun h => (hb8 h).2⟩, fun _ _ => rfl, ⟨⟨_, rfl, fun _ => rfl⟩, ⟨_, rfl, fun _ => rfl⟩, ⟨_, rfl, fun _ => rfl⟩, ⟨_, rfl, fun _ => rfl⟩, ⟨_, rfl, fun _ => rfl⟩, ⟨_, rfl, fun _ => rfl⟩, ⟨_, rfl, fun _ => rfl⟩, ⟨_, rfl, fun _ => rfl⟩, trivial⟩,
                    Part.keys ⟨⟨by decide, rfl, rfl, _, rfl, fun _ => rfl, Nat.le_refl _, fun _ => Nat.le_refl _, id⟩, ⟨by decide, rfl, rfl, _, rfl, fun _ => (by rw [← hlT]; rfl), Nat.le_refl _, fun _ => Nat.le_refl _, id⟩, ⟨by decide, rfl, rfl, _, rfl, fun _ => rfl, Nat.le_refl _, fun _ => Nat.le_refl _, id⟩, ⟨by decide, rfl, rfl, _, rfl, fun _ => rfl, Nat.le_refl _, fun _ => Nat.le_refl _, id⟩, ⟨by decide, rfl, rfl, _, rfl, fun _ => (by show entsV (T ++ [m]) = [] ++ entsV T ++ entVs m; rw [entsV_app, List.nil_append]; simp [entsV]), (by show (entsV (T ++ [m])).length ≤ c8 * 13; rw [entsV_len, List.length_append]; show (T.length + 1) * 13 ≤ _; rw [← hlT]; exact Nat.mul_le_mul_right _ hc8), fun _ => Nat.le_refl _, id⟩, ⟨by decide, rfl, rfl, _, rfl, fun _ => rfl, Nat.le_refl _, fun _ => Nat.le_refl _, id⟩, ⟨by decide, rfl, rfl, _, rfl, fun _ => rfl, Nat.le_refl _, fun _ => Nat.le_refl _, id⟩, ⟨by decide, rfl, rfl, _, rfl, fun _ => rfl, Nat.le_refl _, fun _ => Nat.le_refl _, id⟩, ⟨by decide, rfl, rfl, _, rfl, fun _ => rfl, Nat.le_refl _, fun _ => Nat.le_refl _, id⟩, ⟨by decide, rfl, rfl, _, rfl, fun _ => rfl, Nat.le_refl _, fun _ => Nat.le_refl _, id⟩, trivial⟩ rfl⟩
              · obtain ⟨b7, c7⟩ := y
                dsimp only
                conv => whnf
                rw [hq, hT1]
                refine Spec.fn (refput_ok R b0 c0 ⟨(asid : Int), ((va / 4096 : Nat) : Int), (T.length : Nat)⟩ (by omega)) [0] rfl rfl (fun _ => rfl) rfl ⟨⟨by decide, rfl, rfl, _, rfl, fun _ => rfl, Nat.le_refl _, fun _ => Nat.le_refl _, id⟩, trivial⟩ (fun _ _ => ⟨rfl, rfl, rfl, trivial⟩) (fun z hz => ?_)
                obtain ⟨b9, c9⟩ := z
                conv => whnf
                refine CodeL.any tabOk Try.checked.mixed [(4, .cells [.slz b9 (14 + 4) 0 (fillR R T asid va).length c9, .slz b7 (14 + 3) 0 (T.length + 1) c7, .int .u64 (root : Int), .int .u64 (asid : Int), .bool gen]), (5, .cells [.int .i64 8, .slz b4 12 0 (l.length + 8) c4, .slz b5 13 0 (l.length + 8) c5, .nilSlice]), (11, .cells (entC m))] (.take 0 (.take 1 (.take 2 (.take 3 (.take 4 (.alt 5 (.alt 6 (.alt 7 (.alt 8 (.take 9 (.fin)) .stop) .stop) .stop) .stop)))))) (by kernel_rfl) rfl ⟨rfl, rfl, rfl, trivial⟩ rfl ?_
                repeat' ((try (conv => whnf)); first
                  | refine Needs.mk ⟨rfl, rfl, rfl, trivial⟩ ?_
                  | refine And.intro ?_ ?_
                  | refine Spec.pure (refplace_ok m va k) rfl rfl (fun _ => rfl) ?_
                  | exact ⟨.fills m a (b9, c9) (b7, c7) (b4, c4) (b5, c5), toL [(4, 14 + 4), (5, 14 + 3), (6, 12), (7, 13)], ⟨(hout2 _).2 rfl, hz, hy, hy4.1, hy4.2⟩, toL_low rfl, Part.keys ⟨⟨by decide, rfl, rfl, _, rfl, fun _ => rfl, Nat.le_refl _, fun _ => Nat.le_refl _, id⟩, ⟨by decide, rfl, rfl, _, rfl, fun _ => rfl, Nat.le_refl _, fun _ => Nat.le_refl _, id⟩, ⟨by decide, rfl, rfl, _, rfl, fun _ => rfl, Nat.le_refl _, fun _ => Nat.le_refl _, id⟩, ⟨by decide, rfl, rfl, _, rfl, fun _ => rfl, Nat.le_refl _, fun _ => Nat.le_refl _, id⟩, trivial⟩ rfl, fun ρ => rfl⟩)
          · have hme : markE x k tg = x := same_of k tg (by simpa using hq2)
            have hout2 : ∀ y, y = outO va o (some (x, a)) k tg gen ↔ y = .fill (markE x k tg) a := fun y => by rw [hout y]; unfold wkO; dsimp only; rw [if_pos hc, if_pos hme]
            clear hout
            generalize markE x k tg = m at hxo2 hout2
            conv => whnf
            refine CodeL.cut (12 + 4) (by decide) (fun y : Cp => ([(2, .int .u64 (va : Int)), (3, .int .i64 k), (5, .ptr 4 0), (6, .ptr 5 0), (10, .ptr 6 0), (11, .ptr 7 0), (12, .ptr 8 0), (21, .ptr 11 0)], [(0, .view (refV R)), (4, .cells [.slz b0 0 0 R.length c0, .slz y.1 (12 + 3) 0 (T.length + 1) y.2, .int .u64 (root : Int), .int .u64 (asid : Int), .bool gen]), (5, .cells [.int .i64 8, .slz b2 2 0 l.length c2, .slz b3 3 0 l.length c3, .nilSlice]), (11, .cells (entC m)), (12 + 3, .row (entsV (T ++ [m]))), (6, .cells [.nilSlice, .nilSlice, .int .u64 0, .int .u64 0, .ff]), (7, .cells [.int .i64 0, .nilSlice, .nilSlice, .nilSlice]), (8, .cells [.int .u64 0, .ff])])) (fun y => okS (T.length + 1) y) (fun y => rfl) ?_ (fun y hy => ?_)
            · refine CodeL.any tabOk Try.checked.mixed [(11, .cells (entC m))] (.take 1 (.take 4 (.alt 0 (.alt 2 (.alt 3 (.alt 5 (.alt 6 (.take 7 (.alt 8 (.fin) .stop)) .stop) .stop) (.alt 5 (.alt 3 (.alt 6 (.take 7 (.alt 8 (.fin) .stop)) .stop) .stop) .stop)) (.alt 5 (.alt 2 (.alt 3 (.alt 6 (.take 7 (.alt 8 (.fin) .stop)) .stop) .stop) .stop) .stop)) (.alt 2 (.alt 0 (.alt 3 (.alt 5 (.alt 6 (.take 7 (.alt 8 (.fin) .stop)) .stop) .stop) (.alt 5 (.alt 3 (.alt 6 (.take 7 (.alt 8 (.fin) .stop)) .stop) .stop) .stop)) (.alt 5 (.alt 0 (.alt 3 (.alt 6 (.take 7 (.alt 8 (.fin) .stop)) .stop) .stop) .stop) .stop)) (.alt 5 (.alt 0 (.alt 2 (.alt 3 (.alt 6 (.take 7 (.alt 8 (.fin) .stop)) .stop) .stop) .stop) (.alt 2 (.alt 0 (.alt 3 (.alt 6 (.take 7 (.alt 8 (.fin) .stop)) .stop) .stop) .stop) .stop)) .stop))))) (by kernel_rfl) rfl ⟨rfl, trivial⟩ rfl ?_
              repeat' ((try (conv => whnf)); first
                | refine Needs.mk ⟨rfl, trivial⟩ ?_
                | refine And.intro ?_ ?_
                | (refine OpL.bsl0 tabOk ?_; conv => whnf
                   refine Needs.mk ⟨rfl, trivial⟩ ?_)
                | (refine OpL.bsl tabOk ?_; conv => whnf
                   refine Needs.mk ⟨rfl, trivial⟩ ?_)
                | (refine OpL.app tabOk ?_; conv => whnf
                   refine ⟨entsV T, fun ρ => by show ((entsV T).drop 0).take (T.length * 13) = _; rw [List.drop_zero, ← entsV_len, List.take_length], entsV_len T, rfl, rfl, Nat.le_refl _, by omega, by show _ * 24 ≤ 140737488355328; omega, fun b7 c7 hc7 hb7 => ?_⟩)
                | (refine OpL.app tabOk ?_; conv => whnf
                   refine ⟨entVs m, fun ρ => rfl, rfl, by show ([] ++ entsV T).length = _; rw [List.nil_append, entsV_len, Nat.zero_add], rfl, hc7, by omega, by show _ * 24 ≤ 140737488355328; omega, fun b8 c8 hc8 hb8 => ?_⟩))
              all_goals
                exact ⟨(b8, c8), fun i => (i, 0), ⟨by rw [← hlT]; exact hc8, fun h => (hb8 h).2⟩, fun _ _ => rfl, ⟨⟨_, rfl, fun _ => rfl⟩, ⟨_, rfl, fun _ => rfl⟩, ⟨_, rfl, fun _ => rfl⟩, ⟨_, rfl, fun _ => rfl⟩, ⟨_, rfl, fun _ => rfl⟩, ⟨_, rfl, fun _ => rfl⟩, ⟨_, rfl, fun _ => rfl⟩, ⟨_, rfl, fun _ => rfl⟩, trivial⟩,
                  Part.keys ⟨⟨by decide, rfl, rfl, _, rfl, fun _ => rfl, Nat.le_refl _, fun _ => Nat.le_refl _, id⟩, ⟨by decide, rfl, rfl, _, rfl, fun _ => (by rw [← hlT]; rfl), Nat.le_refl _, fun _ => Nat.le_refl _, id⟩, ⟨by decide, rfl, rfl, _, rfl, fun _ => rfl, Nat.le_refl _, fun _ => Nat.le_refl _, id⟩, ⟨by decide, rfl, rfl, _, rfl, fun _ => rfl, Nat.le_refl _, fun _ => Nat.le_refl _, id⟩, ⟨by decide, rfl, rfl, _, rfl, fun _ => (by show entsV (T ++ [m]) = [] ++ entsV T ++ entVs m; rw [entsV_app, List.nil_append]; simp [entsV]), (by show (entsV (T ++ [m])).length ≤ c8 * 13; rw [entsV_len, List.length_append]; show (T.length + 1) * 13 ≤ _; rw [← hlT]; exact Nat.mul_le_mul_right _ hc8), fun _ => Nat.le_refl _, id⟩, ⟨by decide, rfl, rfl, _, rfl, fun _ => rfl, Nat.le_refl _, fun _ => Nat.le_refl _, id⟩, ⟨by decide, rfl, rfl, _, rfl, fun _ => rfl, Nat.le_refl _, fun _ => Nat.le_refl _, id⟩, ⟨by decide, rfl, rfl, _, rfl, fun _ => rfl, Nat.le_refl _, fun _ => Nat.le_refl _, id⟩, trivial⟩ rfl⟩
            · obtain ⟨b7, c7⟩ := y
              dsimp only
              conv => whnf
              rw [hq, hT1]
              refine Spec.fn (refput_ok R b0 c0 ⟨(asid : Int), ((va / 4096 : Nat) : Int), (T.length : Nat)⟩ (by omega)) [0] rfl rfl (fun _ => rfl) rfl ⟨⟨by decide, rfl, rfl, _, rfl, fun _ => rfl, Nat.le_refl _, fun _ => Nat.le_refl _, id⟩, trivial⟩ (fun _ _ => ⟨rfl, rfl, rfl, trivial⟩) (fun z hz => ?_)
              obtain ⟨b9, c9⟩ := z
              conv => whnf
              refine CodeL.any tabOk Try.checked.mixed [(4, .cells [.slz b9 (12 + 4) 0 (fillR R T asid va).length c9, .slz b7 (12 + 3) 0 (T.length + 1) c7, .int .u64 (root : Int), .int .u64 (asid : Int), .bool gen]), (5, .cells [.int .i64 8, .slz b2 2 0 l.length c2, .slz b3 3 0 l.length c3, .nilSlice]), (11, .cells (entC m))] (.take 0 (.take 1 (.take 2 (.take 3 (.take 4 (.alt 5 (.alt 6 (.alt 7 (.alt 8 (.take 9 (.fin)) .stop) .stop) .stop) .stop)))))) (by kernel_rfl) rfl ⟨rfl, rfl, rfl, trivial⟩ rfl ?_
              repeat' ((try (conv => whnf)); first
                | refine Needs.mk ⟨rfl, rfl, rfl, trivial⟩ ?_
                | refine And.intro ?_ ?_
                | refine Spec.pure (refplace_ok m va k) rfl rfl (fun _ => rfl) ?_
                | exact ⟨.fill m a (b9, c9) (b7, c7), toL [(4, 12 + 4), (5, 12 + 3)], ⟨(hout2 _).2 rfl, hz, hy⟩, toL_low rfl, Part.keys ⟨⟨by decide, rfl, rfl, _, rfl, fun _ => rfl, Nat.le_refl _, fun _ => Nat.le_refl _, id⟩, ⟨by decide, rfl, rfl, _, rfl, fun _ => rfl, Nat.le_refl _, fun _ => Nat.le_refl _, id⟩, trivial⟩ rfl, fun ρ => rfl⟩)
    · obtain ⟨i, e, hi, he, ho⟩ := ho
      refine Spec.fn (Fun.read hlk rfl) [0] rfl rfl (fun _ => rfl) rfl ⟨⟨by decide, rfl, rfl, _, rfl, fun _ => rfl, Nat.le_refl _, fun _ => Nat.le_refl _, id⟩, trivial⟩ (fun _ _ => ⟨rfl, rfl, rfl, trivial⟩) (fun _ _ => ?_)
      conv => whnf
      refine .there i hi (by have := (List.getElem?_eq_some_iff.1 he).1; omega) ?_
      conv => whnf
      refine .atN (entC e) (i * 13) (by show 0 + i * 13 = _; omega) (by have := (List.getElem?_eq_some_iff.1 he).1; show _ + 13 ≤ (entsV T).length; rw [entsV_len]; omega) (entsV_get he) rfl ?_
      conv => whnf
      refine Spec.pure (refcheck_ok e k tg gen) rfl rfl (fun _ => rfl) ?_
      conv => whnf
      refine ⟨fun hc => ?_, fun hc => ?_⟩
      · have hc : chkE e k tg gen ≠ 0 := by simpa using hc
        have hout : ∀ x, x = outO va o w k tg gen ↔ x = .err (chkE e k tg gen) := fun x => by unfold outO; rw [if_pos hm, ho]; dsimp only; rw [if_neg hc]
        conv => whnf
        refine CodeL.any tabOk Try.checked.mixed [(4, .cells [.slz b0 0 0 R.length c0, .slz b1 1 0 T.length c1, .int .u64 (root : Int), .int .u64 (asid : Int), .bool gen]), (5, .cells [.int .i64 8, .slz b2 2 0 l.length c2, .slz b3 3 0 l.length c3, .nilSlice])] (.take 0 (.take 1 (.take 2 (.take 3 (.alt 4 (.alt 5 (.alt 6 (.take 7 (.fin)) .stop) .stop) .stop))))) (by kernel_rfl) rfl ⟨rfl, rfl, trivial⟩ rfl ?_
        repeat' ((try (conv => whnf)); first
          | refine Needs.mk ⟨rfl, rfl, trivial⟩ ?_
          | refine And.intro ?_ ?_
          | exact ⟨.err (chkE e k tg gen), fun i => (i, 0), ⟨(hout _).2 rfl, trivial⟩, fun _ _ => rfl, Part.keys trivial rfl, fun ρ => rfl⟩)
      · have hc : chkE e k tg gen = 0 := by simpa using hc
        conv => whnf
        refine CodeL.draw tabOk Try.checked.mixed 6 (by kernel_rfl) rfl ?_
        conv => whnf
        refine QCallL.pure (refmarked_ok e k tg) rfl rfl (fun _ => rfl) ?_
        conv => whnf
        refine VL.qop rfl (VL.eq tabOk ?_)
        conv => whnf
        refine Needs.mk (by kernel_rfl) ?_
        conv => whnf
        refine Needs.mk ⟨rfl, by kernel_rfl⟩ ?_
        conv => whnf
        refine ⟨fun hq3 => ?_, fun hq3 => ?_⟩
        · have hme : markE e k tg = e := same_of k tg hq3
          have hout : ∀ x, x = outO va o w k tg gen ↔ x = .hit e := fun x => by unfold outO; rw [if_pos hm, ho]; dsimp only; rw [if_pos hc, if_pos hme]
          conv => whnf
          refine CodeL.any tabOk Try.checked.mixed [(4, .cells [.slz b0 0 0 R.length c0, .slz b1 1 0 T.length c1, .int .u64 (root : Int), .int .u64 (asid : Int), .bool gen]), (5, .cells [.int .i64 8, .slz b2 2 0 l.length c2, .slz b3 3 0 l.length c3, .nilSlice]), (10, .cells (entC e))] (.take 0 (.take 1 (.take 2 (.take 3 (.take 4 (.alt 5 (.alt 6 (.alt 7 (.alt 8 (.take 9 (.fin)) .stop) .stop) .stop) .stop)))))) (by kernel_rfl) rfl ⟨rfl, rfl, rfl, trivial⟩ rfl ?_
          repeat' ((try (conv => whnf)); first
            | refine Needs.mk ⟨rfl, rfl, rfl, trivial⟩ ?_
            | refine And.intro ?_ ?_
            | refine Spec.pure (refplace_ok e va k) rfl rfl (fun _ => rfl) ?_
            | exact ⟨.hit e, fun i => (i, 0), ⟨(hout _).2 rfl, trivial⟩, fun _ _ => rfl, Part.keys trivial rfl, fun ρ => rfl⟩)
        · have hme : markE e k tg ≠ e := fun g => by rw [g] at hq3; simp at hq3
          have hout : ∀ x, x = outO va o w k tg gen ↔ x = wkO w k tg gen := fun x => by unfold outO; rw [if_pos hm, ho]; dsimp only; rw [if_pos hc, if_neg hme]
          conv => whnf
          rcases w with _ | ⟨x, a⟩
          all_goals
            refine Spec.fn (Fun.read hw rfl) [2, 3] rfl rfl (fun _ => rfl) rfl ⟨⟨by decide, rfl, rfl, _, rfl, fun _ => rfl, Nat.le_refl _, fun _ => Nat.le_refl _, id⟩, ⟨by decide, rfl, rfl, _, rfl, fun _ => rfl, Nat.le_refl _, fun _ => Nat.le_refl _, id⟩, trivial⟩ (fun _ _ => ⟨rfl, rfl, rfl, rfl, trivial⟩) (fun _ _ => ?_)
            conv => whnf
          · refine .t rfl ?_
            conv => whnf
            rw [hq]
            refine Spec.fn (refdrop_ok R b0 c0 (asid : Int) ((va / 4096 : Nat) : Int) (by omega)) [0] rfl rfl (fun _ => rfl) rfl ⟨⟨by decide, rfl, rfl, _, rfl, fun _ => rfl, Nat.le_refl _, fun _ => Nat.le_refl _, id⟩, trivial⟩ (fun _ _ => ⟨rfl, rfl, rfl, trivial⟩) (fun z hz => ?_)
            obtain ⟨zb, zc⟩ := z
            conv => whnf
            refine CodeL.any tabOk Try.checked.mixed [(4, .cells [.slz zb 12 0 (R.filter (keepP (asid : Int) ((va / 4096 : Nat) : Int))).length zc, .slz b1 1 0 T.length c1, .int .u64 (root : Int), .int .u64 (asid : Int), .bool gen]), (5, .cells [.int .i64 8, .slz b2 2 0 l.length c2, .slz b3 3 0 l.length c3, .nilSlice])] (.take 0 (.take 1 (.take 2 (.take 3 (.alt 4 (.alt 5 (.alt 6 (.take 7 (.fin)) .stop) .stop) .stop))))) (by kernel_rfl) rfl ⟨rfl, rfl, trivial⟩ rfl ?_
            repeat' ((try (conv => whnf)); first
              | refine Needs.mk ⟨rfl, rfl, trivial⟩ ?_
              | refine And.intro ?_ ?_
              | exact ⟨.drop (zb, zc), toL [(4, 12)], ⟨(hout _).2 rfl, hz⟩, toL_low rfl, Part.keys ⟨⟨by decide, rfl, rfl, _, rfl, fun _ => rfl, Nat.le_refl _, fun _ => Nat.le_refl _, id⟩, trivial⟩ rfl, fun ρ => rfl⟩)
          · refine .f rfl ?_
            conv => whnf
            refine Spec.pure (refcheck_ok x k tg gen) rfl rfl (fun _ => rfl) ?_
            conv => whnf
            refine ⟨fun hc => ?_, fun hc => ?_⟩
            · have hc : chkE x k tg gen ≠ 0 := by simpa using hc
              conv => whnf
              refine CodeL.any tabOk Try.checked.mixed [(4, .cells [.slz b0 0 0 R.length c0, .slz b1 1 0 T.length c1, .int .u64 (root : Int), .int .u64 (asid : Int), .bool gen]), (5, .cells [.int .i64 8, .slz b2 2 0 l.length c2, .slz b3 3 0 l.length c3, .nilSlice])] (.take 0 (.take 1 (.take 2 (.take 3 (.alt 4 (.alt 5 (.alt 6 (.take 7 (.fin)) .stop) .stop) .stop))))) (by kernel_rfl) rfl ⟨rfl, rfl, trivial⟩ rfl ?_
              repeat' ((try (conv => whnf)); first
                | refine Needs.mk ⟨rfl, rfl, trivial⟩ ?_
                | refine And.intro ?_ ?_
                | exact ⟨.err (chkE x k tg gen), fun i => (i, 0), ⟨(hout _).2 (if_neg hc).symm, trivial⟩, fun _ _ => rfl, Part.keys trivial rfl, fun ρ => rfl⟩)
            · have hc : chkE x k tg gen = 0 := by simpa using hc
              obtain ⟨hx, hbad, hal, ha⟩ := walk_is hW
              have hxo : okE x := by rw [hx]; exact entOf_ok _
              have hxo2 : okE (markE x k tg) := hxo
              conv => whnf
              refine Spec.pure (refmarked_ok x k tg) rfl rfl (fun _ => rfl) ?_
              conv => whnf
              refine VL.op (VL.eq tabOk ?_)
              conv => whnf
              refine Needs.mk (by kernel_rfl) ?_
              conv => whnf
              refine Needs.mk ⟨rfl, by kernel_rfl⟩ ?_
              conv => whnf
              refine ⟨fun hq2 => ?_, fun hq2 => ?_⟩
              · have hme : markE x k tg ≠ x := fun g => by rw [g] at hq2; simp at hq2
                have hout2 : ∀ y, y = outO va o (some (x, a)) k tg gen ↔ y = .fills (markE x k tg) a := fun y => by rw [hout y]; unfold wkO; dsimp only; rw [if_pos hc, if_neg hme]
                clear hout
                generalize markE x k tg = m at hxo2 hout2
                conv => whnf
                refine CodeL.cut 15 (by decide) (fun y : Cp × Cp => ([(2, .int .u64 (va : Int)), (3, .int .i64 k), (5, .ptr 4 0), (6, .ptr 5 0), (10, .ptr 6 0), (11, .ptr 7 0), (12, .ptr 8 0), (21, .ptr 12 0)], [(0, .view (refV R)), (1, .view (entsV T)), (4, .cells [.slz b0 0 0 R.length c0, .slz b1 1 0 T.length c1, .int .u64 (root : Int), .int .u64 (asid : Int), .bool gen]), (5, .cells [.int .i64 8, .slz y.1.1 13 0 (l.length + 8) y.1.2, .slz y.2.1 14 0 (l.length + 8) y.2.2, .nilSlice]), (12, .cells (entC m)), (13, .row (atV (stoL l m a))), (14, .row (byV (stoL l m a))), (6, .cells [.nilSlice, .nilSlice, .int .u64 0, .int .u64 0, .ff]), (7, .cells [.int .i64 0, .nilSlice, .nilSlice, .nilSlice]), (8, .cells [.int .u64 0, .ff])])) (fun y => okS (l.length + 8) y.1 ∧ okS (l.length + 8) y.2) (fun y => rfl) ?_ (fun y hy4 => ?_)
                · refine CodeL.any tabOk Try.checked.mixed [(12, .cells (entC m))] (.take 1 (.take 2 (.alt 0 (.alt 3 (.alt 4 (.take 5 (.take 6 (.take 7 (.alt 8 (.fin) .stop)))) .stop) .stop) (.alt 3 (.alt 0 (.alt 4 (.take 5 (.take 6 (.take 7 (.alt 8 (.fin) .stop)))) .stop) .stop) .stop)))) (by kernel_rfl) rfl ⟨rfl, trivial⟩ rfl ?_
                  repeat' ((try (conv => whnf)); first
                    | refine Spec.pure (refword_ok m hxo2) rfl rfl (fun _ => rfl) ?_
                    | refine Spec.fn (refstore_ok 8 l b2 b3 c2 c3 a (entW m) (by decide) (by omega) h2 h3 ha hal (entW_lt _)) [2, 3] rfl rfl (fun _ => rfl) rfl ⟨⟨by decide, rfl, rfl, _, rfl, fun _ => rfl, Nat.le_refl _, fun _ => Nat.le_refl _, id⟩, ⟨by decide, rfl, rfl, _, rfl, fun _ => rfl, Nat.le_refl _, fun _ => Nat.le_refl _, id⟩, trivial⟩ (fun _ _ => ⟨rfl, rfl, rfl, rfl, trivial⟩) (fun y hy => ?_)
                    | refine Needs.mk ⟨rfl, trivial⟩ ?_
                    | refine And.intro ?_ ?_
                    | exact ⟨y, fun i => (i, 0), hy, fun _ _ => rfl, ⟨⟨_, rfl, fun _ => rfl⟩, ⟨_, rfl, fun _ => rfl⟩, ⟨_, rfl, fun _ => rfl⟩, ⟨_, rfl, fun _ => rfl⟩, ⟨_, rfl, fun _ => rfl⟩, ⟨_, rfl, fun _ => rfl⟩, ⟨_, rfl, fun _ => rfl⟩, ⟨_, rfl, fun _ => rfl⟩, trivial⟩, Part.keys ⟨⟨by decide, rfl, rfl, _, rfl, fun _ => rfl, Nat.le_refl _, fun _ => Nat.le_refl _, id⟩, ⟨by decide, rfl, rfl, _, rfl, fun _ => rfl, Nat.le_refl _, fun _ => Nat.le_refl _, id⟩, ⟨by decide, rfl, rfl, _, rfl, fun _ => rfl, Nat.le_refl _, fun _ => Nat.le_refl _, id⟩, ⟨by decide, rfl, rfl, _, rfl, fun _ => rfl, Nat.le_refl _, fun _ => Nat.le_refl _, id⟩, ⟨by decide, rfl, rfl, _, rfl, fun _ => rfl, Nat.le_refl _, fun _ => Nat.le_refl _, id⟩, ⟨by decide, rfl, rfl, _, rfl, fun _ => rfl, Nat.le_refl _, fun _ => Nat.le_refl _, id⟩, ⟨by decide, rfl, rfl, _, rfl, fun _ => rfl, Nat.le_refl _, fun _ => Nat.le_refl _, id⟩, ⟨by decide, rfl, rfl, _, rfl, fun _ => rfl, Nat.le_refl _, fun _ => Nat.le_refl _, id⟩, ⟨by decide, rfl, rfl, _, rfl, fun _ => rfl, Nat.le_refl _, fun _ => Nat.le_refl _, id⟩, ⟨by decide, rfl, rfl, _, rfl, fun _ => rfl, Nat.le_refl _, fun _ => Nat.le_refl _, id⟩, trivial⟩ rfl⟩)
                · obtain ⟨⟨b4, c4⟩, b5, c5⟩ := y
                  dsimp only
                  conv => whnf
                  refine CodeL.cut (15 + 4) (by decide) (fun y : Cp => ([(2, .int .u64 (va : Int)), (3, .int .i64 k), (5, .ptr 4 0), (6, .ptr 5 0), (10, .ptr 6 0), (11, .ptr 7 0), (12, .ptr 8 0), (21, .ptr 12 0)], [(0, .view (refV R)), (4, .cells [.slz b0 0 0 R.length c0, .slz y.1 (15 + 3) 0 (T.length + 1) y.2, .int .u64 (root : Int), .int .u64 (asid : Int), .bool gen]), (5, .cells [.int .i64 8, .slz b4 13 0 (l.length + 8) c4, .slz b5 14 0 (l.length + 8) c5, .nilSlice]), (12, .cells (entC m)), (15 + 3, .row (entsV (T ++ [m]))), (13, .row (atV (stoL l m a))), (14, .row (byV (stoL l m a))), (6, .cells [.nilSlice, .nilSlice, .int .u64 0, .int .u64 0, .ff]), (7, .cells [.int .i64 0, .nilSlice, .nilSlice, .nilSlice]), (8, .cells [.int .u64 0, .ff])])) (fun y => okS (T.length + 1) y) (fun y => rfl) ?_ (fun y hy => ?_)
                  · refine CodeL.any tabOk Try.checked.mixed [(12, .cells (entC m))] (.take 1 (.take 4 (.alt 0 (.alt 2 (.alt 3 (.alt 5 (.alt 6 (.take 7 (.alt 8 (.fin) .stop)) .stop) .stop) (.alt 5 (.alt 3 (.alt 6 (.take 7 (.alt 8 (.fin) .stop)) .stop) .stop) .stop)) (.alt 5 (.alt 2 (.alt 3 (.alt 6 (.take 7 (.alt 8 (.fin) .stop)) .stop) .stop) .stop) .stop)) (.alt 2 (.alt 0 (.alt 3 (.alt 5 (.alt 6 (.take 7 (.alt 8 (.fin) .stop)) .stop) .stop) (.alt 5 (.alt 3 (.alt 6 (.take 7 (.alt 8 (.fin) .stop)) .stop) .stop) .stop)) (.alt 5 (.alt 0 (.alt 3 (.alt 6 (.take 7 (.alt 8 (.fin) .stop)) .stop) .stop) .stop) .stop)) (.alt 5 (.alt 0 (.alt 2 (.alt 3 (.alt 6 (.take 7 (.alt 8 (.fin) .stop)) .stop) .stop) .stop) (.alt 2 (.alt 0 (.alt 3 (.alt 6 (.take 7 (.alt 8 (.fin) .stop)) .stop) .stop) .stop) .stop)) .stop))))) (by kernel_rfl) rfl ⟨rfl, trivial⟩ rfl ?_
                    repeat' ((try (conv => whnf)); first
                      | refine Needs.mk ⟨rfl, trivial⟩ ?_
                      | refine And.intro ?_ ?_
                      | (refine OpL.bsl0 tabOk ?_; conv => whnf
                         refine Needs.mk ⟨rfl, trivial⟩ ?_)
                      | (refine OpL.bsl tabOk ?_; conv => whnf
                         refine Needs.mk ⟨rfl, trivial⟩ ?_)
                      | (refine OpL.app tabOk ?_; conv => whnf
                         refine ⟨entsV T, fun ρ => by show ((entsV T).drop 0).take (T.length * 13) = _; rw [List.drop_zero, ← entsV_len, List.take_length], entsV_len T, rfl, rfl, Nat.le_refl _, by omega, by show _ * 24 ≤ 140737488355328; omega, fun b7 c7 hc7 hb7 => ?_⟩)
                      | (refine OpL.app tabOk ?_; conv => whnf
                         refine ⟨entVs m, fun ρ => rfl, rfl, by show ([] ++ entsV T).length = _; rw [List.nil_append, entsV_len, Nat.zero_add], rfl, hc7, by omega, by show _ * 24 ≤ 140737488355328; omega, fun b8 c8 hc8 hb8 => ?_⟩))
                    all_goals
                      exact ⟨(b8, c8), fun i => (i, 0), ⟨by rw [← hlT]; exact hc8, fun h => (hb8 h).2⟩, fun _ _ => rfl, ⟨⟨_, rfl, fun _ => rfl⟩, ⟨_, rfl, fun _ => rfl⟩, ⟨_, rfl, fun _ => rfl⟩, ⟨_, rfl, fun _ => rfl⟩, ⟨_, rfl, fun _ => rfl⟩, ⟨_, rfl, fun _ => rfl⟩, ⟨_, rfl, fun _ => rfl⟩, ⟨_, rfl, fun _ => rfl⟩, trivial⟩,
                        Part.keys ⟨⟨by decide, rfl, rfl, _, rfl, fun _ => rfl, Nat.le_refl _, fun _ => Nat.le_refl _, id⟩, ⟨by decide, rfl, rfl, _, rfl, fun _ => (by rw [← hlT]; rfl), Nat.le_refl _, fun _ => Nat.le_refl _, id⟩, ⟨by decide, rfl, rfl, _, rfl, fun _ => rfl, Nat.le_refl _, fun _ => Nat.le_refl _, id⟩, ⟨by decide, rfl, rfl, _, rfl, fun _ => rfl, Nat.le_refl _, fun _ => Nat.le_refl _, id⟩, ⟨by decide, rfl, rfl, _, rfl, fun _ => (by show entsV (T ++ [m]) = [] ++ entsV T ++ entVs m; rw [entsV_app, List.nil_append]; simp [entsV]), (by show (entsV (T ++ [m])).length ≤ c8 * 13; rw [entsV_len, List.length_append]; show (T.length + 1) * 13 ≤ _; rw [← hlT]; exact Nat.mul_le_mul_right _ hc8), fun _ => Nat.le_refl _, id⟩, ⟨by decide, rfl, rfl, _, rfl, fun _ => rfl, Nat.le_refl _, fun _ => Nat.le_refl _, id⟩, ⟨by decide, rfl, rfl, _, rfl, fun _ => rfl, Nat.le_refl _, fun _ => Nat.le_refl _, id⟩, ⟨by decide, rfl, rfl, _, rfl, fun _ => rfl, Nat.le_refl _, fun _ => Nat.le_refl _, id⟩, ⟨by decide, rfl, rfl, _, rfl, fun _ => rfl, Nat.le_refl _, fun _ => Nat.le_refl _, id⟩, ⟨by decide, rfl, rfl, _, rfl, fun _ => rfl, Nat.le_refl _, fun _ => Nat.le_refl _, id⟩, trivial⟩ rfl⟩
                  · obtain ⟨b7, c7⟩ := y
                    dsimp only
                    conv => whnf
                    rw [hq, hT1]
                    refine Spec.fn (refput_ok R b0 c0 ⟨(asid : Int), ((va / 4096 : Nat) : Int), (T.length : Nat)⟩ (by omega)) [0] rfl rfl (fun _ => rfl) rfl ⟨⟨by decide, rfl, rfl, _, rfl, fun _ => rfl, Nat.le_refl _, fun _ => Nat.le_refl _, id⟩, trivial⟩ (fun _ _ => ⟨rfl, rfl, rfl, trivial⟩) (fun z hz => ?_)
                    obtain ⟨b9, c9⟩ := z
                    conv => whnf
                    refine CodeL.any tabOk Try.checked.mixed [(4, .cells [.slz b9 (15 + 4) 0 (fillR R T asid va).length c9, .slz b7 (15 + 3) 0 (T.length + 1) c7, .int .u64 (root : Int), .int .u64 (asid : Int), .bool gen]), (5, .cells [.int .i64 8, .slz b4 13 0 (l.length + 8) c4, .slz b5 14 0 (l.length + 8) c5, .nilSlice]), (12, .cells (entC m))] (.take 0 (.take 1 (.take 2 (.take 3 (.take 4 (.alt 5 (.alt 6 (.alt 7 (.alt 8 (.take 9 (.fin)) .stop) .stop) .stop) .stop)))))) (by kernel_rfl) rfl ⟨rfl, rfl, rfl, trivial⟩ rfl ?_
                    repeat' ((try (conv => whnf)); first
                      | refine Needs.mk ⟨rfl, rfl, rfl, trivial⟩ ?_
                      | refine And.intro ?_ ?_
                      | refine Spec.pure (refplace_ok m va k) rfl rfl (fun _ => rfl) ?_
                      | exact ⟨.fills m a (b9, c9) (b7, c7) (b4, c4) (b5, c5), toL [(4, 15 + 4), (5, 15 + 3), (6, 13), (7, 14)], ⟨(hout2 _).2 rfl, hz, hy, hy4.1, hy4.2⟩, toL_low rfl, Part.keys ⟨⟨by decide, rfl, rfl, _, rfl, fun _ => rfl, Nat.le_refl _, fun _ => Nat.le_refl _, id⟩, ⟨by decide, rfl, rfl, _, rfl, fun _ => rfl, Nat.le_refl _, fun _ => Nat.le_refl _, id⟩, ⟨by decide, rfl, rfl, _, rfl, fun _ => rfl, Nat.le_refl _, fun _ => Nat.le_refl _, id⟩, ⟨by decide, rfl, rfl, _, rfl, fun _ => rfl, Nat.le_refl _, fun _ => Nat.le_refl _, id⟩, trivial⟩ rfl, fun ρ => rfl⟩)
              · have hme : markE x k tg = x := same_of k tg (by simpa using hq2)
                have hout2 : ∀ y, y = outO va o (some (x, a)) k tg gen ↔ y = .fill (markE x k tg) a := fun y => by rw [hout y]; unfold wkO; dsimp only; rw [if_pos hc, if_pos hme]
                clear hout
                generalize markE x k tg = m at hxo2 hout2
                conv => whnf
                refine CodeL.cut (13 + 4) (by decide) (fun y : Cp => ([(2, .int .u64 (va : Int)), (3, .int .i64 k), (5, .ptr 4 0), (6, .ptr 5 0), (10, .ptr 6 0), (11, .ptr 7 0), (12, .ptr 8 0), (21, .ptr 12 0)], [(0, .view (refV R)), (4, .cells [.slz b0 0 0 R.length c0, .slz y.1 (13 + 3) 0 (T.length + 1) y.2, .int .u64 (root : Int), .int .u64 (asid : Int), .bool gen]), (5, .cells [.int .i64 8, .slz b2 2 0 l.length c2, .slz b3 3 0 l.length c3, .nilSlice]), (12, .cells (entC m)), (13 + 3, .row (entsV (T ++ [m]))), (6, .cells [.nilSlice, .nilSlice, .int .u64 0, .int .u64 0, .ff]), (7, .cells [.int .i64 0, .nilSlice, .nilSlice, .nilSlice]), (8, .cells [.int .u64 0, .ff])])) (fun y => okS (T.length + 1) y) (fun y => rfl) ?_ (fun y hy => ?_)
                · refine CodeL.any tabOk Try.checked.mixed [(12, .cells (entC m))] (.take 1 (.take 4 (.alt 0 (.alt 2 (.alt 3 (.alt 5 (.alt 6 (.take 7 (.alt 8 (.fin) .stop)) .stop) .stop) (.alt 5 (.alt 3 (.alt 6 (.take 7 (.alt 8 (.fin) .stop)) .stop) .stop) .stop)) (.alt 5 (.alt 2 (.alt 3 (.alt 6 (.take 7 (.alt 8 (.fin) .stop)) .stop) .stop) .stop) .stop)) (.alt 2 (.alt 0 (.alt 3 (.alt 5 (.alt 6 (.take 7 (.alt 8 (.fin) .stop)) .stop) .stop) (.alt 5 (.alt 3 (.alt 6 (.take 7 (.alt 8 (.fin) .stop)) .stop) .stop) .stop)) (.alt 5 (.alt 0 (.alt 3 (.alt 6 (.take 7 (.alt 8 (.fin) .stop)) .stop) .stop) .stop) .stop)) (.alt 5 (.alt 0 (.alt 2 (.alt 3 (.alt 6 (.take 7 (.alt 8 (.fin) .stop)) .stop) .stop) .stop) (.alt 2 (.alt 0 (.alt 3 (.alt 6 (.take 7 (.alt 8 (.fin) .stop)) .stop) .stop) .stop) .stop)) .stop))))) (by kernel_rfl) rfl ⟨rfl, trivial⟩ rfl ?_
                  repeat' ((try (conv => whnf)); first
                    | refine Needs.mk ⟨rfl, trivial⟩ ?_
                    | refine And.intro ?_ ?_
                    | (refine OpL.bsl0 tabOk ?_; conv => whnf
                       refine Needs.mk ⟨rfl, trivial⟩ ?_)
                    | (refine OpL.bsl tabOk ?_; conv => whnf
                       refine Needs.mk ⟨rfl, trivial⟩ ?_)
                    | (refine OpL.app tabOk ?_; conv => whnf
                       refine ⟨entsV T, fun ρ => by show ((entsV T).drop 0).take (T.length * 13) = _; rw [List.drop_zero, ← entsV_len, List.take_length], entsV_len T, rfl, rfl, Nat.le_refl _, by omega, by show _ * 24 ≤ 140737488355328; omega, fun b7 c7 hc7 hb7 => ?_⟩)
                    | (refine OpL.app tabOk ?_; conv => whnf
                       refine ⟨entVs m, fun ρ => rfl, rfl, by show ([] ++ entsV T).length = _; rw [List.nil_append, entsV_len, Nat.zero_add], rfl, hc7, by omega, by show _ * 24 ≤ 140737488355328; omega, fun b8 c8 hc8 hb8 => ?_⟩))
                  all_goals
                    exact ⟨(b8, c8), fun i => (i, 0), ⟨by rw [← hlT]; exact hc8, fun h => (hb8 h).2⟩, fun _ _ => rfl, ⟨⟨_, rfl, fun _ => rfl⟩, ⟨_, rfl, fun _ => rfl⟩, ⟨_, rfl, fun _ => rfl⟩, ⟨_, rfl, fun _ => rfl⟩, ⟨_, rfl, fun _ => rfl⟩, ⟨_, rfl, fun _ => rfl⟩, ⟨_, rfl, fun _ => rfl⟩, ⟨_, rfl, fun _ => rfl⟩, trivial⟩,
                      Part.keys ⟨⟨by decide, rfl, rfl, _, rfl, fun _ => rfl, Nat.le_refl _, fun _ => Nat.le_refl _, id⟩, ⟨by decide, rfl, rfl, _, rfl, fun _ => (by rw [← hlT]; rfl), Nat.le_refl _, fun _ => Nat.le_refl _, id⟩, ⟨by decide, rfl, rfl, _, rfl, fun _ => rfl, Nat.le_refl _, fun _ => Nat.le_refl _, id⟩, ⟨by decide, rfl, rfl, _, rfl, fun _ => rfl, Nat.le_refl _, fun _ => Nat.le_refl _, id⟩, ⟨by decide, rfl, rfl, _, rfl, fun _ => (by show entsV (T ++ [m]) = [] ++ entsV T ++ entVs m; rw [entsV_app, List.nil_append]; simp [entsV]), (by show (entsV (T ++ [m])).length ≤ c8 * 13; rw [entsV_len, List.length_append]; show (T.length + 1) * 13 ≤ _; rw [← hlT]; exact Nat.mul_le_mul_right _ hc8), fun _ => Nat.le_refl _, id⟩, ⟨by decide, rfl, rfl, _, rfl, fun _ => rfl, Nat.le_refl _, fun _ => Nat.le_refl _, id⟩, ⟨by decide, rfl, rfl, _, rfl, fun _ => rfl, Nat.le_refl _, fun _ => Nat.le_refl _, id⟩, ⟨by decide, rfl, rfl, _, rfl, fun _ => rfl, Nat.le_refl _, fun _ => Nat.le_refl _, id⟩, trivial⟩ rfl⟩
                · obtain ⟨b7, c7⟩ := y
                  dsimp only
                  conv => whnf
                  rw [hq, hT1]
                  refine Spec.fn (refput_ok R b0 c0 ⟨(asid : Int), ((va / 4096 : Nat) : Int), (T.length : Nat)⟩ (by omega)) [0] rfl rfl (fun _ => rfl) rfl ⟨⟨by decide, rfl, rfl, _, rfl, fun _ => rfl, Nat.le_refl _, fun _ => Nat.le_refl _, id⟩, trivial⟩ (fun _ _ => ⟨rfl, rfl, rfl, trivial⟩) (fun z hz => ?_)
                  obtain ⟨b9, c9⟩ := z
                  conv => whnf
                  refine CodeL.any tabOk Try.checked.mixed [(4, .cells [.slz b9 (13 + 4) 0 (fillR R T asid va).length c9, .slz b7 (13 + 3) 0 (T.length + 1) c7, .int .u64 (root : Int), .int .u64 (asid : Int), .bool gen]), (5, .cells [.int .i64 8, .slz b2 2 0 l.length c2, .slz b3 3 0 l.length c3, .nilSlice]), (12, .cells (entC m))] (.take 0 (.take 1 (.take 2 (.take 3 (.take 4 (.alt 5 (.alt 6 (.alt 7 (.alt 8 (.take 9 (.fin)) .stop) .stop) .stop) .stop)))))) (by kernel_rfl) rfl ⟨rfl, rfl, rfl, trivial⟩ rfl ?_
                  repeat' ((try (conv => whnf)); first
                    | refine Needs.mk ⟨rfl, rfl, rfl, trivial⟩ ?_
                    | refine And.intro ?_ ?_
                    | refine Spec.pure (refplace_ok m va k) rfl rfl (fun _ => rfl) ?_
                    | exact ⟨.fill m a (b9, c9) (b7, c7), toL [(4, 13 + 4), (5, 13 + 3)], ⟨(hout2 _).2 rfl, hz, hy⟩, toL_low rfl, Part.keys ⟨⟨by decide, rfl, rfl, _, rfl, fun _ => rfl, Nat.le_refl _, fun _ => Nat.le_refl _, id⟩, ⟨by decide, rfl, rfl, _, rfl, fun _ => rfl, Nat.le_refl _, fun _ => Nat.le_refl _, id⟩, trivial⟩ rfl, fun ρ => rfl⟩)
end Go.Sh.Ytanljnpjkokmcaa

set_option linter.unusedVariables false
namespace Go.Sh.Ytanljnpjkokmcaa
open Go.Proofs Go.Sh

structure Act where
  kind : Int
  what : Int
  n : Int
  va : Nat
  tg : Bool
  e : Ent
def Act.good (a : Act) : Prop := a.va < 2 ^ 64 ∧ okE a.e
def actC (a : Act) : List SV := [.int .i64 a.kind, .int .i64 a.what, .int .i64 a.n, .int .u64 (a.va : Int), .bool a.tg, .bool a.e.v, .bool a.e.r, .bool a.e.w, .bool a.e.x, .bool a.e.u, .bool a.e.g, .bool a.e.a, .bool a.e.d, .bool a.e.cw, .bool a.e.cr, .bool a.e.cd, .bool a.e.gn, .int .u64 a.e.fr]
def actV (a : Act) : List Value := [.int .i64 a.kind, .int .i64 a.what, .int .i64 a.n, .int .u64 (a.va : Int), .bool a.tg, .bool a.e.v, .bool a.e.r, .bool a.e.w, .bool a.e.x, .bool a.e.u, .bool a.e.g, .bool a.e.a, .bool a.e.d, .bool a.e.cw, .bool a.e.cr, .bool a.e.cd, .bool a.e.gn, .int .u64 a.e.fr]
def actsV (A : List Act) : List Value := A.flatMap actV
theorem actsV_len : ∀ A, (actsV A).length = A.length * 18
  | [] => rfl
  | a :: r => by rw [actsV, List.flatMap_cons, List.length_append, ← actsV, actsV_len r, List.length_cons]; simp [actV]; omega
theorem actsV_get : ∀ {A : List Act} {i : Nat} {a : Act}, A[i]? = some a → ((actsV A).drop (i * 18)).take 18 = actV a
  | [], i, a, h => by simp at h
  | x :: r, 0, a, h => by
    simp only [List.getElem?_cons_zero, Option.some.injEq] at h
    subst h; rfl
  | x :: r, i + 1, a, h => by
    rw [List.getElem?_cons_succ] at h
    have : (i + 1) * 18 = (actV x).length + i * 18 := by simp [actV]; omega
    rw [actsV, List.flatMap_cons, this, List.drop_append]
    simp only [Nat.add_sub_cancel_left]
    rw [List.drop_eq_nil_of_le (by omega), List.nil_append]
    exact actsV_get h

/-- Where the loop stands. -/
structure PS where
  i : Nat
  s : Nat → List Ln
  s' : Nat → List Ln
  R : List RL
  T : List Ent
  log : List (Nat × Nat)
  t : Nat → Nat
  asid : Nat
  gen : Bool
  cl : Cp
  ce : Cp
  c3 : Cp
  c4 : Cp
structure PGood (m : Nat) (x : PS) : Prop where
  hi : x.i ≤ m
  h60 : x.i ≤ 60
  inv : PInv x.s x.s' x.T x.log x.i
  hR : x.R = (preL x.s' 4).map toRL
  has : x.asid < 2 ^ 64
  ol : okS x.R.length x.cl
  oe : okS x.T.length x.ce
  o3 : okS x.log.length x.c3
  o4 : okS x.log.length x.c4
theorem LookT_of {s s' : Nat → List Ln} {R : List RL} {T : List Ent} {log : List (Nat × Nat)} {i : Nat} (h : PInv s s' T log i) (hR : R = (preL s' 4).map toRL) (a n : Int) : LookT R T a n (((s (q4 n)).find? (isP a n)).map Ln.e) := by
  unfold LookT
  rw [hR, find_preL h.is']
  rcases (h.rel (q4 n)).findP a n with ⟨h1, h2⟩ | ⟨x, y, h1, h2, h3⟩
  · rw [h1, h2]; rfl
  · rw [h1, h2]
    obtain ⟨j, g1, g2⟩ := h3.i
    exact ⟨j, y.e, g1, g2, congrArg some h3.e⟩
theorem base_len : (logL baseL).length = 16 := by rw [logL_len]; rfl
theorem PGood0 (m : Nat) (t : Nat → Nat) {c3 c4 : Cp} (h3 : okS (logL baseL).length c3) (h4 : okS (logL baseL).length c4) : PGood m ⟨0, s0, s0, [], [], logL baseL, t, 0, false, (true, 0), (true, 0), c3, c4⟩ :=
  ⟨Nat.zero_le _, Nat.zero_le _, ⟨Inv.nil, Inv.nil, fun _ => .nil, logL_ok _, by show (logL baseL).length ≤ _; rw [base_len]; omega, Nat.le_refl _⟩, rfl, by show 0 < 2 ^ 64; decide, ⟨Nat.le_refl _, fun _ => rfl⟩, ⟨Nat.le_refl _, fun _ => rfl⟩, h3, h4⟩
def PF (m : Nat) (b0 : Bool) (c0 : Nat) (x : PS) : Fr := [(0, .slz b0 0 0 m c0), (3, .ptr 1 0), (4, .ptr 5 0), (5, .ptr 6 0), (6, .ptr 7 0), (7, .int .i64 (x.i : Int))]
def PH (A : List Act) (x : PS) : Hp := [(0, .view (actsV A)), (1, .cells [.slice 2 0 8 8]), (2, .row (ramV 8 (bL x.log) x.t)), (5, .cells [.int .i64 8, .slz x.c3.1 10 0 x.log.length x.c3.2, .slz x.c4.1 11 0 x.log.length x.c4.2, .nilSlice]), (6, .row (tlbC x.s (uR 0 x.asid x.gen))), (7, .cells [.slz x.cl.1 12 0 x.R.length x.cl.2, .slz x.ce.1 13 0 x.T.length x.ce.2, .int .u64 0, .int .u64 (x.asid : Int), .bool x.gen]), (10, .row (atV x.log)), (11, .row (byV x.log)), (12, .row (refV x.R)), (13, .row (entsV x.T))]
theorem PInv_evict {s s' : Nat → List Ln} {T : List Ent} {log : List (Nat × Nat)} {i : Nat} (h : PInv s s' T log i) (p : Int) : PInv (evS s p) (evS s' p) T log (i + 1) := by
  have hl := h.len
  unfold evS
  rcases hx : (preL s 4)[evI p (preL s 4).length]? with _ | x
  · have hy : (preL s' 4)[evI p (preL s' 4).length]? = none := by
      rw [List.getElem?_eq_none_iff] at hx ⊢
      rw [← hl]; exact hx
    rw [hy]; exact h.next
  · obtain ⟨y, hy, hr⟩ := (h.rel.preL 4).get hx
    rw [hl] at hy
    rw [hy]
    dsimp only
    rw [← hr.a, ← hr.n]
    exact h.dropP x.asid x.num
theorem evS_len {s : Nat → List Ln} (hs : Inv s) (place : Int) (rest : List Value) : (tlbC (evS s place) rest).length = (tlbC s rest).length := by
  unfold evS
  split
  · rw [tlbC_len hs.len, tlbC_len (okT_fset hs.len (Nat.le_trans (List.length_filter_le _ _) (hs.len _)))]
  · rfl
theorem evS_none {s : Nat → List Ln} (h : (preL s 4).length = 0) (p : Int) : evS s p = s := by
  unfold evS
  rw [List.getElem?_eq_none (by omega)]
theorem evS_preL {s : Nat → List Ln} (hs : Inv s) (h : 0 < (preL s 4).length) (p : Int) : (preL (evS s p) 4).map toRL = ((preL s 4).map toRL).take (evI p (preL s 4).length) ++ ((preL s 4).map toRL).drop (evI p (preL s 4).length + 1) := by
  obtain ⟨k1, _⟩ := evI_lt p h
  obtain ⟨y, hy⟩ : ∃ y, (preL s 4)[evI p (preL s 4).length]? = some y := ⟨_, List.getElem?_eq_getElem k1⟩
  have e : evS s p = fset s (q4 y.num) ((s (q4 y.num)).filter fun z => !isP y.asid y.num z) := by
    unfold evS; rw [hy]
  rw [e]; exact evict_preL hs hy
theorem stoL_len (l : List (Nat × Nat)) (m : Ent) (a : Nat) : (stoL l m a).length = l.length + 8 := by unfold stoL; rw [List.length_append, stL_len]
theorem wkO_at {b : Nat → Nat} {va : Nat} {k : Int} {tg gen : Bool} {m : Ent} {a : Nat} (h : wkO (walkF b 8 0 va) k tg gen = .fills m a) : a < 8 * 4096 := by
  unfold wkO at h
  rcases hw : walkF b 8 0 va with _ | ⟨x, p⟩
  · rw [hw] at h; cases h
  · rw [hw] at h
    dsimp only at h
    obtain ⟨_, _, _, hp⟩ := walk_is hw
    split at h
    · split at h
      · cases h
      · cases h; exact hp
    · cases h
theorem outO_at {b : Nat → Nat} {va : Nat} {o : Option Ent} {k : Int} {tg gen : Bool} {m : Ent} {a : Nat} (h : outO va o (walkF b 8 0 va) k tg gen = .fills m a) : a < 8 * 4096 := by
  unfold outO at h
  split at h
  · rcases o with _ | e
    · exact wkO_at h
    · dsimp only at h
      split at h
      · split at h
        · cases h
        · exact wkO_at h
      · cases h
  · cases h
section
variable (R : List RL) (T : List Ent) (l : List (Nat × Nat)) (c0 c1 c2 c3 : Cp) (root asid va : Nat) (gen : Bool) (k : Int)
theorem TrX_ok (x : TrX) : (x.res R T l c0 c1 c2 c3 root asid va gen k).ok 8 = true := by cases x <;> rfl
theorem TrX_rows (H : Hp) (x : TrX) : rowsOk H 4 8 (x.rows R T l asid va) = true := by cases x <;> rfl
theorem TrX_cov (x : TrX) : covers (x.rows R T l asid va) [(0, .view (refV R)), (1, .view (entsV T)), (2, .view (atV l)), (3, .view (byV l))] := by cases x <;> exact ⟨rfl, rfl, rfl, rfl, trivial⟩
end
end Go.Sh.Ytanljnpjkokmcaa
