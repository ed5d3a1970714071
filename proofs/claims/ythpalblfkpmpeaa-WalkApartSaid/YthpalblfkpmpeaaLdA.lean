import Derived.Test.YthpalblfkpmpeaaRfB
import Derived.Test.YthpalblfkpmpeaaMB
set_option linter.unusedVariables false
namespace Go.Sh.Ythpalblfkpmpeaa
open Go.Proofs Go.Sh

theorem refnew_ok : Pure Try.prog 25 [.int .i64 8] (.tup [.agg [.int .i64 8, .nilSlice, .nilSlice, .nilSlice], .int .i64 0]) := by
  refine Spec.of_body tabOk Try.func25 rfl (ent Try.func25 rfl (by kernel_rfl)) Try.ntmps25 rfl (by kernel_rfl) (Nat.le_of_ble_eq_true rfl) ?_
  conv => whnf
  refine .f rfl ?_
  conv => whnf
  refine .f rfl ?_
  conv => whnf
  intro ρ
  rfl
theorem rlen (n : Nat) (b t b' t' : Nat → Nat) : (SO.row (ramV n b t)).len = (SO.row (ramV n b' t')).len := by
  show (ramV n b t).length = (ramV n b' t').length
  rw [ramV_len, ramV_len]
theorem rowvl (cs : List Value) (ρ : Env) : (SO.vals ρ (SO.row cs)).length ≤ (SO.row cs).len := Nat.le_refl _
def kL (A : List Lay) : Nat := min A.length 60
theorem laid_ok (A : List Lay) (b0 : Bool) (c0 : Nat) (hA : A.length ≤ maxLen) (he : ∀ x ∈ A, okE x.e) (h0 : okS A.length (b0, c0)) : Fun Try.prog 8 [.slz b0 0 0 A.length c0] [(0, .view (laysV A))] 1 4
    (fun y : (Nat → Nat) × (Bool × Nat) × (Bool × Nat) => okS (logL (A.take (kL A))).length y.2.1 ∧ okS (logL (A.take (kL A))).length y.2.2) (fun y => .tup [.ptr 1 0, .agg [.int .i64 8, .slz y.2.1.1 3 0 (logL (A.take (kL A))).length y.2.1.2, .slz y.2.2.1 4 0 (logL (A.take (kL A))).length y.2.2.2, .nilSlice]])
    (fun y => [(1, .cells [.slice 2 0 8 8]), (2, .row (ramV 8 (memL (A.take (kL A))) y.1)), (3, .row (atV (logL (A.take (kL A))))), (4, .row (byV (logL (A.take (kL A)))))]) := by
  unfold Fun
  refine Spec.of_body tabOk Try.func8 rfl (ent Try.func8 rfl (by kernel_rfl)) Try.ntmps8 rfl (by kernel_rfl) (Nat.le_of_ble_eq_true rfl) ?_
  conv => whnf
  refine Spec.fn (new_ok 8 (by decide) (by decide)) [] rfl rfl (fun _ => rfl) rfl trivial (fun _ _ => ⟨rfl, rfl, trivial⟩) (fun _ _ => ?_)
  conv => whnf
  refine Spec.pure refnew_ok rfl rfl (fun _ => rfl) ?_
  conv => whnf
  refine CodeL.ghost ?_
  refine CodeL.ghost ?_
  refine CodeL.loopN tabOk 9 (by decide) (fun x : Nat × (Nat → Nat) × (Bool × Nat) × (Bool × Nat) => ([(0, .slz b0 0 0 A.length c0), (3, .ptr 1 0), (4, .ptr 2 0), (6, .ptr 4 0), (8, .int .i64 (x.1 : Int))], [(0, .view (laysV A)), (1, .cells [.int .i64 0, .nilSlice, .nilSlice, .nilSlice]), (2, .cells [.slice 3 0 8 8]), (3, .row (ramV 8 (memL (A.take x.1)) x.2.1)), (4, .cells [.int .i64 8, .slz x.2.2.1.1 7 0 (logL (A.take x.1)).length x.2.2.1.2, .slz x.2.2.2.1 8 0 (logL (A.take x.1)).length x.2.2.2.2, .nilSlice]), (7, .row (atV (logL (A.take x.1)))), (8, .row (byV (logL (A.take x.1))))]))
    (fun x => A.length - x.1) (fun x => x.1 ≤ kL A ∧ okS (logL (A.take x.1)).length x.2.2.1 ∧ okS (logL (A.take x.1)).length x.2.2.2) rfl (fun x => rfl) (0, (fun _ => 0), (true, 0), (true, 0)) ⟨Nat.zero_le _, ⟨Nat.le_refl _, fun _ => rfl⟩, ⟨Nat.le_refl _, fun _ => rfl⟩⟩ (toL [(7, 5), (8, 6)]) (toL_low rfl) ⟨⟨⟨_, rfl, fun _ => rfl⟩, ⟨_, rfl, fun _ => rfl⟩, ⟨_, rfl, fun _ => rfl⟩, ⟨_, rfl, fun _ => rfl⟩, ⟨_, rfl, fun _ => rfl⟩, trivial⟩,
      Part.keys ⟨⟨by decide, rfl, rfl, _, rfl, fun _ => rfl, Nat.le_refl _, fun _ => Nat.le_refl _, id⟩, ⟨by decide, rfl, rfl, _, rfl, fun _ => rfl, Nat.le_refl _, fun _ => Nat.le_refl _, id⟩, ⟨by decide, rfl, rfl, _, rfl, fun _ => rfl, Nat.le_refl _, fun _ => Nat.le_refl _, id⟩, ⟨by decide, rfl, rfl, _, rfl, fun _ => rfl, Nat.le_refl _, fun _ => Nat.le_refl _, id⟩, ⟨by decide, rfl, rfl, _, rfl, fun _ => rfl, Nat.le_refl _, fun _ => Nat.le_refl _, id⟩, ⟨by decide, rfl, rfl, _, rfl, fun _ => rfl, Nat.le_refl _, fun _ => Nat.le_refl _, id⟩, ⟨by decide, rfl, rfl, _, rfl, fun _ => rfl, Nat.le_refl _, fun _ => Nat.le_refl _, id⟩, trivial⟩ rfl⟩ ?_
  rintro ⟨i, t, ⟨b3, c3⟩, ⟨b4, c4⟩⟩ ⟨hi, hc3, hc4⟩
  have hi : i ≤ kL A := hi
  have hc3 : okS (logL (A.take i)).length (b3, c3) := hc3
  have hc4 : okS (logL (A.take i)).length (b4, c4) := hc4
  have hk : kL A = min A.length 60 := rfl
  have hlen : (logL (A.take i)).length ≤ 480 := by rw [logL_len, List.length_take]; omega
  dsimp only
  conv => whnf
  refine ⟨fun h => ?_, fun h => ?_⟩
  · have h : i < A.length := by have := of_decide_eq_true h; omega
    conv => whnf
    refine ⟨fun g => ?_, fun g => ?_⟩
    · have g : i < 60 := by have := of_decide_eq_true g; omega
      obtain ⟨x, hx⟩ : ∃ x, A[i]? = some x := ⟨_, List.getElem?_eq_getElem h⟩
      have hex : okE x.e := he x (List.mem_of_getElem? hx)
      have hat := at8_eq x
      have hao := atOf_ok x
      conv => whnf
      refine CodeL.draw tabOk Try.checked.mixed 17 (by kernel_rfl) rfl ?_
      conv => whnf
      refine .there i rfl h ?_
      conv => whnf
      refine .at1 (.int .i64 x.fr) (i * 15 + 0) (by show 0 + i * 15 + 0 = _; omega) (laysV_get hx (by decide)) rfl ?_
      conv => whnf
      refine .there i rfl h ?_
      conv => whnf
      refine .at1 (.int .i64 x.ix) (i * 15 + 1) (by show 0 + i * 15 + 1 = _; omega) (laysV_get hx (by decide)) rfl ?_
      conv => whnf
      refine .there i rfl h ?_
      conv => whnf
      refine .atN (entC x.e) (i * 15 + 2) (by show 0 + i * 15 + 2 = _; omega) (by rw [laysV_len]; show _ + 13 ≤ _; omega) (laysV_ent hx) rfl ?_
      conv => whnf
      refine Spec.pure (word_ok x.e hex) rfl rfl (fun _ => rfl) ?_
      conv => whnf
      refine Spec.fn (store_ok 8 (memL (A.take i)) t (atOf x) 8 (entW x.e) (entW_lt x.e) (.inr (.inr (.inr rfl))) hao.1 (by decide) hao.2) [2, 3] rfl rfl (fun _ => by rw [← hat]; rfl) rfl ⟨⟨by decide, rfl, rfl, _, rfl, fun _ => rfl, Nat.le_refl _, fun _ => Nat.le_refl _, id⟩, ⟨by decide, rfl, rfl, _, rfl, fun _ => rfl, Nat.le_refl _, fun _ => Nat.le_refl _, id⟩, trivial⟩ (fun _ _ => ⟨rfl, rfl, ⟨_, rfl, rfl, rfl⟩, ⟨_, rfl, rfl, rlen _ _ _ _ _⟩, trivial⟩) (fun _ _ => ?_)
      conv => whnf
      refine CodeL.any tabOk Try.checked.mixed [(0, .view (laysV A))] (.take 1 (.take 2 (.take 3 (.take 4 (.take 5 (.take 6 (.alt 0 (.alt 7 (.alt 8 (.take 9 (.take 10 (.take 11 (.alt 12 (.fin) .stop)))) .stop) .stop) (.alt 7 (.alt 0 (.alt 8 (.take 9 (.take 10 (.take 11 (.alt 12 (.fin) .stop)))) .stop) .stop) .stop)))))))) (by kernel_rfl) rfl ⟨rfl, trivial⟩ rfl ?_
      conv => whnf
      refine .there i rfl h ?_
      conv => whnf
      refine .atN (entC x.e) (i * 15 + 2) (by show 0 + i * 15 + 2 = _; omega) (by rw [laysV_len]; show _ + 13 ≤ _; omega) (laysV_ent hx) rfl ?_
      have hl1 : (logL (A.take (i + 1))).length = (logL (A.take i)).length + 8 := by rw [logL_succ hx, List.length_append, stL_len]
      have hs1 := logL_succ hx
      have hm1 := memL_succ hx
      conv => whnf
      refine ⟨?_, ?_⟩
      · refine ⟨⟨rfl, trivial⟩, ?_⟩
        conv => whnf
        refine Spec.pure (refword_ok x.e hex) rfl rfl (fun _ => rfl) ?_
        conv => whnf
        refine ⟨⟨rfl, trivial⟩, ?_⟩
        conv => whnf
        refine Spec.fn (refstore_ok 8 (logL (A.take i)) b3 b4 c3 c4 (atOf x) (entW x.e) (by decide) (by omega) hc3 hc4 hao.1 hao.2 (entW_lt x.e)) [7, 8] rfl rfl (fun _ => by rw [← hat]; rfl) rfl ⟨⟨by decide, rfl, rfl, _, rfl, fun _ => rfl, Nat.le_refl _, fun _ => Nat.le_refl _, fun h => (by cases h)⟩, ⟨by decide, rfl, rfl, _, rfl, fun _ => rfl, Nat.le_refl _, fun _ => Nat.le_refl _, fun h => (by cases h)⟩, trivial⟩ (fun _ _ => ⟨rfl, rfl, rfl, rfl, trivial⟩) (fun y hy => ?_)
        obtain ⟨⟨b5, c5⟩, b6, c6⟩ := y
        conv => whnf
        refine ⟨⟨rfl, trivial⟩, ?_⟩
        conv => whnf
        refine ⟨⟨rfl, trivial⟩, ?_⟩
        conv => whnf
        exact ⟨(i + 1, tagsL t (atOf x) 8, (b5, c5), (b6, c6)), toL [(7, 9), (8, 10)], ⟨by show i + 1 ≤ kL A; omega, by rw [hl1]; exact hy.1, by rw [hl1]; exact hy.2⟩, by show A.length - (i + 1) < A.length - i; omega, toL_low rfl, ⟨⟨_, rfl, fun _ => rfl⟩, ⟨_, rfl, fun _ => rfl⟩, ⟨_, rfl, fun _ => rfl⟩, ⟨_, rfl, fun _ => rfl⟩, ⟨_, rfl, fun _ => congrArg (Value.int .i64) (by rw [wrap_i64 _ (by omega) (by omega)]; omega)⟩, trivial⟩,
          Part.keys ⟨⟨by decide, rfl, rfl, _, rfl, fun _ => rfl, Nat.le_refl _, fun _ => Nat.le_refl _, id⟩, ⟨by decide, rfl, rfl, _, rfl, fun _ => rfl, Nat.le_refl _, fun _ => Nat.le_refl _, id⟩, ⟨by decide, rfl, rfl, _, rfl, fun _ => rfl, Nat.le_refl _, fun _ => Nat.le_refl _, id⟩, ⟨by decide, rfl, rfl, _, rfl, fun _ => by rw [hm1]; rfl, (by rw [SO.ren_len]; exact Nat.le_of_eq (rlen _ _ _ _ _)), (fun ρ => (by exact rowvl _ ρ)), fun _ => (by rfl)⟩, ⟨by decide, rfl, rfl, _, rfl, fun _ => by rw [hl1]; rfl, Nat.le_refl _, fun _ => Nat.le_refl _, id⟩, ⟨by decide, rfl, rfl, _, rfl, fun _ => by rw [hs1]; rfl, by rw [hs1]; exact Nat.le_refl _, fun _ => Nat.le_refl _, id⟩, ⟨by decide, rfl, rfl, _, rfl, fun _ => by rw [hs1]; rfl, by rw [hs1]; exact Nat.le_refl _, fun _ => Nat.le_refl _, id⟩, trivial⟩ rfl⟩
      · refine Spec.pure (refword_ok x.e hex) rfl rfl (fun _ => rfl) ?_
        conv => whnf
        refine ⟨⟨rfl, trivial⟩, ?_⟩
        conv => whnf
        refine ⟨⟨rfl, trivial⟩, ?_⟩
        conv => whnf
        refine Spec.fn (refstore_ok 8 (logL (A.take i)) b3 b4 c3 c4 (atOf x) (entW x.e) (by decide) (by omega) hc3 hc4 hao.1 hao.2 (entW_lt x.e)) [7, 8] rfl rfl (fun _ => by rw [← hat]; rfl) rfl ⟨⟨by decide, rfl, rfl, _, rfl, fun _ => rfl, Nat.le_refl _, fun _ => Nat.le_refl _, fun h => (by cases h)⟩, ⟨by decide, rfl, rfl, _, rfl, fun _ => rfl, Nat.le_refl _, fun _ => Nat.le_refl _, fun h => (by cases h)⟩, trivial⟩ (fun _ _ => ⟨rfl, rfl, rfl, rfl, trivial⟩) (fun y hy => ?_)
        obtain ⟨⟨b5, c5⟩, b6, c6⟩ := y
        conv => whnf
        refine ⟨⟨rfl, trivial⟩, ?_⟩
        conv => whnf
        refine ⟨⟨rfl, trivial⟩, ?_⟩
        conv => whnf
        exact ⟨(i + 1, tagsL t (atOf x) 8, (b5, c5), (b6, c6)), toL [(7, 9), (8, 10)], ⟨by show i + 1 ≤ kL A; omega, by rw [hl1]; exact hy.1, by rw [hl1]; exact hy.2⟩, by show A.length - (i + 1) < A.length - i; omega, toL_low rfl, ⟨⟨_, rfl, fun _ => rfl⟩, ⟨_, rfl, fun _ => rfl⟩, ⟨_, rfl, fun _ => rfl⟩, ⟨_, rfl, fun _ => rfl⟩, ⟨_, rfl, fun _ => congrArg (Value.int .i64) (by rw [wrap_i64 _ (by omega) (by omega)]; omega)⟩, trivial⟩,
          Part.keys ⟨⟨by decide, rfl, rfl, _, rfl, fun _ => rfl, Nat.le_refl _, fun _ => Nat.le_refl _, id⟩, ⟨by decide, rfl, rfl, _, rfl, fun _ => rfl, Nat.le_refl _, fun _ => Nat.le_refl _, id⟩, ⟨by decide, rfl, rfl, _, rfl, fun _ => rfl, Nat.le_refl _, fun _ => Nat.le_refl _, id⟩, ⟨by decide, rfl, rfl, _, rfl, fun _ => by rw [hm1]; rfl, (by rw [SO.ren_len]; exact Nat.le_of_eq (rlen _ _ _ _ _)), (fun ρ => (by exact rowvl _ ρ)), fun _ => (by rfl)⟩, ⟨by decide, rfl, rfl, _, rfl, fun _ => by rw [hl1]; rfl, Nat.le_refl _, fun _ => Nat.le_refl _, id⟩, ⟨by decide, rfl, rfl, _, rfl, fun _ => by rw [hs1]; rfl, by rw [hs1]; exact Nat.le_refl _, fun _ => Nat.le_refl _, id⟩, ⟨by decide, rfl, rfl, _, rfl, fun _ => by rw [hs1]; rfl, by rw [hs1]; exact Nat.le_refl _, fun _ => Nat.le_refl _, id⟩, trivial⟩ rfl⟩
    · have g : i = kL A := by have := of_decide_eq_false g; omega
      subst g
      conv => whnf
      refine CodeL.any tabOk Try.checked.mixed [(4, .cells [.int .i64 8, .slz b3 7 0 (logL (A.take (kL A))).length c3, .slz b4 8 0 (logL (A.take (kL A))).length c4, .nilSlice])] (.take 0 (.take 1 (.take 2 (.alt 3 (.fin) .stop)))) (by kernel_rfl) rfl ⟨rfl, trivial⟩ rfl ?_
      conv => whnf
      refine ⟨⟨rfl, trivial⟩, ?_⟩
      conv => whnf
      exact ⟨(t, (b3, c3), (b4, c4)), toL [(1, 2), (2, 3), (3, 7), (4, 8)], ⟨hc3, hc4⟩, toL_low rfl, Part.keys ⟨⟨by decide, rfl, rfl, _, rfl, fun _ => rfl, Nat.le_refl _, fun _ => Nat.le_refl _, id⟩, ⟨by decide, rfl, rfl, _, rfl, fun _ => rfl, Nat.le_refl _, fun _ => Nat.le_refl _, id⟩, ⟨by decide, rfl, rfl, _, rfl, fun _ => rfl, Nat.le_refl _, fun _ => Nat.le_refl _, id⟩, ⟨by decide, rfl, rfl, _, rfl, fun _ => rfl, Nat.le_refl _, fun _ => Nat.le_refl _, id⟩, trivial⟩ rfl, fun ρ => rfl⟩
  · have h : i = kL A := by have := of_decide_eq_false h; omega
    subst h
    conv => whnf
    refine CodeL.any tabOk Try.checked.mixed [(4, .cells [.int .i64 8, .slz b3 7 0 (logL (A.take (kL A))).length c3, .slz b4 8 0 (logL (A.take (kL A))).length c4, .nilSlice])] (.take 0 (.take 1 (.take 2 (.alt 3 (.fin) .stop)))) (by kernel_rfl) rfl ⟨rfl, trivial⟩ rfl ?_
    conv => whnf
    refine ⟨⟨rfl, trivial⟩, ?_⟩
    conv => whnf
    exact ⟨(t, (b3, c3), (b4, c4)), toL [(1, 2), (2, 3), (3, 7), (4, 8)], ⟨hc3, hc4⟩, toL_low rfl, Part.keys ⟨⟨by decide, rfl, rfl, _, rfl, fun _ => rfl, Nat.le_refl _, fun _ => Nat.le_refl _, id⟩, ⟨by decide, rfl, rfl, _, rfl, fun _ => rfl, Nat.le_refl _, fun _ => Nat.le_refl _, id⟩, ⟨by decide, rfl, rfl, _, rfl, fun _ => rfl, Nat.le_refl _, fun _ => Nat.le_refl _, id⟩, ⟨by decide, rfl, rfl, _, rfl, fun _ => rfl, Nat.le_refl _, fun _ => Nat.le_refl _, id⟩, trivial⟩ rfl, fun ρ => rfl⟩
end Go.Sh.Ythpalblfkpmpeaa
