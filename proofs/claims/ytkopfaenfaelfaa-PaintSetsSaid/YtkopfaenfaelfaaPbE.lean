import Derived.Test.YtkopfaenfaelfaaPbD
import Derived.Test.YtkopfaenfaelfaaPaint2
set_option linter.unusedVariables false
namespace Go.Sh.Ytkopfaenfaelfaa
open Go.Proofs Go.Sh

structure WR (op : Nat → Nat → Nat) (L : List (Nat × Nat)) (f : Nat → Nat) (n0 : Nat) (x : PD × Nat) : Prop where
  ok : PtI x.1 x.2
  sem : ∀ p, getS x.1 p = foldS op covC L f p
  len : x.1.length ≤ n0 + 64 * L.length
section
variable (g : FuncId) (op : Nat → Nat → Nat) (hm0 : ∀ A B, A < 2 ^ 256 → B < 2 ^ 256 → Pure Try.prog g [setV A, setV B] (setV (op A B))) (hop : ∀ A B, A < 2 ^ 256 → B < 2 ^ 256 → op A B < 2 ^ 256) (hop0 : ∀ A, op A 0 = A)
include hm0 hop hop0
set_option maxHeartbeats 1000000 in
theorem bwith_ok (L : List (Nat × Nat)) (bs : Bool) (cs : Nat) (D0 : PD) (c0 : Nat) (hD : PtI D0 c0) (hL : ∀ s ∈ L, s.1 < 2 ^ 64 ∧ s.2 < 2 ^ 64) (hl : L.length ≤ 1000) : Fun Try.prog 12 [.agg [.map 0], .slz bs 1 0 L.length cs, .func g []] [(0, .dict (.map (ents u64V tagV D0) none) c0), (1, .view (spsV L))] 2 1 (WR op L (getS D0) D0.length) (fun _ => .agg [.map 2]) (fun x => [(0, .dict (.map (ents u64V tagV D0) none) c0), (2, .dict (.map (ents u64V tagV x.1) none) x.2)]) := by
  unfold Fun
  have hcl := clone_ok (ents u64V tagV D0) c0
  have hW : WI op covC L (getS D0) D0.length 0 D0 c0 := ⟨hD, fun p => rfl, Nat.le_refl _⟩
  obtain ⟨f, hf⟩ : ∃ f, getS D0 = f := ⟨_, rfl⟩
  obtain ⟨n0, hn0⟩ : ∃ n, D0.length = n := ⟨_, rfl⟩
  rw [hf, hn0] at hW ⊢
  refine Spec.of_body tabOk Try.func12 rfl (ent Try.func12 rfl (by kernel_rfl)) Try.ntmps12 rfl (by kernel_rfl) (Nat.le_of_ble_eq_true rfl) ?_
  conv => whnf
  refine Spec.fn hcl [0] rfl rfl (fun _ => rfl) rfl ⟨⟨by decide, rfl, _, rfl, fun _ _ _ h => h⟩, trivial⟩ (fun _ _ => ⟨rfl, rfl, ⟨_, rfl, rfl, rfl⟩, trivial⟩) (fun _ _ => ?_)
  conv => whnf
  refine VL.op (VL.mnl tabOk ?_)
  conv => whnf
  refine CodeL.loopN tabOk 6 (by decide) (fun z : Nat × PD × Nat => ([(2, .func g []), (6, .ptr 3 0), (7, .ptr 5 0), (21, .slz bs 1 0 L.length cs), (22, .int .i64 (L.length : Int)), (23, .int .i64 (z.1 : Int))], [(0, .dict (.map (ents u64V tagV D0) none) c0), (1, .view (spsV L)), (3, .cells [.nilMap]), (5, .cells [.map 4]), (4, .dict (.map (ents u64V tagV z.2.1) none) z.2.2)]))
    (fun z => L.length - z.1) (fun z => z.1 ≤ L.length ∧ WI op covC L f n0 z.1 z.2.1 z.2.2) rfl (fun z => rfl) (0, D0, c0) ⟨Nat.zero_le _, hW⟩ (fun i => (i, 0)) (fun _ _ => rfl) ⟨⟨⟨_, rfl, fun _ => rfl⟩, ⟨_, rfl, fun _ => rfl⟩, ⟨_, rfl, fun _ => rfl⟩, ⟨_, rfl, fun _ => rfl⟩, ⟨_, rfl, fun _ => rfl⟩, ⟨_, rfl, fun _ => rfl⟩, trivial⟩, Part.keys ⟨⟨by decide, rfl, _, rfl, fun _ _ _ h => h⟩, ⟨by decide, rfl, rfl, _, rfl, fun _ => rfl, Nat.le_refl _, fun _ => Nat.le_refl _, id⟩, ⟨by decide, rfl, rfl, _, rfl, fun _ => rfl, Nat.le_refl _, fun _ => Nat.le_refl _, id⟩, ⟨by decide, rfl, rfl, _, rfl, fun _ => rfl, Nat.le_refl _, fun _ => Nat.le_refl _, id⟩, ⟨by decide, rfl, _, rfl, fun _ _ _ h => h⟩, trivial⟩ rfl⟩ ?_
  rintro ⟨k, D, c⟩ ⟨hk, hW⟩
  dsimp only at hk hW ⊢
  conv => whnf
  refine ⟨fun h => ?_, fun h => ?_⟩
  · have h : k < L.length := by have := of_decide_eq_true h; omega
    have hk1 : ((k + 1 : Nat) : Int) = IntKind.wrap .i64 ((k : Int) + 1) := by rw [wrap_i64 _ (by omega) (by omega)]; omega
    obtain ⟨s, hs⟩ : ∃ s, L[k]? = some s := ⟨_, List.getElem?_eq_getElem h⟩
    obtain ⟨s1, s2⟩ := hL s (List.mem_of_getElem? hs)
    conv => whnf
    refine .there k rfl h ?_
    conv => whnf
    refine .atN (spC s.1 s.2) (k * 2) (by show 0 + k * 2 = _; omega) (by show _ + 2 ≤ (spsV L).length; rw [spsV_len]; omega) (spsV_get hs) rfl ?_
    conv => whnf
    refine Spec.pure (may_ok s.1 s.2 s1 s2) rfl rfl (fun _ => rfl) ?_
    conv => whnf
    refine ⟨fun hm => ?_, fun hm => ?_⟩
    · have hm : mayB s.1 s.2 = false := by simpa using hm
      conv => whnf
      exact ⟨(k + 1, D, c), fun i => (i, 0), ⟨by show k + 1 ≤ L.length; omega, hW.skip hop0 hs hm⟩, by show L.length - (k + 1) < L.length - k; omega, fun _ _ => rfl, ⟨⟨_, rfl, fun _ => rfl⟩, ⟨_, rfl, fun _ => rfl⟩, ⟨_, rfl, fun _ => rfl⟩, ⟨_, rfl, fun _ => rfl⟩, ⟨_, rfl, fun _ => rfl⟩, ⟨_, rfl, fun _ => congrArg (fun x => Value.int .i64 x) hk1⟩, trivial⟩, Part.keys ⟨⟨by decide, rfl, _, rfl, fun _ _ _ h => h⟩, ⟨by decide, rfl, rfl, _, rfl, fun _ => rfl, Nat.le_refl _, fun _ => Nat.le_refl _, id⟩, ⟨by decide, rfl, rfl, _, rfl, fun _ => rfl, Nat.le_refl _, fun _ => Nat.le_refl _, id⟩, ⟨by decide, rfl, rfl, _, rfl, fun _ => rfl, Nat.le_refl _, fun _ => Nat.le_refl _, id⟩, ⟨by decide, rfl, _, rfl, fun _ _ _ h => h⟩, trivial⟩ rfl⟩
    · have hm : mayB s.1 s.2 = true := by simpa using hm
      obtain ⟨m1, m2, m3⟩ := mayB_out hm
      have ew : IntKind.wrap .u64 ((s.2 : Int) - 1) = ((s.2 - 1 : Nat) : Int) := by rw [show (s.2 : Int) - 1 = ((s.2 - 1 : Nat) : Int) by omega]; exact wrapn _ (by omega)
      conv => whnf
      refine Spec.pure (pnum_ok s.1 s1) rfl rfl (fun _ => rfl) ?_
      conv => whnf
      refine CodeL.loopN tabOk 7 (by decide) (fun z : Nat × PD × Nat => ([(2, .func g []), (6, .ptr 3 0), (7, .ptr 5 0), (9, .ptr 6 0), (10, .int .u64 (z.1 : Int)), (21, .slz bs 1 0 L.length cs), (22, .int .i64 (L.length : Int)), (23, .int .i64 (k : Int))], [(0, .dict (.map (ents u64V tagV D0) none) c0), (1, .view (spsV L)), (3, .cells [.nilMap]), (5, .cells [.map 4]), (4, .dict (.map (ents u64V tagV z.2.1) none) z.2.2), (6, .cells (spC s.1 s.2))]))
        (fun z => (s.2 - 1) / 4096 + 1 - z.1) (fun z => WU op covC L f n0 k s z.1 z.2.1 z.2.2) rfl (fun z => rfl) (s.1 / 4096, D, c) (hW.into hop0 hm) (fun i => (i, 0)) (fun _ _ => rfl) ⟨⟨⟨_, rfl, fun _ => rfl⟩, ⟨_, rfl, fun _ => rfl⟩, ⟨_, rfl, fun _ => rfl⟩, ⟨_, rfl, fun _ => rfl⟩, ⟨_, rfl, fun _ => rfl⟩, ⟨_, rfl, fun _ => rfl⟩, ⟨_, rfl, fun _ => rfl⟩, ⟨_, rfl, fun _ => rfl⟩, trivial⟩, Part.keys ⟨⟨by decide, rfl, _, rfl, fun _ _ _ h => h⟩, ⟨by decide, rfl, rfl, _, rfl, fun _ => rfl, Nat.le_refl _, fun _ => Nat.le_refl _, id⟩, ⟨by decide, rfl, rfl, _, rfl, fun _ => rfl, Nat.le_refl _, fun _ => Nat.le_refl _, id⟩, ⟨by decide, rfl, rfl, _, rfl, fun _ => rfl, Nat.le_refl _, fun _ => Nat.le_refl _, id⟩, ⟨by decide, rfl, _, rfl, fun _ _ _ h => h⟩, ⟨by decide, rfl, rfl, _, rfl, fun _ => rfl, Nat.le_refl _, fun _ => Nat.le_refl _, id⟩, trivial⟩ rfl⟩ ?_
      clear hW
      rintro ⟨n, D, c⟩ hW
      have hW : WU op covC L f n0 k s n D c := hW
      dsimp only
      conv => whnf
      rw [ew]
      refine Spec.pure (pnum_ok (s.2 - 1) (by omega)) rfl rfl (fun _ => rfl) ?_
      conv => whnf
      refine ⟨fun hn => ?_, fun hn => ?_⟩
      · have hn : n ≤ (s.2 - 1) / 4096 := by have := of_decide_eq_true hn; omega
        have hb : inB s.1 s.2 n = true := inB_of hm hW.lo hn
        have hC := covC_lt ((max s.1 (n * 4096) - n * 4096 : Nat) : Int) ((min s.2 (n * 4096 + 4096) - max s.1 (n * 4096) : Nat) : Int)
        have hC : covP covC s.1 s.2 n < 2 ^ 256 := hC
        obtain ⟨st1, st2⟩ := hW.step hop0 hb hop hC
        have hlt := hW.ok.get n
        have hv := hop _ _ hlt hC
        have hg := hm0 _ _ hlt hC
        have hcv := pcover_ok s.1 s.2 n s1 s2 hb
        have hn1 : ((n + 1 : Nat) : Int) = IntKind.wrap .u64 ((n : Int) + 1) := by rw [show (n : Int) + 1 = ((n + 1 : Nat) : Int) by omega]; exact (wrapn _ (by omega)).symm
        generalize op (getS D n) (covP covC s.1 s.2 n) = v at st1 st2 hv hg
        conv => whnf
        refine CodeL.any tabOk Try.checked.mixed [(5, .cells [.map 4]), (6, .cells (spC s.1 s.2))] (.take 0 (.take 1 (.take 2 (.take 3 (.take 5 (.take 6 (.alt 4 (.alt 7 (.alt 8 (.alt 9 (.alt 10 (.fin) .stop) .stop) (.alt 9 (.alt 8 (.alt 10 (.fin) .stop) .stop) .stop)) (.alt 9 (.alt 7 (.alt 8 (.alt 10 (.fin) .stop) .stop) .stop) .stop)) (.alt 7 (.alt 4 (.alt 8 (.alt 9 (.alt 10 (.fin) .stop) .stop) (.alt 9 (.alt 8 (.alt 10 (.fin) .stop) .stop) .stop)) (.alt 9 (.alt 4 (.alt 8 (.alt 10 (.fin) .stop) .stop) .stop) .stop)) (.alt 9 (.alt 4 (.alt 7 (.alt 8 (.alt 10 (.fin) .stop) .stop) .stop) (.alt 7 (.alt 4 (.alt 8 (.alt 10 (.fin) .stop) .stop) .stop) .stop)) .stop))))))))) (by kernel_rfl) rfl ⟨rfl, rfl, trivial⟩ rfl ?_
        repeat' ((try (conv => whnf)); first
          | refine Needs.mk ⟨rfl, rfl, trivial⟩ ?_
          | refine And.intro ?_ ?_
          | refine Spec.pure hcv rfl rfl (fun _ => rfl) ?_
          | refine Spec.pure hg rfl rfl (fun _ => rfl) ?_
          | (refine VL.op (VL.lkp tabOk ?_); conv => whnf
             refine LkpL_set (p := n) (fun _ => rfl) ?_)
          | (refine OpL.upd tabOk ?_; conv => whnf
             refine UpdL.set pageU (n : Int) (fun _ => rfl) v (fun _ => rfl) ?_)
          | refine Spec.pure (any_ok v hv) rfl rfl (fun _ => rfl) ?_)
        all_goals
          refine ⟨fun e => ?_, fun e => ?_⟩
          · have e : v = 0 := by simpa using e
            conv => whnf
            refine OpL.dlt tabOk ?_
            conv => whnf
            refine DelL.del pageU (n : Int) (fun _ => rfl) ?_
            conv => whnf
            exact ⟨(n + 1, _, _), fun i => (i, 0), st2 e, by show (s.2 - 1) / 4096 + 1 - (n + 1) < (s.2 - 1) / 4096 + 1 - n; omega, fun _ _ => rfl, ⟨⟨_, rfl, fun _ => rfl⟩, ⟨_, rfl, fun _ => rfl⟩, ⟨_, rfl, fun _ => rfl⟩, ⟨_, rfl, fun _ => rfl⟩, ⟨_, rfl, fun _ => congrArg (fun x => Value.int .u64 x) hn1⟩, ⟨_, rfl, fun _ => rfl⟩, ⟨_, rfl, fun _ => rfl⟩, ⟨_, rfl, fun _ => rfl⟩, trivial⟩, Part.keys ⟨⟨by decide, rfl, _, rfl, fun _ _ _ h => h⟩, ⟨by decide, rfl, rfl, _, rfl, fun _ => rfl, Nat.le_refl _, fun _ => Nat.le_refl _, id⟩, ⟨by decide, rfl, rfl, _, rfl, fun _ => rfl, Nat.le_refl _, fun _ => Nat.le_refl _, id⟩, ⟨by decide, rfl, rfl, _, rfl, fun _ => rfl, Nat.le_refl _, fun _ => Nat.le_refl _, id⟩, ⟨by decide, rfl, _, rfl, fun _ _ _ h => h⟩, ⟨by decide, rfl, rfl, _, rfl, fun _ => rfl, Nat.le_refl _, fun _ => Nat.le_refl _, id⟩, trivial⟩ rfl⟩
          · have e : v ≠ 0 := by simpa using e
            conv => whnf
            exact ⟨(n + 1, _, _), fun i => (i, 0), st1 e, by show (s.2 - 1) / 4096 + 1 - (n + 1) < (s.2 - 1) / 4096 + 1 - n; omega, fun _ _ => rfl, ⟨⟨_, rfl, fun _ => rfl⟩, ⟨_, rfl, fun _ => rfl⟩, ⟨_, rfl, fun _ => rfl⟩, ⟨_, rfl, fun _ => rfl⟩, ⟨_, rfl, fun _ => congrArg (fun x => Value.int .u64 x) hn1⟩, ⟨_, rfl, fun _ => rfl⟩, ⟨_, rfl, fun _ => rfl⟩, ⟨_, rfl, fun _ => rfl⟩, trivial⟩, Part.keys ⟨⟨by decide, rfl, _, rfl, fun _ _ _ h => h⟩, ⟨by decide, rfl, rfl, _, rfl, fun _ => rfl, Nat.le_refl _, fun _ => Nat.le_refl _, id⟩, ⟨by decide, rfl, rfl, _, rfl, fun _ => rfl, Nat.le_refl _, fun _ => Nat.le_refl _, id⟩, ⟨by decide, rfl, rfl, _, rfl, fun _ => rfl, Nat.le_refl _, fun _ => Nat.le_refl _, id⟩, ⟨by decide, rfl, _, rfl, fun _ _ _ h => h⟩, ⟨by decide, rfl, rfl, _, rfl, fun _ => rfl, Nat.le_refl _, fun _ => Nat.le_refl _, id⟩, trivial⟩ rfl⟩
      · have hn : (s.2 - 1) / 4096 < n := by have := of_decide_eq_false hn; omega
        conv => whnf
        exact ⟨(k + 1, D, c), fun i => (i, 0), ⟨by show k + 1 ≤ L.length; omega, hW.out hs hm hn⟩, by show L.length - (k + 1) < L.length - k; omega, fun _ _ => rfl, ⟨⟨_, rfl, fun _ => rfl⟩, ⟨_, rfl, fun _ => rfl⟩, ⟨_, rfl, fun _ => rfl⟩, ⟨_, rfl, fun _ => rfl⟩, ⟨_, rfl, fun _ => rfl⟩, ⟨_, rfl, fun _ => congrArg (fun x => Value.int .i64 x) hk1⟩, trivial⟩, Part.keys ⟨⟨by decide, rfl, _, rfl, fun _ _ _ h => h⟩, ⟨by decide, rfl, rfl, _, rfl, fun _ => rfl, Nat.le_refl _, fun _ => Nat.le_refl _, id⟩, ⟨by decide, rfl, rfl, _, rfl, fun _ => rfl, Nat.le_refl _, fun _ => Nat.le_refl _, id⟩, ⟨by decide, rfl, rfl, _, rfl, fun _ => rfl, Nat.le_refl _, fun _ => Nat.le_refl _, id⟩, ⟨by decide, rfl, _, rfl, fun _ _ _ h => h⟩, trivial⟩ rfl⟩
  · have h : k = L.length := by have := of_decide_eq_false h; omega
    subst h
    conv => whnf
    exact ⟨(D, c), toL [(2, 4)], ⟨hW.ok, fun p => by have := hW.sem p; rwa [List.take_length] at this, hW.len⟩, toL_low rfl, Part.keys ⟨⟨by decide, rfl, _, rfl, fun _ _ _ h => h⟩, ⟨by decide, rfl, _, rfl, fun _ _ _ h => h⟩, trivial⟩ rfl, fun ρ => rfl⟩
set_option maxHeartbeats 1000000 in
theorem nwith_ok (L : List (Nat × Nat)) (bs : Bool) (cs : Nat) (hL : ∀ s ∈ L, s.1 < 2 ^ 64 ∧ s.2 < 2 ^ 64) (hl : L.length ≤ 1000) : Fun Try.prog 12 [.agg [.nilMap], .slz bs 0 0 L.length cs, .func g []] [(0, .view (spsV L))] 1 1 (WR op L (fun _ => 0) 0) (fun _ => .agg [.map 1]) (fun x => [(1, .dict (.map (ents u64V tagV x.1) none) x.2)]) := by
  unfold Fun
  obtain ⟨f, hf⟩ : ∃ f : Nat → Nat, (fun _ => 0) = f := ⟨_, rfl⟩
  have hW : WI op covC L (fun _ => 0) 0 0 [] 0 := ⟨PtI.nil 0, fun p => rfl, Nat.le_refl _⟩
  rw [hf] at hW ⊢
  refine Spec.of_body tabOk Try.func12 rfl (ent Try.func12 rfl (by kernel_rfl)) Try.ntmps12 rfl (by kernel_rfl) (Nat.le_of_ble_eq_true rfl) ?_
  conv => whnf
  refine Spec.pure nclone_ok rfl rfl (fun _ => rfl) ?_
  conv => whnf
  refine VL.op (VL.mnl tabOk ?_)
  conv => whnf
  refine OpL.mkm ?_
  conv => whnf
  refine CodeL.loopN tabOk 5 (by decide) (fun z : Nat × PD × Nat => ([(2, .func g []), (6, .ptr 2 0), (7, .ptr 3 0), (21, .slz bs 0 0 L.length cs), (22, .int .i64 (L.length : Int)), (23, .int .i64 (z.1 : Int))], [(0, .view (spsV L)), (2, .cells [.nilMap]), (3, .cells [.map 4]), (4, .dict (.map (ents u64V tagV z.2.1) none) z.2.2)]))
    (fun z => L.length - z.1) (fun z => z.1 ≤ L.length ∧ WI op covC L f 0 z.1 z.2.1 z.2.2) rfl (fun z => rfl) (0, [], 0) ⟨Nat.zero_le _, hW⟩ (fun i => (i, 0)) (fun _ _ => rfl) ⟨⟨⟨_, rfl, fun _ => rfl⟩, ⟨_, rfl, fun _ => rfl⟩, ⟨_, rfl, fun _ => rfl⟩, ⟨_, rfl, fun _ => rfl⟩, ⟨_, rfl, fun _ => rfl⟩, ⟨_, rfl, fun _ => rfl⟩, trivial⟩, Part.keys ⟨⟨by decide, rfl, rfl, _, rfl, fun _ => rfl, Nat.le_refl _, fun _ => Nat.le_refl _, id⟩, ⟨by decide, rfl, rfl, _, rfl, fun _ => rfl, Nat.le_refl _, fun _ => Nat.le_refl _, id⟩, ⟨by decide, rfl, rfl, _, rfl, fun _ => rfl, Nat.le_refl _, fun _ => Nat.le_refl _, id⟩, ⟨by decide, rfl, _, rfl, fun _ _ _ h => h⟩, trivial⟩ rfl⟩ ?_
  rintro ⟨k, D, c⟩ ⟨hk, hW⟩
  dsimp only at hk hW ⊢
  conv => whnf
  refine ⟨fun h => ?_, fun h => ?_⟩
  · have h : k < L.length := by have := of_decide_eq_true h; omega
    have hk1 : ((k + 1 : Nat) : Int) = IntKind.wrap .i64 ((k : Int) + 1) := by rw [wrap_i64 _ (by omega) (by omega)]; omega
    obtain ⟨s, hs⟩ : ∃ s, L[k]? = some s := ⟨_, List.getElem?_eq_getElem h⟩
    obtain ⟨s1, s2⟩ := hL s (List.mem_of_getElem? hs)
    conv => whnf
    refine .there k rfl h ?_
    conv => whnf
    refine .atN (spC s.1 s.2) (k * 2) (by show 0 + k * 2 = _; omega) (by show _ + 2 ≤ (spsV L).length; rw [spsV_len]; omega) (spsV_get hs) rfl ?_
    conv => whnf
    refine Spec.pure (may_ok s.1 s.2 s1 s2) rfl rfl (fun _ => rfl) ?_
    conv => whnf
    refine ⟨fun hm => ?_, fun hm => ?_⟩
    · have hm : mayB s.1 s.2 = false := by simpa using hm
      conv => whnf
      exact ⟨(k + 1, D, c), fun i => (i, 0), ⟨by show k + 1 ≤ L.length; omega, hW.skip hop0 hs hm⟩, by show L.length - (k + 1) < L.length - k; omega, fun _ _ => rfl, ⟨⟨_, rfl, fun _ => rfl⟩, ⟨_, rfl, fun _ => rfl⟩, ⟨_, rfl, fun _ => rfl⟩, ⟨_, rfl, fun _ => rfl⟩, ⟨_, rfl, fun _ => rfl⟩, ⟨_, rfl, fun _ => congrArg (fun x => Value.int .i64 x) hk1⟩, trivial⟩, Part.keys ⟨⟨by decide, rfl, rfl, _, rfl, fun _ => rfl, Nat.le_refl _, fun _ => Nat.le_refl _, id⟩, ⟨by decide, rfl, rfl, _, rfl, fun _ => rfl, Nat.le_refl _, fun _ => Nat.le_refl _, id⟩, ⟨by decide, rfl, rfl, _, rfl, fun _ => rfl, Nat.le_refl _, fun _ => Nat.le_refl _, id⟩, ⟨by decide, rfl, _, rfl, fun _ _ _ h => h⟩, trivial⟩ rfl⟩
    · have hm : mayB s.1 s.2 = true := by simpa using hm
      obtain ⟨m1, m2, m3⟩ := mayB_out hm
      have ew : IntKind.wrap .u64 ((s.2 : Int) - 1) = ((s.2 - 1 : Nat) : Int) := by rw [show (s.2 : Int) - 1 = ((s.2 - 1 : Nat) : Int) by omega]; exact wrapn _ (by omega)
      conv => whnf
      refine Spec.pure (pnum_ok s.1 s1) rfl rfl (fun _ => rfl) ?_
      conv => whnf
      refine CodeL.loopN tabOk 6 (by decide) (fun z : Nat × PD × Nat => ([(2, .func g []), (6, .ptr 2 0), (7, .ptr 3 0), (9, .ptr 5 0), (10, .int .u64 (z.1 : Int)), (21, .slz bs 0 0 L.length cs), (22, .int .i64 (L.length : Int)), (23, .int .i64 (k : Int))], [(0, .view (spsV L)), (2, .cells [.nilMap]), (3, .cells [.map 4]), (4, .dict (.map (ents u64V tagV z.2.1) none) z.2.2), (5, .cells (spC s.1 s.2))]))
        (fun z => (s.2 - 1) / 4096 + 1 - z.1) (fun z => WU op covC L f 0 k s z.1 z.2.1 z.2.2) rfl (fun z => rfl) (s.1 / 4096, D, c) (hW.into hop0 hm) (fun i => (i, 0)) (fun _ _ => rfl) ⟨⟨⟨_, rfl, fun _ => rfl⟩, ⟨_, rfl, fun _ => rfl⟩, ⟨_, rfl, fun _ => rfl⟩, ⟨_, rfl, fun _ => rfl⟩, ⟨_, rfl, fun _ => rfl⟩, ⟨_, rfl, fun _ => rfl⟩, ⟨_, rfl, fun _ => rfl⟩, ⟨_, rfl, fun _ => rfl⟩, trivial⟩, Part.keys ⟨⟨by decide, rfl, rfl, _, rfl, fun _ => rfl, Nat.le_refl _, fun _ => Nat.le_refl _, id⟩, ⟨by decide, rfl, rfl, _, rfl, fun _ => rfl, Nat.le_refl _, fun _ => Nat.le_refl _, id⟩, ⟨by decide, rfl, rfl, _, rfl, fun _ => rfl, Nat.le_refl _, fun _ => Nat.le_refl _, id⟩, ⟨by decide, rfl, _, rfl, fun _ _ _ h => h⟩, ⟨by decide, rfl, rfl, _, rfl, fun _ => rfl, Nat.le_refl _, fun _ => Nat.le_refl _, id⟩, trivial⟩ rfl⟩ ?_
      clear hW
      rintro ⟨n, D, c⟩ hW
      have hW : WU op covC L f 0 k s n D c := hW
      dsimp only
      conv => whnf
      rw [ew]
      refine Spec.pure (pnum_ok (s.2 - 1) (by omega)) rfl rfl (fun _ => rfl) ?_
      conv => whnf
      refine ⟨fun hn => ?_, fun hn => ?_⟩
      · have hn : n ≤ (s.2 - 1) / 4096 := by have := of_decide_eq_true hn; omega
        have hb : inB s.1 s.2 n = true := inB_of hm hW.lo hn
        have hC := covC_lt ((max s.1 (n * 4096) - n * 4096 : Nat) : Int) ((min s.2 (n * 4096 + 4096) - max s.1 (n * 4096) : Nat) : Int)
        have hC : covP covC s.1 s.2 n < 2 ^ 256 := hC
        obtain ⟨st1, st2⟩ := hW.step hop0 hb hop hC
        have hlt := hW.ok.get n
        have hv := hop _ _ hlt hC
        have hg := hm0 _ _ hlt hC
        have hcv := pcover_ok s.1 s.2 n s1 s2 hb
        have hn1 : ((n + 1 : Nat) : Int) = IntKind.wrap .u64 ((n : Int) + 1) := by rw [show (n : Int) + 1 = ((n + 1 : Nat) : Int) by omega]; exact (wrapn _ (by omega)).symm
        generalize op (getS D n) (covP covC s.1 s.2 n) = v at st1 st2 hv hg
        conv => whnf
        refine CodeL.any tabOk Try.checked.mixed [(3, .cells [.map 4]), (5, .cells (spC s.1 s.2))] (.take 0 (.take 1 (.take 2 (.take 3 (.take 5 (.take 6 (.alt 4 (.alt 7 (.alt 8 (.alt 9 (.alt 10 (.fin) .stop) .stop) (.alt 9 (.alt 8 (.alt 10 (.fin) .stop) .stop) .stop)) (.alt 9 (.alt 7 (.alt 8 (.alt 10 (.fin) .stop) .stop) .stop) .stop)) (.alt 7 (.alt 4 (.alt 8 (.alt 9 (.alt 10 (.fin) .stop) .stop) (.alt 9 (.alt 8 (.alt 10 (.fin) .stop) .stop) .stop)) (.alt 9 (.alt 4 (.alt 8 (.alt 10 (.fin) .stop) .stop) .stop) .stop)) (.alt 9 (.alt 4 (.alt 7 (.alt 8 (.alt 10 (.fin) .stop) .stop) .stop) (.alt 7 (.alt 4 (.alt 8 (.alt 10 (.fin) .stop) .stop) .stop) .stop)) .stop))))))))) (by kernel_rfl) rfl ⟨rfl, rfl, trivial⟩ rfl ?_
        repeat' ((try (conv => whnf)); first
          | refine Needs.mk ⟨rfl, rfl, trivial⟩ ?_
          | refine And.intro ?_ ?_
          | refine Spec.pure hcv rfl rfl (fun _ => rfl) ?_
          | refine Spec.pure hg rfl rfl (fun _ => rfl) ?_
          | (refine VL.op (VL.lkp tabOk ?_); conv => whnf
             refine LkpL_set (p := n) (fun _ => rfl) ?_)
          | (refine OpL.upd tabOk ?_; conv => whnf
             refine UpdL.set pageU (n : Int) (fun _ => rfl) v (fun _ => rfl) ?_)
          | refine Spec.pure (any_ok v hv) rfl rfl (fun _ => rfl) ?_)
        all_goals
          refine ⟨fun e => ?_, fun e => ?_⟩
          · have e : v = 0 := by simpa using e
            conv => whnf
            refine OpL.dlt tabOk ?_
            conv => whnf
            refine DelL.del pageU (n : Int) (fun _ => rfl) ?_
            conv => whnf
            exact ⟨(n + 1, _, _), fun i => (i, 0), st2 e, by show (s.2 - 1) / 4096 + 1 - (n + 1) < (s.2 - 1) / 4096 + 1 - n; omega, fun _ _ => rfl, ⟨⟨_, rfl, fun _ => rfl⟩, ⟨_, rfl, fun _ => rfl⟩, ⟨_, rfl, fun _ => rfl⟩, ⟨_, rfl, fun _ => rfl⟩, ⟨_, rfl, fun _ => congrArg (fun x => Value.int .u64 x) hn1⟩, ⟨_, rfl, fun _ => rfl⟩, ⟨_, rfl, fun _ => rfl⟩, ⟨_, rfl, fun _ => rfl⟩, trivial⟩, Part.keys ⟨⟨by decide, rfl, rfl, _, rfl, fun _ => rfl, Nat.le_refl _, fun _ => Nat.le_refl _, id⟩, ⟨by decide, rfl, rfl, _, rfl, fun _ => rfl, Nat.le_refl _, fun _ => Nat.le_refl _, id⟩, ⟨by decide, rfl, rfl, _, rfl, fun _ => rfl, Nat.le_refl _, fun _ => Nat.le_refl _, id⟩, ⟨by decide, rfl, _, rfl, fun _ _ _ h => h⟩, ⟨by decide, rfl, rfl, _, rfl, fun _ => rfl, Nat.le_refl _, fun _ => Nat.le_refl _, id⟩, trivial⟩ rfl⟩
          · have e : v ≠ 0 := by simpa using e
            conv => whnf
            exact ⟨(n + 1, _, _), fun i => (i, 0), st1 e, by show (s.2 - 1) / 4096 + 1 - (n + 1) < (s.2 - 1) / 4096 + 1 - n; omega, fun _ _ => rfl, ⟨⟨_, rfl, fun _ => rfl⟩, ⟨_, rfl, fun _ => rfl⟩, ⟨_, rfl, fun _ => rfl⟩, ⟨_, rfl, fun _ => rfl⟩, ⟨_, rfl, fun _ => congrArg (fun x => Value.int .u64 x) hn1⟩, ⟨_, rfl, fun _ => rfl⟩, ⟨_, rfl, fun _ => rfl⟩, ⟨_, rfl, fun _ => rfl⟩, trivial⟩, Part.keys ⟨⟨by decide, rfl, rfl, _, rfl, fun _ => rfl, Nat.le_refl _, fun _ => Nat.le_refl _, id⟩, ⟨by decide, rfl, rfl, _, rfl, fun _ => rfl, Nat.le_refl _, fun _ => Nat.le_refl _, id⟩, ⟨by decide, rfl, rfl, _, rfl, fun _ => rfl, Nat.le_refl _, fun _ => Nat.le_refl _, id⟩, ⟨by decide, rfl, _, rfl, fun _ _ _ h => h⟩, ⟨by decide, rfl, rfl, _, rfl, fun _ => rfl, Nat.le_refl _, fun _ => Nat.le_refl _, id⟩, trivial⟩ rfl⟩
      · have hn : (s.2 - 1) / 4096 < n := by have := of_decide_eq_false hn; omega
        conv => whnf
        exact ⟨(k + 1, D, c), fun i => (i, 0), ⟨by show k + 1 ≤ L.length; omega, hW.out hs hm hn⟩, by show L.length - (k + 1) < L.length - k; omega, fun _ _ => rfl, ⟨⟨_, rfl, fun _ => rfl⟩, ⟨_, rfl, fun _ => rfl⟩, ⟨_, rfl, fun _ => rfl⟩, ⟨_, rfl, fun _ => rfl⟩, ⟨_, rfl, fun _ => rfl⟩, ⟨_, rfl, fun _ => congrArg (fun x => Value.int .i64 x) hk1⟩, trivial⟩, Part.keys ⟨⟨by decide, rfl, rfl, _, rfl, fun _ => rfl, Nat.le_refl _, fun _ => Nat.le_refl _, id⟩, ⟨by decide, rfl, rfl, _, rfl, fun _ => rfl, Nat.le_refl _, fun _ => Nat.le_refl _, id⟩, ⟨by decide, rfl, rfl, _, rfl, fun _ => rfl, Nat.le_refl _, fun _ => Nat.le_refl _, id⟩, ⟨by decide, rfl, _, rfl, fun _ _ _ h => h⟩, trivial⟩ rfl⟩
  · have h : k = L.length := by have := of_decide_eq_false h; omega
    subst h
    conv => whnf
    exact ⟨(D, c), toL [(1, 4)], ⟨hW.ok, fun p => by have := hW.sem p; rwa [List.take_length] at this, hW.len⟩, toL_low rfl, Part.keys ⟨⟨by decide, rfl, _, rfl, fun _ _ _ h => h⟩, trivial⟩ rfl, fun ρ => rfl⟩
end
end Go.Sh.Ytkopfaenfaelfaa
