import Derived.Test.YtkopfaenfaelfaaPbC
set_option linter.unusedVariables false
namespace Go.Sh.Ytkopfaenfaelfaa
open Go.Proofs Go.Sh

def remP (D : PD) (seen : List Nat) : PD := remB (fun x : Int × Nat × Nat => x.2.2) D seen
def sumP (D : PD) : Nat := (D.map fun x => cnt x.2.1 256).sum
theorem ncount_ok : Pure Try.prog 8 [.agg [.nilMap]] (.int .i64 0) := by
  refine Spec.of_body tabOk Try.func8 rfl (ent Try.func8 rfl (by kernel_rfl)) Try.ntmps8 rfl (by kernel_rfl) (Nat.le_of_ble_eq_true rfl) ?_
  conv => whnf
  refine OpL.rng tabOk ?_
  conv => whnf
  refine CodeL.loop tabOk (fun _ : Unit => ([(3, .int .i64 0), (8, .ptr 1 0)], [(1, .dict .over 0)])) (fun _ => 0) (fun _ => True) rfl (fun _ => ⟨rfl, rfl⟩) () trivial ⟨⟨rfl, rfl, trivial⟩, ⟨rfl, trivial⟩⟩ ?_
  rintro ⟨⟩ _
  conv => whnf
  refine OpL.nxt ?_
  conv => whnf
  intro ρ
  rfl
theorem bcount_ok (D : PD) (c : Nat) (hD : PtI D c) (hl : D.length ≤ 1000000) : Fun Try.prog 8 [.agg [.map 0]] [(0, .dict (.map (ents u64V tagV D) none) c)] 1 0 (fun _ : Unit => True) (fun _ => .int .i64 (cntD D : Nat)) (fun _ => [(0, .dict (.map (ents u64V tagV D) none) c)]) := by
  unfold Fun
  have hle := cntD_le D
  refine Spec.of_body tabOk Try.func8 rfl (ent Try.func8 rfl (by kernel_rfl)) Try.ntmps8 rfl (by kernel_rfl) (Nat.le_of_ble_eq_true rfl) ?_
  conv => whnf
  refine OpL.rng tabOk ?_
  conv => whnf
  intro B
  conv => whnf
  refine CodeL.loopN tabOk 3 (by decide) (fun z : List Nat × Nat => ([(3, .int .i64 (z.2 : Int)), (8, .ptr 2 0)], [(0, .dict (.map (ents u64V tagV D) (some B)) c), (2, .dict (.iter B c z.1) c)]))
    (fun z => (remP D z.1).length) (fun z => z.2 + sumP (remP D z.1) = cntD D) rfl (fun z => rfl) ([], 0) (by show 0 + sumP (remB _ D []) = _; rw [remB_nil, Nat.zero_add]; rfl) (fun i => (i, 0)) (fun _ _ => rfl) ⟨⟨⟨_, rfl, fun _ => rfl⟩, ⟨_, rfl, fun _ => rfl⟩, trivial⟩, Part.keys ⟨⟨by decide, rfl, _, rfl, fun _ _ _ h => h⟩, ⟨by decide, rfl, _, rfl, fun _ _ _ h => h⟩, trivial⟩ rfl⟩ ?_
  rintro ⟨seen, acc⟩ hz
  have hz : acc + sumP (remP D seen) = cntD D := hz
  dsimp only
  conv => whnf
  refine OpL.nxt ?_
  conv => whnf
  refine ⟨0, ents u64V tagV D, c, rfl, fun x hx => ?_, Nat.le_refl _, fun hall => ?_, fun e he hne => ?_⟩
  · obtain ⟨y, hy, rfl⟩ := List.mem_map.1 hx
    exact hD.st.lt y hy
  · have h0 : remP D seen = [] := by
      unfold remP remB
      rw [List.filter_eq_nil_iff]
      intro x hx
      have := hall _ (List.mem_map.2 ⟨x, hx, rfl⟩)
      simpa using this
    rw [h0] at hz
    have hz : acc = cntD D := hz
    subst hz
    conv => whnf
    exact ⟨(), fun i => (i, 0), trivial, fun _ _ => rfl, Part.keys ⟨⟨by decide, rfl, _, rfl, DK.cov_map _ _⟩, trivial⟩ rfl, fun ρ => rfl⟩
  · obtain ⟨y, hy, rfl⟩ := List.mem_map.1 he
    have hne : y.2.2 ∉ seen := hne
    obtain ⟨h1, h2⟩ := remB_snoc (fun x : Int × Nat × Nat => x.2.2) seen (e := y) hne (fun x => cnt x.2.1 256) hD.st.nd hy
    have hz2 : acc + cnt y.2.1 256 + sumP (remP D (seen ++ [y.2.2])) = cntD D := by
      have : sumP (remP D seen) = cnt y.2.1 256 + sumP (remP D (seen ++ [y.2.2])) := h1
      omega
    have hw : IntKind.wrap .i64 ((acc : Int) + ((cnt y.2.1 256 : Nat) : Int)) = ((acc + cnt y.2.1 256 : Nat) : Int) := by rw [wrap_i64 _ (by omega) (by omega)]; omega
    conv => whnf
    refine OpL.ent ?_
    conv => whnf
    refine ⟨0, ents u64V tagV D, seen, ⟨u64V y.1, tagV y.2.1, y.2.2⟩, .int .u64 y.1, setV y.2.1, rfl, rfl, he, ?_, rfl, rfl, rfl, rfl, ?_⟩
    · have : (ents u64V tagV D).map (·.born) = D.map (·.2.2) := by simp [ents]
      rw [this]; exact hD.st.nd
    conv => whnf
    refine Spec.pure (count_ok y.2.1) rfl rfl (fun _ => rfl) ?_
    conv => whnf
    exact ⟨(seen ++ [y.2.2], acc + cnt y.2.1 256), fun i => (i, 0), hz2, by show (remP D (seen ++ [y.2.2])).length < (remP D seen).length; unfold remP; omega, fun _ _ => rfl, ⟨⟨_, rfl, fun _ => congrArg (fun x => Value.int .i64 x) hw.symm⟩, ⟨_, rfl, fun _ => rfl⟩, trivial⟩, Part.keys ⟨⟨by decide, rfl, _, rfl, fun _ _ _ h => h⟩, ⟨by decide, rfl, _, rfl, fun _ _ _ h => h⟩, trivial⟩ rfl⟩
end Go.Sh.Ytkopfaenfaelfaa
