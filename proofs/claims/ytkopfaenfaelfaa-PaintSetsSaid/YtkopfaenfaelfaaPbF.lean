import Derived.Test.YtkopfaenfaelfaaPbE
set_option linter.unusedVariables false
namespace Go.Sh.Ytkopfaenfaelfaa
open Go.Proofs Go.Sh

def orS (A B : Nat) : Nat := A ||| B
theorem or_lt {A B : Nat} (ha : A < 2 ^ 256) (hb : B < 2 ^ 256) : orS A B < 2 ^ 256 := Nat.or_lt_two_pow ha hb
theorem diffS_zero (A : Nat) : diffS A 0 = A := by simp [diffS]
theorem paint_ok (L : List (Nat × Nat)) (bs : Bool) (cs : Nat) (D0 : PD) (c0 : Nat) (hD : PtI D0 c0) (hL : ∀ s ∈ L, s.1 < 2 ^ 64 ∧ s.2 < 2 ^ 64) (hl : L.length ≤ 1000) : Fun Try.prog 5 [.agg [.map 0], .slz bs 1 0 L.length cs] [(0, .dict (.map (ents u64V tagV D0) none) c0), (1, .view (spsV L))] 2 1 (WR orS L (getS D0) D0.length) (fun _ => .agg [.map 2]) (fun x => [(0, .dict (.map (ents u64V tagV D0) none) c0), (2, .dict (.map (ents u64V tagV x.1) none) x.2)]) := by
  unfold Fun
  have hw := bwith_ok 13 orS (fun A B _ hB => or_ok A B hB) (fun A B ha hb => or_lt ha hb) (fun A => Nat.or_zero A) L bs cs D0 c0 hD hL hl
  refine Spec.of_body tabOk Try.func5 rfl (ent Try.func5 rfl (by kernel_rfl)) Try.ntmps5 rfl (by kernel_rfl) (Nat.le_of_ble_eq_true rfl) ?_
  conv => whnf
  refine Spec.fn hw [0, 1] rfl rfl (fun _ => rfl) rfl ⟨⟨by decide, rfl, _, rfl, fun _ _ _ h => h⟩, ⟨by decide, rfl, rfl, _, rfl, fun _ => rfl, Nat.le_refl _, fun _ => Nat.le_refl _, fun h => (by cases h)⟩, trivial⟩ (fun _ _ => ⟨rfl, rfl, ⟨_, rfl, rfl, rfl⟩, rfl, trivial⟩) (fun x hx => ?_)
  conv => whnf
  exact ⟨x, toL [(2, 4)], hx, toL_low rfl, Part.keys ⟨⟨by decide, rfl, _, rfl, fun _ _ _ h => h⟩, ⟨by decide, rfl, _, rfl, fun _ _ _ h => h⟩, trivial⟩ rfl, fun ρ => rfl⟩
theorem npaint_ok (L : List (Nat × Nat)) (bs : Bool) (cs : Nat) (hL : ∀ s ∈ L, s.1 < 2 ^ 64 ∧ s.2 < 2 ^ 64) (hl : L.length ≤ 1000) : Fun Try.prog 5 [.agg [.nilMap], .slz bs 0 0 L.length cs] [(0, .view (spsV L))] 1 1 (WR orS L (fun _ => 0) 0) (fun _ => .agg [.map 1]) (fun x => [(1, .dict (.map (ents u64V tagV x.1) none) x.2)]) := by
  unfold Fun
  have hw := nwith_ok 13 orS (fun A B _ hB => or_ok A B hB) (fun A B ha hb => or_lt ha hb) (fun A => Nat.or_zero A) L bs cs hL hl
  refine Spec.of_body tabOk Try.func5 rfl (ent Try.func5 rfl (by kernel_rfl)) Try.ntmps5 rfl (by kernel_rfl) (Nat.le_of_ble_eq_true rfl) ?_
  conv => whnf
  refine Spec.fn hw [0] rfl rfl (fun _ => rfl) rfl ⟨⟨by decide, rfl, rfl, _, rfl, fun _ => rfl, Nat.le_refl _, fun _ => Nat.le_refl _, fun h => (by cases h)⟩, trivial⟩ (fun _ _ => ⟨rfl, rfl, rfl, trivial⟩) (fun x hx => ?_)
  conv => whnf
  exact ⟨x, toL [(1, 3)], hx, toL_low rfl, Part.keys ⟨⟨by decide, rfl, _, rfl, fun _ _ _ h => h⟩, trivial⟩ rfl, fun ρ => rfl⟩
theorem wipe_ok (L : List (Nat × Nat)) (bs : Bool) (cs : Nat) (D0 : PD) (c0 : Nat) (hD : PtI D0 c0) (hL : ∀ s ∈ L, s.1 < 2 ^ 64 ∧ s.2 < 2 ^ 64) (hl : L.length ≤ 1000) : Fun Try.prog 6 [.agg [.map 0], .slz bs 1 0 L.length cs] [(0, .dict (.map (ents u64V tagV D0) none) c0), (1, .view (spsV L))] 2 1 (WR diffS L (getS D0) D0.length) (fun _ => .agg [.map 2]) (fun x => [(0, .dict (.map (ents u64V tagV D0) none) c0), (2, .dict (.map (ents u64V tagV x.1) none) x.2)]) := by
  unfold Fun
  have hw := bwith_ok 14 diffS (fun A B _ hB => without_ok A B hB) (fun A B ha hb => diffS_lt A B ha) diffS_zero L bs cs D0 c0 hD hL hl
  refine Spec.of_body tabOk Try.func6 rfl (ent Try.func6 rfl (by kernel_rfl)) Try.ntmps6 rfl (by kernel_rfl) (Nat.le_of_ble_eq_true rfl) ?_
  conv => whnf
  refine Spec.fn hw [0, 1] rfl rfl (fun _ => rfl) rfl ⟨⟨by decide, rfl, _, rfl, fun _ _ _ h => h⟩, ⟨by decide, rfl, rfl, _, rfl, fun _ => rfl, Nat.le_refl _, fun _ => Nat.le_refl _, fun h => (by cases h)⟩, trivial⟩ (fun _ _ => ⟨rfl, rfl, ⟨_, rfl, rfl, rfl⟩, rfl, trivial⟩) (fun x hx => ?_)
  conv => whnf
  exact ⟨x, toL [(2, 4)], hx, toL_low rfl, Part.keys ⟨⟨by decide, rfl, _, rfl, fun _ _ _ h => h⟩, ⟨by decide, rfl, _, rfl, fun _ _ _ h => h⟩, trivial⟩ rfl, fun ρ => rfl⟩
theorem nwipe_ok (L : List (Nat × Nat)) (bs : Bool) (cs : Nat) (hL : ∀ s ∈ L, s.1 < 2 ^ 64 ∧ s.2 < 2 ^ 64) (hl : L.length ≤ 1000) : Fun Try.prog 6 [.agg [.nilMap], .slz bs 0 0 L.length cs] [(0, .view (spsV L))] 1 1 (WR diffS L (fun _ => 0) 0) (fun _ => .agg [.map 1]) (fun x => [(1, .dict (.map (ents u64V tagV x.1) none) x.2)]) := by
  unfold Fun
  have hw := nwith_ok 14 diffS (fun A B _ hB => without_ok A B hB) (fun A B ha hb => diffS_lt A B ha) diffS_zero L bs cs hL hl
  refine Spec.of_body tabOk Try.func6 rfl (ent Try.func6 rfl (by kernel_rfl)) Try.ntmps6 rfl (by kernel_rfl) (Nat.le_of_ble_eq_true rfl) ?_
  conv => whnf
  refine Spec.fn hw [0] rfl rfl (fun _ => rfl) rfl ⟨⟨by decide, rfl, rfl, _, rfl, fun _ => rfl, Nat.le_refl _, fun _ => Nat.le_refl _, fun h => (by cases h)⟩, trivial⟩ (fun _ _ => ⟨rfl, rfl, rfl, trivial⟩) (fun x hx => ?_)
  conv => whnf
  exact ⟨x, toL [(1, 3)], hx, toL_low rfl, Part.keys ⟨⟨by decide, rfl, _, rfl, fun _ _ _ h => h⟩, trivial⟩ rfl, fun ρ => rfl⟩
theorem WR.bound {op : Nat → Nat → Nat} {L : List (Nat × Nat)} {f : Nat → Nat} {n0 : Nat} {x : PD × Nat} (h : WR op L f n0 x) (hn : n0 ≤ 900000) (hl : L.length ≤ 1000) : x.1.length ≤ 1000000 := by
  have := h.len; omega
end Go.Sh.Ytkopfaenfaelfaa
