import Derived.Test.YtkopfaenfaelfaaPbG
set_option linter.unusedVariables false
namespace Go.Sh.Ytkopfaenfaelfaa
open Go.Proofs Go.Sh

theorem hasB_or (A B : Nat → Nat) (ad : Nat) : hasB (fun p => orS (A p) (B p)) ad = (hasB A ad || hasB B ad) := by
  unfold hasB getB orS
  rw [Nat.testBit_or]
  cases decide (0 ≤ ((ad % 4096 / 16 : Nat) : Int) ∧ ((ad % 4096 / 16 : Nat) : Int) < 256) <;> simp
theorem hasB_diff (A B : Nat → Nat) (ad : Nat) : hasB (fun p => diffS (A p) (B p)) ad = (hasB A ad && !hasB B ad) := by
  have h : decide (0 ≤ ((ad % 4096 / 16 : Nat) : Int) ∧ ((ad % 4096 / 16 : Nat) : Int) < 256) = true := decide_eq_true (by omega)
  unfold hasB getB
  rw [diffS_bit, h]
  simp
theorem cnt_both (A B : Nat → Nat) : cntF (fun p => orS (A p) (B p)) = cntF B + cntF (fun p => diffS (A p) (B p)) := by
  unfold cntF
  rw [← sumTo_add]
  exact sumTo_congr fun p _ => cnt_or (A p) (B p) 256
theorem diff_diff (A B : Nat) : diffS (diffS A B) B = diffS A B := Nat.eq_of_testBit_eq fun i => by
  rw [diffS_bit, diffS_bit]
  cases A.testBit i <;> cases B.testBit i <;> rfl
theorem or_same (A : Nat) : orS A A = A := Nat.or_self A
theorem zero_or (A : Nat) : orS 0 A = A := Nat.zero_or A
theorem cnt_bound {D : PD} {n : Nat} (h : cntD D = n) (hl : D.length ≤ 1000000) : n ≤ 256000000 := by
  have := cntD_le D; omega
structure Two (a b : Nat × Nat) (z : (PD × Nat) × (PD × Nat)) : Prop where
  x : WR orS [a] (fun _ => 0) 0 z.1
  y : WR orS [b] (fun _ => 0) 0 z.2
set_option maxHeartbeats 4000000 in
theorem psets_ok (a b : Nat × Nat) (ad : Nat) (ha : a.1 < 2 ^ 64 ∧ a.2 < 2 ^ 64) (hb : b.1 < 2 ^ 64 ∧ b.2 < 2 ^ 64) (had : ad < 2 ^ 64) : Pure Try.prog 3 [.agg (spC a.1 a.2), .agg (spC b.1 b.2), .int .u64 (ad : Int)] .tt := by
  have hna := npaint_ok [a] false 1 (by simpa using ha) (by show 1 ≤ 1000; decide)
  have hnb := npaint_ok [b] false 1 (by simpa using hb) (by show 1 ≤ 1000; decide)
  have hnab := npaint_ok [a, b] false 2 (by simp [ha, hb]) (by show 2 ≤ 1000; decide)
  refine Spec.of_body tabOk Try.func3 rfl (ent Try.func3 rfl (by kernel_rfl)) Try.ntmps3 rfl (by kernel_rfl) (Nat.le_of_ble_eq_true rfl) ?_
  conv => whnf
  refine CodeL.cut 7 (by decide) (fun z : (PD × Nat) × (PD × Nat) => ([(2, .int .u64 (ad : Int)), (3, .ptr 0 0), (4, .ptr 1 0), (6, .ff), (7, .ptr 2 0), (8, .ptr 5 0), (9, .ptr 6 0)], [(0, .cells (spC a.1 a.2)), (1, .cells (spC b.1 b.2)), (2, .cells [.nilMap]), (5, .cells [.map 3]), (6, .cells [.map 4]), (3, .dict (.map (ents u64V tagV z.1.1) none) z.1.2), (4, .dict (.map (ents u64V tagV z.2.1) none) z.2.2)])) (Two a b) (fun _ => rfl) ?_ (fun z hz => ?_)
  · refine CodeL.any tabOk Try.checked.mixed [(0, .cells (spC a.1 a.2)), (1, .cells (spC b.1 b.2)), (2, .cells [.nilMap])] (.take 0 (.take 1 (.take 4 (.take 5 (.alt 2 (.alt 3 (.alt 6 (.alt 7 (.alt 8 (.alt 9 (.alt 10 (.alt 11 (.fin) .stop) .stop) .stop) (.alt 9 (.alt 8 (.alt 10 (.alt 11 (.fin) .stop) .stop) .stop) .stop)) (.alt 8 (.alt 7 (.alt 9 (.alt 10 (.alt 11 (.fin) .stop) .stop) .stop) (.alt 9 (.alt 7 (.alt 10 (.alt 11 (.fin) .stop) .stop) .stop) .stop)) (.alt 9 (.alt 7 (.alt 8 (.alt 10 (.alt 11 (.fin) .stop) .stop) .stop) (.alt 8 (.alt 7 (.alt 10 (.alt 11 (.fin) .stop) .stop) .stop) .stop)) .stop))) (.alt 8 (.alt 6 (.alt 7 (.alt 9 (.alt 10 (.alt 11 (.fin) .stop) .stop) .stop) (.alt 9 (.alt 7 (.alt 10 (.alt 11 (.fin) .stop) .stop) .stop) .stop)) (.alt 9 (.alt 6 (.alt 7 (.alt 10 (.alt 11 (.fin) .stop) .stop) .stop) .stop) .stop)) (.alt 9 (.alt 6 (.alt 7 (.alt 8 (.alt 10 (.alt 11 (.fin) .stop) .stop) .stop) (.alt 8 (.alt 7 (.alt 10 (.alt 11 (.fin) .stop) .stop) .stop) .stop)) (.alt 8 (.alt 6 (.alt 7 (.alt 10 (.alt 11 (.fin) .stop) .stop) .stop) .stop) .stop)) .stop))) (.alt 6 (.alt 3 (.alt 7 (.alt 8 (.alt 9 (.alt 10 (.alt 11 (.fin) .stop) .stop) .stop) (.alt 9 (.alt 8 (.alt 10 (.alt 11 (.fin) .stop) .stop) .stop) .stop)) (.alt 8 (.alt 7 (.alt 9 (.alt 10 (.alt 11 (.fin) .stop) .stop) .stop) (.alt 9 (.alt 7 (.alt 10 (.alt 11 (.fin) .stop) .stop) .stop) .stop)) (.alt 9 (.alt 7 (.alt 8 (.alt 10 (.alt 11 (.fin) .stop) .stop) .stop) (.alt 8 (.alt 7 (.alt 10 (.alt 11 (.fin) .stop) .stop) .stop) .stop)) .stop))) (.alt 8 (.alt 3 (.alt 7 (.alt 9 (.alt 10 (.alt 11 (.fin) .stop) .stop) .stop) (.alt 9 (.alt 7 (.alt 10 (.alt 11 (.fin) .stop) .stop) .stop) .stop)) (.alt 9 (.alt 3 (.alt 7 (.alt 10 (.alt 11 (.fin) .stop) .stop) .stop) .stop) .stop)) (.alt 9 (.alt 3 (.alt 7 (.alt 8 (.alt 10 (.alt 11 (.fin) .stop) .stop) .stop) (.alt 8 (.alt 7 (.alt 10 (.alt 11 (.fin) .stop) .stop) .stop) .stop)) (.alt 8 (.alt 3 (.alt 7 (.alt 10 (.alt 11 (.fin) .stop) .stop) .stop) .stop) .stop)) .stop))) (.alt 8 (.alt 3 (.alt 6 (.alt 7 (.alt 9 (.alt 10 (.alt 11 (.fin) .stop) .stop) .stop) (.alt 9 (.alt 7 (.alt 10 (.alt 11 (.fin) .stop) .stop) .stop) .stop)) (.alt 9 (.alt 6 (.alt 7 (.alt 10 (.alt 11 (.fin) .stop) .stop) .stop) .stop) .stop)) (.alt 6 (.alt 3 (.alt 7 (.alt 9 (.alt 10 (.alt 11 (.fin) .stop) .stop) .stop) (.alt 9 (.alt 7 (.alt 10 (.alt 11 (.fin) .stop) .stop) .stop) .stop)) (.alt 9 (.alt 3 (.alt 7 (.alt 10 (.alt 11 (.fin) .stop) .stop) .stop) .stop) .stop)) (.alt 9 (.alt 3 (.alt 6 (.alt 7 (.alt 10 (.alt 11 (.fin) .stop) .stop) .stop) .stop) (.alt 6 (.alt 3 (.alt 7 (.alt 10 (.alt 11 (.fin) .stop) .stop) .stop) .stop) .stop)) .stop))) (.alt 9 (.alt 3 (.alt 6 (.alt 7 (.alt 8 (.alt 10 (.alt 11 (.fin) .stop) .stop) .stop) (.alt 8 (.alt 7 (.alt 10 (.alt 11 (.fin) .stop) .stop) .stop) .stop)) (.alt 8 (.alt 6 (.alt 7 (.alt 10 (.alt 11 (.fin) .stop) .stop) .stop) .stop) .stop)) (.alt 6 (.alt 3 (.alt 7 (.alt 8 (.alt 10 (.alt 11 (.fin) .stop) .stop) .stop) (.alt 8 (.alt 7 (.alt 10 (.alt 11 (.fin) .stop) .stop) .stop) .stop)) (.alt 8 (.alt 3 (.alt 7 (.alt 10 (.alt 11 (.fin) .stop) .stop) .stop) .stop) .stop)) (.alt 8 (.alt 3 (.alt 6 (.alt 7 (.alt 10 (.alt 11 (.fin) .stop) .stop) .stop) .stop) (.alt 6 (.alt 3 (.alt 7 (.alt 10 (.alt 11 (.fin) .stop) .stop) .stop) .stop) .stop)) .stop))) .stop)))) (.alt 6 (.alt 2 (.alt 3 (.alt 7 (.alt 8 (.alt 9 (.alt 10 (.alt 11 (.fin) .stop) .stop) .stop) (.alt 9 (.alt 8 (.alt 10 (.alt 11 (.fin) .stop) .stop) .stop) .stop)) (.alt 8 (.alt 7 (.alt 9 (.alt 10 (.alt 11 (.fin) .stop) .stop) .stop) (.alt 9 (.alt 7 (.alt 10 (.alt 11 (.fin) .stop) .stop) .stop) .stop)) (.alt 9 (.alt 7 (.alt 8 (.alt 10 (.alt 11 (.fin) .stop) .stop) .stop) (.alt 8 (.alt 7 (.alt 10 (.alt 11 (.fin) .stop) .stop) .stop) .stop)) .stop))) (.alt 8 (.alt 3 (.alt 7 (.alt 9 (.alt 10 (.alt 11 (.fin) .stop) .stop) .stop) (.alt 9 (.alt 7 (.alt 10 (.alt 11 (.fin) .stop) .stop) .stop) .stop)) (.alt 9 (.alt 3 (.alt 7 (.alt 10 (.alt 11 (.fin) .stop) .stop) .stop) .stop) .stop)) (.alt 9 (.alt 3 (.alt 7 (.alt 8 (.alt 10 (.alt 11 (.fin) .stop) .stop) .stop) (.alt 8 (.alt 7 (.alt 10 (.alt 11 (.fin) .stop) .stop) .stop) .stop)) (.alt 8 (.alt 3 (.alt 7 (.alt 10 (.alt 11 (.fin) .stop) .stop) .stop) .stop) .stop)) .stop))) (.alt 8 (.alt 2 (.alt 3 (.alt 7 (.alt 9 (.alt 10 (.alt 11 (.fin) .stop) .stop) .stop) (.alt 9 (.alt 7 (.alt 10 (.alt 11 (.fin) .stop) .stop) .stop) .stop)) (.alt 9 (.alt 3 (.alt 7 (.alt 10 (.alt 11 (.fin) .stop) .stop) .stop) .stop) .stop)) (.alt 9 (.alt 2 (.alt 3 (.alt 7 (.alt 10 (.alt 11 (.fin) .stop) .stop) .stop) .stop) .stop) .stop)) (.alt 9 (.alt 2 (.alt 3 (.alt 7 (.alt 8 (.alt 10 (.alt 11 (.fin) .stop) .stop) .stop) (.alt 8 (.alt 7 (.alt 10 (.alt 11 (.fin) .stop) .stop) .stop) .stop)) (.alt 8 (.alt 3 (.alt 7 (.alt 10 (.alt 11 (.fin) .stop) .stop) .stop) .stop) .stop)) (.alt 8 (.alt 2 (.alt 3 (.alt 7 (.alt 10 (.alt 11 (.fin) .stop) .stop) .stop) .stop) .stop) .stop)) .stop))) (.alt 8 (.alt 2 (.alt 3 (.alt 6 (.alt 7 (.alt 9 (.alt 10 (.alt 11 (.fin) .stop) .stop) .stop) (.alt 9 (.alt 7 (.alt 10 (.alt 11 (.fin) .stop) .stop) .stop) .stop)) (.alt 9 (.alt 6 (.alt 7 (.alt 10 (.alt 11 (.fin) .stop) .stop) .stop) .stop) .stop)) (.alt 6 (.alt 3 (.alt 7 (.alt 9 (.alt 10 (.alt 11 (.fin) .stop) .stop) .stop) (.alt 9 (.alt 7 (.alt 10 (.alt 11 (.fin) .stop) .stop) .stop) .stop)) (.alt 9 (.alt 3 (.alt 7 (.alt 10 (.alt 11 (.fin) .stop) .stop) .stop) .stop) .stop)) (.alt 9 (.alt 3 (.alt 6 (.alt 7 (.alt 10 (.alt 11 (.fin) .stop) .stop) .stop) .stop) (.alt 6 (.alt 3 (.alt 7 (.alt 10 (.alt 11 (.fin) .stop) .stop) .stop) .stop) .stop)) .stop))) (.alt 6 (.alt 2 (.alt 3 (.alt 7 (.alt 9 (.alt 10 (.alt 11 (.fin) .stop) .stop) .stop) (.alt 9 (.alt 7 (.alt 10 (.alt 11 (.fin) .stop) .stop) .stop) .stop)) (.alt 9 (.alt 3 (.alt 7 (.alt 10 (.alt 11 (.fin) .stop) .stop) .stop) .stop) .stop)) (.alt 9 (.alt 2 (.alt 3 (.alt 7 (.alt 10 (.alt 11 (.fin) .stop) .stop) .stop) .stop) .stop) .stop)) (.alt 9 (.alt 2 (.alt 3 (.alt 6 (.alt 7 (.alt 10 (.alt 11 (.fin) .stop) .stop) .stop) .stop) (.alt 6 (.alt 3 (.alt 7 (.alt 10 (.alt 11 (.fin) .stop) .stop) .stop) .stop) .stop)) (.alt 6 (.alt 2 (.alt 3 (.alt 7 (.alt 10 (.alt 11 (.fin) .stop) .stop) .stop) .stop) .stop) .stop)) .stop))) (.alt 9 (.alt 2 (.alt 3 (.alt 6 (.alt 7 (.alt 8 (.alt 10 (.alt 11 (.fin) .stop) .stop) .stop) (.alt 8 (.alt 7 (.alt 10 (.alt 11 (.fin) .stop) .stop) .stop) .stop)) (.alt 8 (.alt 6 (.alt 7 (.alt 10 (.alt 11 (.fin) .stop) .stop) .stop) .stop) .stop)) (.alt 6 (.alt 3 (.alt 7 (.alt 8 (.alt 10 (.alt 11 (.fin) .stop) .stop) .stop) (.alt 8 (.alt 7 (.alt 10 (.alt 11 (.fin) .stop) .stop) .stop) .stop)) (.alt 8 (.alt 3 (.alt 7 (.alt 10 (.alt 11 (.fin) .stop) .stop) .stop) .stop) .stop)) (.alt 8 (.alt 3 (.alt 6 (.alt 7 (.alt 10 (.alt 11 (.fin) .stop) .stop) .stop) .stop) (.alt 6 (.alt 3 (.alt 7 (.alt 10 (.alt 11 (.fin) .stop) .stop) .stop) .stop) .stop)) .stop))) (.alt 6 (.alt 2 (.alt 3 (.alt 7 (.alt 8 (.alt 10 (.alt 11 (.fin) .stop) .stop) .stop) (.alt 8 (.alt 7 (.alt 10 (.alt 11 (.fin) .stop) .stop) .stop) .stop)) (.alt 8 (.alt 3 (.alt 7 (.alt 10 (.alt 11 (.fin) .stop) .stop) .stop) .stop) .stop)) (.alt 8 (.alt 2 (.alt 3 (.alt 7 (.alt 10 (.alt 11 (.fin) .stop) .stop) .stop) .stop) .stop) .stop)) (.alt 8 (.alt 2 (.alt 3 (.alt 6 (.alt 7 (.alt 10 (.alt 11 (.fin) .stop) .stop) .stop) .stop) (.alt 6 (.alt 3 (.alt 7 (.alt 10 (.alt 11 (.fin) .stop) .stop) .stop) .stop) .stop)) (.alt 6 (.alt 2 (.alt 3 (.alt 7 (.alt 10 (.alt 11 (.fin) .stop) .stop) .stop) .stop) .stop) .stop)) .stop))) .stop)))))))) (by kernel_rfl) rfl ⟨rfl, rfl, rfl, trivial⟩ rfl ?_
    repeat' ((try (conv => whnf)); first
      | refine Needs.mk ⟨rfl, rfl, rfl, trivial⟩ ?_
      | refine And.intro ?_ ?_
      | refine OpL.bsl tabOk ?_
      | refine Spec.fn hna [3] rfl rfl (fun _ => rfl) rfl ⟨⟨by decide, rfl, rfl, _, rfl, fun _ => rfl, Nat.le_refl _, fun _ => Nat.le_refl _, fun h => (by cases h)⟩, trivial⟩ (fun _ _ => ⟨rfl, rfl, rfl, trivial⟩) (fun x hx => ?_)
      | refine Spec.fn hna [4] rfl rfl (fun _ => rfl) rfl ⟨⟨by decide, rfl, rfl, _, rfl, fun _ => rfl, Nat.le_refl _, fun _ => Nat.le_refl _, fun h => (by cases h)⟩, trivial⟩ (fun _ _ => ⟨rfl, rfl, rfl, trivial⟩) (fun x hx => ?_)
      | refine Spec.fn hna [5] rfl rfl (fun _ => rfl) rfl ⟨⟨by decide, rfl, rfl, _, rfl, fun _ => rfl, Nat.le_refl _, fun _ => Nat.le_refl _, fun h => (by cases h)⟩, trivial⟩ (fun _ _ => ⟨rfl, rfl, rfl, trivial⟩) (fun x hx => ?_)
      | refine Spec.fn hna [6] rfl rfl (fun _ => rfl) rfl ⟨⟨by decide, rfl, rfl, _, rfl, fun _ => rfl, Nat.le_refl _, fun _ => Nat.le_refl _, fun h => (by cases h)⟩, trivial⟩ (fun _ _ => ⟨rfl, rfl, rfl, trivial⟩) (fun x hx => ?_)
      | refine Spec.fn hnb [3] rfl rfl (fun _ => rfl) rfl ⟨⟨by decide, rfl, rfl, _, rfl, fun _ => rfl, Nat.le_refl _, fun _ => Nat.le_refl _, fun h => (by cases h)⟩, trivial⟩ (fun _ _ => ⟨rfl, rfl, rfl, trivial⟩) (fun y hy => ?_)
      | refine Spec.fn hnb [4] rfl rfl (fun _ => rfl) rfl ⟨⟨by decide, rfl, rfl, _, rfl, fun _ => rfl, Nat.le_refl _, fun _ => Nat.le_refl _, fun h => (by cases h)⟩, trivial⟩ (fun _ _ => ⟨rfl, rfl, rfl, trivial⟩) (fun y hy => ?_)
      | refine Spec.fn hnb [5] rfl rfl (fun _ => rfl) rfl ⟨⟨by decide, rfl, rfl, _, rfl, fun _ => rfl, Nat.le_refl _, fun _ => Nat.le_refl _, fun h => (by cases h)⟩, trivial⟩ (fun _ _ => ⟨rfl, rfl, rfl, trivial⟩) (fun y hy => ?_)
      | refine Spec.fn hnb [6] rfl rfl (fun _ => rfl) rfl ⟨⟨by decide, rfl, rfl, _, rfl, fun _ => rfl, Nat.le_refl _, fun _ => Nat.le_refl _, fun h => (by cases h)⟩, trivial⟩ (fun _ _ => ⟨rfl, rfl, rfl, trivial⟩) (fun y hy => ?_)
      | refine Spec.fn hnb [7] rfl rfl (fun _ => rfl) rfl ⟨⟨by decide, rfl, rfl, _, rfl, fun _ => rfl, Nat.le_refl _, fun _ => Nat.le_refl _, fun h => (by cases h)⟩, trivial⟩ (fun _ _ => ⟨rfl, rfl, rfl, trivial⟩) (fun y hy => ?_)
      | refine Spec.fn hnb [8] rfl rfl (fun _ => rfl) rfl ⟨⟨by decide, rfl, rfl, _, rfl, fun _ => rfl, Nat.le_refl _, fun _ => Nat.le_refl _, fun h => (by cases h)⟩, trivial⟩ (fun _ _ => ⟨rfl, rfl, rfl, trivial⟩) (fun y hy => ?_)
      | exact ⟨(x, y), toL [(3, _), (4, _), (5, _), (6, _)], ⟨hx, hy⟩, toL_low rfl, ⟨⟨_, rfl, fun _ => rfl⟩, ⟨_, rfl, fun _ => rfl⟩, ⟨_, rfl, fun _ => rfl⟩, ⟨_, rfl, fun _ => rfl⟩, ⟨_, rfl, fun _ => rfl⟩, ⟨_, rfl, fun _ => rfl⟩, ⟨_, rfl, fun _ => rfl⟩, trivial⟩, Part.keys ⟨⟨by decide, rfl, rfl, _, rfl, fun _ => rfl, Nat.le_refl _, fun _ => Nat.le_refl _, id⟩, ⟨by decide, rfl, rfl, _, rfl, fun _ => rfl, Nat.le_refl _, fun _ => Nat.le_refl _, id⟩, ⟨by decide, rfl, rfl, _, rfl, fun _ => rfl, Nat.le_refl _, fun _ => Nat.le_refl _, id⟩, ⟨by decide, rfl, rfl, _, rfl, fun _ => rfl, Nat.le_refl _, fun _ => Nat.le_refl _, id⟩, ⟨by decide, rfl, rfl, _, rfl, fun _ => rfl, Nat.le_refl _, fun _ => Nat.le_refl _, id⟩, ⟨by decide, rfl, _, rfl, fun _ _ _ h => h⟩, ⟨by decide, rfl, _, rfl, fun _ _ _ h => h⟩, trivial⟩ rfl⟩)
  · obtain ⟨⟨X, cx⟩, ⟨Y, cy⟩⟩ := z
    obtain ⟨hx, hy⟩ := hz
    have lx := hx.bound (by decide) (by show 1 ≤ 1000; decide)
    have ly := hy.bound (by decide) (by show 1 ≤ 1000; decide)
    have sx : ∀ p, foldS orS covC [a] (fun _ => 0) p = cov0 covC a p := fun p => zero_or _
    have sy : ∀ p, foldS orS covC [b] (fun _ => 0) p = cov0 covC b p := fun p => zero_or _
    have fx : getS X = cov0 covC a := funext fun p => (hx.sem p).trans (sx p)
    have fy : getS Y = cov0 covC b := funext fun p => (hy.sem p).trans (sy p)
    have nx := hx.cnt sx
    have ny := hy.cnt sy
    conv => whnf
    refine OpL.bsl tabOk ?_
    conv => whnf
    refine Spec.fn hnab [7] rfl rfl (fun _ => rfl) rfl ⟨⟨by decide, rfl, rfl, _, rfl, fun _ => rfl, Nat.le_refl _, fun _ => Nat.le_refl _, fun h => (by cases h)⟩, trivial⟩ (fun _ _ => ⟨rfl, rfl, rfl, trivial⟩) (fun t ht => ?_)
    obtain ⟨T, ct⟩ := t
    have lt := ht.bound (by decide) (by show 2 ≤ 1000; decide)
    have st : ∀ p, foldS orS covC [a, b] (fun _ => 0) p = orS (cov0 covC a p) (cov0 covC b p) := fun p => congrArg (fun v => orS v (cov0 covC b p)) (sx p)
    have ft : getS T = fun p => orS (cov0 covC a p) (cov0 covC b p) := funext fun p => (ht.sem p).trans (st p)
    have nt := (ht.cnt st).trans (cnt_both _ _)
    conv => whnf
    refine OpL.bsl tabOk ?_
    conv => whnf
    refine Spec.fn (wipe_ok [b] false 1 X cx hx.ok (by simpa using hb) (by show 1 ≤ 1000; decide)) [3, 10] rfl rfl (fun _ => rfl) rfl ⟨⟨by decide, rfl, _, rfl, fun _ _ _ h => h⟩, ⟨by decide, rfl, rfl, _, rfl, fun _ => rfl, Nat.le_refl _, fun _ => Nat.le_refl _, fun h => (by cases h)⟩, trivial⟩ (fun _ _ => ⟨rfl, rfl, ⟨_, rfl, rfl, rfl⟩, rfl, trivial⟩) (fun o ho => ?_)
    obtain ⟨O, co⟩ := o
    have lx2 : X.length ≤ 64 := by have := hx.len; simpa using this
    have lo := ho.bound (by omega) (by show 1 ≤ 1000; decide)
    have so : ∀ p, foldS diffS covC [b] (getS X) p = diffS (cov0 covC a p) (cov0 covC b p) := fun p => congrArg (fun v => diffS v (cov0 covC b p)) (congrFun fx p)
    have fo : getS O = fun p => diffS (cov0 covC a p) (cov0 covC b p) := funext fun p => (ho.sem p).trans (so p)
    have no := ho.cnt so
    obtain ⟨u, hu⟩ : ∃ u, hasB (cov0 covC a) ad = u := ⟨_, rfl⟩
    obtain ⟨v, hv⟩ : ∃ v, hasB (cov0 covC b) ad = v := ⟨_, rfl⟩
    have hT := has_f T ct ad had (u || v) (by rw [ft, hasB_or, hu, hv])
    have hX := has_f X cx ad had u (by rw [fx, hu])
    have hY := has_f Y cy ad had v (by rw [fy, hv])
    have hO := has_f O co ad had (u && !v) (by rw [fo, hasB_diff, hu, hv])
    conv => whnf
    have hA := cnt_bound nx lx
    have hB := cnt_bound ny ly
    have hN := cnt_bound no lo
    generalize hgA : cntF (cov0 covC a) = A at nx hA
    generalize hgB : cntF (cov0 covC b) = B at ny hB nt
    generalize hgN : (cntF fun p => diffS (cov0 covC a p) (cov0 covC b p)) = N at nt no hN
    have cX := cnt_f X cx A hx.ok lx nx
    have cY := cnt_f Y cy B hy.ok ly ny
    have cT := cnt_f T ct (B + N) ht.ok lt nt
    have cO := cnt_f O co N ho.ok lo no
    have e3 : decide (((B + N : Nat) : Int) = IntKind.wrap .i64 (IntKind.wrap .i64 ((A : Int) + (B : Int)) - IntKind.wrap .i64 ((A : Int) - (N : Int)))) = true := by
      rw [wrap_i64 ((A : Int) + (B : Int)) (by omega) (by omega), wrap_i64 ((A : Int) - (N : Int)) (by omega) (by omega), wrap_i64 _ (by omega) (by omega)]
      exact decide_eq_true (by omega)
    clear hu hv
    refine CodeL.cut 13 (by decide) (fun _ : Unit => ([(2, .int .u64 (ad : Int)), (3, .ptr 0 0), (4, .ptr 1 0), (6, .ff), (7, .ptr 2 0), (8, .ptr 5 0), (9, .ptr 6 0), (10, .ptr 9 0), (11, .ptr 12 0), (57, .ff)], [(0, .cells (spC a.1 a.2)), (1, .cells (spC b.1 b.2)), (2, .cells [.nilMap]), (5, .cells [.map 3]), (6, .cells [.map 4]), (9, .cells [.map 8]), (12, .cells [.map 11]), (3, .dict (.map (ents u64V tagV X) none) cx), (4, .dict (.map (ents u64V tagV Y) none) cy), (8, .dict (.map (ents u64V tagV T) none) ct), (11, .dict (.map (ents u64V tagV O) none) co)])) (fun _ => True) (fun _ => rfl) ?_ (fun _ _ => ?_)
    · refine CodeL.any tabOk Try.checked.mixed [(5, .cells [.map 3]), (6, .cells [.map 4]), (9, .cells [.map 8]), (12, .cells [.map 11])] (.take 0 (.take 1 (.take 3 (.take 4 (.alt 2 (.alt 5 (.take 6 (.take 7 (.take 8 (.alt 9 (.take 10 (.take 11 (.take 12 (.take 13 (.take 14 (.take 16 (.take 17 (.alt 15 (.alt 18 (.take 19 (.take 20 (.take 21 (.alt 22 (.take 23 (.take 24 (.take 25 (.take 26 (.fin))))) .stop)))) .stop) .stop)))))))) .stop)))) .stop) .stop))))) (by kernel_rfl) rfl ⟨rfl, rfl, rfl, rfl, trivial⟩ rfl ?_
      cases u <;> cases v
      all_goals
        repeat' ((try (conv => whnf)); first
          | refine Needs.mk ⟨rfl, rfl, rfl, rfl, trivial⟩ ?_
          | refine Spec.fn hT [8] rfl rfl (fun _ => rfl) rfl ⟨⟨by decide, rfl, _, rfl, fun _ _ _ h => h⟩, trivial⟩ (fun _ _ => ⟨rfl, rfl, ⟨_, rfl, rfl, rfl⟩, trivial⟩) (fun _ _ => ?_)
          | refine Spec.fn hX [3] rfl rfl (fun _ => rfl) rfl ⟨⟨by decide, rfl, _, rfl, fun _ _ _ h => h⟩, trivial⟩ (fun _ _ => ⟨rfl, rfl, ⟨_, rfl, rfl, rfl⟩, trivial⟩) (fun _ _ => ?_)
          | refine Spec.fn hY [4] rfl rfl (fun _ => rfl) rfl ⟨⟨by decide, rfl, _, rfl, fun _ _ _ h => h⟩, trivial⟩ (fun _ _ => ⟨rfl, rfl, ⟨_, rfl, rfl, rfl⟩, trivial⟩) (fun _ _ => ?_)
          | refine Spec.fn hO [11] rfl rfl (fun _ => rfl) rfl ⟨⟨by decide, rfl, _, rfl, fun _ _ _ h => h⟩, trivial⟩ (fun _ _ => ⟨rfl, rfl, ⟨_, rfl, rfl, rfl⟩, trivial⟩) (fun _ _ => ?_)
          | refine VL.eq tabOk ?_
          | refine IfL.t rfl ?_
          | refine IfL.f rfl ?_
          | exact ⟨(), fun i => (i, 0), trivial, fun _ _ => rfl, ⟨⟨_, rfl, fun _ => rfl⟩, ⟨_, rfl, fun _ => rfl⟩, ⟨_, rfl, fun _ => rfl⟩, ⟨_, rfl, fun _ => rfl⟩, ⟨_, rfl, fun _ => rfl⟩, ⟨_, rfl, fun _ => rfl⟩, ⟨_, rfl, fun _ => rfl⟩, ⟨_, rfl, fun _ => rfl⟩, ⟨_, rfl, fun _ => rfl⟩, ⟨_, rfl, fun _ => rfl⟩, trivial⟩, Part.keys ⟨⟨by decide, rfl, rfl, _, rfl, fun _ => rfl, Nat.le_refl _, fun _ => Nat.le_refl _, id⟩, ⟨by decide, rfl, rfl, _, rfl, fun _ => rfl, Nat.le_refl _, fun _ => Nat.le_refl _, id⟩, ⟨by decide, rfl, rfl, _, rfl, fun _ => rfl, Nat.le_refl _, fun _ => Nat.le_refl _, id⟩, ⟨by decide, rfl, rfl, _, rfl, fun _ => rfl, Nat.le_refl _, fun _ => Nat.le_refl _, id⟩, ⟨by decide, rfl, rfl, _, rfl, fun _ => rfl, Nat.le_refl _, fun _ => Nat.le_refl _, id⟩, ⟨by decide, rfl, rfl, _, rfl, fun _ => rfl, Nat.le_refl _, fun _ => Nat.le_refl _, id⟩, ⟨by decide, rfl, rfl, _, rfl, fun _ => rfl, Nat.le_refl _, fun _ => Nat.le_refl _, id⟩, ⟨by decide, rfl, _, rfl, fun _ _ _ h => h⟩, ⟨by decide, rfl, _, rfl, fun _ _ _ h => h⟩, ⟨by decide, rfl, _, rfl, fun _ _ _ h => h⟩, ⟨by decide, rfl, _, rfl, fun _ _ _ h => h⟩, trivial⟩ rfl⟩)
    · clear hT hX hY hO
      conv => whnf
      refine OpL.bsl tabOk ?_
      conv => whnf
      refine Spec.fn (paint_ok [a] false 1 X cx hx.ok (by simpa using ha) (by show 1 ≤ 1000; decide)) [3, 13] rfl rfl (fun _ => rfl) rfl ⟨⟨by decide, rfl, _, rfl, fun _ _ _ h => h⟩, ⟨by decide, rfl, rfl, _, rfl, fun _ => rfl, Nat.le_refl _, fun _ => Nat.le_refl _, fun h => (by cases h)⟩, trivial⟩ (fun _ _ => ⟨rfl, rfl, ⟨_, rfl, rfl, rfl⟩, rfl, trivial⟩) (fun w hw => ?_)
      obtain ⟨V, cv⟩ := w
      have lw := hw.bound (by omega) (by show 1 ≤ 1000; decide)
      have sw : ∀ p, foldS orS covC [a] (getS X) p = cov0 covC a p := fun p => (congrArg (fun v => orS v (cov0 covC a p)) (congrFun fx p)).trans (or_same _)
      have cW := cnt_f V cv A hw.ok lw ((hw.cnt sw).trans hgA)
      conv => whnf
      refine CodeL.cut 16 (by decide) (fun _ : Unit => ([(2, .int .u64 (ad : Int)), (3, .ptr 0 0), (4, .ptr 1 0), (6, .ff), (7, .ptr 2 0), (8, .ptr 5 0), (9, .ptr 6 0), (10, .ptr 9 0), (11, .ptr 12 0), (12, .ptr 15 0), (13, .int .i64 (IntKind.wrap .i64 ((A : Int) - (N : Int))))], [(0, .cells (spC a.1 a.2)), (1, .cells (spC b.1 b.2)), (2, .cells [.nilMap]), (5, .cells [.map 3]), (6, .cells [.map 4]), (9, .cells [.map 8]), (12, .cells [.map 11]), (15, .cells [.map 14]), (3, .dict (.map (ents u64V tagV X) none) cx), (4, .dict (.map (ents u64V tagV Y) none) cy), (8, .dict (.map (ents u64V tagV T) none) ct), (11, .dict (.map (ents u64V tagV O) none) co), (14, .dict (.map (ents u64V tagV V) none) cv)])) (fun _ => True) (fun _ => rfl) ?_ (fun _ _ => ?_)
      · refine CodeL.any tabOk Try.checked.mixed [(5, .cells [.map 3]), (12, .cells [.map 11])] (.take 0 (.take 2 (.alt 1 (.alt 3 (.take 4 (.take 5 (.fin))) .stop) .stop))) (by kernel_rfl) rfl ⟨rfl, rfl, trivial⟩ rfl ?_
        repeat' ((try (conv => whnf)); first
          | refine Needs.mk ⟨rfl, rfl, trivial⟩ ?_
          | refine Spec.fn cX [3] rfl rfl (fun _ => rfl) rfl ⟨⟨by decide, rfl, _, rfl, fun _ _ _ h => h⟩, trivial⟩ (fun _ _ => ⟨rfl, rfl, ⟨_, rfl, rfl, rfl⟩, trivial⟩) (fun _ _ => ?_)
          | refine Spec.fn cO [11] rfl rfl (fun _ => rfl) rfl ⟨⟨by decide, rfl, _, rfl, fun _ _ _ h => h⟩, trivial⟩ (fun _ _ => ⟨rfl, rfl, ⟨_, rfl, rfl, rfl⟩, trivial⟩) (fun _ _ => ?_)
          | exact ⟨(), fun i => (i, 0), trivial, fun _ _ => rfl, ⟨⟨_, rfl, fun _ => rfl⟩, ⟨_, rfl, fun _ => rfl⟩, ⟨_, rfl, fun _ => rfl⟩, ⟨_, rfl, fun _ => rfl⟩, ⟨_, rfl, fun _ => rfl⟩, ⟨_, rfl, fun _ => rfl⟩, ⟨_, rfl, fun _ => rfl⟩, ⟨_, rfl, fun _ => rfl⟩, ⟨_, rfl, fun _ => rfl⟩, ⟨_, rfl, fun _ => rfl⟩, ⟨_, rfl, fun _ => rfl⟩, trivial⟩, Part.keys ⟨⟨by decide, rfl, rfl, _, rfl, fun _ => rfl, Nat.le_refl _, fun _ => Nat.le_refl _, id⟩, ⟨by decide, rfl, rfl, _, rfl, fun _ => rfl, Nat.le_refl _, fun _ => Nat.le_refl _, id⟩, ⟨by decide, rfl, rfl, _, rfl, fun _ => rfl, Nat.le_refl _, fun _ => Nat.le_refl _, id⟩, ⟨by decide, rfl, rfl, _, rfl, fun _ => rfl, Nat.le_refl _, fun _ => Nat.le_refl _, id⟩, ⟨by decide, rfl, rfl, _, rfl, fun _ => rfl, Nat.le_refl _, fun _ => Nat.le_refl _, id⟩, ⟨by decide, rfl, rfl, _, rfl, fun _ => rfl, Nat.le_refl _, fun _ => Nat.le_refl _, id⟩, ⟨by decide, rfl, rfl, _, rfl, fun _ => rfl, Nat.le_refl _, fun _ => Nat.le_refl _, id⟩, ⟨by decide, rfl, rfl, _, rfl, fun _ => rfl, Nat.le_refl _, fun _ => Nat.le_refl _, id⟩, ⟨by decide, rfl, _, rfl, fun _ _ _ h => h⟩, ⟨by decide, rfl, _, rfl, fun _ _ _ h => h⟩, ⟨by decide, rfl, _, rfl, fun _ _ _ h => h⟩, ⟨by decide, rfl, _, rfl, fun _ _ _ h => h⟩, ⟨by decide, rfl, _, rfl, fun _ _ _ h => h⟩, trivial⟩ rfl⟩)
      conv => whnf
      have hwp := wipe_ok [b] false 1 O co ho.ok (by simpa using hb) (by show 1 ≤ 1000; decide)
      refine CodeL.any tabOk Try.checked.mixed [(1, .cells (spC b.1 b.2)), (2, .cells [.nilMap]), (5, .cells [.map 3]), (6, .cells [.map 4]), (9, .cells [.map 8]), (12, .cells [.map 11]), (15, .cells [.map 14])] (.take 0 (.take 2 (.alt 1 (.alt 3 (.take 4 (.take 5 (.take 6 (.take 8 (.take 10 (.take 13 (.alt 7 (.alt 9 (.alt 11 (.take 12 (.take 14 (.take 15 (.take 16 (.take 17 (.take 18 (.take 19 (.take 23 (.alt 20 (.alt 21 (.alt 22 (.alt 24 (.take 25 (.take 26 (.take 27 (.take 28 (.alt 29 (.take 30 (.take 31 (.take 32 (.alt 33 (.take 34 (.take 35 (.fin))) .stop)))) .stop))))) .stop) .stop) .stop) .stop))))))))) .stop) .stop) .stop))))))) .stop) .stop))) (by kernel_rfl) rfl ⟨rfl, rfl, rfl, rfl, rfl, rfl, rfl, trivial⟩ rfl ?_
      conv => whnf
      refine Spec.fn cW [14] rfl rfl (fun _ => rfl) rfl ⟨⟨by decide, rfl, _, rfl, fun _ _ _ h => h⟩, trivial⟩ (fun _ _ => ⟨rfl, rfl, ⟨_, rfl, rfl, rfl⟩, trivial⟩) (fun _ _ => ?_)
      conv => whnf
      refine Needs.mk ⟨rfl, rfl, rfl, rfl, rfl, rfl, rfl, trivial⟩ ?_
      conv => whnf
      refine Spec.fn cX [3] rfl rfl (fun _ => rfl) rfl ⟨⟨by decide, rfl, _, rfl, fun _ _ _ h => h⟩, trivial⟩ (fun _ _ => ⟨rfl, rfl, ⟨_, rfl, rfl, rfl⟩, trivial⟩) (fun _ _ => ?_)
      conv => whnf
      refine Needs.mk ⟨rfl, rfl, rfl, rfl, rfl, rfl, rfl, trivial⟩ ?_
      conv => whnf
      refine IfL.t (decide_eq_true rfl) ?_
      conv => whnf
      refine Spec.fn cT [8] rfl rfl (fun _ => rfl) rfl ⟨⟨by decide, rfl, _, rfl, fun _ _ _ h => h⟩, trivial⟩ (fun _ _ => ⟨rfl, rfl, ⟨_, rfl, rfl, rfl⟩, trivial⟩) (fun _ _ => ?_)
      conv => whnf
      refine Needs.mk ⟨rfl, rfl, rfl, rfl, rfl, rfl, rfl, trivial⟩ ?_
      conv => whnf
      refine Spec.fn cX [3] rfl rfl (fun _ => rfl) rfl ⟨⟨by decide, rfl, _, rfl, fun _ _ _ h => h⟩, trivial⟩ (fun _ _ => ⟨rfl, rfl, ⟨_, rfl, rfl, rfl⟩, trivial⟩) (fun _ _ => ?_)
      conv => whnf
      refine Needs.mk ⟨rfl, rfl, rfl, rfl, rfl, rfl, rfl, trivial⟩ ?_
      conv => whnf
      refine Spec.fn cY [4] rfl rfl (fun _ => rfl) rfl ⟨⟨by decide, rfl, _, rfl, fun _ _ _ h => h⟩, trivial⟩ (fun _ _ => ⟨rfl, rfl, ⟨_, rfl, rfl, rfl⟩, trivial⟩) (fun _ _ => ?_)
      conv => whnf
      refine Needs.mk ⟨rfl, rfl, rfl, rfl, rfl, rfl, rfl, trivial⟩ ?_
      conv => whnf
      refine IfL.t e3 ?_
      conv => whnf
      refine OpL.bsl tabOk ?_
      conv => whnf
      refine Needs.mk ⟨rfl, rfl, rfl, rfl, rfl, rfl, rfl, trivial⟩ ?_
      conv => whnf
      refine Spec.fn hwp [11, 16] rfl rfl (fun _ => rfl) rfl ⟨⟨by decide, rfl, _, rfl, fun _ _ _ h => h⟩, ⟨by decide, rfl, rfl, _, rfl, fun _ => rfl, Nat.le_refl _, fun _ => Nat.le_refl _, fun h => (by cases h)⟩, trivial⟩ (fun _ _ => ⟨rfl, rfl, ⟨_, rfl, rfl, rfl⟩, rfl, trivial⟩) (fun r hr => ?_)
      obtain ⟨R, cr⟩ := r
      have lr := hr.bound (by have := ho.len; have : O.length ≤ X.length + 64 * 1 := this; omega) (by show 1 ≤ 1000; decide)
      have sr : ∀ p, foldS diffS covC [b] (getS O) p = diffS (cov0 covC a p) (cov0 covC b p) := fun p => (congrArg (fun v => diffS v (cov0 covC b p)) (congrFun fo p)).trans (diff_diff _ _)
      have cR := cnt_f R cr N hr.ok lr ((hr.cnt sr).trans hgN)
      conv => whnf
      refine Needs.mk ⟨rfl, rfl, rfl, rfl, rfl, rfl, rfl, trivial⟩ ?_
      conv => whnf
      refine Spec.fn cR [17] rfl rfl (fun _ => rfl) rfl ⟨⟨by decide, rfl, _, rfl, fun _ _ _ h => h⟩, trivial⟩ (fun _ _ => ⟨rfl, rfl, ⟨_, rfl, rfl, rfl⟩, trivial⟩) (fun _ _ => ?_)
      conv => whnf
      refine Needs.mk ⟨rfl, rfl, rfl, rfl, rfl, rfl, rfl, trivial⟩ ?_
      conv => whnf
      refine Spec.fn cO [11] rfl rfl (fun _ => rfl) rfl ⟨⟨by decide, rfl, _, rfl, fun _ _ _ h => h⟩, trivial⟩ (fun _ _ => ⟨rfl, rfl, ⟨_, rfl, rfl, rfl⟩, trivial⟩) (fun _ _ => ?_)
      conv => whnf
      refine Needs.mk ⟨rfl, rfl, rfl, rfl, rfl, rfl, rfl, trivial⟩ ?_
      conv => whnf
      refine IfL.t (decide_eq_true rfl) ?_
      conv => whnf
      refine Spec.pure ncount_ok rfl rfl (fun _ => rfl) ?_
      conv => whnf
      refine Needs.mk ⟨rfl, rfl, rfl, rfl, rfl, rfl, rfl, trivial⟩ ?_
      conv => whnf
      refine IfL.t rfl ?_
      conv => whnf
      refine Spec.pure one_ok rfl rfl (fun _ => rfl) ?_
      conv => whnf
      refine Needs.mk ⟨rfl, rfl, rfl, rfl, rfl, rfl, rfl, trivial⟩ ?_
      conv => whnf
      intro ρ
      rfl
end Go.Sh.Ytkopfaenfaelfaa
