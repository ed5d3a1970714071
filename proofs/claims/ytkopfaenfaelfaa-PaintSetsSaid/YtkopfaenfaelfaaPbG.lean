import Derived.Test.YtkopfaenfaelfaaPbF
set_option linter.unusedVariables false
namespace Go.Sh.Ytkopfaenfaelfaa
open Go.Proofs Go.Sh

def cntF (f : Nat → Nat) : Nat := sumTo (fun p => cnt (f p) 256) 67108864
theorem WR.cnt {op : Nat → Nat → Nat} {L : List (Nat × Nat)} {f : Nat → Nat} {n0 : Nat} {x : PD × Nat} (h : WR op L f n0 x) {g : Nat → Nat} (hg : ∀ p, foldS op covC L f p = g p) : cntD x.1 = cntF g := h.ok.cnt fun p => (h.sem p).trans (hg p)
theorem cnt_f (D : PD) (c n : Nat) (hD : PtI D c) (hl : D.length ≤ 1000000) (hn : cntD D = n) : Fun Try.prog 8 [.agg [.map 0]] [(0, .dict (.map (ents u64V tagV D) none) c)] 1 0 (fun _ : Unit => True) (fun _ => .int .i64 (n : Int)) (fun _ => [(0, .dict (.map (ents u64V tagV D) none) c)]) := by
  subst hn; exact bcount_ok D c hD hl
theorem has_f (D : PD) (c addr : Nat) (ha : addr < 2 ^ 64) (b : Bool) (hb : hasB (getS D) addr = b) : Fun Try.prog 7 [.agg [.map 0], .int .u64 (addr : Int)] [(0, .dict (.map (ents u64V tagV D) none) c)] 1 0 (fun _ : Unit => True) (fun _ => .bool b) (fun _ => [(0, .dict (.map (ents u64V tagV D) none) c)]) := by
  subst hb; exact has_ok D c addr ha
theorem cov_one : covP covC 8 24 0 = 3 := by kernel_rfl
theorem cnt_three : cnt 3 256 = 2 := by kernel_rfl
theorem cov0_one (p : Nat) : cov0 covC (8, 24) p = if 0 = p then 3 else 0 := by
  have hb : inB 8 24 p = decide (p = 0) := by
    have h : mayB 8 24 = true := by decide
    unfold inB
    rw [h]
    by_cases e : p = 0
    · subst e; decide
    · rw [decide_eq_false (p := p ≤ (24 - 1) / 4096) (by omega), decide_eq_false e]; simp
  unfold cov0
  show (if inB 8 24 p = true then covP covC 8 24 p else 0) = _
  rw [hb]
  by_cases e : p = 0
  · subst e
    rw [if_pos (decide_eq_true rfl), if_pos rfl, cov_one]
  · rw [if_neg (by simpa using e), if_neg (fun h => e h.symm)]
theorem one_sem (p : Nat) : foldS orS covC [(8, 24)] (fun _ => 0) p = if 0 = p then 3 else 0 := by
  rw [← cov0_one]
  show 0 ||| _ = _
  exact Nat.zero_or _
theorem one_cnt : cntF (fun p => if 0 = p then 3 else 0) = 2 := by
  have : (fun p => cnt (if 0 = p then 3 else 0) 256) = fun p => if 0 = p then 2 else 0 := by
    funext p
    split
    · exact cnt_three
    · exact cnt0 256
  unfold cntF
  rw [this, sumTo_at (fun _ => 0) 0 2 _ rfl, sumTo_zero]; rfl
set_option maxHeartbeats 1000000 in
theorem one_ok : Pure Try.prog 9 [] .tt := by
  refine Spec.of_body tabOk Try.func9 rfl (ent Try.func9 rfl (by kernel_rfl)) Try.ntmps9 rfl (by kernel_rfl) (Nat.le_of_ble_eq_true rfl) ?_
  conv => whnf
  refine OpL.bsl tabOk ?_
  conv => whnf
  refine Spec.fn (npaint_ok [(8, 24)] false 1 (by simp) (by decide)) [1] rfl rfl (fun _ => rfl) rfl ⟨⟨by decide, rfl, rfl, _, rfl, fun _ => rfl, Nat.le_refl _, fun _ => Nat.le_refl _, fun h => (by cases h)⟩, trivial⟩ (fun _ _ => ⟨rfl, rfl, rfl, trivial⟩) (fun x hx => ?_)
  obtain ⟨D, c⟩ := x
  have h1 := cnt_f D c 2 hx.ok (hx.bound (by decide) (by decide)) ((hx.cnt one_sem).trans one_cnt)
  have hs : getS D = fun p => if 0 = p then 3 else 0 := funext fun p => (hx.sem p).trans (one_sem p)
  have h2 := has_f D c 31 (by decide) true (by rw [hs]; decide)
  have h3 := has_f D c 32 (by decide) false (by rw [hs]; decide)
  repeat' ((try (conv => whnf)); first
    | refine IfL.t rfl ?_
    | refine Spec.fn h1 [2] rfl rfl (fun _ => rfl) rfl ⟨⟨by decide, rfl, _, rfl, fun _ _ _ h => h⟩, trivial⟩ (fun _ _ => ⟨rfl, rfl, ⟨_, rfl, rfl, rfl⟩, trivial⟩) (fun x hx => ?_)
    | refine Spec.fn h2 [2] rfl rfl (fun _ => rfl) rfl ⟨⟨by decide, rfl, _, rfl, fun _ _ _ h => h⟩, trivial⟩ (fun _ _ => ⟨rfl, rfl, ⟨_, rfl, rfl, rfl⟩, trivial⟩) (fun x hx => ?_)
    | refine Spec.fn h3 [2] rfl rfl (fun _ => rfl) rfl ⟨⟨by decide, rfl, _, rfl, fun _ _ _ h => h⟩, trivial⟩ (fun _ _ => ⟨rfl, rfl, ⟨_, rfl, rfl, rfl⟩, trivial⟩) (fun x hx => ?_)
    | refine Spec.pure ncount_ok rfl rfl (fun _ => rfl) ?_
    | (intro ρ
       rfl))
end Go.Sh.Ytkopfaenfaelfaa
