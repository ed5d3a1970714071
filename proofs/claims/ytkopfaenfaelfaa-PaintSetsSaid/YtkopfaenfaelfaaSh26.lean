import Derived.Test.YtkopfaenfaelfaaSh25
/- An empty row, ahead of a loop; a call that lays one row. -/
set_option linter.unusedVariables false
namespace Go.Sh
open Go.RowKit

theorem CodeL.ghost {P : Program} {n : Nat} {c : Code} {F : Fr} {H : Hp} {u : Nat} {Q : SE → Fr → Hp → Nat → Prop} (h : CodeL P n c F ((u, .vec [] 0) :: H) (u + 1) Q) : CodeL P n c F H u Q := by
  refine ⟨fun w0 O ρ a w hs => ?_⟩
  have hs' : St n w0 O (u + 1) (upd ρ u (0, 0)) F ((u, .vec [] 0) :: H) a w := ⟨hs.size, hs.defers, hs.fr.move (fun i hi => Nat.lt_succ_of_lt hi) (agree_upd ρ u _), hs.sat.emptyRow (0, 0)⟩
  exact wp_mono (h.sem w0 O _ a w hs') fun e a w p => p.base (Nat.le_succ u) (agree_upd ρ u _)

/-- A loop whose head has names of its own, u ≤ i < u1; ahead of it the name u leads to an empty row. -/
theorem CodeL.loopG {P : Program} {tab : Tab} (hP : TabOk P tab) {n : Nat} {body : Code} {F : Fr} {H : Hp} {u : Nat} {Q : SE → Fr → Hp → Nat → Prop} {ι : Type} (u1 : Nat) (hu1 : u ≤ u1) (I : ι → Fr × Hp) (μ : ι → Nat) (C : ι → Prop) (hd : okd n body = true)
    (wf : ∀ i, wfF u1 (I i).1 = true) (i0 : ι) (c0 : C i0) (τ0 : Nat → Nat × Nat) (hτ0 : ∀ k, k < u → τ0 k = (k, 0)) (h0 : subFv τ0 (I i0).1 F ∧ Part (I i0).2 u1 τ0 ((u, .vec [] 0) :: H))
    (round : ∀ i, C i → swp P tab n body (I i).1 (I i).2 u1 (thenK Q fun F' H' _ => ∃ j τ, C j ∧ μ j < μ i ∧ (∀ k, k < u → τ k = (k, 0)) ∧ subFv τ (I j).1 F' ∧ Part (I j).2 u1 τ H')) : CodeL P n (.loop body) F H u Q := by
  refine ⟨fun w0 O ρ a w hs => ?_⟩
  have same : ∀ (ρ : Env) (τ : Nat → Nat × Nat), (∀ k, k < u → τ k = (k, 0)) → ∀ k, k < u → via ρ τ k = ρ k := fun ρ τ h k hk => by simp [via, h k hk]
  have hs' : St n w0 O (u + 1) (upd ρ u (0, 0)) F ((u, .vec [] 0) :: H) a w := ⟨hs.size, hs.defers, hs.fr.move (fun i hi => Nat.lt_succ_of_lt hi) (agree_upd ρ u _), hs.sat.emptyRow (0, 0)⟩
  refine wp_loop_ghost (fun m a w => ∃ i ρ1, C i ∧ μ i = m ∧ (∀ k, k < u → ρ1 k = ρ k) ∧ St n w0 O u1 ρ1 (I i).1 (I i).2 a w) (μ i0) ⟨i0, via (upd ρ u (0, 0)) τ0, c0, rfl, fun k hk => (same _ τ0 hτ0 k hk).trans (agree_upd ρ u _ k hk), hs'.named τ0 h0.1 h0.2 (wf i0)⟩ ?_
  rintro m a w ⟨i, ρ1, ci, rfl, hρ, hst⟩
  refine wp_mono (swp_sound hP body (round i ci) hd w0 O ρ1 a w hst) ?_
  rintro e a' w' ⟨se, F', H', u', ρ', h1, h2, h3, h4, h5⟩
  have hlt : ∀ k, k < u → ρ' k = ρ k := fun k hk => (h3 k (Nat.lt_of_lt_of_le hk hu1)).trans (hρ k hk)
  cases e with
  | normal =>
    injection h1 with h1; subst h1
    obtain ⟨j, τ, cj, hm, hτ, hF, hH⟩ := h5
    exact ⟨μ j, hm, j, via ρ' τ, cj, rfl, fun k hk => (same ρ' τ hτ k hk).trans (hlt k hk), h4.named τ hF hH (wf j)⟩
  | exit id => injection h1 with h1; subst h1; exact ⟨_, F', H', u', ρ', rfl, Nat.le_trans hu1 h2, hlt, h4, h5⟩
  | ret => injection h1 with h1; subst h1; exact ⟨_, F', H', u', ρ', rfl, Nat.le_trans hu1 h2, hlt, h4, h5⟩
  | goto l => cases h1
  | panic c => cases h1
  | outgrown => cases h1

/-- An empty row, ahead of a call. -/
theorem Spec.ghost {P : Program} {g : FuncId} {args : List SV} {H : Hp} {u : Nat} {K : SV → Hp → Nat → Prop} (h : Spec P g args ((u, .vec [] 0) :: H) (u + 1) K) : Spec P g args H u K := by
  refine ⟨h.ent, fun w0 O ρ w hs hin => ?_⟩
  have := h.sem w0 O (upd ρ u (0, 0)) w (hs.emptyRow (0, 0)) (SV.Ins.mono (fun i hi => Nat.lt_succ_of_lt hi) _ hin)
  rw [SV.vals_agree (N := (· < u)) (agree_upd ρ u _) args hin] at this
  refine this.mono ?_
  rintro e w' ⟨v, H', u', ρ', h1, h2, h3, h4, h5, h6⟩
  exact ⟨v, H', u', ρ', h1, by omega, fun i hi => (h3 i (Nat.lt_succ_of_lt hi)).trans (agree_upd ρ u _ i hi), h4, h5, h6⟩

/-- Behind a piece of code frame and heap are told anew. -/
theorem CodeL.cut {P : Program} {n : Nat} {c : Code} {F : Fr} {H : Hp} {u : Nat} {Q : SE → Fr → Hp → Nat → Prop} {ι : Type} (u1 : Nat) (hu1 : u ≤ u1) (I : ι → Fr × Hp) (R : ι → Prop) (wf : ∀ x, wfF u1 (I x).1 = true)
    (h : CodeL P n c F H u fun e F' H' _ => match e with | .normal => ∃ x τ, R x ∧ (∀ k, k < u → τ k = (k, 0)) ∧ subFv τ (I x).1 F' ∧ Part (I x).2 u1 τ H' | _ => False) (k : ∀ x, R x → Q .normal (I x).1 (I x).2 u1) : CodeL P n c F H u Q := by
  refine ⟨fun w0 O ρ a w hs => wp_mono (h.sem w0 O ρ a w hs) ?_⟩
  rintro e a' w' ⟨se, F', H', u', ρ', h1, h2, h3, h4, h5⟩
  cases se with
  | normal =>
    obtain ⟨x, τ, hR, hτ, hF, hH⟩ := h5
    exact ⟨.normal, (I x).1, (I x).2, u1, via ρ' τ, h1, hu1, fun i hi => by simp [via, hτ i hi, h3 i hi], h4.named τ hF hH (wf x), k x hR⟩
  | exit id => exact False.elim h5
  | ret => exact False.elim h5

/-- Of a slice: its room, and that it is nil only where there is none. -/
def okS (len : Nat) (x : Bool × Nat) : Prop := len ≤ x.2 ∧ (x.1 = true → x.2 = 0)
def nthP : List (Nat × Nat) → Nat → Nat × Nat
  | [], _ => (0, 0)
  | a :: r, i => match i with | 0 => a | i + 1 => nthP r i
theorem nthP_fst : ∀ (l : List (Nat × Nat)) (i : Nat), (nthP l i).1 = nthD (l.map (·.1)) i
  | [], i => rfl
  | a :: r, 0 => rfl
  | a :: r, i + 1 => nthP_fst r i

/-- A call that lays one row, whole. -/
theorem Spec.row {P : Program} {f : FuncId} {args args0 : List SV} {H : Hp} {u t : Nat} {K : SV → Hp → Nat → Prop} {cs cs' : List Value} {r : SV} {sc : SO}
    (h : Spec P f args0 [(0, .row cs)] 1 fun v H' _ => (∀ ρ, v.val ρ = r.val ρ) ∧ subH [(0, .row cs')] H') (ht : look H t = some sc) (hsv : ∀ ρ, sc.vals ρ = cs) (hsl : sc.len = cs.length) (hsw : sc.wr = true) (hlen : cs'.length = cs.length) (hr : r.ok 0 = true)
    (ha : ∀ ρ, SV.vals ρ args = SV.vals (via ρ (nthP [(t, 0)])) args0) (hin : SV.oks 1 args0 = true) (k : K r ((t, .row cs') :: H) u) : Spec P f args H u K := by
  refine Spec.frame (nthP [(t, 0)]) (H0 := [(0, .row cs)]) (H1 := [(0, .row cs')]) (H2 := (t, .row cs') :: H) h ha hin ⟨fun i so hi => ?_, fun i j si sj hi hj hij => ?_, fun i es c hi => (by
    rw [look_cons] at hi
    split at hi
    · injection hi with hi; cases hi
    · cases hi)⟩ hr (fun k s2 hk => ?_) rfl k
  · rw [look_cons] at hi
    split at hi
    · rename_i e; subst e; injection hi with hi; subst hi
      exact ⟨by decide, trivial, sc, ht, fun ρ j v hj => by rw [hsv]; show cs[0 + j]? = some v; rw [Nat.zero_add]; exact hj, by rw [hsl]; show 0 + cs.length ≤ cs.length; omega, fun _ => Nat.le_refl _, fun _ => hsw⟩
    · cases hi
  · rw [look_cons] at hi hj
    split at hi
    · split at hj
      · omega
      · cases hj
    · cases hi
  · rw [look_cons] at hk
    split at hk
    · rename_i e
      subst e
      injection hk with hk
      subst hk
      refine .laid 0 (.row cs) (.row cs') sc rfl (look_same _ _ _) rfl ht hsw rfl (by rw [hsl]; exact hlen) rfl (fun ρ => ⟨hlen, hlen, ?_⟩) (fun ρ => by rw [hsv, hsl]) rfl
      rw [hsv]
      show cs' = setRange cs 0 cs'
      simp only [setRange, List.take_zero, List.nil_append, Nat.zero_add]
      rw [List.drop_eq_nil_of_le (by omega), List.append_nil]
    · rename_i e
      refine .far hk fun i so hi hw => ?_
      rw [look_cons] at hi
      split at hi
      · rename_i e'; subst e'; exact e
      · cases hi
end Go.Sh
