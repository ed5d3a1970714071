import Derived.Test.YtkopfaenfaelfaaSh17
/- Leaves that come often: equality, loops with names of their own. -/
set_option linter.unusedVariables false
namespace Go.Sh
open Go.RowKit

structure VL (P : Program) (o : Oper) (F : Fr) (H : Hp) (K : SV → Prop) : Prop where
  out : ∃ v, K v ∧ VSem P o F H v

theorem VL.op {P : Program} {o : Oper} {F : Fr} {H : Hp} {u : Nat} {K : SV → Hp → Nat → Prop} (h : VL P o F H fun v => K v H u) : OpL P o F H u K := by
  obtain ⟨v, k, hv⟩ := h.out
  exact ⟨hv.op k⟩

def inTmps (o : Oper) (F : Fr) : Bool := F.all fun p => (tmpsOf o).contains p.1
theorem inTmps_out {o : Oper} {F : Fr} (h : inTmps o F = true) {t : Nat} {v : SV} (hv : look F t = some v) : t ∈ tmpsOf o := by
  have : (t, v) ∈ F := by
    clear h
    induction F with
    | nil => cases hv
    | cons p r ih =>
      obtain ⟨k, x⟩ := p
      rw [look_cons] at hv
      split at hv
      · rename_i e; subst e; injection hv with hv; subst hv; exact List.mem_cons_self
      · exact List.mem_cons_of_mem _ (ih hv)
  have := List.all_eq_true.1 h _ this
  simpa using this

theorem VL.qop {P : Program} {o : Oper} {F : Fr} {H : Hp} {u0 u : Nat} {K : Out → Prop} (hF : inTmps o F = true) (h : VL P o F H fun v => K (.old v)) : QOpL P o F H u0 u K := by
  obtain ⟨v, k, hv⟩ := h.out
  refine ⟨_, k, by simp, fun i so hi => (by cases hi), fun w0 O N ρ a w H2 next Q hb ha hl hs hn hk => ?_⟩
  obtain ⟨h1, h2⟩ := hv w0 O N ρ a w H2 (fun t v hv => ha t (inTmps_out hF hv) v hv) hl hs
  unfold Oper.wp
  rw [h1, Oper.upon_value]
  refine hk ρ w (fun _ _ => rfl) ?_ ?_
  · simp only [Out.m, Out.H, Ext_zero]; exact hs
  · simp only [Out.m, Out.v, Ext_zero]; exact h2

def eqK (P : Program) (tab : Tab) (o : Oper) (F : Fr) (k : SV → Prop) : Prop :=
  match o.op with
  | .binOp op t x y _ => evK F x fun vx => evK F y fun vy => (match vx, vy with
    | .agg xs, .agg ys => tabK tab t fun ti => (match ti.agg with
      | true => Needs (P.eqGuardType P.depth t = false) (match op with
        | .eql => eqTK P tab 8 t xs ys fun b => k (.bool b)
        | .neq => eqTK P tab 8 t xs ys fun b => k (.bool !b)
        | _ => False)
      | false => False)
    | _, _ => tabK tab t fun ti => (match ti.desc with
      | .bool => boolK vx fun a => boolK vy fun b => (match op with
        | .eql => k (.bool (a == b))
        | .neq => k (.bool !(a == b))
        | _ => False)
      | _ => False))
  | _ => False

theorem VL.eq {P : Program} {tab : Tab} (hP : TabOk P tab) {o : Oper} {F : Fr} {H : Hp} {K : SV → Prop} (h : eqK P tab o F K) : VL P o F H K := by
  unfold eqK at h
  split at h
  · rename_i op t x y yt ho
    obtain ⟨vx, h1, hx⟩ := evK_out h
    obtain ⟨vy, h2, hy⟩ := evK_out h1
    clear h h1
    split at h2
    · rename_i xs ys
      obtain ⟨ti, ht, h3⟩ := tabK_out hP h2
      clear h2
      split at h3
      · rename_i hag
        obtain ⟨hgd, h⟩ := (h3 : Needs _ _)
        have fin : ∀ b, EqS P 8 t xs ys b → ∀ w ρ, (Op.equalIn 10000 t (.agg (SV.vals ρ xs).toArray) (.agg (SV.vals ρ ys).toArray)).run P w = .ok b w := fun b hb w ρ => by
          have := (hb ti ht).2 w ρ 10000 (by omega)
          rw [hag] at this
          exact this
        cases op <;> first | exact h.elim | skip
        · obtain ⟨b, k, hb⟩ := eqTK_out hP _ _ _ _ _ h
          refine ⟨_, k, fun w0 O N ρ a w H2 ha hl hs => ⟨?_, trivial⟩⟩
          have e1 : a.eval x = .agg (SV.vals ρ xs).toArray := (hx _ ρ a ha).1
          have e2 : a.eval y = .agg (SV.vals ρ ys).toArray := (hy _ ρ a ha).1
          simp only [execOp, ho, e1, e2, SV.val, Sem.run_bind, run_eqGuard_agg w _ t x y _ _ hgd, Result.andThen_ok, run_eql_struct, fin b hb, Sem.run_pure]
        · obtain ⟨b, k, hb⟩ := eqTK_out hP _ _ _ _ _ h
          refine ⟨_, k, fun w0 O N ρ a w H2 ha hl hs => ⟨?_, trivial⟩⟩
          have e1 : a.eval x = .agg (SV.vals ρ xs).toArray := (hx _ ρ a ha).1
          have e2 : a.eval y = .agg (SV.vals ρ ys).toArray := (hy _ ρ a ha).1
          simp only [execOp, ho, e1, e2, SV.val, Sem.run_bind, run_eqGuard_agg w _ t x y _ _ hgd, Result.andThen_ok, run_neq_struct, fin b hb, Sem.run_pure]
      · exact h3.elim
    · obtain ⟨ti, ht, h3⟩ := tabK_out hP h2
      clear h2
      have hu := ht.und
      split at h3
      · rename_i hd
        rw [hd] at hu
        obtain ⟨a, h4, hxa⟩ := boolK_out h3
        obtain ⟨b, h5, hyb⟩ := boolK_out h4
        clear h3 h4
        have eg : ∀ (op : BinOp) (a b : Bool), eqGuard op t x y (.bool a) (.bool b) = pure () := fun op a b => by cases op <;> rfl
        have ee : ∀ w, (Op.equal t (.bool a) (.bool b)).run P w = .ok (a == b) w := fun w => by
          unfold Op.equal Op.maxDepth
          rw [Op.equalIn]
          simp [run_underlying hu]
        cases op <;> first | exact h5.elim | skip
        · refine ⟨_, h5, fun w0 O N ρ a' w H2 ha hl hs => ⟨?_, trivial⟩⟩
          have e1 : a'.eval x = .bool a := ((hx _ ρ a' ha).1).trans (hxa ρ)
          have e2 : a'.eval y = .bool b := ((hy _ ρ a' ha).1).trans (hyb ρ)
          simp only [execOp, ho, e1, e2, SV.val, Sem.run_bind, eg, binOp, ee, Result.andThen_ok, Sem.run_pure]
        · refine ⟨_, h5, fun w0 O N ρ a' w H2 ha hl hs => ⟨?_, trivial⟩⟩
          have e1 : a'.eval x = .bool a := ((hx _ ρ a' ha).1).trans (hxa ρ)
          have e2 : a'.eval y = .bool b := ((hy _ ρ a' ha).1).trans (hyb ρ)
          simp only [execOp, ho, e1, e2, SV.val, Sem.run_bind, eg, binOp, ee, Result.andThen_ok, Sem.run_pure]
      · exact h3.elim
  · exact h.elim

theorem IfL.t {b : Bool} {A B : Prop} (h : b = true) (k : A) : IfL b A B := ⟨fun _ => k, fun e => by rw [h] at e; cases e⟩
theorem IfL.f {b : Bool} {A B : Prop} (h : b = false) (k : B) : IfL b A B := ⟨fun e => (by rw [h] at e; cases e), fun _ => k⟩

/-! ### Loops with names of their own -/
/-- The frame of the head, out of that at the round's end: its names lie, by τ, in the names there. -/
def subFv (τ : Nat → Nat × Nat) : Fr → Fr → Prop
  | [], _ => True
  | (t, v) :: r, F => (∃ v', look F t = some v' ∧ ∀ ρ, v.val (via ρ τ) = v'.val ρ) ∧ subFv τ r F
theorem subFv_out {τ : Nat → Nat × Nat} : ∀ {F1 F : Fr}, subFv τ F1 F → ∀ t v, look F1 t = some v → ∃ v', look F t = some v' ∧ ∀ ρ, v.val (via ρ τ) = v'.val ρ
  | [], F, _, t, v, h => by cases h
  | (k, x) :: r, F, h, t, v, hv => by
    rw [look_cons] at hv
    split at hv
    · rename_i e; subst e; injection hv with hv; subst hv; exact h.1
    · exact subFv_out h.2 t v hv

theorem St.named {n : Nat} {w0 : World} {O : Nat → Nat → Prop} {u u1 : Nat} {ρ : Env} {F F1 : Fr} {H H1 : Hp} {a : Act} {w : World} (h : St n w0 O u ρ F H a w) (τ : Nat → Nat × Nat) (hF : subFv τ F1 F) (p : Part H1 u1 τ H) (wF : wfF u1 F1 = true) :
    St n w0 O u1 (via ρ τ) F1 H1 a w :=
  ⟨h.size, h.defers, fun t v hv => by
    obtain ⟨v', h1, h2⟩ := subFv_out hF t v hv
    exact ⟨by rw [(h.fr t v' h1).1, h2], wfF_out wF t v hv⟩, p.sat0 h.sat⟩

/-- A LOOP whose head has names of its own: u ≤ i < u1. -/
theorem CodeL.loopN {P : Program} {tab : Tab} (hP : TabOk P tab) {n : Nat} {body : Code} {F : Fr} {H : Hp} {u : Nat} {Q : SE → Fr → Hp → Nat → Prop} {ι : Type} (u1 : Nat) (hu1 : u ≤ u1) (I : ι → Fr × Hp) (μ : ι → Nat) (C : ι → Prop) (hd : okd n body = true)
    (wf : ∀ i, wfF u1 (I i).1 = true) (i0 : ι) (c0 : C i0) (τ0 : Nat → Nat × Nat) (hτ0 : ∀ k, k < u → τ0 k = (k, 0)) (h0 : subFv τ0 (I i0).1 F ∧ Part (I i0).2 u1 τ0 H)
    (round : ∀ i, C i → swp P tab n body (I i).1 (I i).2 u1 (thenK Q fun F' H' _ => ∃ j τ, C j ∧ μ j < μ i ∧ (∀ k, k < u → τ k = (k, 0)) ∧ subFv τ (I j).1 F' ∧ Part (I j).2 u1 τ H')) : CodeL P n (.loop body) F H u Q := by
  refine ⟨fun w0 O ρ a w hs => ?_⟩
  have same : ∀ (ρ : Env) (τ : Nat → Nat × Nat), (∀ k, k < u → τ k = (k, 0)) → ∀ k, k < u → via ρ τ k = ρ k := fun ρ τ h k hk => by simp [via, h k hk]
  refine wp_loop_ghost (fun m a w => ∃ i ρ1, C i ∧ μ i = m ∧ (∀ k, k < u → ρ1 k = ρ k) ∧ St n w0 O u1 ρ1 (I i).1 (I i).2 a w) (μ i0) ⟨i0, via ρ τ0, c0, rfl, same ρ τ0 hτ0, hs.named τ0 h0.1 h0.2 (wf i0)⟩ ?_
  rintro m a w ⟨i, ρ1, ci, rfl, hρ, hst⟩
  refine wp_mono (swp_sound hP body (round i ci) hd w0 O ρ1 a w hst) ?_
  rintro e a' w' ⟨se, F', H', u', ρ', h1, h2, h3, h4, h5⟩
  have hlt : ∀ k, k < u → ρ' k = ρ k := fun k hk => (h3 k (Nat.lt_of_lt_of_le hk hu1)).trans (hρ k hk)
  cases e with
  | normal =>
    injection h1 with h1; subst h1
    obtain ⟨j, τ, cj, hm, hτ, hF, hH⟩ := h5
    exact ⟨μ j, hm, j, via ρ' τ, cj, rfl, fun k hk => (same ρ' τ hτ k hk).trans (hlt k hk), h4.named τ hF hH (wf j)⟩
  | exit id => injection h1 with h1; subst h1; exact ⟨_, F', H', u', ρ', rfl, Nat.le_trans hu1 h2, hlt, h4, h5⟩
  | ret => injection h1 with h1; subst h1; exact ⟨_, F', H', u', ρ', rfl, Nat.le_trans hu1 h2, hlt, h4, h5⟩
  | goto l => cases h1
  | panic c => cases h1
  | outgrown => cases h1

end Go.Sh
