import Derived.Test.YtkopfaenfaelfaaSh10
import Derived.Deep.LoopGhost
/- A function out of its body; loops; conditions. -/
set_option linter.unusedVariables false
namespace Go.Sh
open Go.RowKit

/-! ### Results -/
def oneRes : List SV → SV
  | [] => .tup []
  | [v] => v
  | a :: b :: r => .tup (a :: b :: r)

abbrev ResT := (List SV → Prop) → Prop
def resC (tab : Tab) (F : Fr) (H : Hp) (rv : ResultVar) (ih : ResT) : ResT := fun k => match rv with
  | .tmp t => (match look F t with | some v => ih fun l => k (v :: l) | none => False)
  | .cell t ty => (match look F t with
    | some v => tabK tab ty fun ti => ptrK v
      (fun i off => match look H i with
        | some (.cells cs) => (match ti.agg with | true => takeK cs off ti.size fun l => ih fun l' => k (.agg l :: l') | false => nthK cs off fun v => ih fun l' => k (v :: l'))
        | some (.row cs) => LoadL cs off ti.size ti.agg fun v => ih fun l' => k (v :: l')
        | _ => False)
      (fun _ _ => False)
    | none => False)
def resK (tab : Tab) (F : Fr) (H : Hp) (rs : List ResultVar) : ResT :=
  List.rec (motive := fun _ => ResT) (fun k => k []) (fun rv _ ih => resC tab F H rv ih) rs
theorem resK_tmp (tab : Tab) (F : Fr) (H : Hp) (t : Nat) (r : List ResultVar) (k : List SV → Prop) : resK tab F H (.tmp t :: r) k = (match look F t with | some v => resK tab F H r fun l => k (v :: l) | none => False) := rfl
theorem resK_cell (tab : Tab) (F : Fr) (H : Hp) (t : Nat) (ty : TypeId) (r : List ResultVar) (k : List SV → Prop) : resK tab F H (.cell t ty :: r) k = (match look F t with
    | some v => tabK tab ty fun ti => ptrK v
      (fun i off => match look H i with
        | some (.cells cs) => (match ti.agg with | true => takeK cs off ti.size fun l => resK tab F H r fun l' => k (.agg l :: l') | false => nthK cs off fun v => resK tab F H r fun l' => k (v :: l'))
        | some (.row cs) => LoadL cs off ti.size ti.agg fun v => resK tab F H r fun l' => k (v :: l')
        | _ => False)
      (fun _ _ => False)
    | none => False) := rfl

theorem run_loadVar {P : Program} {t : TypeId} {ti : TI} (ht : TIok P t ti) (w : World) (ad : Addr) : (loadVar t ad).run P w = if ti.agg = true then ((loadCells ad ti.size).run P w).andThen fun cs w' => .ok (.agg cs) w' else (Go.load ad).run P w := by
  simp only [loadVar, Sem.run_bind, ht.run_agg, Result.andThen_ok]
  cases h : ti.agg
  · simp
  · simp [ht.run_size]

def resOne (tmps : Array Value) : ResultVar → Sem Value
  | .tmp t => pure (tmps.getD t undef)
  | .cell b t => do loadVar t (← asAddr (tmps.getD b undef))
theorem results_eq (fn : Func) (tmps : Array Value) : results fn tmps = (do let vs ← fn.results.mapM (resOne tmps); pure (if h : vs.size = 1 then vs[0] else .tuple vs)) := by
  unfold results
  congr 2

theorem resK_out {P : Program} {tab : Tab} (hP : TabOk P tab) {F : Fr} {H : Hp} : ∀ {rs : List ResultVar} {k : List SV → Prop}, resK tab F H rs k → ∃ l, k l ∧ l.length = rs.length ∧
    ∀ {n w0 O u ρ a w}, St n w0 O u ρ F H a w → SV.Ins (· < u) l ∧ (rs.mapM (resOne a.tmps)).run P w = .ok (SV.vals ρ l) w
  | [], k, h => ⟨[], h, rfl, fun _ => ⟨trivial, by simp [SV.vals]⟩⟩
  | .tmp t :: r, k, h => by
    cases hl : look F t with
    | none => rw [resK_tmp, hl] at h; exact h.elim
    | some v =>
      rw [resK_tmp, hl] at h
      obtain ⟨l, h1, h2, h3⟩ := resK_out hP h
      refine ⟨v :: l, h1, by simp [h2], fun hs => ?_⟩
      obtain ⟨g1, g2⟩ := h3 hs
      refine ⟨⟨(hs.fr t v hl).2, g1⟩, ?_⟩
      rw [List.mapM_cons]
      simp only [resOne, Sem.run_bind, Sem.run_pure, Result.andThen_ok, g2, hs.fr.at hl, SV.vals]
  | .cell t ty :: r, k, h => by
    cases hl : look F t with
    | none => rw [resK_cell, hl] at h; exact h.elim
    | some v =>
      rw [resK_cell, hl] at h
      obtain ⟨ti, ht, h1⟩ := tabK_out hP h
      obtain ⟨i, off, ⟨rfl, g⟩ | ⟨rfl, g⟩⟩ := ptrK_out h1
      · cases hi : look H i with
        | none => rw [hi] at g; exact g.elim
        | some so =>
          rw [hi] at g
          have fin : ∀ (v : SV) (g : resK tab F H r fun l' => k (v :: l')) (hv : ∀ {n w0 O u ρ a w}, St n w0 O u ρ F H a w → v.In (· < u) ∧ (loadVar ty ⟨(ρ i).1, (ρ i).2 + off, none⟩).run P w = .ok (v.val ρ) w), ∃ l, k l ∧ l.length = (ResultVar.cell t ty :: r).length ∧
              ∀ {n w0 O u ρ a w}, St n w0 O u ρ F H a w → SV.Ins (· < u) l ∧ ((ResultVar.cell t ty :: r).mapM (resOne a.tmps)).run P w = .ok (SV.vals ρ l) w := by
            intro v g hv
            obtain ⟨l, q1, q2, q3⟩ := resK_out hP g
            refine ⟨v :: l, q1, by simp [q2], fun hs => ?_⟩
            obtain ⟨g1, g2⟩ := q3 hs
            obtain ⟨g3, g4⟩ := hv hs
            refine ⟨⟨g3, g1⟩, ?_⟩
            rw [List.mapM_cons]
            simp only [resOne, Sem.run_bind, hs.fr.at hl, SV.val, asAddr, Sem.run_pure, Result.andThen_ok, g4, g2, SV.vals]
          cases so with
          | cells cs =>
            cases hag : ti.agg
            · simp only [hag] at g
              obtain ⟨x, q1, q2⟩ := nthK_out g
              refine fin x q2 fun {n w0 O u ρ a w} hs => ⟨In_get (hs.sat.dom i _ hi).2.1 q1, ?_⟩
              rw [run_loadVar ht, hag]
              simp only [Bool.false_eq_true, if_false]
              exact hs.sat.run_load hi (v := x.val ρ) (by simp [SO.vals, SV.vals_eq, q1])
            · simp only [hag] at g
              obtain ⟨q1, q2⟩ := takeK_out g
              refine fin _ q2 fun {n w0 O u ρ a w} hs => ⟨In_agg (Ins_take (hs.sat.dom i _ hi).2.1 _ _), ?_⟩
              rw [run_loadVar ht, hag]
              simp only [if_true]
              rw [hs.sat.run_cells hi (by simpa [SO.vals, SV.vals_length] using q1)]
              simp [SV.val, SO.vals, SV.vals_eq]
          | row cs =>
            obtain ⟨x, q, hcl, hx⟩ := (g : LoadL cs off ti.size ti.agg _).out
            refine fin x q fun {n w0 O u ρ a w} hs => ⟨closed_In hcl _, ?_⟩
            rw [run_loadVar ht]
            cases hag : ti.agg
            · simp only [hag] at hx
              simp only [Bool.false_eq_true, if_false]
              rw [closed_val hcl ρ]
              exact hs.sat.run_load hi hx
            · simp only [hag] at hx
              obtain ⟨h1, arr, h2, h3⟩ := hx
              simp only [if_true]
              rw [hs.sat.run_cells hi h1, closed_val hcl ρ, h2]
              simp [SO.vals, ← h3]
          | view cs => exact g.elim
          | vec cs c => exact g.elim
          | dict es c => exact g.elim
      · exact g.elim

/-! ### A function -/
def enumF : Nat → List SV → Fr
  | _, [] => []
  | i, v :: r => (i, v) :: enumF (i + 1) r

theorem look_enumF : ∀ (l : List SV) (i t : Nat), look (enumF i l) t = if t < i then none else l[t - i]?
  | [], i, t => by simp [enumF, look]
  | v :: r, i, t => by
    rw [enumF, look_cons, look_enumF r (i + 1) t]
    by_cases h : i = t
    · subst h; simp
    · rw [if_neg h]
      by_cases h2 : t < i
      · rw [if_pos h2, if_pos (by omega)]
      · rw [if_neg h2, if_neg (by omega), show t - i = (t - (i + 1)) + 1 from by omega, List.getElem?_cons_succ]

def retK (tab : Tab) (rs : List ResultVar) (K : SV → Hp → Nat → Prop) : SE → Fr → Hp → Nat → Prop
  | .normal, F, H, u => resK tab F H rs fun l => K (oneRes l) H u
  | .ret, F, H, u => resK tab F H rs fun l => K (oneRes l) H u
  | .exit _, _, _, _ => False

theorem run_results {P : Program} {fn : Func} {tmps : Array Value} {w : World} {l : List Value} (h : (fn.results.toList.mapM (resOne tmps)).run P w = .ok l w) : (results fn tmps).run P w = .ok (match l with | [v] => v | l => .tuple l.toArray) w := by
  rw [results_eq]
  have h' : (fn.results.mapM (resOne tmps)).run P w = .ok l.toArray w := by
    rw [← Array.toList_mapM] at h
    simp only [Sem.run_map] at h
    generalize (fn.results.mapM (resOne tmps)).run P w = r at h ⊢
    cases r with
    | ok x w' =>
      simp only [Result.andThen_ok, Result.ok.injEq] at h
      rw [← h.1, h.2]
    | halt e w' => simp at h
  simp only [Sem.run_bind, h', Result.andThen_ok, Sem.run_pure]
  match l with
  | [] => rfl
  | [v] => rfl
  | a :: b :: r => simp

theorem Spec.of_body {P : Program} {tab : Tab} (hP : TabOk P tab) {g : FuncId} {fn : Func} {c : Code} (hf : P.funcs[g]? = some fn) (hb : fn.body = some c) (ent : ∀ args w, (callFunc g args).run P w = .ok (.enter g args) w) {n : Nat} (hn : fn.ntmps = n)
    {rs : List ResultVar} (hrs : fn.results.toList = rs) (hd : okd n c = true) {args : List SV} (hl : args.length ≤ n) {H : Hp} {u : Nat} {K : SV → Hp → Nat → Prop} (h : swp P tab n c (enumF 0 args) H u (retK tab rs K)) : Spec P g args H u K := by
  refine ⟨ent, fun w0 O ρ w hs hin => calls_of_wp hf hb ?_⟩
  subst hn hrs
  have hst : St fn.ntmps w0 O u ρ (enumF 0 args) H { tmps := (SV.vals ρ args).toArray ++ Array.replicate (fn.ntmps - (SV.vals ρ args).toArray.size) undef, defers := [] } w := by
    refine ⟨by simp [SV.vals_length]; omega, rfl, fun t v hv => ?_, hs⟩
    rw [look_enumF] at hv
    simp only [Nat.not_lt_zero, if_false, Nat.sub_zero] at hv
    have hlt : t < args.length := (List.getElem?_eq_some_iff.1 hv).1
    refine ⟨?_, In_get hin hv⟩
    rw [Array.getElem?_append_left (by simpa [SV.vals_length] using hlt)]
    simp [SV.vals_eq, hv]
  refine wp_mono (swp_sound hP c h hd w0 O ρ _ w hst) ?_
  rintro e a' w' ⟨se, F', H', u', ρ', h1, h2, h3, h4, h5⟩
  have fin : ∀ (g : resK tab F' H' fn.results.toList fun l => K (oneRes l) H' u'), a'.defers = [] ∧ ∃ v, (results fn a'.tmps).run P w' = .ok v w' ∧ ∃ v' H' u' ρ', Ending.returned v = .returned (v'.val ρ') ∧ u ≤ u' ∧ (∀ i, i < u → ρ' i = ρ i) ∧ v'.In (· < u') ∧ Sat w0 O (· < u') ρ' H' w' ∧ K v' H' u' := by
    intro g
    obtain ⟨l, q1, q2, q3⟩ := resK_out hP g
    obtain ⟨q4, q5⟩ := q3 h4
    refine ⟨h4.defers, _, run_results q5, oneRes l, H', u', ρ', ?_, h2, h3, ?_, h4.sat, q1⟩
    · match l with
      | [] => rfl
      | [v] => rfl
      | a :: b :: r => rfl
    · match l, q4 with
      | [], q4 => exact trivial
      | [v], q4 => exact q4.1
      | a :: b :: r, q4 => rw [oneRes, SV.In]; exact q4
      
  cases e with
  | normal => injection h1 with h1; subst h1; exact fin h5
  | ret => injection h1 with h1; subst h1; exact fin h5
  | exit id => injection h1 with h1; subst h1; exact False.elim h5
  | goto l => cases h1
  | panic c => cases h1
  | outgrown => cases h1

/-! ### Loops -/
def subF : Fr → Fr → Prop
  | [], _ => True
  | (t, v) :: r, F => look F t = some v ∧ subF r F
theorem subF_out : ∀ {F1 F : Fr}, subF F1 F → ∀ t v, look F1 t = some v → look F t = some v
  | [], F, _, t, v, h => by cases h
  | (k, x) :: r, F, h, t, v, hv => by
    rw [look_cons] at hv
    split at hv
    · rename_i e; subst e; injection hv with hv; subst hv; exact h.1
    · exact subF_out h.2 t v hv
def subH : Hp → Hp → Prop
  | [], _ => True
  | (t, v) :: r, H => look H t = some v ∧ subH r H
theorem subH_out : ∀ {H1 H : Hp}, subH H1 H → ∀ t v, look H1 t = some v → look H t = some v
  | [], H, _, t, v, h => by cases h
  | (k, x) :: r, H, h, t, v, hv => by
    rw [look_cons] at hv
    split at hv
    · rename_i e; subst e; injection hv with hv; subst hv; exact h.1
    · exact subH_out h.2 t v hv

/-- Are the names below u? -/
def wfF (u : Nat) : Fr → Bool
  | [] => true
  | (_, v) :: r => v.ok u && wfF u r
def wfH (u : Nat) : Hp → Bool
  | [] => true
  | (i, so) :: r => Nat.blt i u && (so.ok u && wfH u r)
theorem wfF_out {u : Nat} : ∀ {F : Fr}, wfF u F = true → ∀ t v, look F t = some v → v.In (· < u)
  | [], _, t, v, h => by cases h
  | (k, x) :: r, h, t, v, hv => by
    rw [wfF, Bool.and_eq_true] at h
    rw [look_cons] at hv
    split at hv
    · injection hv with hv; subst hv; exact SV.In_of_ok _ h.1
    · exact wfF_out h.2 t v hv
theorem wfH_out {u : Nat} : ∀ {H : Hp}, wfH u H = true → ∀ i so, look H i = some so → i < u ∧ so.In (· < u)
  | [], _, t, v, h => by cases h
  | (k, x) :: r, h, t, v, hv => by
    rw [wfH, Bool.and_eq_true, Bool.and_eq_true] at h
    rw [look_cons] at hv
    split at hv
    · rename_i e; subst e; injection hv with hv; subst hv; exact ⟨by simpa using h.1, SO.In_of_ok h.2.1⟩
    · exact wfH_out h.2.2 t v hv

theorem St.weaken {n : Nat} {w0 : World} {O : Nat → Nat → Prop} {u u1 : Nat} {ρ : Env} {F F1 : Fr} {H H1 : Hp} {a : Act} {w : World} (h : St n w0 O u ρ F H a w) (hF : subF F1 F) (hH : subH H1 H) (wF : wfF u1 F1 = true) (wH : wfH u1 H1 = true) : St n w0 O u1 ρ F1 H1 a w :=
  ⟨h.size, h.defers, fun t v hv => ⟨(h.fr t v (subF_out hF t v hv)).1, wfF_out wF t v hv⟩, h.sat.weaken (subH_out hH) (wfH_out wH)⟩

/-- Forgetting, ahead of a piece of code. -/
theorem CodeSem.weaken {P : Program} {n : Nat} {c : Code} {F F1 : Fr} {H H1 : Hp} {u u1 : Nat} {Q : SE → Fr → Hp → Nat → Prop} (h : CodeSem P n c F1 H1 u1 Q) (hu : u ≤ u1) (hF : subF F1 F) (hH : subH H1 H) (wF : wfF u1 F1 = true) (wH : wfH u1 H1 = true) : CodeSem P n c F H u Q :=
  fun w0 O ρ a w hs => wp_mono (h w0 O ρ a w (hs.weaken hF hH wF wH)) fun e a w p => p.base hu (fun _ _ => rfl)

/-- A LOOP. 'I i': frame and heap at the head of a round (i: whatever tells the rounds apart); 'μ i' goes down. -/
theorem CodeL.loop {P : Program} {tab : Tab} (hP : TabOk P tab) {n : Nat} {body : Code} {F : Fr} {H : Hp} {u : Nat} {Q : SE → Fr → Hp → Nat → Prop} {ι : Type} (I : ι → Fr × Hp) (μ : ι → Nat) (C : ι → Prop) (hd : okd n body = true)
    (wf : ∀ i, wfF u (I i).1 = true ∧ wfH u (I i).2 = true) (i0 : ι) (c0 : C i0) (h0 : subF (I i0).1 F ∧ subH (I i0).2 H)
    (round : ∀ i, C i → swp P tab n body (I i).1 (I i).2 u (thenK Q fun F' H' _ => ∃ j, C j ∧ μ j < μ i ∧ subF (I j).1 F' ∧ subH (I j).2 H')) : CodeL P n (.loop body) F H u Q := by
  refine ⟨fun w0 O ρ a w hs => ?_⟩
  refine wp_loop_ghost (fun m a w => ∃ i ρ1, C i ∧ μ i = m ∧ (∀ k, k < u → ρ1 k = ρ k) ∧ St n w0 O u ρ1 (I i).1 (I i).2 a w) (μ i0) ⟨i0, ρ, c0, rfl, fun _ _ => rfl, hs.weaken h0.1 h0.2 (wf i0).1 (wf i0).2⟩ ?_
  rintro m a w ⟨i, ρ1, ci, rfl, hρ, hst⟩
  refine wp_mono (swp_sound hP body (round i ci) hd w0 O ρ1 a w hst) ?_
  rintro e a' w' ⟨se, F', H', u', ρ', h1, h2, h3, h4, h5⟩
  cases e with
  | normal =>
    injection h1 with h1; subst h1
    obtain ⟨j, cj, hm, hF, hH⟩ := h5
    exact ⟨μ j, hm, j, ρ', cj, rfl, fun k hk => (h3 k hk).trans (hρ k hk), h4.weaken hF hH (wf j).1 (wf j).2⟩
  | exit id => injection h1 with h1; subst h1; exact ⟨_, F', H', u', ρ', rfl, h2, fun k hk => (h3 k hk).trans (hρ k hk), h4, h5⟩
  | ret => injection h1 with h1; subst h1; exact ⟨_, F', H', u', ρ', rfl, h2, fun k hk => (h3 k hk).trans (hρ k hk), h4, h5⟩
  | goto l => cases h1
  | panic c => cases h1
  | outgrown => cases h1

end Go.Sh
