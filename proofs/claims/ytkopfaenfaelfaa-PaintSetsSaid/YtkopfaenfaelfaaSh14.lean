import Derived.Test.YtkopfaenfaelfaaSh13
import Derived.StillTail
/- Regions that draw their order: what is asked of each operation, the static look, and the theorem: the text's order serves all. -/
set_option linter.unusedVariables false
namespace Go.Sh
open Go.RowKit

/-! ### Names moved up -/
mutual
def SV.sh (u : Nat) : SV → SV
  | .ptr i o => .ptr (u + i) o
  | .ptrx i o => .ptrx (u + i) o
  | .slice i o l c => .slice (u + i) o l c
  | .slicen i o l j => .slicen (u + i) o l (u + j)
  | .slz b i o l c => .slz b (u + i) o l c
  | .map i => .map (u + i)
  | .func f cs => .func f (SV.shs u cs)
  | .agg cs => .agg (SV.shs u cs)
  | .tup cs => .tup (SV.shs u cs)
  | .tt => .tt | .ff => .ff | .bool b => .bool b | .int k n => .int k n | .nil => .nil | .nilSlice => .nilSlice | .nilMap => .nilMap | .nilFunc => .nilFunc | .raw v => .raw v | .undef => .undef
def SV.shs (u : Nat) : List SV → List SV
  | [] => []
  | v :: r => SV.sh u v :: SV.shs u r
end
def SO.sh (u : Nat) : SO → SO
  | .cells cs => .cells (SV.shs u cs)
  | so => so
def shH (u : Nat) : Hp → Hp
  | [] => []
  | (i, so) :: r => (u + i, so.sh u) :: shH u r

mutual
theorem SV.sh_val (u : Nat) (ρ : Env) : ∀ v : SV, (v.sh u).val ρ = v.val (fun i => ρ (u + i))
  | .ptr i o => rfl | .ptrx i o => rfl | .slice i o l c => rfl | .slicen i o l j => (by cases l <;> rfl) | .slz b i o l c => rfl | .map i => rfl
  | .func f cs => by rw [SV.sh, SV.val, SV.val, SV.shs_vals u ρ cs]
  | .agg cs => by rw [SV.sh, SV.val, SV.val, SV.shs_vals u ρ cs]
  | .tup cs => by rw [SV.sh, SV.val, SV.val, SV.shs_vals u ρ cs]
  | .tt => rfl | .ff => rfl | .bool b => rfl | .int k n => rfl | .nil => rfl | .nilSlice => rfl | .nilMap => rfl | .nilFunc => rfl | .raw v => rfl | .undef => rfl
theorem SV.shs_vals (u : Nat) (ρ : Env) : ∀ l : List SV, SV.vals ρ (SV.shs u l) = SV.vals (fun i => ρ (u + i)) l
  | [] => rfl
  | v :: r => by rw [SV.shs, SV.vals, SV.vals, SV.sh_val u ρ v, SV.shs_vals u ρ r]
end
mutual
theorem SV.sh_In (u : Nat) (N : Nat → Prop) : ∀ v : SV, (v.sh u).In N ↔ v.In (fun i => N (u + i))
  | .ptr i o => by simp [SV.sh, SV.In] | .ptrx i o => by simp [SV.sh, SV.In] | .slice i o l c => by simp [SV.sh, SV.In] | .slicen i o l j => by simp [SV.sh, SV.In] | .slz b i o l c => by simp [SV.sh, SV.In] | .map i => by simp [SV.sh, SV.In]
  | .func f cs => by rw [SV.sh, SV.In, SV.In, SV.shs_Ins u N cs]
  | .agg cs => by rw [SV.sh, SV.In, SV.In, SV.shs_Ins u N cs]
  | .tup cs => by rw [SV.sh, SV.In, SV.In, SV.shs_Ins u N cs]
  | .tt => Iff.rfl | .ff => Iff.rfl | .bool b => Iff.rfl | .int k n => Iff.rfl | .nil => Iff.rfl | .nilSlice => Iff.rfl | .nilMap => Iff.rfl | .nilFunc => Iff.rfl | .raw v => Iff.rfl | .undef => Iff.rfl
theorem SV.shs_Ins (u : Nat) (N : Nat → Prop) : ∀ l : List SV, SV.Ins N (SV.shs u l) ↔ SV.Ins (fun i => N (u + i)) l
  | [] => Iff.rfl
  | v :: r => by rw [SV.shs, SV.Ins, SV.Ins, SV.sh_In u N v, SV.shs_Ins u N r]
end
theorem SO.sh_vals (u : Nat) (ρ : Env) (so : SO) : (so.sh u).vals ρ = so.vals (fun i => ρ (u + i)) := by
  cases so <;> first | rfl | exact SV.shs_vals u ρ _
theorem SO.sh_In (u : Nat) (N : Nat → Prop) (so : SO) : (so.sh u).In N ↔ so.In (fun i => N (u + i)) := by
  cases so <;> first | exact Iff.rfl | exact SV.shs_Ins u N _
theorem SV.shs_length (u : Nat) : ∀ l : List SV, (SV.shs u l).length = l.length
  | [] => rfl
  | v :: r => by simp [SV.shs, SV.shs_length u r]
theorem SO.sh_len (u : Nat) (so : SO) : (so.sh u).len = so.len := by
  cases so <;> first | rfl | exact SV.shs_length u _
theorem SO.sh_wr (u : Nat) (so : SO) : (so.sh u).wr = so.wr := by cases so <;> rfl
theorem look_shH (u : Nat) : ∀ (H : Hp) (i : Nat), look (shH u H) i = if u ≤ i then (look H (i - u)).map (SO.sh u) else none
  | [], i => by simp [shH, look]
  | (k, so) :: r, i => by
    rw [shH, look_cons, look_cons, look_shH u r i]
    by_cases h : u ≤ i
    · by_cases e : u + k = i
      · rw [if_pos e, if_pos h, if_pos (by omega)]; rfl
      · rw [if_neg e, if_pos h, if_pos h, if_neg (by omega)]
    · rw [if_neg (by omega), if_neg h, if_neg h]
theorem look_append {α : Type} : ∀ (l r : List (Nat × α)) (i : Nat), look (l ++ r) i = (look l i).or (look r i)
  | [], r, i => by simp [look]
  | (k, v) :: l, r, i => by
    rw [List.cons_append, look_cons, look_cons, look_append l r i]
    split <;> simp

/-! ### What an operation comes to -/
inductive Out where
  | skip
  | old (v : SV)
  | fresh (r : SV) (objs : Hp) (m : Nat)

def Out.v (u : Nat) : Out → SV
  | .skip => .undef
  | .old v => v
  | .fresh r _ _ => r.sh u
def Out.H (u : Nat) : Out → Hp
  | .fresh _ objs _ => shH u objs
  | _ => []
def Out.m : Out → Nat
  | .fresh _ _ m => m
  | _ => 0

def Ext (N : Nat → Prop) (u m : Nat) : Nat → Prop := fun i => N i ∨ (u ≤ i ∧ i < u + m)

theorem Ext_zero (N : Nat → Prop) (u : Nat) : Ext N u 0 = N := by
  funext i
  simp only [Ext]
  exact propext ⟨fun h => h.elim id (fun h => absurd h.2 (by omega)), .inl⟩

/-- A call in such a region. -/
structure QSpec (P : Program) (g : FuncId) (args : List SV) (H : Hp) (u0 u : Nat) (x : Out) : Prop where
  ns : x ≠ .skip
  wf : ∀ i so, look (x.H u) i = some so → u ≤ i ∧ i < u + x.m
  ent : ∀ args w, (callFunc g args).run P w = .ok (.enter g args) w
  sem : ∀ (w0 : World) (O : Nat → Nat → Prop) (N : Nat → Prop) (ρ : Env) (w : World) (H2 : Hp), (∀ i, i < u0 → N i) → (∀ i so, look H i = some so → N i → look H2 i = some so) → Sat w0 O N ρ H2 w → SV.Ins N args →
    (∀ i, u ≤ i → i < u + x.m → ¬ N i) → Calls P g (SV.vals ρ args).toArray w fun e w' => ∃ ρ', (∀ i, N i → ρ' i = ρ i) ∧ e = .returned ((x.v u).val ρ') ∧ (x.v u).In (Ext N u x.m) ∧ Sat w0 O (Ext N u x.m) ρ' (x.H u ++ H2) w'

structure QCallL (P : Program) (g : FuncId) (args : List SV) (H : Hp) (u0 u : Nat) (K : Out → Prop) : Prop where
  out : ∃ x, K x ∧ QSpec P g args H u0 u x

/-- A function of plain values, in such a region. -/
theorem QSpec.pure {P : Program} {f : FuncId} {args args0 : List SV} {r : SV} {H : Hp} {u0 u : Nat} (h : Pure P f args0 r) (ha : SV.oks 0 args0 = true) (hr : r.ok 0 = true) (he : ∀ ρ, SV.vals ρ args = SV.vals ρ args0) : QSpec P f args H u0 u (.old r) := by
  refine ⟨by simp, fun i so hi => (by cases hi), h.ent, fun w0 O N ρ w H2 hb hl hs hin hn => ?_⟩
  rw [he]
  refine (h.sem w _ ρ w (Sat.none w ρ) (closed_Ins ha _)).mono ?_
  rintro e w' ⟨v, H', u', ρ', rfl, h1, h2, h3, h4, hv⟩
  refine ⟨ρ, fun _ _ => rfl, by simp only [Out.v]; rw [hv ρ', closed_val hr ρ', closed_val hr ρ], closed_In hr _, ?_⟩
  simp only [Out.m, Out.H, Ext_zero]
  exact hs.later h4

theorem QCallL.pure {P : Program} {f : FuncId} {args args0 : List SV} {r : SV} {H : Hp} {u0 u : Nat} {K : Out → Prop} (h : Pure P f args0 r) (ha : SV.oks 0 args0 = true) (hr : r.ok 0 = true) (he : ∀ ρ, SV.vals ρ args = SV.vals ρ args0) (k : K (.old r)) : QCallL P f args H u0 u K := ⟨_, k, .pure h ha hr he⟩

/-- A call that reads, in such a region. -/
theorem QSpec.reads {P : Program} {f : FuncId} {args args0 : List SV} {r : SV} {H H0 : Hp} {ub u u0 : Nat} (τ : Nat → Nat × Nat) (h : Spec P f args0 H0 u0 fun v _ _ => ∀ ρ, v.val ρ = r.val ρ) (hro : ∀ i so, look H0 i = some so → so.wr = false)
    (ha : ∀ ρ, SV.vals ρ args = SV.vals (via ρ τ) args0) (hin : SV.oks u0 args0 = true) (p : Part H0 u0 τ H) (hr : r.ok 0 = true) (hN : ∀ N : Nat → Prop, (∀ i, i < ub → N i) → SV.Ins N args → ∀ i so, look H0 i = some so → N (τ i).1) : QSpec P f args H ub u (.old r) := by
  refine ⟨by simp, fun i so hi => (by cases hi), h.ent, fun w0 O N ρ w H2 hb hl hs hargs hn => ?_⟩
  rw [ha ρ]
  have p2 : Part H0 u0 τ H2 := ⟨fun i so hi => by
    obtain ⟨h1, h2, sc, g⟩ := p.lies i so hi
    exact ⟨h1, h2, sc, hl _ _ g.at_ (hN N hb hargs i so hi), g.vals, g.len, g.fits, g.wr⟩, p.sep, fun i es c hi => ⟨(p.dict i es c hi).1, (p.dict i es c hi).2.elim fun k' hk => ⟨k', hl _ _ hk.1 (hN N hb hargs i _ hi), hk.2⟩⟩⟩
  refine (h.sem w _ (via ρ τ) w (p2.sat hs) (SV.Ins_of_oks _ hin)).mono ?_
  rintro e w' ⟨v, H', u', ρ', rfl, h1, h2, h3, h4, hv⟩
  refine ⟨ρ, fun _ _ => rfl, by simp only [Out.v]; rw [hv ρ', closed_val hr ρ', closed_val hr ρ], closed_In hr _, ?_⟩
  simp only [Out.m, Out.H, Ext_zero]
  refine hs.later (N' := (· < u')) (ρ' := ρ') (H' := H') ?_
  have : ownBy H0 (via ρ τ) = fun _ _ => False := by
    funext b off
    exact eq_false fun h => by
      rcases h with ⟨i, so, j, hi, hw, _⟩ | ⟨i, es, c, hi, _⟩
      · rw [hro i so hi] at hw; cases hw
      · have := hro i _ hi; cases this
  rw [this] at h4
  exact h4

def tmpsOf (o : Oper) : List Nat := o.op.operands.toList.filterMap fun | .tmp t => some t | _ => none

/-- What the operation came to, in whatever order. -/
structure QSem (P : Program) (o : Oper) (F : Fr) (H : Hp) (u0 u : Nat) (x : Out) : Prop where
  ns : x ≠ .skip
  wf : ∀ i so, look (x.H u) i = some so → u ≤ i ∧ i < u + x.m
  sem : ∀ (w0 : World) (O : Nat → Nat → Prop) (N : Nat → Prop) (ρ : Env) (a : Act) (w : World) (H2 : Hp) (next : Act → World → Prop) (Q : Exit → Act → World → Prop), (∀ i, i < u0 → N i) →
    (∀ t, t ∈ tmpsOf o → ∀ y, look F t = some y → a.tmps[t]? = some (y.val ρ) ∧ y.In N) →
    (∀ i so, look H i = some so → N i → look H2 i = some so) → Sat w0 O N ρ H2 w → (∀ i, u ≤ i → i < u + x.m → ¬ N i) →
    (∀ ρ' w', (∀ i, N i → ρ' i = ρ i) → Sat w0 O (Ext N u x.m) ρ' (x.H u ++ H2) w' → (x.v u).In (Ext N u x.m) → next (a.put o.dst ((x.v u).val ρ')) w') → o.wp P a w next Q

/-- What is left to the prover, where the evaluator stops at an operation of such a region. -/
structure QOpL (P : Program) (o : Oper) (F : Fr) (H : Hp) (u0 u : Nat) (K : Out → Prop) : Prop where
  out : ∃ x, K x ∧ QSem P o F H u0 u x

/-- The frame, of the operands alone. -/
def resF (F : Fr) : List Nat → Fr
  | [] => []
  | t :: r => (match look F t with | some v => (t, v) :: resF F r | none => resF F r)
theorem look_resF {F : Fr} : ∀ {l : List Nat} {t : Nat} {v : SV}, look (resF F l) t = some v → look F t = some v ∧ t ∈ l
  | [], t, v, h => by cases h
  | k :: r, t, v, h => by
    rw [resF] at h
    cases hk : look F k with
    | none => rw [hk] at h; obtain ⟨h1, h2⟩ := look_resF (l := r) h; exact ⟨h1, List.mem_cons_of_mem _ h2⟩
    | some x =>
      rw [hk] at h
      simp only [look_cons] at h
      split at h
      · rename_i e; subst e; injection h with h; subst h; exact ⟨hk, List.mem_cons_self⟩
      · obtain ⟨h1, h2⟩ := look_resF (l := r) h; exact ⟨h1, List.mem_cons_of_mem _ h2⟩

def qop (P : Program) (tab : Tab) (o : Oper) (F : Fr) (H : Hp) (u0 u : Nat) (K : Out → Prop) : Prop :=
  match o.op with
  | .alloc t => tabK tab t fun ti => K (.fresh (.ptr 0 0) [(0, ti.zero)] 1)
  | .box t x => evK F x fun v => cellsK v fun cs => (match SV.oks 0 cs with | true => K (.fresh (.ptr 0 0) [(0, .cells cs)] 1) | false => False)
  | .store _ _ _ => False
  | .call c => (match c.callee with
      | .value f => evK F f fun vf => (match vf with
        | .func g caps => evsK F c.args.toList fun l => QCallL P g (l ++ caps) H u0 u K
        | _ => False)
      | _ => vop P tab o F H (fun v => K (.old v)) (QOpL P o F H u0 u K))
  | _ => vop P tab o F H (fun v => K (.old v)) (QOpL P o F H u0 u K)

theorem FOk.of_res {N : Nat → Prop} {ρ : Env} {F : Fr} {a : Act} {l : List Nat} (h : ∀ t, t ∈ l → ∀ y, look F t = some y → a.tmps[t]? = some (y.val ρ) ∧ y.In N) : FOk N ρ (resF F l) a := fun t v hv =>
  h t (look_resF hv).2 v (look_resF hv).1

theorem VSem.q {P : Program} {o : Oper} {F : Fr} {H : Hp} {u0 u : Nat} {v : SV} (h : VSem P o (resF F (tmpsOf o)) H v) : QSem P o F H u0 u (.old v) := by
  refine ⟨by simp, fun i so hi => (by cases hi), fun w0 O N ρ a w H2 next Q hb ha hl hs hn hk => ?_⟩
  obtain ⟨h1, h2⟩ := h w0 O N ρ a w H2 (FOk.of_res ha) hl hs
  unfold Oper.wp
  rw [h1, Oper.upon_value]
  refine hk ρ w (fun _ _ => rfl) ?_ ?_
  · simp only [Out.m, Out.H, Ext_zero]; exact hs
  · simp only [Out.m, Out.v, Ext_zero]; exact h2

theorem Ext_one (N : Nat → Prop) (u : Nat) (i : Nat) : Ext N u 1 i ↔ N i ∨ i = u := by
  simp only [Ext]
  constructor
  · rintro (h | h)
    · exact .inl h
    · exact .inr (by omega)
  · rintro (h | h)
    · exact .inl h
    · exact .inr (by omega)

theorem SO.sh_isD (u : Nat) (so : SO) : (so.sh u).isD = so.isD := by cases so <;> rfl
/-- A new block, under a label. -/
theorem QSem.block {P : Program} {o : Oper} {F : Fr} {H : Hp} {u0 u : Nat} {so : SO} (h : ∀ N ρ a w, FOk N ρ (resF F (tmpsOf o)) a → ∃ (arr : Array Value) (t : TypeId), (execOp a.eval o).run P w = .ok (.value (.pointer (some ⟨w.heap.size, 0, none⟩))) (w.alloc (.cells arr t)) ∧
      (∀ ρ', so.vals ρ' = arr.toList)) (hin : so.In (fun _ => False)) (hone : ∀ ρ, ∀ v ∈ so.vals ρ, v.oneCell' = true) (hlen : ∀ ρ, (so.vals ρ).length = so.len) (hnd : so.isD = false) : QSem P o F H u0 u (.fresh (.ptr 0 0) [(0, so)] 1) := by
  refine ⟨by simp, fun i s hi => ?_, fun w0 O N ρ a w H2 next Q hb ha hl hs hn hk => ?_⟩
  · simp only [Out.H, shH, look_cons, look, Nat.add_zero] at hi
    split at hi
    · rename_i e; subst e; exact ⟨Nat.le_refl _, by simp [Out.m]⟩
    · cases hi
  obtain ⟨arr, t, h1, h2⟩ := h N ρ a w (FOk.of_res ha)
  unfold Oper.wp
  rw [h1, Oper.upon_value]
  have hnu : ¬ N u := hn u (Nat.le_refl _) (by simp [Out.m])
  have hv : ∀ ρ', (so.sh u).vals ρ' = arr.toList := fun ρ' => by rw [SO.sh_vals]; exact h2 _
  have hal := hs.alloc (n := u) (M := Ext N u 1) hnu arr t (so := so.sh u) (Ext_one N u) ((SO.sh_In u _ so).2 (SO.In.mono (fun i hi => hi.elim) hin)) (fun j v hj => by rw [hv] at hj; simpa using hj) (by rw [SO.sh_vals]; exact hone _)
    (by rw [SO.sh_len, ← hlen zenv, h2]; simp) (by rw [SO.sh_len, SO.sh_vals, hlen]; exact Nat.le_refl _) (by rw [SO.sh_isD]; exact hnd)
  have := hk (upd ρ u (w.heap.size, 0)) _ (fun i hi => upd_other ρ _ (fun e => hnu (e ▸ hi))) hal ((SV.sh_In u _ (.ptr 0 0)).2 (.inr ⟨by omega, by simp [Out.m]⟩))
  simpa [Out.v, SV.sh, SV.val, upd_same] using this

theorem qop_out {P : Program} {tab : Tab} (hP : TabOk P tab) {o : Oper} {F : Fr} {H : Hp} {u0 u : Nat} {K : Out → Prop} (h : qop P tab o (resF F (tmpsOf o)) H u0 u K) : ∃ x, K x ∧ QSem P o F H u0 u x := by
  have vv : vop P tab o (resF F (tmpsOf o)) H (fun v => K (.old v)) (QOpL P o (resF F (tmpsOf o)) H u0 u K) → ∃ x, K x ∧ QSem P o F H u0 u x := fun h => by
    rcases vop_sound hP h with ⟨v, k, hv⟩ | h
    · exact ⟨_, k, hv.q⟩
    · obtain ⟨x, k, hx⟩ := h.out
      exact ⟨x, k, hx.ns, hx.wf, fun w0 O N ρ a w H2 next Q hb ha hl hs hn hk => hx.sem w0 O N ρ a w H2 next Q hb (fun t ht y hy => ha t ht y (look_resF hy).1) hl hs hn hk⟩
  unfold qop at h
  split at h
  case h_1 t ho =>
    obtain ⟨ti, ht, k⟩ := tabK_out hP h
    obtain ⟨i, z, _, _, _, _, hz, hin, hlen, hvl, hone, _, hnd⟩ := ht.inf
    refine ⟨_, k, QSem.block (fun N ρ a w ha => ?_) hin hone (fun ρ => by rw [hvl, hlen]) hnd⟩
    obtain ⟨z', hrun, hz'⟩ := ht.run_zero (w := w)
    exact ⟨z'.cells, t, by simp [execOp, ho, Instr.alloc, hrun, run_newVar], hz'⟩
  case h_2 t x ho =>
    obtain ⟨v, h1, hx⟩ := evK_out h
    obtain ⟨cs, h2, h3, h4, h5⟩ := cellsK_out h1
    split at h2
    · rename_i hok
      refine ⟨_, h2, QSem.block (fun N ρ a w ha => ?_) (closed_Ins hok _) (fun ρ => allone_out ρ h3) (fun ρ => SV.vals_length ρ cs) rfl⟩
      obtain ⟨e1, e2⟩ := hx _ ρ a ha
      exact ⟨(v.val ρ).cells, t, by simp [execOp, ho, Instr.box, e1, run_newVar], fun ρ' => by simp only [SO.vals]; rw [h4, closed_vals hok ρ', closed_vals hok ρ]⟩
    · exact h2.elim
  case h_3 => exact h.elim
  case h_4 c ho =>
    split at h
    · rename_i f hf
      obtain ⟨vf, h1, hx⟩ := evK_out h
      cases vf with
      | func g caps =>
        obtain ⟨l, h2, hl⟩ := evsK_out h1
        obtain ⟨x, k, hq⟩ := (h2 : QCallL P g (l ++ caps) H u0 u K).out
        refine ⟨x, k, hq.ns, hq.wf, fun w0 O N ρ a w H2 next Q hb ha hlk hs hn hk => ?_⟩
        · have hF := FOk.of_res ha
          obtain ⟨q1, q2⟩ := hx _ ρ a hF
          obtain ⟨q3, q4⟩ := hl _ ρ a hF
          rw [SV.In] at q2
          have hargs : (#[] ++ c.args.map a.eval ++ (SV.vals ρ caps).toArray) = (SV.vals ρ (l ++ caps)).toArray := by
            have hm : c.args.map a.eval = (SV.vals ρ l).toArray := by
              rw [← q3]
              cases c.args
              simp
            rw [hm]
            simp [SV.vals_eq]
          have hrun : (execOp a.eval o).run P w = .ok (.enter g (SV.vals ρ (l ++ caps)).toArray) w := by
            simp only [execOp, ho, resolve, hf, q1, SV.val, Deferred.ofValue, Sem.run_bind, Sem.run_pure, Result.andThen_ok, invoke]
            rw [hargs, hq.ent]
          have hin : SV.Ins N (l ++ caps) := by
            rw [SV.Ins_iff] at *
            intro y hy
            rcases List.mem_append.1 hy with hy | hy
            · exact q4 y hy
            · exact q2 y hy
          unfold Oper.wp
          rw [hrun, Oper.upon_enter]
          refine (hq.sem w0 O N ρ w H2 hb hlk hs hin hn).mono ?_
          rintro e w' ⟨ρ', g1, rfl, g2, g3⟩
          exact hk ρ' w' g1 g3 g2
      | _ => exact h1.elim
    · exact vv h
  case h_5 => exact vv h

end Go.Sh
