import Derived.Test.YtmfpndffepjcpaaSh2
/- One operation: what it does to a frame and a heap. The words that the evaluator is made of, each with what it comes to. -/
set_option linter.unusedVariables false
namespace Go.Sh
open Go.RowKit

/-! ### The table of types -/
structure TI where
  desc : TypeDesc
  size : Nat
  bytes : Nat
  zero : SO

def TI.agg (ti : TI) : Bool := match ti.desc with | .struct _ | .array _ _ => true | _ => false

abbrev Tab := List (Nat × TI)

structure TIok (P : Program) (t : TypeId) (ti : TI) : Prop where
  und : P.underlying t = some ti.desc
  inf : ∃ i z, P.info? t = some i ∧ i.size = ti.size ∧ i.bytes = ti.bytes ∧ i.zero = some z ∧ (∀ ρ, ti.zero.vals ρ = z.cells.toList) ∧ ti.zero.In (fun _ => False) ∧ ti.zero.len = ti.size ∧ (∀ ρ, (ti.zero.vals ρ).length = ti.size) ∧
    (∀ ρ, ∀ v ∈ ti.zero.vals ρ, v.oneCell' = true) ∧ ti.zero.wr = true ∧ ti.zero.isD = false

def TabOk (P : Program) (tab : Tab) : Prop := ∀ t ti, look tab t = some ti → TIok P t ti

section
variable {P : Program} {t : TypeId} {ti : TI} {w : World}
theorem TIok.run_und (h : TIok P t ti) : (underlying t).run P w = .ok ti.desc w := by simp [underlying, h.und]
theorem TIok.run_size (h : TIok P t ti) : (sizeOf t).run P w = .ok ti.size w := by
  obtain ⟨i, z, h1, h2, _⟩ := h.inf
  simp [sizeOf, typeInfo, h1, h2]
theorem TIok.run_agg (h : TIok P t ti) : (isAgg t).run P w = .ok ti.agg w := by
  simp only [isAgg, Sem.run_bind, h.run_und, Result.andThen_ok, TI.agg]
  cases ti.desc <;> rfl
theorem TIok.run_zero (h : TIok P t ti) : ∃ z, (zeroValue t).run P w = .ok z w ∧ (∀ ρ, ti.zero.vals ρ = z.cells.toList) := by
  obtain ⟨i, z, h1, _, _, h4, h5, _⟩ := h.inf
  exact ⟨z, by simp [zeroValue, typeInfo, h1, h4], h5⟩
end

/-! ### Operands -/
def lit : Value → SV
  | .bool true => .tt
  | .bool false => .ff
  | .int k n => .int k n
  | .pointer none => .nil
  | .slice none 0 0 => .nilSlice
  | .map none => .nilMap
  | .nilFunc => .nilFunc
  | v => .raw v
theorem lit_val (ρ : Env) (v : Value) : (lit v).val ρ = v := by
  unfold lit
  split <;> rfl
theorem lit_In (N : Nat → Prop) (v : Value) : (lit v).In N := by
  unfold lit
  split <;> trivial

def evK (F : Fr) (x : Operand) (k : SV → Prop) : Prop :=
  match x with
  | .tmp t => (match look F t with | some v => k v | none => False)
  | .const v => k (lit v)
  | .func f => k (.func f [])
  | .global _ => False

theorem evK_out {F : Fr} {x : Operand} {k : SV → Prop} (h : evK F x k) : ∃ v, k v ∧ ∀ N ρ a, FOk N ρ F a → a.eval x = v.val ρ ∧ v.In N := by
  cases x with
  | tmp t =>
    simp only [evK] at h
    split at h
    · rename_i v hv
      exact ⟨v, h, fun N ρ a ha => ⟨ha.at hv, (ha t v hv).2⟩⟩
    · exact h.elim
  | const v => exact ⟨lit v, h, fun N ρ a _ => ⟨(lit_val ρ v).symm, lit_In N v⟩⟩
  | func f => exact ⟨.func f [], h, fun N ρ a _ => ⟨rfl, trivial⟩⟩
  | global g => exact h.elim

/-! ### Lists of cells, written out -/
def nthK : List SV → Nat → (SV → Prop) → Prop
  | [], _, _ => False
  | c :: r, o, k => match o with | 0 => k c | o + 1 => nthK r o k
theorem nthK_out : ∀ {cs : List SV} {o : Nat} {k : SV → Prop}, nthK cs o k → ∃ v, cs[o]? = some v ∧ k v
  | [], _, _, h => h.elim
  | c :: r, 0, k, h => ⟨c, rfl, h⟩
  | c :: r, o + 1, k, h => by
    obtain ⟨v, h1, h2⟩ := nthK_out (cs := r) (o := o) h
    exact ⟨v, by simpa using h1, h2⟩

def takeK : List SV → Nat → Nat → (List SV → Prop) → Prop
  | [], o, n, k => match o with | 0 => (match n with | 0 => k [] | _ + 1 => False) | _ + 1 => False
  | c :: r, o, n, k => match o with
    | 0 => (match n with | 0 => k [] | n + 1 => takeK r 0 n fun l => k (c :: l))
    | o + 1 => takeK r o n k
theorem takeK_out : ∀ {cs : List SV} {o n : Nat} {k : List SV → Prop}, takeK cs o n k → o + n ≤ cs.length ∧ k ((cs.drop o).take n)
  | [], 0, 0, k, h => ⟨by simp, h⟩
  | [], 0, n + 1, k, h => h.elim
  | [], o + 1, n, k, h => h.elim
  | c :: r, 0, 0, k, h => ⟨by simp, h⟩
  | c :: r, 0, n + 1, k, h => by
    obtain ⟨h1, h2⟩ := takeK_out (cs := r) (o := 0) (n := n) h
    exact ⟨by simp at *; omega, by simpa using h2⟩
  | c :: r, o + 1, n, k, h => by
    obtain ⟨h1, h2⟩ := takeK_out (cs := r) (o := o) (n := n) h
    exact ⟨by simp at *; omega, by simpa using h2⟩

def setRange {α : Type} (cs : List α) (o : Nat) (vs : List α) : List α := cs.take o ++ vs ++ cs.drop (o + vs.length)
theorem setRange_length {α : Type} {cs : List α} {o : Nat} {vs : List α} (h : o + vs.length ≤ cs.length) : (setRange cs o vs).length = cs.length := by
  simp [setRange]; omega
theorem setRange_nil {α : Type} (cs : List α) (o : Nat) : setRange cs o [] = cs := by simp [setRange]
theorem setRange_cons {α : Type} {cs : List α} {o : Nat} {v : α} {vs : List α} (h : o + (vs.length + 1) ≤ cs.length) : setRange cs o (v :: vs) = setRange (cs.set o v) (o + 1) vs := by
  simp only [setRange, List.length_cons]
  rw [List.take_set, List.drop_set, if_pos (by omega)]
  have hlt : o < cs.length := by omega
  have e : (cs.take (o + 1)).set o v = cs.take o ++ [v] := by
    rw [List.take_succ_eq_append_getElem hlt, List.set_append_right _ _ (by simp; omega)]
    simp [Nat.min_eq_left (Nat.le_of_lt hlt)]
  rw [e]
  simp [Nat.add_assoc, Nat.add_comm 1]
theorem setRange_map {α β : Type} (f : α → β) (cs : List α) (o : Nat) (vs : List α) : (setRange cs o vs).map f = setRange (cs.map f) o (vs.map f) := by
  simp [setRange]

def putK : List SV → Nat → List SV → (List SV → Prop) → Prop
  | [], o, vs, k => match o with | 0 => (match vs with | [] => k [] | _ :: _ => False) | _ + 1 => False
  | c :: r, o, vs, k => match o with
    | 0 => (match vs with | [] => k (c :: r) | v :: vs => putK r 0 vs fun l => k (v :: l))
    | o + 1 => putK r o vs fun l => k (c :: l)
theorem putK_out : ∀ {cs : List SV} {o : Nat} {vs : List SV} {k : List SV → Prop}, putK cs o vs k → o + vs.length ≤ cs.length ∧ k (setRange cs o vs)
  | [], 0, [], k, h => ⟨by simp, h⟩
  | [], 0, v :: vs, k, h => h.elim
  | [], o + 1, n, k, h => h.elim
  | c :: r, 0, [], k, h => ⟨by simp, h⟩
  | c :: r, 0, v :: vs, k, h => by
    obtain ⟨h1, h2⟩ := putK_out (cs := r) (o := 0) (vs := vs) h
    exact ⟨by simp at *; omega, by simpa [setRange] using h2⟩
  | c :: r, o + 1, vs, k, h => by
    obtain ⟨h1, h2⟩ := putK_out (cs := r) (o := o) (vs := vs) h
    refine ⟨by simp at *; omega, ?_⟩
    simp only [setRange, List.take_succ_cons, Nat.add_right_comm o 1, List.drop_succ_cons, List.cons_append] at *
    exact h2

/-! ### One operation, in every world that satisfies the heap -/
def OpSem (P : Program) (o : Oper) (F : Fr) (H : Hp) (u : Nat) (K : SV → Hp → Nat → Prop) : Prop :=
  ∀ (w0 : World) (O : Nat → Nat → Prop) (ρ : Env) (a : Act) (w : World) (next : Act → World → Prop) (Q : Exit → Act → World → Prop),
    FOk (· < u) ρ F a → Sat w0 O (· < u) ρ H w →
    (∀ v H' u' ρ' w', u ≤ u' → (∀ i, i < u → ρ' i = ρ i) → v.In (· < u') → Sat w0 O (· < u') ρ' H' w' → K v H' u' → next (a.put o.dst (v.val ρ')) w') →
    o.wp P a w next Q

/-- What is left to the prover, where the evaluator stops at an operation. -/
structure OpL (P : Program) (o : Oper) (F : Fr) (H : Hp) (u : Nat) (K : SV → Hp → Nat → Prop) : Prop where
  sem : OpSem P o F H u K

section
variable {P : Program} {o : Oper} {F : Fr} {H : Hp} {u : Nat} {K : SV → Hp → Nat → Prop}

/-- An operation that hands back a value and leaves the world. -/
theorem OpSem.value {v : SV} (k : K v H u) (h : ∀ w0 O ρ a w, FOk (· < u) ρ F a → Sat w0 O (· < u) ρ H w → (execOp a.eval o).run P w = .ok (.value (v.val ρ)) w ∧ v.In (· < u)) : OpSem P o F H u K := by
  intro w0 O ρ a w next Q ha hs hk
  obtain ⟨hr, hv⟩ := h w0 O ρ a w ha hs
  unfold Oper.wp
  rw [hr, Oper.upon_value]
  exact hk v H u ρ w (Nat.le_refl _) (fun _ _ => rfl) hv hs k

/-- One that hands back a value, behind a turn of the world. -/
theorem OpSem.turn (h : ∀ w0 O ρ a w, FOk (· < u) ρ F a → Sat w0 O (· < u) ρ H w → ∃ v H' u' ρ' w', (execOp a.eval o).run P w = .ok (.value (v.val ρ')) w' ∧ u ≤ u' ∧ (∀ i, i < u → ρ' i = ρ i) ∧ v.In (· < u') ∧
    Sat w0 O (· < u') ρ' H' w' ∧ K v H' u') : OpSem P o F H u K := by
  intro w0 O ρ a w next Q ha hs hk
  obtain ⟨v, H', u', ρ', w', hr, h1, h2, h3, h4, h5⟩ := h w0 O ρ a w ha hs
  unfold Oper.wp
  rw [hr, Oper.upon_value]
  exact hk v H' u' ρ' w' h1 h2 h3 h4 h5

theorem OpSem.skip (h : ∀ w0 O ρ a w, FOk (· < u) ρ F a → Sat w0 O (· < u) ρ H w → ∃ H' w', (execOp a.eval o).run P w = .ok .skip w' ∧ Sat w0 O (· < u) ρ H' w' ∧ K .undef H' u) : OpSem P o F H u K := by
  intro w0 O ρ a w next Q ha hs hk
  obtain ⟨H', w', hr, h4, h5⟩ := h w0 O ρ a w ha hs
  unfold Oper.wp
  rw [hr, Oper.upon_skip]
  exact hk .undef H' u ρ w' (Nat.le_refl _) (fun _ _ => rfl) trivial h4 h5
end

/-! ### Memory -/
section
variable {P : Program} {w0 w : World} {O : Nat → Nat → Prop} {N : Nat → Prop} {ρ : Env} {H : Hp}

theorem add_at (b o j : Nat) : (⟨b, o, none⟩ : Addr).add j = ⟨b, o + j, none⟩ := by
  unfold Addr.add
  split
  · subst_vars; rfl
  · rfl

/-- The cells from d on, n of them, are loaded. -/
theorem Sat.run_cells (h : Sat w0 O N ρ H w) {i : Nat} {so : SO} (hi : look H i = some so) {d n : Nat} (hn : d + n ≤ (so.vals ρ).length) :
    (loadCells ⟨(ρ i).1, (ρ i).2 + d, none⟩ n).run P w = .ok (((so.vals ρ).drop d).take n).toArray w := by
  have := run_loadCells_list (P := P) (w := w) ⟨(ρ i).1, (ρ i).2 + d, none⟩ (((so.vals ρ).drop d).take n) (fun j v hj => by
    rw [add_at, Nat.add_assoc]
    refine h.read hi ?_
    rw [List.getElem?_take] at hj
    split at hj
    · rw [List.getElem?_drop] at hj; exact hj
    · cases hj)
  rw [show (((so.vals ρ).drop d).take n).length = n from by simp; omega] at this
  exact this

theorem Sat.run_load (h : Sat w0 O N ρ H w) {i : Nat} {so : SO} (hi : look H i = some so) {d : Nat} {v : Value} (hv : (so.vals ρ)[d]? = some v) :
    (load ⟨(ρ i).1, (ρ i).2 + d, none⟩).run P w = .ok v w := by
  rw [Go.run_load, h.read hi hv]

/-- What an object is when some of its cells are laid anew. -/
def SO.lay (so : SO) (o : Nat) (vs : List SV) : SO :=
  match so with
  | .cells cs => .cells (setRange cs o vs)
  | so => so

/-- Cells are stored, one behind the other. -/
theorem Sat.run_store (vs : List Value) : ∀ {H : Hp} {w : World} (h : Sat w0 O N ρ H w) {i : Nat} {so so' : SO} (hi : look H i = some so) (hw : so.wr = true) {d e : Nat} (hd : d + e + vs.length ≤ (so.vals ρ).length)
    (hin : so'.In N) (hl : so'.len = so.len) (hwr : so'.wr = true) (hv : so'.vals ρ = setRange (so.vals ρ) (d + e) vs) (hone : ∀ x ∈ vs, x.oneCell' = true) (hnd : so'.isD = false),
    ∃ w', (storeCells ⟨(ρ i).1, (ρ i).2 + d, none⟩ vs e).run P w = .ok () w' ∧ Sat w0 O N ρ ((i, so') :: H) w' := by
  induction vs with
  | nil =>
    intro H w h i so so' hi hw d e hd hin hl hwr hv hone hnd
    refine ⟨w, rfl, ?_⟩
    rw [setRange_nil] at hv
    have h3 := (h.dom i so hi).2.2
    refine ⟨h.os, h.tape, h.output, h.size, fun j sj hj => ?_, fun j k sj sk hj hk hjk hwj => ?_, h.blk, h.cell, h.frz, fun j sj hj hwj l hl' => ?_, h.dict.cons hnd fun _ _ _ _ _ => rfl⟩
    · rw [look_cons] at hj
      split at hj
      · rename_i e; injection hj with hj; subst hj; subst e
        exact ⟨(h.dom i so hi).1, hin, ⟨by rw [hv]; exact h3.cell, fun _ j hj => h3.free hw j (hl ▸ hj), fun j hj => h3.room j (hl ▸ hj), by rw [hv, hl]; exact h3.fits⟩⟩
      · exact h.dom j sj hj
    · rw [look_cons] at hj hk
      split at hj
      · rename_i e; injection hj with hj; subst hj; subst e
        rw [if_neg hjk] at hk
        rw [hl]; exact h.sep i k so sk hi hk hjk hw
      · split at hk
        · rename_i e; injection hk with hk; subst hk; subst e
          rw [hl]; exact h.sep j i sj so hj hi hjk hwj
        · exact h.sep j k sj sk hj hk hjk hwj
    · rw [look_cons] at hj
      split at hj
      · rename_i e; injection hj with hj; subst hj; subst e
        exact h.fresh i so hi hw l (hl ▸ hl')
      · exact h.fresh j sj hj hwj l hl'
  | cons v vs ih =>
    intro H w h i so so' hi hw d e hd hin hl hwr hv hone hnd
    simp only [List.length_cons] at hd
    have h3 := (h.dom i so hi).2.2
    have hdl : d + e < so.len := Nat.lt_of_lt_of_le (by omega) h3.fits
    have hstep := h.set1 (so' := .vec ((so.vals ρ).set (d + e) v) so.len) hi hw hdl (v := v) trivial rfl (fun j x hx => by
      change ((so.vals ρ).set (d + e) v)[j]? = some x at hx
      by_cases hj : j = d + e
      · subst hj
        rw [List.getElem?_set_self (by omega)] at hx
        rw [if_pos rfl]
        injection hx with hx; exact hx.symm
      · rw [List.getElem?_set_ne (by omega)] at hx
        rw [if_neg hj]; exact hx) (fun x hx => by
      change x ∈ (so.vals ρ).set (d + e) v at hx
      rcases List.mem_or_eq_of_mem_set hx with hx | hx
      · exact h3.cell.2 x hx
      · subst hx; exact hone x (by simp)) (by change ((so.vals ρ).set (d + e) v).length ≤ so.len; rw [List.length_set]; exact h3.fits) rfl
    obtain ⟨u', hu'⟩ := h3.room (d + e) hdl
    have hrun : (Go.store (⟨(ρ i).1, (ρ i).2 + (d + e), none⟩ : Addr) v).run P w = .ok () (w.setCell ⟨(ρ i).1, (ρ i).2 + (d + e), none⟩ v) := by
      rw [Go.run_store P w _ v .plain (hone v (by simp)), hu']
      simp [h3.free hw (d + e) hdl]
    obtain ⟨w', hr, hs⟩ := ih hstep (so' := so') (look_same _ _ _) rfl (d := d) (e := e + 1) (by change d + (e + 1) + vs.length ≤ ((so.vals ρ).set (d + e) v).length; rw [List.length_set]; omega) hin (by rw [hl]; rfl) hwr (by
      change so'.vals ρ = setRange ((so.vals ρ).set (d + e) v) (d + (e + 1)) vs
      rw [hv, ← Nat.add_assoc, setRange_cons (by omega)]) (fun x hx => hone x (by simp [hx])) hnd
    refine ⟨w', ?_, hs.weaken (fun j sj hj => ?_) (fun j sj hj => ?_)⟩
    · simp only [storeCells, Sem.run_bind]
      rw [add_at, Nat.add_assoc, hrun]
      exact hr
    · rw [look_cons] at hj ⊢
      split at hj
      · exact (if_pos (by assumption)).trans hj
      · rename_i e
        rw [if_neg e, look_cons, if_neg e]; exact hj
    · exact ⟨(hs.dom j sj (by
        rw [look_cons] at hj ⊢
        split at hj
        · exact (if_pos (by assumption)).trans hj
        · rename_i e; rw [if_neg e, look_cons, if_neg e]; exact hj)).1, (hs.dom j sj (by
        rw [look_cons] at hj ⊢
        split at hj
        · exact (if_pos (by assumption)).trans hj
        · rename_i e; rw [if_neg e, look_cons, if_neg e]; exact hj)).2.1⟩

end
end Go.Sh
