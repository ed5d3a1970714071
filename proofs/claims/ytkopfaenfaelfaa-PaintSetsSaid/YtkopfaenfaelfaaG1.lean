import Derived.Test.YtkopfaenfaelfaaG0
/- One operation: what it does to a frame and a heap. The words that the evaluator is made of, each with what it comes to. -/
set_option linter.unusedVariables false
namespace Go.Sh
open Go.RowKit

/-! ### The table of types -/
structure TI where
  desc : TypeDesc
  size : Nat
  bytes : Nat
  zero : SO

def TI.agg (ti : TI) : Bool := match ti.desc with | .struct _ | .array _ _ => true | _ => false

abbrev Tab := List (Nat × TI)

structure TIok (P : Program) (t : TypeId) (ti : TI) : Prop where
  und : P.underlying t = some ti.desc
  inf : ∃ i z, P.info? t = some i ∧ i.size = ti.size ∧ i.bytes = ti.bytes ∧ i.zero = some z ∧ (∀ ρ, ti.zero.vals ρ = z.cells.toList) ∧ ti.zero.In (fun _ => False) ∧ ti.zero.len = ti.size ∧ (∀ ρ, (ti.zero.vals ρ).length = ti.size) ∧
    (∀ ρ, ∀ v ∈ ti.zero.vals ρ, v.oneCell' = true) ∧ ti.zero.wr = true ∧ ti.zero.isD = false

def TabOk (P : Program) (tab : Tab) : Prop := ∀ t ti, look tab t = some ti → TIok P t ti

section
variable {P : Program} {t : TypeId} {ti : TI} {w : World}
theorem TIok.run_und (h : TIok P t ti) : (underlying t).run P w = .ok ti.desc w := by simp [underlying, h.und]
theorem TIok.run_size (h : TIok P t ti) : (sizeOf t).run P w = .ok ti.size w := by
  obtain ⟨i, z, h1, h2, _⟩ := h.inf
  simp [sizeOf, typeInfo, h1, h2]
theorem TIok.run_agg (h : TIok P t ti) : (isAgg t).run P w = .ok ti.agg w := by
  simp only [isAgg, Sem.run_bind, h.run_und, Result.andThen_ok, TI.agg]
  cases ti.desc <;> rfl
theorem TIok.run_zero (h : TIok P t ti) : ∃ z, (zeroValue t).run P w = .ok z w ∧ (∀ ρ, ti.zero.vals ρ = z.cells.toList) := by
  obtain ⟨i, z, h1, _, _, h4, h5, _⟩ := h.inf
  exact ⟨z, by simp [zeroValue, typeInfo, h1, h4], h5⟩
end

/-! ### Operands -/
def lit : Value → SV
  | .bool true => .tt
  | .bool false => .ff
  | .int k n => .int k n
  | .pointer none => .nil
  | .slice none 0 0 => .nilSlice
  | .map none => .nilMap
  | .nilFunc => .nilFunc
  | v => .raw v
theorem lit_val (ρ : Env) (v : Value) : (lit v).val ρ = v := by
  unfold lit
  split <;> rfl
theorem lit_In (N : Nat → Prop) (v : Value) : (lit v).In N := by
  unfold lit
  split <;> trivial

def evK (F : Fr) (x : Operand) (k : SV → Prop) : Prop :=
  match x with
  | .tmp t => (match look F t with | some v => k v | none => False)
  | .const v => k (lit v)
  | .func f => k (.func f [])
  | .global _ => False

theorem evK_out {F : Fr} {x : Operand} {k : SV → Prop} (h : evK F x k) : ∃ v, k v ∧ ∀ N ρ a, FOk N ρ F a → a.eval x = v.val ρ ∧ v.In N := by
  cases x with
  | tmp t =>
    simp only [evK] at h
    split at h
    · rename_i v hv
      exact ⟨v, h, fun N ρ a ha => ⟨ha.at hv, (ha t v hv).2⟩⟩
    · exact h.elim
  | const v => exact ⟨lit v, h, fun N ρ a _ => ⟨(lit_val ρ v).symm, lit_In N v⟩⟩
  | func f => exact ⟨.func f [], h, fun N ρ a _ => ⟨rfl, trivial⟩⟩
  | global g => exact h.elim

/-! ### Lists of cells, written out -/
def nthK : List SV → Nat → (SV → Prop) → Prop
  | [], _, _ => False
  | c :: r, o, k => match o with | 0 => k c | o + 1 => nthK r o k
theorem nthK_out : ∀ {cs : List SV} {o : Nat} {k : SV → Prop}, nthK cs o k → ∃ v, cs[o]? = some v ∧ k v
  | [], _, _, h => h.elim
  | c :: r, 0, k, h => ⟨c, rfl, h⟩
  | c :: r, o + 1, k, h => by
    obtain ⟨v, h1, h2⟩ := nthK_out (cs := r) (o := o) h
    exact ⟨v, by simpa using h1, h2⟩

def takeK : List SV → Nat → Nat → (List SV → Prop) → Prop
  | [], o, n, k => match o with | 0 => (match n with | 0 => k [] | _ + 1 => False) | _ + 1 => False
  | c :: r, o, n, k => match o with
    | 0 => (match n with | 0 => k [] | n + 1 => takeK r 0 n fun l => k (c :: l))
    | o + 1 => takeK r o n k
theorem takeK_out : ∀ {cs : List SV} {o n : Nat} {k : List SV → Prop}, takeK cs o n k → o + n ≤ cs.length ∧ k ((cs.drop o).take n)
  | [], 0, 0, k, h => ⟨by simp, h⟩
  | [], 0, n + 1, k, h => h.elim
  | [], o + 1, n, k, h => h.elim
  | c :: r, 0, 0, k, h => ⟨by simp, h⟩
  | c :: r, 0, n + 1, k, h => by
    obtain ⟨h1, h2⟩ := takeK_out (cs := r) (o := 0) (n := n) h
    exact ⟨by simp at *; omega, by simpa using h2⟩
  | c :: r, o + 1, n, k, h => by
    obtain ⟨h1, h2⟩ := takeK_out (cs := r) (o := o) (n := n) h
    exact ⟨by simp at *; omega, by simpa using h2⟩

def setRange {α : Type} (cs : List α) (o : Nat) (vs : List α) : List α := cs.take o ++ vs ++ cs.drop (o + vs.length)
theorem setRange_length {α : Type} {cs : List α} {o : Nat} {vs : List α} (h : o + vs.length ≤ cs.length) : (setRange cs o vs).length = cs.length := by
  simp [setRange]; omega
theorem setRange_nil {α : Type} (cs : List α) (o : Nat) : setRange cs o [] = cs := by simp [setRange]
theorem setRange_cons {α : Type} {cs : List α} {o : Nat} {v : α} {vs : List α} (h : o + (vs.length + 1) ≤ cs.length) : setRange cs o (v :: vs) = setRange (cs.set o v) (o + 1) vs := by
  simp only [setRange, List.length_cons]
  rw [List.take_set, List.drop_set, if_pos (by omega)]
  have hlt : o < cs.length := by omega
  have e : (cs.take (o + 1)).set o v = cs.take o ++ [v] := by
    rw [List.take_succ_eq_append_getElem hlt, List.set_append_right _ _ (by simp; omega)]
    simp [Nat.min_eq_left (Nat.le_of_lt hlt)]
  rw [e]
  simp [Nat.add_assoc, Nat.add_comm 1]
theorem setRange_map {α β : Type} (f : α → β) (cs : List α) (o : Nat) (vs : List α) : (setRange cs o vs).map f = setRange (cs.map f) o (vs.map f) := by
  simp [setRange]

def putK : List SV → Nat → List SV → (List SV → Prop) → Prop
  | [], o, vs, k => match o with | 0 => (match vs with | [] => k [] | _ :: _ => False) | _ + 1 => False
  | c :: r, o, vs, k => match o with
    | 0 => (match vs with | [] => k (c :: r) | v :: vs => putK r 0 vs fun l => k (v :: l))
    | o + 1 => putK r o vs fun l => k (c :: l)
theorem putK_out : ∀ {cs : List SV} {o : Nat} {vs : List SV} {k : List SV → Prop}, putK cs o vs k → o + vs.length ≤ cs.length ∧ k (setRange cs o vs)
  | [], 0, [], k, h => ⟨by simp, h⟩
  | [], 0, v :: vs, k, h => h.elim
  | [], o + 1, n, k, h => h.elim
  | c :: r, 0, [], k, h => ⟨by simp, h⟩
  | c :: r, 0, v :: vs, k, h => by
    obtain ⟨h1, h2⟩ := putK_out (cs := r) (o := 0) (vs := vs) h
    exact ⟨by simp at *; omega, by simpa [setRange] using h2⟩
  | c :: r, o + 1, vs, k, h => by
    obtain ⟨h1, h2⟩ := putK_out (cs := r) (o := o) (vs := vs) h
    refine ⟨by simp at *; omega, ?_⟩
    simp only [setRange, List.take_succ_cons, Nat.add_right_comm o 1, List.drop_succ_cons, List.cons_append] at *
    exact h2

/-! ### One operation, in every world that satisfies the heap -/
def OpSem (P : Program) (o : Oper) (F : Fr) (H : Hp) (u : Nat) (K : SV → Hp → Nat → Prop) : Prop :=
  ∀ (w0 : World) (O : Nat → Nat → Prop) (ρ : Env) (a : Act) (w : World) (next : Act → World → Prop) (Q : Exit → Act → World → Prop),
    FOk (· < u) ρ F a → Sat w0 O (· < u) ρ H w →
    (∀ v H' u' ρ' w', u ≤ u' → (∀ i, i < u → ρ' i = ρ i) → v.In (· < u') → Sat w0 O (· < u') ρ' H' w' → K v H' u' → next (a.put o.dst (v.val ρ')) w') →
    o.wp P a w next Q

/-- What is left to the prover, where the evaluator stops at an operation. -/
structure OpL (P : Program) (o : Oper) (F : Fr) (H : Hp) (u : Nat) (K : SV → Hp → Nat → Prop) : Prop where
  sem : OpSem P o F H u K

section
variable {P : Program} {o : Oper} {F : Fr} {H : Hp} {u : Nat} {K : SV → Hp → Nat → Prop}

/-- An operation that hands back a value and leaves the world. -/
theorem OpSem.value {v : SV} (k : K v H u) (h : ∀ w0 O ρ a w, FOk (· < u) ρ F a → Sat w0 O (· < u) ρ H w → (execOp a.eval o).run P w = .ok (.value (v.val ρ)) w ∧ v.In (· < u)) : OpSem P o F H u K := by
  intro w0 O ρ a w next Q ha hs hk
  obtain ⟨hr, hv⟩ := h w0 O ρ a w ha hs
  unfold Oper.wp
  rw [hr, Oper.upon_value]
  exact hk v H u ρ w (Nat.le_refl _) (fun _ _ => rfl) hv hs k

/-- One that hands back a value, behind a turn of the world. -/
theorem OpSem.turn (h : ∀ w0 O ρ a w, FOk (· < u) ρ F a → Sat w0 O (· < u) ρ H w → ∃ v H' u' ρ' w', (execOp a.eval o).run P w = .ok (.value (v.val ρ')) w' ∧ u ≤ u' ∧ (∀ i, i < u → ρ' i = ρ i) ∧ v.In (· < u') ∧
    Sat w0 O (· < u') ρ' H' w' ∧ K v H' u') : OpSem P o F H u K := by
  intro w0 O ρ a w next Q ha hs hk
  obtain ⟨v, H', u', ρ', w', hr, h1, h2, h3, h4, h5⟩ := h w0 O ρ a w ha hs
  unfold Oper.wp
  rw [hr, Oper.upon_value]
  exact hk v H' u' ρ' w' h1 h2 h3 h4 h5

theorem OpSem.skip (h : ∀ w0 O ρ a w, FOk (· < u) ρ F a → Sat w0 O (· < u) ρ H w → ∃ H' w', (execOp a.eval o).run P w = .ok .skip w' ∧ Sat w0 O (· < u) ρ H' w' ∧ K .undef H' u) : OpSem P o F H u K := by
  intro w0 O ρ a w next Q ha hs hk
  obtain ⟨H', w', hr, h4, h5⟩ := h w0 O ρ a w ha hs
  unfold Oper.wp
  rw [hr, Oper.upon_skip]
  exact hk .undef H' u ρ w' (Nat.le_refl _) (fun _ _ => rfl) trivial h4 h5
end

/-! ### Memory -/
section
variable {P : Program} {w0 w : World} {O : Nat → Nat → Prop} {N : Nat → Prop} {ρ : Env} {H : Hp}

theorem add_at (b o j : Nat) : (⟨b, o, none⟩ : Addr).add j = ⟨b, o + j, none⟩ := by
  unfold Addr.add
  split
  · subst_vars; rfl
  · rfl

/-- The cells from d on, n of them, are loaded. -/
theorem Sat.run_cells (h : Sat w0 O N ρ H w) {i : Nat} {so : SO} (hi : look H i = some so) {d n : Nat} (hn : d + n ≤ (so.vals ρ).length) :
    (loadCells ⟨(ρ i).1, (ρ i).2 + d, none⟩ n).run P w = .ok (((so.vals ρ).drop d).take n).toArray w := by
  have := run_loadCells_list (P := P) (w := w) ⟨(ρ i).1, (ρ i).2 + d, none⟩ (((so.vals ρ).drop d).take n) (fun j v hj => by
    rw [add_at, Nat.add_assoc]
    refine h.read hi ?_
    rw [List.getElem?_take] at hj
    split at hj
    · rw [List.getElem?_drop] at hj; exact hj
    · cases hj)
  rw [show (((so.vals ρ).drop d).take n).length = n from by simp; omega] at this
  exact this

theorem Sat.run_load (h : Sat w0 O N ρ H w) {i : Nat} {so : SO} (hi : look H i = some so) {d : Nat} {v : Value} (hv : (so.vals ρ)[d]? = some v) :
    (load ⟨(ρ i).1, (ρ i).2 + d, none⟩).run P w = .ok v w := by
  rw [Go.run_load, h.read hi hv]

/-- What an object is when some of its cells are laid anew. -/
def SO.lay (so : SO) (o : Nat) (vs : List SV) : SO :=
  match so with
  | .cells cs => .cells (setRange cs o vs)
  | so => so

/-- Cells are stored, one behind the other. -/
theorem Sat.run_store (vs : List Value) : ∀ {H : Hp} {w : World} (h : Sat w0 O N ρ H w) {i : Nat} {so so' : SO} (hi : look H i = some so) (hw : so.wr = true) {d e : Nat} (hd : d + e + vs.length ≤ (so.vals ρ).length)
    (hin : so'.In N) (hl : so'.len = so.len) (hwr : so'.wr = true) (hv : so'.vals ρ = setRange (so.vals ρ) (d + e) vs) (hone : ∀ x ∈ vs, x.oneCell' = true) (hnd : so'.isD = false),
    ∃ w', (storeCells ⟨(ρ i).1, (ρ i).2 + d, none⟩ vs e).run P w = .ok () w' ∧ Sat w0 O N ρ ((i, so') :: H) w' := by
  induction vs with
  | nil =>
    intro H w h i so so' hi hw d e hd hin hl hwr hv hone hnd
    refine ⟨w, rfl, ?_⟩
    rw [setRange_nil] at hv
    have h3 := (h.dom i so hi).2.2
    refine ⟨h.os, h.tape, h.output, h.size, fun j sj hj => ?_, fun j k sj sk hj hk hjk hwj => ?_, h.blk, h.cell, h.frz, fun j sj hj hwj l hl' => ?_, h.dict.cons hnd fun _ _ _ _ _ => rfl⟩
    · rw [look_cons] at hj
      split at hj
      · rename_i e; injection hj with hj; subst hj; subst e
        exact ⟨(h.dom i so hi).1, hin, ⟨by rw [hv]; exact h3.cell, fun _ j hj => h3.free hw j (hl ▸ hj), fun j hj => h3.room j (hl ▸ hj), by rw [hv, hl]; exact h3.fits⟩⟩
      · exact h.dom j sj hj
    · rw [look_cons] at hj hk
      split at hj
      · rename_i e; injection hj with hj; subst hj; subst e
        rw [if_neg hjk] at hk
        rw [hl]; exact h.sep i k so sk hi hk hjk hw
      · split at hk
        · rename_i e; injection hk with hk; subst hk; subst e
          rw [hl]; exact h.sep j i sj so hj hi hjk hwj
        · exact h.sep j k sj sk hj hk hjk hwj
    · rw [look_cons] at hj
      split at hj
      · rename_i e; injection hj with hj; subst hj; subst e
        exact h.fresh i so hi hw l (hl ▸ hl')
      · exact h.fresh j sj hj hwj l hl'
  | cons v vs ih =>
    intro H w h i so so' hi hw d e hd hin hl hwr hv hone hnd
    simp only [List.length_cons] at hd
    have h3 := (h.dom i so hi).2.2
    have hdl : d + e < so.len := Nat.lt_of_lt_of_le (by omega) h3.fits
    have hstep := h.set1 (so' := .vec ((so.vals ρ).set (d + e) v) so.len) hi hw hdl (v := v) trivial rfl (fun j x hx => by
      change ((so.vals ρ).set (d + e) v)[j]? = some x at hx
      by_cases hj : j = d + e
      · subst hj
        rw [List.getElem?_set_self (by omega)] at hx
        rw [if_pos rfl]
        injection hx with hx; exact hx.symm
      · rw [List.getElem?_set_ne (by omega)] at hx
        rw [if_neg hj]; exact hx) (fun x hx => by
      change x ∈ (so.vals ρ).set (d + e) v at hx
      rcases List.mem_or_eq_of_mem_set hx with hx | hx
      · exact h3.cell.2 x hx
      · subst hx; exact hone x (by simp)) (by change ((so.vals ρ).set (d + e) v).length ≤ so.len; rw [List.length_set]; exact h3.fits) rfl
    obtain ⟨u', hu'⟩ := h3.room (d + e) hdl
    have hrun : (Go.store (⟨(ρ i).1, (ρ i).2 + (d + e), none⟩ : Addr) v).run P w = .ok () (w.setCell ⟨(ρ i).1, (ρ i).2 + (d + e), none⟩ v) := by
      rw [Go.run_store P w _ v .plain (hone v (by simp)), hu']
      simp [h3.free hw (d + e) hdl]
    obtain ⟨w', hr, hs⟩ := ih hstep (so' := so') (look_same _ _ _) rfl (d := d) (e := e + 1) (by change d + (e + 1) + vs.length ≤ ((so.vals ρ).set (d + e) v).length; rw [List.length_set]; omega) hin (by rw [hl]; rfl) hwr (by
      change so'.vals ρ = setRange ((so.vals ρ).set (d + e) v) (d + (e + 1)) vs
      rw [hv, ← Nat.add_assoc, setRange_cons (by omega)]) (fun x hx => hone x (by simp [hx])) hnd
    refine ⟨w', ?_, hs.weaken (fun j sj hj => ?_) (fun j sj hj => ?_)⟩
    · simp only [storeCells, Sem.run_bind]
      rw [add_at, Nat.add_assoc, hrun]
      exact hr
    · rw [look_cons] at hj ⊢
      split at hj
      · exact (if_pos (by assumption)).trans hj
      · rename_i e
        rw [if_neg e, look_cons, if_neg e]; exact hj
    · exact ⟨(hs.dom j sj (by
        rw [look_cons] at hj ⊢
        split at hj
        · exact (if_pos (by assumption)).trans hj
        · rename_i e; rw [if_neg e, look_cons, if_neg e]; exact hj)).1, (hs.dom j sj (by
        rw [look_cons] at hj ⊢
        split at hj
        · exact (if_pos (by assumption)).trans hj
        · rename_i e; rw [if_neg e, look_cons, if_neg e]; exact hj)).2.1⟩

end
end Go.Sh

/- The evaluator at one operation, and that it is sound. -/
set_option linter.unusedVariables false
namespace Go.Sh
open Go.RowKit

/-! ### Small words -/
def boolK (v : SV) (k : Bool → Prop) : Prop :=
  match v with
  | .tt => k true
  | .ff => k false
  | .bool b => k b
  | _ => False
theorem boolK_out {v : SV} {k : Bool → Prop} (h : boolK v k) : ∃ b, k b ∧ ∀ ρ, v.val ρ = .bool b := by
  cases v <;> first | exact ⟨_, h, fun _ => rfl⟩ | exact h.elim

def SV.allone : List SV → Bool
  | [] => true
  | v :: r => v.one && SV.allone r
theorem allone_out (ρ : Env) : ∀ {l : List SV}, SV.allone l = true → ∀ v ∈ SV.vals ρ l, v.oneCell' = true
  | [], _ => by simp [SV.vals]
  | v :: r, h => by
    simp only [SV.allone, Bool.and_eq_true] at h
    intro x hx
    rw [SV.vals] at hx
    rcases List.mem_cons.1 hx with hx | hx
    · rw [hx]; exact SV.one_val ρ h.1
    · exact allone_out ρ h.2 x hx

/-- The cells of a value, written out. -/
def cellsK (v : SV) (k : List SV → Prop) : Prop :=
  match v with
  | .agg cs => (match SV.allone cs with | true => k cs | false => False)
  | v => (match v.one with | true => k [v] | false => False)
theorem cellsK_out {v : SV} {k : List SV → Prop} (h : cellsK v k) : ∃ l, k l ∧ SV.allone l = true ∧ (∀ ρ, (v.val ρ).cells.toList = SV.vals ρ l) ∧ ∀ N, v.In N → SV.Ins N l := by
  unfold cellsK at h
  split at h
  · rename_i cs
    split at h
    · rename_i ho
      exact ⟨cs, h, ho, fun ρ => by simp [SV.val, Value.cells], fun N hN => by rwa [SV.In] at hN⟩
    · exact h.elim
  · rename_i hne
    split at h
    · rename_i ho
      refine ⟨[v], h, by simp [SV.allone, ho], fun ρ => ?_, fun N hN => ⟨hN, trivial⟩⟩
      cases v <;> first | rfl | (rename_i l _; cases l <;> rfl) | (simp only [SV.val, slzV, SV.vals]; split <;> rfl) | (simp [SV.one] at ho; done)
    · exact h.elim

/-- The environment of what has no names. -/
def zenv : Env := fun _ => (0, 0)
theorem closed_val {v : SV} (h : v.ok 0 = true) (ρ : Env) : v.val ρ = v.val zenv := SV.val_agree (N := (· < 0)) (fun i hi => absurd hi (Nat.not_lt_zero i)) v (SV.In_of_ok v h)
theorem closed_vals {l : List SV} (h : SV.oks 0 l = true) (ρ : Env) : SV.vals ρ l = SV.vals zenv l := SV.vals_agree (N := (· < 0)) (fun i hi => absurd hi (Nat.not_lt_zero i)) l (SV.Ins_of_oks l h)
theorem closed_In {v : SV} (h : v.ok 0 = true) (N : Nat → Prop) : v.In N := SV.In.mono (fun i hi => absurd hi (Nat.not_lt_zero i)) v (SV.In_of_ok v h)
theorem closed_Ins {l : List SV} (h : SV.oks 0 l = true) (N : Nat → Prop) : SV.Ins N l := SV.Ins.mono (fun i hi => absurd hi (Nat.not_lt_zero i)) l (SV.Ins_of_oks l h)

/-! ### What is left to the prover -/
/-- A load out of cells that are not written out. -/
structure LoadL (cs : List Value) (o n : Nat) (agg : Bool) (K : SV → Prop) : Prop where
  out : ∃ v : SV, K v ∧ v.ok 0 = true ∧ (match agg with | true => o + n ≤ cs.length ∧ ∃ arr : Array Value, v.val zenv = .agg arr ∧ arr.toList = (cs.drop o).take n | false => cs[o]? = some (v.val zenv))
/-- A load at a place that is not written out. -/
structure GetL (cs : List SV) (o n : Nat) (agg : Bool) (K : SV → Prop) : Prop where
  out : ∃ v : SV, K v ∧ (match agg with | true => o + n ≤ cs.length ∧ v = .agg ((cs.drop o).take n) | false => cs[o]? = some v)
/-- A store of such a kind. -/
structure PutL (so : SO) (o n : Nat) (y : SV) (K : SO → Prop) : Prop where
  out : ∃ (so' : SO) (ys : List SV), K so' ∧ (∀ ρ, (y.val ρ).cells.toList = SV.vals ρ ys) ∧ SV.allone ys = true ∧ ys.length = n ∧ (∀ N, y.In N → so.In N → so'.In N) ∧ so'.len = so.len ∧ so.wr = true ∧ so'.wr = true ∧ so'.isD = false ∧
    ∀ ρ, o + n ≤ (so.vals ρ).length ∧ so'.vals ρ = setRange (so.vals ρ) o (SV.vals ρ ys)
/-- A test. -/
structure IfL (b : Bool) (A B : Prop) : Prop where
  yes : b = true → A
  no : b = false → B
/-- An index: the element's number, as it stands written out (Kl), or not (Kx). -/
structure IdxL (n : Int) (len : Nat) (Kl Kx : Nat → Prop) : Prop where
  out : ∃ j : Nat, n = (j : Int) ∧ j < len ∧ (Kl j ∨ Kx j)
/-- A condition to be shown. -/
structure Needs (p : Prop) (K : Prop) : Prop where
  has : p
  go : K

/-! ### Operations on numbers -/
def band (op : BinOp) (k : IntKind) (x y : Int) : Int :=
  match op with
  | .and => k.wrap ((BitVec.ofInt k.bits x &&& BitVec.ofInt k.bits y).toNat : Int)
  | .or => k.wrap ((BitVec.ofInt k.bits x ||| BitVec.ofInt k.bits y).toNat : Int)
  | .xor => k.wrap ((BitVec.ofInt k.bits x ^^^ BitVec.ofInt k.bits y).toNat : Int)
  | _ => k.wrap ((BitVec.ofInt k.bits x &&& ~~~BitVec.ofInt k.bits y).toNat : Int)
def shlI (k : IntKind) (x y : Int) : Int := k.wrap (x * 2 ^ min y.toNat k.bits)
def shrI (k : IntKind) (x y : Int) : Int := x / 2 ^ min y.toNat k.bits

/-- Is it a number that is not 0, written out? -/
def nz : Operand → Bool
  | .const (.int _ (.ofNat (_ + 1))) => true
  | .const (.int _ (.negSucc _)) => true
  | _ => false
def needK (b : Bool) (p K : Prop) : Prop := match b with | true => K | false => Needs p K

def binK (op : BinOp) (cy : Bool) (va vb : SV) (k : SV → Prop) (other : Prop) : Prop :=
  match va, vb with
  | .int ka a, .int kb b =>
    (match op with
     | .shl => needK cy (0 ≤ b) (k (.int ka (shlI ka a b)))
     | .shr => needK cy (0 ≤ b) (k (.int ka (shrI ka a b)))
     | .add => (match ka == kb with | true => k (.int ka (ka.wrap (a + b))) | false => False)
     | .sub => (match ka == kb with | true => k (.int ka (ka.wrap (a - b))) | false => False)
     | .mul => (match ka == kb with | true => k (.int ka (ka.wrap (a * b))) | false => False)
     | .quo => (match ka == kb with | true => needK cy (b ≠ 0) (k (.int ka (ka.wrap (a.tdiv b)))) | false => False)
     | .rem => (match ka == kb with | true => needK cy (b ≠ 0) (k (.int ka (a.tmod b))) | false => False)
     | .and => (match ka == kb with | true => k (.int ka (band .and ka a b)) | false => False)
     | .or => (match ka == kb with | true => k (.int ka (band .or ka a b)) | false => False)
     | .xor => (match ka == kb with | true => k (.int ka (band .xor ka a b)) | false => False)
     | .andNot => (match ka == kb with | true => k (.int ka (band .andNot ka a b)) | false => False)
     | .eql => (match ka == kb with | true => k (.bool (decide (a = b))) | false => False)
     | .neq => (match ka == kb with | true => k (.bool (!decide (a = b))) | false => False)
     | .lss => (match ka == kb with | true => k (.bool (decide (a < b))) | false => False)
     | .leq => (match ka == kb with | true => k (.bool (decide (a ≤ b))) | false => False)
     | .gtr => (match ka == kb with | true => k (.bool (decide (b < a))) | false => False)
     | .geq => (match ka == kb with | true => k (.bool (decide (b ≤ a))) | false => False))
  | _, _ => other

theorem nz_out {x : Operand} (h : nz x = true) : ∃ k n, x = .const (.int k n) ∧ n ≠ 0 := by
  unfold nz at h
  split at h
  · exact ⟨_, _, rfl, by simp; omega⟩
  · exact ⟨_, _, rfl, by simp⟩
  · cases h

/-- Is it a count that is not below 0, written out? -/
def nn : Operand → Bool
  | .const (.int _ (.ofNat _)) => true
  | _ => false
theorem nn_out {x : Operand} (h : nn x = true) : ∃ k n, x = .const (.int k n) ∧ 0 ≤ n := by
  unfold nn at h
  split at h
  · exact ⟨_, _, rfl, by simp⟩
  · cases h

def cyOf (op : BinOp) (y : Operand) : Bool := match op with | .shl | .shr => nn y | _ => nz y

theorem needK_out {b : Bool} {p K : Prop} (h : needK b p K) (hb : b = true → p) : p ∧ K := by
  cases b
  · exact ⟨h.has, h.go⟩
  · exact ⟨hb rfl, h⟩

theorem beqK {k k' : IntKind} {A : Prop} (h : match k == k' with | true => A | false => False) : k = k' ∧ A := by
  split at h
  · rename_i e; exact ⟨by simpa using e, h⟩
  · exact h.elim

def ndOk (op : BinOp) (b : Int) : Prop := match op with | .shl | .shr => 0 ≤ b | _ => b ≠ 0
/-- Two numbers. -/
theorem binK_int {P : Program} {op : BinOp} {t : TypeId} {cy : Bool} {ka kb : IntKind} {a b : Int} {k : SV → Prop} {other : Prop} (h : binK op cy (.int ka a) (.int kb b) k other)
    (hc : cy = true → ndOk op b) : ∃ v, k v ∧ (∀ w ρ, (binOp op t (.int ka a) (.int kb b)).run P w = .ok (v.val ρ) w) ∧ ∀ N, v.In N := by
  cases op
  case add => obtain ⟨rfl, g⟩ := beqK h; exact ⟨_, g, fun _ _ => by simp [binOp, Op.intArith]; rfl, fun _ => trivial⟩
  case sub => obtain ⟨rfl, g⟩ := beqK h; exact ⟨_, g, fun _ _ => by simp [binOp, Op.intArith]; rfl, fun _ => trivial⟩
  case mul => obtain ⟨rfl, g⟩ := beqK h; exact ⟨_, g, fun _ _ => by simp [binOp, Op.intArith]; rfl, fun _ => trivial⟩
  case quo =>
    obtain ⟨rfl, g⟩ := beqK h
    obtain ⟨hb, g'⟩ := needK_out g hc
    exact ⟨_, g', fun _ _ => by have hb : b ≠ 0 := hb; simp [binOp, Op.intDiv, hb]; rfl, fun _ => trivial⟩
  case rem =>
    obtain ⟨rfl, g⟩ := beqK h
    obtain ⟨hb, g'⟩ := needK_out g hc
    exact ⟨_, g', fun _ _ => by have hb : b ≠ 0 := hb; simp [binOp, Op.intDiv, hb]; rfl, fun _ => trivial⟩
  case and => obtain ⟨rfl, g⟩ := beqK h; exact ⟨_, g, fun _ _ => by simp [binOp, Op.intBits]; rfl, fun _ => trivial⟩
  case or => obtain ⟨rfl, g⟩ := beqK h; exact ⟨_, g, fun _ _ => by simp [binOp, Op.intBits]; rfl, fun _ => trivial⟩
  case xor => obtain ⟨rfl, g⟩ := beqK h; exact ⟨_, g, fun _ _ => by simp [binOp, Op.intBits]; rfl, fun _ => trivial⟩
  case andNot => obtain ⟨rfl, g⟩ := beqK h; exact ⟨_, g, fun _ _ => by simp [binOp, Op.intBits, SV.val, band], fun _ => trivial⟩
  case shl =>
    obtain ⟨hb, g⟩ := needK_out h hc
    exact ⟨_, g, fun _ _ => by simp only [binOp, shift_shl_any _ _ _ _ hb]; rfl, fun _ => trivial⟩
  case shr =>
    obtain ⟨hb, g⟩ := needK_out h hc
    exact ⟨_, g, fun _ _ => by simp only [binOp, shift_shr_any _ _ _ _ hb]; rfl, fun _ => trivial⟩
  case eql => obtain ⟨rfl, g⟩ := beqK h; exact ⟨_, g, fun _ _ => by simp [binOp, Op.intCmp, SV.val]; by_cases e : a = b <;> simp [e], fun _ => trivial⟩
  case neq => obtain ⟨rfl, g⟩ := beqK h; exact ⟨_, g, fun _ _ => by simp [binOp, Op.intCmp, SV.val]; by_cases e : a = b <;> simp [e, bne], fun _ => trivial⟩
  case lss => obtain ⟨rfl, g⟩ := beqK h; exact ⟨_, g, fun _ _ => by simp [binOp, Op.intCmp, SV.val], fun _ => trivial⟩
  case leq => obtain ⟨rfl, g⟩ := beqK h; exact ⟨_, g, fun _ _ => by simp [binOp, Op.intCmp, SV.val], fun _ => trivial⟩
  case gtr => obtain ⟨rfl, g⟩ := beqK h; exact ⟨_, g, fun _ _ => by simp [binOp, Op.intCmp, SV.val], fun _ => trivial⟩
  case geq => obtain ⟨rfl, g⟩ := beqK h; exact ⟨_, g, fun _ _ => by simp [binOp, Op.intCmp, SV.val], fun _ => trivial⟩

end Go.Sh
