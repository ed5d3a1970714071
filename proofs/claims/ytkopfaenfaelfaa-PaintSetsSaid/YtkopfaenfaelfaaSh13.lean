import Derived.Test.YtkopfaenfaelfaaSh12
/- Calls: a contract over no heap, and one over a heap of its own, used where a greater heap is known. -/
set_option linter.unusedVariables false
namespace Go.Sh
open Go.RowKit

theorem ent {P : Program} {f : FuncId} {fn : Func} (hf : P.funcs[f]? = some fn) (h1 : fn.body.isSome = true) (h2 : (fn.name == "runtime.NumGoroutine") = false) : ∀ args w, (callFunc f args).run P w = .ok (.enter f args) w := fun args w => by
  have hb : fn.body.isNone = false := by cases h : fn.body <;> simp_all
  have hn : ¬ fn.name = "runtime.NumGoroutine" := by simpa using h2
  have hb' : ¬ fn.body = none := by intro e; rw [e] at hb; cases hb
  simp [callFunc, hf, hn, hb']

/-- A world that has only got new blocks since. -/
theorem Sat.later {w0 w w' : World} {O : Nat → Nat → Prop} {N N' : Nat → Prop} {ρ ρ' : Env} {H H' : Hp} (h : Sat w0 O N ρ H w) (g : Sat w (fun _ _ => False) N' ρ' H' w') : Sat w0 O N ρ H w' := by
  have hb : ∀ k, k < w.heap.size → w'.heap[k]? = w.heap[k]? := fun k hk => g.blk k hk (fun _ e => e)
  have hc : ∀ b o, b < w.heap.size → w'.cell? ⟨b, o, none⟩ = w.cell? ⟨b, o, none⟩ := fun b o hk => World.cell?_of_block (w := w) (hb b hk)
  have hf : ∀ b o, b < w.heap.size → w'.frozen? ⟨b, o, none⟩ = w.frozen? ⟨b, o, none⟩ := fun b o hk => World.frozen?_of_block (w := w) (hb b hk)
  refine ⟨g.os.trans h.os, g.tape.trans h.tape, g.output.trans h.output, Nat.le_trans h.size g.size, fun i so hi => ?_, h.sep, fun k hk hO => ?_, fun k off hk hO => ?_, fun k off hk => ?_, h.fresh, h.dict.mono fun i es c hi => hb _ (dict_lt (h.dict.at_ i es c hi))⟩
  · obtain ⟨h1, h2, h3⟩ := h.dom i so hi
    have hlt : ∀ j, j < so.len → (ρ i).1 < w.heap.size := fun j hj => by
      obtain ⟨v, hv⟩ := h3.room j hj
      exact block_lt hv
    refine ⟨h1, h2, ⟨⟨fun j v hv => ?_, h3.cell.2⟩, fun hw j hj => ?_, fun j hj => ?_, h3.fits⟩⟩
    · rw [hc _ _ (hlt j (Nat.lt_of_lt_of_le (List.getElem?_eq_some_iff.1 hv).1 h3.fits))]; exact h3.cell.1 j v hv
    · rw [hf _ _ (hlt j hj)]; exact h3.free hw j hj
    · rw [hc _ _ (hlt j hj)]; exact h3.room j hj
  · rw [hb k (Nat.lt_of_lt_of_le hk h.size)]; exact h.blk k hk hO
  · rw [hc k off (Nat.lt_of_lt_of_le hk h.size)]; exact h.cell k off hk hO
  · rw [hf k off (Nat.lt_of_lt_of_le hk h.size)]; exact h.frz k off hk

theorem Sat.none (w : World) (ρ : Env) : Sat w (fun _ _ => False) (· < 0) ρ [] w :=
  ⟨rfl, rfl, rfl, Nat.le_refl _, fun i so h => (by cases h), fun i j si sj h => (by cases h), fun _ _ _ => rfl, fun _ _ _ _ => rfl, fun _ _ _ => rfl, fun i so h => (by cases h), DictOk.nil⟩

/-- A function of plain values. -/
def Pure (P : Program) (f : FuncId) (args : List SV) (r : SV) : Prop := Spec P f args [] 0 fun v _ _ => ∀ ρ, v.val ρ = r.val ρ

theorem Spec.pure {P : Program} {f : FuncId} {args args0 : List SV} {r : SV} {H : Hp} {u : Nat} {K : SV → Hp → Nat → Prop} (h : Pure P f args0 r) (ha : SV.oks 0 args0 = true) (hr : r.ok 0 = true) (he : ∀ ρ, SV.vals ρ args = SV.vals ρ args0) (k : K r H u) : Spec P f args H u K := by
  refine ⟨h.ent, fun w0 O ρ w hs _ => ?_⟩
  rw [he]
  refine (h.sem w _ ρ w (Sat.none w ρ) (closed_Ins ha _)).mono ?_
  rintro e w' ⟨v, H', u', ρ', rfl, h1, h2, h3, h4, hv⟩
  exact ⟨r, H, u, ρ, by rw [hv ρ', closed_val hr ρ', closed_val hr ρ], Nat.le_refl _, fun _ _ => rfl, closed_In hr _, hs.later h4, k⟩

theorem Pure.mk {P : Program} {f : FuncId} {args : List SV} {r : SV} (h : Spec P f args [] 0 fun v _ _ => ∀ ρ, v.val ρ = r.val ρ) : Pure P f args r := h

/-! ### The greater heap -/
/-- The callee's environment out of the caller's: name i lies at the name (τ i).1, (τ i).2 cells behind its base. -/
def via (ρ : Env) (τ : Nat → Nat × Nat) : Env := fun i => ((ρ (τ i).1).1, (ρ (τ i).1).2 + (τ i).2)

/-- The caller's environment behind the call: what the callee made has the names from u on. -/
def join (ρ ρ' : Env) (u u0 : Nat) : Env := fun k => if k < u then ρ k else ρ' (u0 + (k - u))

/-- What a name of the callee's says is a part of what the caller knows. -/
structure Lies (H : Hp) (τ : Nat × Nat) (so : SO) (τs : Nat → Nat × Nat) (sc : SO) : Prop where
  at_ : look H τ.1 = some sc
  vals : ∀ ρ, ∀ j v, (so.vals (via ρ τs))[j]? = some v → (sc.vals ρ)[τ.2 + j]? = some v
  len : τ.2 + so.len ≤ sc.len
  fits : ∀ ρ, (so.vals ρ).length ≤ so.len
  wr : so.wr = true → sc.wr = true

theorem Lies.is {w0 w : World} {O : Nat → Nat → Prop} {N : Nat → Prop} {ρ : Env} {H : Hp} (h : Sat w0 O N ρ H w) {i : Nat} {τs : Nat → Nat × Nat} {so sc : SO} (g : Lies H (τs i) so τs sc) : so.is (via ρ τs) w (via ρ τs i) := by
  obtain ⟨h1, h2, h3⟩ := h.dom _ _ g.at_
  refine ⟨⟨fun j v hv => ?_, fun v hv => ?_⟩, fun hw j hj => ?_, fun j hj => ?_, g.fits _⟩
  · have := h3.cell.1 _ _ (g.vals ρ j v hv)
    rw [show (via ρ τs i).2 + j = (ρ (τs i).1).2 + ((τs i).2 + j) from by simp [via, Nat.add_assoc]]
    exact this
  · obtain ⟨j, hj⟩ := List.mem_iff_getElem?.1 hv
    exact h3.cell.2 v (List.mem_of_getElem? (g.vals ρ j v hj))
  · rw [show (via ρ τs i).2 + j = (ρ (τs i).1).2 + ((τs i).2 + j) from by simp [via, Nat.add_assoc]]
    exact h3.free (g.wr hw) _ (by have := g.len; omega)
  · rw [show (via ρ τs i).2 + j = (ρ (τs i).1).2 + ((τs i).2 + j) from by simp [via, Nat.add_assoc]]
    exact h3.room _ (by have := g.len; omega)

/-- The callee's heap, out of the caller's. -/
structure Part (H0 : Hp) (u0 : Nat) (τ : Nat → Nat × Nat) (H : Hp) : Prop where
  lies : ∀ i so, look H0 i = some so → i < u0 ∧ so.In (· < u0) ∧ ∃ sc, Lies H (τ i) so τ sc
  sep : ∀ i j si sj, look H0 i = some si → look H0 j = some sj → i ≠ j → si.wr = true → (τ i).1 ≠ (τ j).1
  dict : ∀ i es c, look H0 i = some (.dict es c) → (τ i).2 = 0 ∧ ∃ k', look H (τ i).1 = some (.dict k' c) ∧ k'.cov es

/-- The cells that the callee may write. -/
def ownBy (H0 : Hp) (ρ : Env) (b off : Nat) : Prop := (∃ i so j, look H0 i = some so ∧ so.wr = true ∧ j < so.len ∧ b = (ρ i).1 ∧ off = (ρ i).2 + j) ∨ ∃ i es c, look H0 i = some (.dict es c) ∧ b = (ρ i).1

theorem Part.sat {w0 w : World} {O : Nat → Nat → Prop} {N : Nat → Prop} {ρ : Env} {H : Hp} (h : Sat w0 O N ρ H w) {H0 : Hp} {u0 : Nat} {τ : Nat → Nat × Nat} (p : Part H0 u0 τ H) : Sat w (ownBy H0 (via ρ τ)) (· < u0) (via ρ τ) H0 w := by
  refine ⟨rfl, rfl, rfl, Nat.le_refl _, fun i so hi => ?_, fun i j si sj hi hj hij hw => ?_, fun _ _ _ => rfl, fun _ _ _ _ => rfl, fun _ _ _ => rfl, fun i so hi hw j hj => .inl (.inl ⟨i, so, j, hi, hw, hj, rfl, rfl⟩), ⟨fun i es c hi => (p.dict i es c hi).2.elim fun k' hk => (by rw [show via ρ τ i = ρ (τ i).1 by simp [via, (p.dict i es c hi).1]]; exact hk.2 _ _ _ (h.dict.at_ _ k' c hk.1)), fun i es c hi => .inl fun off => .inr ⟨i, es, c, hi, rfl⟩, fun i j ei ci ej cj hi hj hij => (p.dict i ei ci hi).2.elim fun k1 h1 => (p.dict j ej cj hj).2.elim fun k2 h2 => h.dict.sep _ _ k1 ci k2 cj h1.1 h2.1 (p.sep i j _ _ hi hj hij rfl)⟩⟩
  · obtain ⟨h1, h2, sc, g⟩ := p.lies i so hi
    exact ⟨h1, h2, g.is h⟩
  · obtain ⟨_, _, sc, g⟩ := p.lies i si hi
    obtain ⟨_, _, sd, g'⟩ := p.lies j sj hj
    have := h.sep _ _ sc sd g.at_ g'.at_ (p.sep i j si sj hi hj hij hw) (g.wr hw)
    intro k l hk hl e
    have h1 := this ((τ i).2 + k) ((τ j).2 + l) (by have := g.len; omega) (by have := g'.len; omega) e
    simp only [via]
    omega

/-- The callee's heap, the caller's world the base. -/
theorem Part.sat0 {w0 w : World} {O : Nat → Nat → Prop} {N : Nat → Prop} {ρ : Env} {H : Hp} (h : Sat w0 O N ρ H w) {H0 : Hp} {u0 : Nat} {τ : Nat → Nat × Nat} (p : Part H0 u0 τ H) : Sat w0 O (· < u0) (via ρ τ) H0 w := by
  have g := p.sat h
  refine ⟨h.os, h.tape, h.output, h.size, g.dom, g.sep, h.blk, h.cell, h.frz, fun i so hi hw j hj => ?_, g.dict.at_, fun i es c hi => (p.dict i es c hi).2.elim fun k' hk => h.dict.own _ k' c hk.1, g.dict.sep⟩
  obtain ⟨_, _, sc, g'⟩ := p.lies i so hi
  have := h.fresh _ sc g'.at_ (g'.wr hw) ((τ i).2 + j) (by have := g'.len; omega)
  simp only [via]
  rw [Nat.add_assoc]
  exact this

theorem Part.own_le {w0 w : World} {O : Nat → Nat → Prop} {N : Nat → Prop} {ρ : Env} {H : Hp} (hs : Sat w0 O N ρ H w) {H0 : Hp} {u0 : Nat} {τ : Nat → Nat × Nat} (p : Part H0 u0 τ H) {b off : Nat} (h : ownBy H0 (via ρ τ) b off) : O b off ∨ w0.heap.size ≤ b := by
  rcases h with ⟨i, so, j, hi, hw, hj, e1, e2⟩ | ⟨i, es, c, hi, e1⟩
  · obtain ⟨_, _, sc, g⟩ := p.lies i so hi
    have := hs.fresh _ sc g.at_ (g.wr hw) ((τ i).2 + j) (by have := g.len; omega)
    simp only [via] at e1 e2
    rw [e1, e2, Nat.add_assoc]; exact this
  · obtain ⟨_, k', hk, _⟩ := p.dict i es c hi
    rw [e1]; exact (hs.dict.own _ k' c hk).imp (fun h => h off) id
/-- A map that is not handed on is not laid. -/
theorem Part.far_dict {w0 w : World} {O : Nat → Nat → Prop} {N : Nat → Prop} {ρ : Env} {H : Hp} (hs : Sat w0 O N ρ H w) {H0 : Hp} {u0 : Nat} {τ : Nat → Nat × Nat} (p : Part H0 u0 τ H) {k : Nat} {es : DK} {c : Nat} (hk : look H k = some (.dict es c)) (hn : ∀ i so, look H0 i = some so → so.wr = true → (τ i).1 ≠ k) (off : Nat) : ¬ ownBy H0 (via ρ τ) (ρ k).1 off := by
  rintro (⟨i, so, j, hi, hw, hj, e1, e2⟩ | ⟨i, es', c', hi, e1⟩)
  · obtain ⟨v, hv⟩ := ((p.sat hs).dom i so hi).2.2.room j hj
    have e1 : (via ρ τ i).1 = (ρ k).1 := e1.symm
    rw [e1] at hv
    exact dict_cell (hs.dict.at_ k es c hk) hv
  · obtain ⟨_, k', hk', _⟩ := p.dict i es' c' hi
    exact hs.dict.sep k _ es c k' c' hk hk' (fun e => hn i _ hi rfl e.symm) e1
/-- A row's cells are no map's. -/
theorem Part.far_cell {w0 w : World} {O : Nat → Nat → Prop} {N : Nat → Prop} {ρ : Env} {H : Hp} (hs : Sat w0 O N ρ H w) {H0 : Hp} {u0 : Nat} {τ : Nat → Nat × Nat} (p : Part H0 u0 τ H) {i j : Nat} {sc : SO} (hi : look H i = some sc) (hj : j < sc.len) {i' : Nat} {es : DK} {c : Nat} (h : look H0 i' = some (.dict es c)) (e : (ρ i).1 = (via ρ τ i').1) : False := by
  obtain ⟨v, hv⟩ := (hs.dom i sc hi).2.2.room j hj
  rw [e] at hv
  obtain ⟨_, k', hk', _⟩ := p.dict i' es c h
  exact dict_cell (hs.dict.at_ _ k' c hk') hv

/-- A call that reads: what it hands back is a plain value, and what it may write is as it was. -/
theorem Spec.reads {P : Program} {f : FuncId} {args args0 : List SV} {r : SV} {H H0 : Hp} {u u0 : Nat} {K : SV → Hp → Nat → Prop} (τ : Nat → Nat × Nat) (h : Spec P f args0 H0 u0 fun v _ _ => ∀ ρ, v.val ρ = r.val ρ) (hro : ∀ i so, look H0 i = some so → so.wr = false)
    (ha : ∀ ρ, SV.vals ρ args = SV.vals (via ρ τ) args0) (hin : SV.oks u0 args0 = true) (p : Part H0 u0 τ H) (hr : r.ok 0 = true) (k : K r H u) : Spec P f args H u K := by
  refine ⟨h.ent, fun w0 O ρ w hs _ => ?_⟩
  rw [ha ρ]
  refine (h.sem w _ (via ρ τ) w (p.sat hs) (SV.Ins_of_oks _ hin)).mono ?_
  rintro e w' ⟨v, H', u', ρ', rfl, h1, h2, h3, h4, hv⟩
  refine ⟨r, H, u, ρ, by rw [hv ρ', closed_val hr ρ', closed_val hr ρ], Nat.le_refl _, fun _ _ => rfl, closed_In hr _, hs.later (N' := (· < u')) (ρ' := ρ') (H' := H') ?_, k⟩
  have : ownBy H0 (via ρ τ) = fun _ _ => False := by
    funext b off
    exact eq_false fun h => by
      rcases h with ⟨i, so, j, hi, hw, _⟩ | ⟨i, es, c, hi, _⟩
      · rw [hro i so hi] at hw; cases hw
      · have := hro i _ hi; cases this
  rw [this] at h4
  exact h4

/-- One row of the caller's heap behind a call. -/
inductive Kept (H H0 H1 : Hp) (u : Nat) (τ : Nat → Nat × Nat) (k : Nat) (s2 : SO) : Prop where
  | far (h : look H k = some s2) (hn : ∀ i so, look H0 i = some so → so.wr = true → (τ i).1 ≠ k)
  | laid (i : Nat) (so so1 sc : SO) (hk : (τ i).1 = k) (h0 : look H0 i = some so) (h1 : look H1 i = some so1) (hc : look H k = some sc) (hw : sc.wr = true) (hw2 : s2.wr = true) (hl : s2.len = sc.len) (hok : s2.ok u = true)
      (hv : ∀ ρ, (so1.vals ρ).length = so.len ∧ so1.len = so.len ∧ s2.vals ρ = setRange (sc.vals ρ) (τ i).2 (so1.vals (via ρ τ))) (hf : ∀ ρ, (sc.vals ρ).length = sc.len) (hnd : s2.isD = false)

/-- A CALL IN A GREATER HEAP. -/
theorem Spec.frame {P : Program} {f : FuncId} {args args0 : List SV} {r : SV} {H H0 H1 H2 : Hp} {u u0 : Nat} {K : SV → Hp → Nat → Prop} (τ : Nat → Nat × Nat) (h : Spec P f args0 H0 u0 fun v H' _ => (∀ ρ, v.val ρ = r.val ρ) ∧ subH H1 H')
    (ha : ∀ ρ, SV.vals ρ args = SV.vals (via ρ τ) args0) (hin : SV.oks u0 args0 = true) (p : Part H0 u0 τ H) (hr : r.ok 0 = true) (hH : ∀ k s2, look H2 k = some s2 → Kept H H0 H1 u τ k s2) (hok1 : wfH u0 H1 = true) (k : K r H2 u) : Spec P f args H u K := by
  refine ⟨h.ent, fun w0 O ρ w hs _ => ?_⟩
  rw [ha ρ]
  refine (h.sem w _ (via ρ τ) w (p.sat hs) (SV.Ins_of_oks _ hin)).mono ?_
  rintro e w' ⟨v, H', u', ρ', rfl, h1, h2, h3, h4, hrv, h5⟩
  refine ⟨r, H2, u, ρ, by rw [hrv ρ', closed_val hr ρ', closed_val hr ρ], Nat.le_refl _, fun _ _ => rfl, closed_In hr _, ?_, k⟩
  have hcell : ∀ b o, b < w.heap.size → ¬ ownBy H0 (via ρ τ) b o → w'.cell? ⟨b, o, none⟩ = w.cell? ⟨b, o, none⟩ := fun b o hb hn => h4.cell b o hb hn
  have hfrz : ∀ b o, b < w.heap.size → w'.frozen? ⟨b, o, none⟩ = w.frozen? ⟨b, o, none⟩ := fun b o hb => h4.frz b o hb
  have hroom : ∀ i so, look H i = some so → ∀ j, j < so.len → (ρ i).1 < w.heap.size := fun i so hi j hj => by
    obtain ⟨v, hv⟩ := (hs.dom i so hi).2.2.room j hj
    exact block_lt hv
  -- a cell of the caller's that no name of the callee's holds
  have hfar : ∀ i sc j, look H i = some sc → j < sc.len → (∀ i' so, look H0 i' = some so → so.wr = true → (τ i').1 = i → ¬ ((τ i').2 ≤ j ∧ j < (τ i').2 + so.len)) → ¬ ownBy H0 (via ρ τ) (ρ i).1 ((ρ i).2 + j) := by
    rintro i sc j hi hj hno (⟨i', so, j', hi', hw', hj', e1, e2⟩ | ⟨i', es, c, hi', e1⟩)
    rotate_left
    · exact p.far_cell hs hi hj hi' e1
    obtain ⟨_, _, sc', g⟩ := p.lies i' so hi'
    by_cases e : (τ i').1 = i
    · refine hno i' so hi' hw' e ?_
      simp only [via, e] at e2
      omega
    · have := hs.sep _ _ sc' sc g.at_ hi e (g.wr hw') ((τ i').2 + j') j (by have := g.len; omega) hj e1.symm
      simp only [via] at e2
      omega
  have hobj : ∀ k s2, look H2 k = some s2 → k < u ∧ s2.In (· < u) ∧ (∃ sc, look H k = some sc ∧ s2.len = sc.len ∧ (s2.wr = true → sc.wr = true)) ∧ s2.is ρ w' (ρ k) := by
    intro k s2 hk
    cases hH k s2 hk with
    | far hl hn =>
      obtain ⟨q1, q2, q3⟩ := hs.dom k s2 hl
      have hc : ∀ j, j < s2.len → w'.cell? ⟨(ρ k).1, (ρ k).2 + j, none⟩ = w.cell? ⟨(ρ k).1, (ρ k).2 + j, none⟩ := fun j hj =>
        hcell _ _ (hroom k s2 hl j hj) (hfar k s2 j hl hj fun i' so hi' hw' e => absurd e (hn i' so hi' hw'))
      refine ⟨q1, q2, ⟨s2, hl, rfl, id⟩, ⟨⟨fun j v hv => ?_, q3.cell.2⟩, fun hw j hj => ?_, fun j hj => ?_, q3.fits⟩⟩
      · rw [hc j (Nat.lt_of_lt_of_le (List.getElem?_eq_some_iff.1 hv).1 q3.fits)]; exact q3.cell.1 j v hv
      · rw [hfrz _ _ (hroom k s2 hl j hj)]; exact q3.free hw j hj
      · rw [hc j hj]; exact q3.room j hj
    | laid i so so1 sc hk0 h0 h1' hc0 hw hw2 hl hok hv hf hnd =>
      obtain ⟨q1, q2, q3⟩ := hs.dom k sc hc0
      obtain ⟨hiu, _, sc', g⟩ := p.lies i so h0
      have hsc : sc' = sc := by
        have := g.at_
        rw [hk0, hc0] at this
        injection this with this
        exact this.symm
      subst hsc
      have hso1 : so1.vals ρ' = so1.vals (via ρ τ) := SO.vals_agree (N := (· < u0)) (fun i hi => h2 i hi) (wfH_out hok1 i so1 h1').2
      obtain ⟨_, _, g3⟩ := h4.dom i so1 (subH_out h5 i so1 h1')
      have hρi : ρ' i = via ρ τ i := h2 i hiu
      obtain ⟨hv1, hv2, hv3⟩ := hv ρ
      have hv1' : (so1.vals (via ρ τ)).length = so.len := (hv (via ρ τ)).1
      have glen := g.len
      have hfr := hf ρ
      have hin' : ∀ j, (τ i).2 ≤ j → j < (τ i).2 + so.len → w'.cell? ⟨(ρ k).1, (ρ k).2 + j, none⟩ = (so1.vals (via ρ τ))[j - (τ i).2]? := fun j h1 h2 => by
        have hlt : j - (τ i).2 < (so1.vals ρ').length := by rw [hso1, hv1']; omega
        have := g3.cell.1 (j - (τ i).2) _ (List.getElem?_eq_getElem hlt)
        rw [hρi] at this
        have e : (via ρ τ i).2 + (j - (τ i).2) = (ρ k).2 + j := by simp only [via, hk0]; omega
        rw [e] at this
        simp only [via, hk0] at this
        rw [this, ← hso1, List.getElem?_eq_getElem hlt]
      have hout : ∀ j, j < sc'.len → ¬ ((τ i).2 ≤ j ∧ j < (τ i).2 + so.len) → w'.cell? ⟨(ρ k).1, (ρ k).2 + j, none⟩ = w.cell? ⟨(ρ k).1, (ρ k).2 + j, none⟩ := fun j hj hn =>
        hcell _ _ (hroom k sc' hc0 j hj) (hfar k sc' j hc0 hj fun i' so' hi' hw' e => by
          by_cases ei : i' = i
          · subst ei
            rw [h0] at hi'
            injection hi' with hi'
            subst hi'
            exact hn
          · exact absurd (e.trans hk0.symm) (p.sep i' i so' so hi' h0 ei hw'))
      have hget : ∀ j, (s2.vals ρ)[j]? = if (τ i).2 ≤ j ∧ j < (τ i).2 + so.len then (so1.vals (via ρ τ))[j - (τ i).2]? else (sc'.vals ρ)[j]? := fun j => by
        rw [hv3, setRange]
        by_cases c1 : j < (τ i).2
        · rw [if_neg (by omega), List.append_assoc, List.getElem?_append_left (by simp; omega), List.getElem?_take, if_pos c1]
        · by_cases c2 : j < (τ i).2 + so.len
          · rw [if_pos ⟨by omega, c2⟩, List.append_assoc, List.getElem?_append_right (by simp; omega), List.getElem?_append_left (by simp; omega)]
            congr 1
            simp; omega
          · rw [if_neg (by omega), List.getElem?_append_right (by simp; omega), List.getElem?_drop]
            congr 1
            simp; omega
      refine ⟨q1, SO.In_of_ok hok, ⟨sc', hc0, hl, fun _ => hw⟩, ⟨⟨fun j v hj => ?_, fun v hj => ?_⟩, fun _ j hj => ?_, fun j hj => ?_, ?_⟩⟩
      · rw [hget] at hj
        by_cases c : (τ i).2 ≤ j ∧ j < (τ i).2 + so.len
        · rw [if_pos c] at hj
          rw [hin' j c.1 c.2, hj]
        · rw [if_neg c] at hj
          have hlt : j < sc'.len := by rw [← hfr]; exact (List.getElem?_eq_some_iff.1 hj).1
          rw [hout j hlt c]; exact q3.cell.1 j v hj
      · obtain ⟨j, hj⟩ := List.mem_iff_getElem?.1 hj
        rw [hget] at hj
        by_cases c : (τ i).2 ≤ j ∧ j < (τ i).2 + so.len
        · rw [if_pos c, ← hso1] at hj
          exact g3.cell.2 v (List.mem_of_getElem? hj)
        · rw [if_neg c] at hj
          exact q3.cell.2 v (List.mem_of_getElem? hj)
      · rw [hl] at hj
        rw [hfrz _ _ (hroom k sc' hc0 j hj)]; exact q3.free hw j hj
      · rw [hl] at hj
        by_cases c : (τ i).2 ≤ j ∧ j < (τ i).2 + so.len
        · rw [hin' j c.1 c.2]
          exact ⟨_, List.getElem?_eq_getElem (by rw [hv1']; omega)⟩
        · rw [hout j hj c]; exact q3.room j hj
      · have e : (setRange (sc'.vals ρ) (τ i).2 (so1.vals (via ρ τ))).length = (sc'.vals ρ).length := setRange_length (by rw [hv1', hfr]; omega)
        rw [hv3, e, hl, hfr]; exact Nat.le_refl _
  refine ⟨h4.os.trans hs.os, h4.tape.trans hs.tape, h4.output.trans hs.output, Nat.le_trans hs.size h4.size, fun k s2 hk => ?_, fun i j si sj hi hj hij hw => ?_, fun k hk hO => ?_, fun k off hk hO => ?_, fun k off hk => ?_, fun k s2 hk hw j hj => ?_, ?_⟩
  · obtain ⟨q1, q2, _, q4⟩ := hobj k s2 hk
    exact ⟨q1, q2, q4⟩
  · obtain ⟨_, _, ⟨sc, q1, q2, q3⟩, _⟩ := hobj i si hi
    obtain ⟨_, _, ⟨sd, r1, r2, r3⟩, _⟩ := hobj j sj hj
    rw [q2, r2]
    exact hs.sep i j sc sd q1 r1 hij (q3 hw)
  · rw [h4.blk k (Nat.lt_of_lt_of_le hk hs.size) ?_]
    · exact hs.blk k hk hO
    · intro off ho
      rcases p.own_le hs ho with h | h
      · exact hO _ h
      · omega
  · rw [hcell k off (Nat.lt_of_lt_of_le hk hs.size) ?_]
    · exact hs.cell k off hk hO
    · intro ho
      rcases p.own_le hs ho with h | h
      · exact hO h
      · omega
  · rw [hfrz k off (Nat.lt_of_lt_of_le hk hs.size)]; exact hs.frz k off hk
  · obtain ⟨_, _, ⟨sc, q1, q2, q3⟩, _⟩ := hobj k s2 hk
    exact hs.fresh k sc q1 (q3 hw) j (q2 ▸ hj)
  · have far : ∀ k es c, look H2 k = some (.dict es c) → look H k = some (.dict es c) ∧ ∀ i so, look H0 i = some so → so.wr = true → (τ i).1 ≠ k := fun k es c hk => by
      cases hH k _ hk with
      | far hl hn => exact ⟨hl, hn⟩
      | laid i so so1 sc hk0 h0 h1' hc0 hw hw2 hl hok hv hf hnd => cases hnd
    refine ⟨fun k es c hk => ?_, fun k es c hk => hs.dict.own k es c (far k es c hk).1, fun i j ei ci ej cj hi hj hij => hs.dict.sep i j ei ci ej cj (far i ei ci hi).1 (far j ej cj hj).1 hij⟩
    obtain ⟨hl, hn⟩ := far k es c hk
    exact ⟨(h4.blk _ (dict_lt (hs.dict.at_ k es c hl)) (p.far_dict hs hl hn)).trans (hs.dict.at_ k es c hl).obj, (hs.dict.at_ k es c hl).sits⟩

end Go.Sh
