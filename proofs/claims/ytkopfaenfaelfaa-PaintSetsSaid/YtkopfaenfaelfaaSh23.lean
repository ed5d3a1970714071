import Derived.Test.YtkopfaenfaelfaaSh22
/- Names led elsewhere; a function that reads and lays what it is given, and makes blocks of its own: its contract, and its call in a greater heap. -/
set_option linter.unusedVariables false
namespace Go.Sh
open Go.RowKit

mutual
def SV.ren (f : Nat → Nat) : SV → SV
  | .ptr i o => .ptr (f i) o
  | .ptrx i o => .ptrx (f i) o
  | .slice i o l c => .slice (f i) o l c
  | .slicen i o l j => .slicen (f i) o l (f j)
  | .slz b i o l c => .slz b (f i) o l c
  | .map i => .map (f i)
  | .func g cs => .func g (SV.rens f cs)
  | .agg cs => .agg (SV.rens f cs)
  | .tup cs => .tup (SV.rens f cs)
  | .tt => .tt | .ff => .ff | .bool b => .bool b | .int k n => .int k n | .nil => .nil | .nilSlice => .nilSlice | .nilMap => .nilMap | .nilFunc => .nilFunc | .raw v => .raw v | .undef => .undef
def SV.rens (f : Nat → Nat) : List SV → List SV
  | [] => []
  | v :: r => SV.ren f v :: SV.rens f r
end
def SO.ren (f : Nat → Nat) : SO → SO
  | .cells cs => .cells (SV.rens f cs)
  | so => so
def renH (f : Nat → Nat) : Hp → Hp
  | [] => []
  | (i, so) :: r => (f i, so.ren f) :: renH f r

mutual
theorem SV.ren_val (f : Nat → Nat) (ρ : Env) : ∀ v : SV, (v.ren f).val ρ = v.val (fun i => ρ (f i))
  | .ptr i o => rfl | .ptrx i o => rfl | .slice i o l c => rfl | .slicen i o l j => (by cases l <;> rfl) | .slz b i o l c => rfl | .map i => rfl
  | .func g cs => by rw [SV.ren, SV.val, SV.val, SV.rens_vals f ρ cs]
  | .agg cs => by rw [SV.ren, SV.val, SV.val, SV.rens_vals f ρ cs]
  | .tup cs => by rw [SV.ren, SV.val, SV.val, SV.rens_vals f ρ cs]
  | .tt => rfl | .ff => rfl | .bool b => rfl | .int k n => rfl | .nil => rfl | .nilSlice => rfl | .nilMap => rfl | .nilFunc => rfl | .raw v => rfl | .undef => rfl
theorem SV.rens_vals (f : Nat → Nat) (ρ : Env) : ∀ l : List SV, SV.vals ρ (SV.rens f l) = SV.vals (fun i => ρ (f i)) l
  | [] => rfl
  | v :: r => by rw [SV.rens, SV.vals, SV.vals, SV.ren_val f ρ v, SV.rens_vals f ρ r]
end
mutual
theorem SV.ren_In (f : Nat → Nat) (N : Nat → Prop) : ∀ v : SV, (v.ren f).In N ↔ v.In (fun i => N (f i))
  | .ptr i o => by simp [SV.ren, SV.In] | .ptrx i o => by simp [SV.ren, SV.In] | .slice i o l c => by simp [SV.ren, SV.In] | .slicen i o l j => by simp [SV.ren, SV.In] | .slz b i o l c => by simp [SV.ren, SV.In] | .map i => by simp [SV.ren, SV.In]
  | .func g cs => by rw [SV.ren, SV.In, SV.In, SV.rens_Ins f N cs]
  | .agg cs => by rw [SV.ren, SV.In, SV.In, SV.rens_Ins f N cs]
  | .tup cs => by rw [SV.ren, SV.In, SV.In, SV.rens_Ins f N cs]
  | .tt => Iff.rfl | .ff => Iff.rfl | .bool b => Iff.rfl | .int k n => Iff.rfl | .nil => Iff.rfl | .nilSlice => Iff.rfl | .nilMap => Iff.rfl | .nilFunc => Iff.rfl | .raw v => Iff.rfl | .undef => Iff.rfl
theorem SV.rens_Ins (f : Nat → Nat) (N : Nat → Prop) : ∀ l : List SV, SV.Ins N (SV.rens f l) ↔ SV.Ins (fun i => N (f i)) l
  | [] => Iff.rfl
  | v :: r => by rw [SV.rens, SV.Ins, SV.Ins, SV.ren_In f N v, SV.rens_Ins f N r]
end
theorem SV.rens_length (f : Nat → Nat) : ∀ l : List SV, (SV.rens f l).length = l.length
  | [] => rfl
  | v :: r => by simp [SV.rens, SV.rens_length f r]
theorem SO.ren_vals (f : Nat → Nat) (ρ : Env) (so : SO) : (so.ren f).vals ρ = so.vals (fun i => ρ (f i)) := by
  cases so <;> first | rfl | exact SV.rens_vals f ρ _
theorem SO.ren_In (f : Nat → Nat) (N : Nat → Prop) (so : SO) : (so.ren f).In N ↔ so.In (fun i => N (f i)) := by
  cases so <;> first | exact Iff.rfl | exact SV.rens_Ins f N _
theorem SO.ren_len (f : Nat → Nat) (so : SO) : (so.ren f).len = so.len := by
  cases so <;> first | rfl | exact SV.rens_length f _
theorem SO.ren_wr (f : Nat → Nat) (so : SO) : (so.ren f).wr = so.wr := by cases so <;> rfl
theorem look_renH (f : Nat → Nat) : ∀ (H : Hp) (k : Nat) (s : SO), look (renH f H) k = some s → ∃ i so, f i = k ∧ look H i = some so ∧ s = so.ren f
  | [], k, s, h => by cases h
  | (i, so) :: r, k, s, h => by
    rw [renH, look_cons] at h
    by_cases e : f i = k
    · rw [if_pos e] at h
      injection h with h
      exact ⟨i, so, e, look_same _ _ _, h.symm⟩
    · rw [if_neg e] at h
      obtain ⟨j, s2, h1, h2, h3⟩ := look_renH f r k s h
      exact ⟨j, s2, h1, by rw [look_cons, if_neg (fun e' => e (by rw [e', h1]))]; exact h2, h3⟩

/-! ### The names of a call -/
def nthD : List Nat → Nat → Nat
  | [], _ => 0
  | a :: r, i => match i with | 0 => a | i + 1 => nthD r i
def nm (l : List Nat) (u0 u i : Nat) : Nat := match Nat.blt i u0 with | true => nthD l i | false => u + (i - u0)
def notIn (a : Nat) : List Nat → Bool
  | [] => true
  | b :: r => (match Nat.beq a b with | true => false | false => notIn a r)
def okNames (u : Nat) : List Nat → Bool
  | [] => true
  | a :: r => Nat.blt a u && (notIn a r && okNames u r)

theorem nthD_get : ∀ (l : List Nat) (i : Nat), i < l.length → l[i]? = some (nthD l i)
  | [], i, h => by simp at h
  | a :: r, 0, h => rfl
  | a :: r, i + 1, h => by simpa [nthD] using nthD_get r i (by simpa using h)
theorem notIn_out {a : Nat} : ∀ {l : List Nat}, notIn a l = true → a ∉ l
  | [], _ => by simp
  | b :: r, h => by
    rw [notIn] at h
    cases e : Nat.beq a b with
    | true => rw [e] at h; cases h
    | false =>
      rw [e] at h
      have : a ≠ b := fun h => by subst h; rw [Nat.beq_refl] at e; cases e
      simp [this, notIn_out h]
theorem okNames_out {u : Nat} : ∀ {l : List Nat}, okNames u l = true → (∀ a ∈ l, a < u) ∧ l.Nodup
  | [], _ => by simp
  | b :: r, h => by
    rw [okNames, Bool.and_eq_true, Bool.and_eq_true] at h
    obtain ⟨h1, h2⟩ := okNames_out h.2.2
    refine ⟨fun a ha => ?_, List.nodup_cons.2 ⟨notIn_out h.2.1, h2⟩⟩
    rcases List.mem_cons.1 ha with rfl | ha
    · simpa using h.1
    · exact h1 a ha

section
variable {l : List Nat} {u0 u : Nat} (hl : l.length = u0) (ho : okNames u l = true)
include hl ho
theorem nm_low {i : Nat} (h : i < u0) : nm l u0 u i = nthD l i ∧ nthD l i < u := by
  have hb : Nat.blt i u0 = true := by simpa using h
  refine ⟨by simp only [nm, hb], (okNames_out ho).1 _ ?_⟩
  exact List.mem_of_getElem? (nthD_get l i (hl ▸ h))
theorem nthD_inj {i j : Nat} (hi : i < u0) (hj : j < u0) (h : nthD l i = nthD l j) : i = j := by
  have h1 := nthD_get l i (hl ▸ hi)
  have h2 := nthD_get l j (hl ▸ hj)
  rw [h] at h1
  have := (okNames_out ho).2
  have e1 := (List.getElem?_eq_some_iff.1 h1)
  have e2 := (List.getElem?_eq_some_iff.1 h2)
  exact (List.getElem_inj this).1 (e1.2.trans e2.2.symm)
end
theorem nm_high {l : List Nat} {u0 u i : Nat} (h : u0 ≤ i) : nm l u0 u i = u + (i - u0) := by
  have : Nat.blt i u0 = false := by rw [← Bool.not_eq_true, Nat.blt_eq]; omega
  simp [nm, this]

/-! ### The contract -/
/-- What a function does with the rows H0 (names below u0) that it is given: behind it stand the rows H1 x (m names more), and it hands back r x: for some x of R. -/
def Fun (P : Program) (f : FuncId) (args0 : List SV) (H0 : Hp) (u0 m : Nat) {ι : Type} (R : ι → Prop) (r : ι → SV) (H1 : ι → Hp) : Prop :=
  Spec P f args0 H0 u0 fun v H' _ => ∃ (x : ι) (τ : Nat → Nat × Nat), R x ∧ (∀ i, i < u0 → τ i = (i, 0)) ∧ Part (H1 x) (u0 + m) τ H' ∧ ∀ ρ, v.val ρ = (r x).val (via ρ τ)

/-- Every row that may be laid stands behind it, as long as it was; and no row of H0 that may not be. -/
def covers (H1 : Hp) : Hp → Prop
  | [] => True
  | (i, so) :: r => (match so.wr with | true => ∃ so1, look H1 i = some so1 ∧ so1.wr = true ∧ so1.len = so.len | false => look H1 i = none) ∧ covers H1 r
theorem covers_out {H1 : Hp} : ∀ {H0 : Hp}, covers H1 H0 → ∀ i so, look H0 i = some so → (so.wr = true → ∃ so1, look H1 i = some so1 ∧ so1.wr = true ∧ so1.len = so.len) ∧ (so.wr = false → look H1 i = none)
  | [], _, i, so, h => by cases h
  | (k, x) :: r, h, i, so, hi => by
    rw [look_cons] at hi
    split at hi
    · rename_i e
      injection hi with hi
      subst hi; subst e
      have := h.1
      cases hw : x.wr
      · rw [hw] at this; exact ⟨fun h => (by cases h), fun _ => this⟩
      · rw [hw] at this; exact ⟨fun _ => this, fun h => (by cases h)⟩
    · exact covers_out h.2 i so hi
/-- The rows behind are of names below n, and those from u0 on may be laid. -/
def rowsOk (H0 : Hp) (u0 n : Nat) : Hp → Bool
  | [] => true
  | (i, so) :: r => Nat.blt i n && (so.ok n && (so.wr && ((match Nat.blt i u0 with | true => (look H0 i).isSome | false => true) && rowsOk H0 u0 n r)))
theorem rowsOk_out {H0 : Hp} {u0 n : Nat} : ∀ {H1 : Hp}, rowsOk H0 u0 n H1 = true → ∀ i so, look H1 i = some so → i < n ∧ so.In (· < n) ∧ so.wr = true ∧ (i < u0 → ∃ s, look H0 i = some s)
  | [], _, i, so, h => by cases h
  | (k, x) :: r, h, i, so, hi => by
    simp only [rowsOk, Bool.and_eq_true] at h
    rw [look_cons] at hi
    split at hi
    · rename_i e
      injection hi with hi
      subst hi; subst e
      refine ⟨by simpa using h.1, SO.In_of_ok h.2.1, h.2.2.1, fun hu => ?_⟩
      have := h.2.2.2.1
      rw [show Nat.blt k u0 = true from by simpa using hu] at this
      exact Option.isSome_iff_exists.1 this
    · exact rowsOk_out h.2.2.2.2 i so hi

/-- The caller's rows that the callee has not laid. -/
def wrNames (l : List Nat) : Hp → List Nat
  | [] => []
  | (i, so) :: r => match so.wr with | true => nthD l i :: wrNames l r | false => wrNames l r
def dropHs : List Nat → Hp → Hp
  | [], H => H
  | a :: r, H => dropH a (dropHs r H)
theorem look_dropHs : ∀ {l : List Nat} {H : Hp} {k : Nat} {s : SO}, look (dropHs l H) k = some s → k ∉ l ∧ look H k = some s
  | [], H, k, s, h => ⟨by simp, h⟩
  | a :: r, H, k, s, h => by
    obtain ⟨h1, h2⟩ := look_dropH a _ k s h
    obtain ⟨h3, h4⟩ := look_dropHs h2
    exact ⟨by simp [h1, h3], h4⟩
theorem mem_wrNames {l : List Nat} : ∀ {H : Hp} {i : Nat} {so : SO}, look H i = some so → so.wr = true → nthD l i ∈ wrNames l H
  | [], i, so, h, _ => by cases h
  | (k, x) :: r, i, so, h, hw => by
    rw [look_cons] at h
    rw [wrNames]
    split at h
    · rename_i e
      injection h with h
      subst h; subst e
      rw [hw]; exact List.mem_cons_self
    · have := mem_wrNames (l := l) h hw
      cases x.wr
      · exact this
      · exact List.mem_cons_of_mem _ this

def callH (l : List Nat) (u0 u : Nat) (H0 H1 H : Hp) : Hp := renH (nm l u0 u) H1 ++ dropHs (wrNames l H0) H

/-- A CALL. -/
theorem Spec.fn {P : Program} {f : FuncId} {args args0 : List SV} {H H0 : Hp} {u u0 m : Nat} {ι : Type} {R : ι → Prop} {r : ι → SV} {H1 : ι → Hp} {K : SV → Hp → Nat → Prop} (h : Fun P f args0 H0 u0 m R r H1) (l : List Nat)
    (hl : l.length = u0) (ho : okNames u l = true) (ha : ∀ ρ, SV.vals ρ args = SV.vals (fun i => ρ (nthD l i)) args0) (hin : SV.oks u0 args0 = true) (hs0 : sameH u0 (fun i => (nthD l i, 0)) H H0)
    (hok : ∀ x, R x → (r x).ok (u0 + m) = true ∧ rowsOk H0 u0 (u0 + m) (H1 x) = true ∧ covers (H1 x) H0)
    (k : ∀ x, R x → K ((r x).ren (nm l u0 u)) (callH l u0 u H0 (H1 x) H) (u + m)) : Spec P f args H u K := by
  refine ⟨h.ent, fun w0 O ρ w hs _ => ?_⟩
  have hvia : ∀ ρ : Env, via ρ (fun i => (nthD l i, 0)) = fun i => ρ (nthD l i) := fun ρ => by funext i; simp [via]
  have p : Part H0 u0 (fun i => (nthD l i, 0)) H := Part.same hs0 fun i j hi hj hij e => hij (nthD_inj hl ho hi hj e)
  rw [ha ρ, ← hvia ρ]
  refine (h.sem w _ _ w (p.sat hs) (SV.Ins_of_oks _ hin)).mono ?_
  rintro e w' ⟨v, H', u', ρ', rfl, h1, h2, h3, h4, x, τ, hR, hτ, hp, hv⟩
  obtain ⟨hrok, hrows, hcov⟩ := hok x hR
  have h6 : Sat w (ownBy H0 (via ρ fun i => (nthD l i, 0))) (· < u0 + m) (via ρ' τ) (H1 x) w' := hp.sat0 h4
  let ρo : Env := via ρ' τ
  let ρ2 : Env := fun k => if k < u then ρ k else ρo (u0 + (k - u))
  have hlow : ∀ i, i < u0 → ρo i = ρ (nthD l i) := fun i hi => by
    show via ρ' τ i = _
    simp only [via, hτ i hi, Nat.add_zero]
    have := h2 i hi
    rw [this]; simp [via]
  have hnm : ∀ i, i < u0 + m → ρ2 (nm l u0 u i) = ρo i := fun i hi => by
    by_cases c : i < u0
    · obtain ⟨e1, e2⟩ := nm_low hl ho c
      rw [e1, hlow i c]
      exact if_pos e2
    · rw [nm_high (Nat.le_of_not_lt c)]
      show (if _ then _ else _) = _
      rw [if_neg (by omega)]
      congr 1; omega
  have hnmlt : ∀ i, i < u0 + m → nm l u0 u i < u + m := fun i hi => by
    by_cases c : i < u0
    · obtain ⟨e1, e2⟩ := nm_low hl ho c
      omega
    · rw [nm_high (Nat.le_of_not_lt c)]; omega
  have hold : ∀ i, i < u → ρ2 i = ρ i := fun i hi => if_pos hi
  have hcell : ∀ b o, b < w.heap.size → ¬ ownBy H0 (via ρ fun i => (nthD l i, 0)) b o → w'.cell? ⟨b, o, none⟩ = w.cell? ⟨b, o, none⟩ := fun b o hb hn => h4.cell b o hb hn
  have hfrz : ∀ b o, b < w.heap.size → w'.frozen? ⟨b, o, none⟩ = w.frozen? ⟨b, o, none⟩ := fun b o hb => h4.frz b o hb
  have hroom : ∀ i so, look H i = some so → ∀ j, j < so.len → (ρ i).1 < w.heap.size := fun i so hi j hj => by
    obtain ⟨v, hv⟩ := (hs.dom i so hi).2.2.room j hj
    exact block_lt hv
  -- a row of the caller's that the callee was not given to lay
  have hfar : ∀ k s2, look H k = some s2 → k ∉ wrNames l H0 → ∀ j, j < s2.len → ¬ ownBy H0 (via ρ fun i => (nthD l i, 0)) (ρ k).1 ((ρ k).2 + j) := by
    rintro k s2 hk hn j hj (⟨i, so, j', hi, hw, hj', e1, e2⟩ | ⟨i, es, c, hi, e1⟩)
    rotate_left
    · exact p.far_cell hs hk hj hi e1
    obtain ⟨_, _, sc, g⟩ := p.lies i so hi
    have hmem := mem_wrNames (l := l) hi hw
    have hne : nthD l i ≠ k := fun e => hn (e ▸ hmem)
    have := hs.sep _ _ sc s2 g.at_ hk hne (g.wr hw) j' j (by have := g.len; simp only at this; omega) hj
    simp only [via, Nat.add_zero] at e1 e2
    exact this e1.symm e2.symm
  -- what is new lies in new blocks
  have hnew : ∀ i so1, look (H1 x) i = some so1 → u0 ≤ i → ∀ j, j < so1.len → w.heap.size ≤ (ρo i).1 ∨ ∃ i' es c, look H0 i' = some (.dict es c) ∧ (ρo i).1 = (via ρ (fun i => (nthD l i, 0)) i').1 := by
    intro i so1 hi hu j hj
    obtain ⟨q1, q2, q3, q4⟩ := rowsOk_out hrows i so1 hi
    rcases h6.fresh i so1 hi q3 j hj with (⟨i', so, j', hi', hw', hj', e1, e2⟩ | ⟨i', es, c, hi', e1⟩) | e
    rotate_left
    · exact .inr ⟨i', es, c, hi', e1⟩
    rotate_right
    · exfalso
      obtain ⟨hlt, _, _⟩ := p.lies i' so hi'
      obtain ⟨so1', g1, g2, g3⟩ := (covers_out hcov i' so hi').1 hw'
      have hne : i ≠ i' := by omega
      have := h6.sep i i' so1 so1' hi g1 hne q3 j j' hj (by omega)
      have el : (via ρ' τ) i' = ρ (nthD l i') := hlow i' hlt
      rw [el] at this
      simp only [via, Nat.add_zero] at e1 e2 this
      exact this e1 e2
    · exact .inl e
  have row : ∀ k s2, look (callH l u0 u H0 (H1 x) H) k = some s2 → (∃ i so1, nm l u0 u i = k ∧ look (H1 x) i = some so1 ∧ s2 = so1.ren (nm l u0 u) ∧ i < u0 + m ∧ so1.In (· < u0 + m) ∧ so1.wr = true ∧ (i < u0 → ∃ so sc, look H0 i = some so ∧ so.wr = true ∧ so1.len = so.len ∧ look H (nthD l i) = some sc ∧ so.len ≤ sc.len ∧ sc.wr = true)) ∨ (k < u ∧ look H k = some s2 ∧ k ∉ wrNames l H0) := by
    intro k s2 hk
    rw [callH, look_append] at hk
    cases hr : look (renH (nm l u0 u) (H1 x)) k with
    | some s =>
      rw [hr] at hk
      injection hk with hk
      subst hk
      obtain ⟨i, so1, g1, g2, g3⟩ := look_renH _ _ _ _ hr
      obtain ⟨q1, q2, q3, q4⟩ := rowsOk_out hrows i so1 g2
      refine .inl ⟨i, so1, g1, g2, g3, q1, q2, q3, fun hi => ?_⟩
      obtain ⟨so, hso⟩ := q4 hi
      obtain ⟨_, _, sc, g⟩ := p.lies i so hso
      cases hw : so.wr with
      | false => have := (covers_out hcov i so hso).2 hw; rw [g2] at this; cases this
      | true =>
        obtain ⟨so1', e1, e2, e3⟩ := (covers_out hcov i so hso).1 hw
        rw [g2] at e1
        injection e1 with e1
        subst e1
        exact ⟨so, sc, hso, hw, e3, g.at_, by have := g.len; simp only at this; omega, g.wr hw⟩
    | none =>
      rw [hr, Option.none_or] at hk
      obtain ⟨g1, g2⟩ := look_dropHs hk
      exact .inr ⟨(hs.dom k s2 g2).1, g2, g1⟩
  have hnone : ∀ k s2, look H k = some s2 → k ∉ wrNames l H0 → ∀ i so, look H0 i = some so → so.wr = true → nthD l i ≠ k := fun k s2 _ hn i so hi hw e => hn (e ▸ mem_wrNames (l := l) hi hw)
  refine ⟨(r x).ren (nm l u0 u), callH l u0 u H0 (H1 x) H, u + m, ρ2, ?_, Nat.le_add_right _ _, hold, ?_, ?_, k x hR⟩
  · rw [hv ρ', SV.ren_val]
    congr 1
    exact (SV.val_agree (N := (· < u0 + m)) (fun i hi => hnm i hi) (r x) (SV.In_of_ok _ hrok)).symm
  · exact (SV.ren_In _ _ _).2 (SV.In.mono hnmlt _ (SV.In_of_ok _ hrok))
  · refine ⟨h4.os.trans hs.os, h4.tape.trans hs.tape, h4.output.trans hs.output, Nat.le_trans hs.size h4.size, fun k s2 hk => ?_, fun i j si sj hi hj hij hw => ?_, fun k hk hO => ?_, fun k off hk hO => ?_, fun k off hk => ?_, fun k s2 hk hw j hj => ?_, ?_⟩
    · rcases row k s2 hk with ⟨i, so1, rfl, g2, rfl, q1, q2, q3, q4⟩ | ⟨g1, g2, g3⟩
      · obtain ⟨a1, a2, a3⟩ := h6.dom i so1 g2
        refine ⟨hnmlt i q1, (SO.ren_In _ _ _).2 (SO.In.mono hnmlt q2), ?_⟩
        rw [hnm i q1]
        have hvv : (so1.ren (nm l u0 u)).vals ρ2 = so1.vals ρo := by
          rw [SO.ren_vals]
          exact SO.vals_agree (N := (· < u0 + m)) (fun i hi => hnm i hi) q2
        exact ⟨by rw [hvv]; exact a3.cell, fun hw j hj => a3.free q3 j (by rwa [SO.ren_len] at hj), fun j hj => a3.room j (by rwa [SO.ren_len] at hj), by rw [hvv, SO.ren_len]; exact a3.fits⟩
      · obtain ⟨a1, a2, a3⟩ := hs.dom k s2 g2
        have hc : ∀ j, j < s2.len → w'.cell? ⟨(ρ k).1, (ρ k).2 + j, none⟩ = w.cell? ⟨(ρ k).1, (ρ k).2 + j, none⟩ := fun j hj => hcell _ _ (hroom k s2 g2 j hj) (hfar k s2 g2 g3 j hj)
        refine ⟨Nat.lt_of_lt_of_le g1 (Nat.le_add_right _ _), SO.In.mono (fun i hi => Nat.lt_of_lt_of_le hi (Nat.le_add_right _ _)) a2, ?_⟩
        rw [hold k g1]
        refine is_agree hold a2 ⟨⟨fun j v hv => ?_, a3.cell.2⟩, fun hw j hj => ?_, fun j hj => ?_, a3.fits⟩
        · rw [hc j (Nat.lt_of_lt_of_le (List.getElem?_eq_some_iff.1 hv).1 a3.fits)]; exact a3.cell.1 j v hv
        · rw [hfrz _ _ (hroom k s2 g2 j hj)]; exact a3.free hw j hj
        · rw [hc j hj]; exact a3.room j hj
    · rcases row i si hi with ⟨a, sa, rfl, g2, rfl, q1, q2, q3, q4⟩ | ⟨g1, g2, g3⟩
      · rcases row j sj hj with ⟨b, sb, rfl, g2', rfl, q1', q2', q3', q4'⟩ | ⟨g1', g2', g3'⟩
        · rw [hnm a q1, hnm b q1', SO.ren_len, SO.ren_len]
          exact h6.sep a b sa sb g2 g2' (fun e => hij (by rw [e])) q3
        · rw [hnm a q1, hold j g1', SO.ren_len]
          by_cases c : a < u0
          · obtain ⟨so, sc, e1, e2, e3, e4, e5, e6⟩ := q4 c
            rw [hlow a c]
            intro x y hx hy
            exact hs.sep (nthD l a) j sc sj e4 g2' (hnone j sj g2' g3' a so e1 e2) e6 x y (by omega) hy
          · intro x y hx hy e
            rcases hnew a sa g2 (Nat.le_of_not_lt c) x hx with h | ⟨i', es, c', hi', h⟩
            · have := hroom j sj g2' y hy
              omega
            · exact (p.far_cell hs g2' hy hi' (e.symm.trans h)).elim
      · rcases row j sj hj with ⟨b, sb, rfl, g2', rfl, q1', q2', q3', q4'⟩ | ⟨g1', g2', g3'⟩
        · rw [hold i g1, hnm b q1', SO.ren_len]
          by_cases c : b < u0
          · obtain ⟨so, sc, e1, e2, e3, e4, e5, e6⟩ := q4' c
            rw [hlow b c]
            intro x y hx hy
            exact hs.sep i (nthD l b) si sc g2 e4 (Ne.symm (hnone i si g2 g3 b so e1 e2)) hw x y hx (by omega)
          · intro x y hx hy e
            rcases hnew b sb g2' (Nat.le_of_not_lt c) y hy with h | ⟨i', es, c', hi', h⟩
            · have := hroom i si g2 x hx
              omega
            · exact (p.far_cell hs g2 hx hi' (e.trans h)).elim
        · rw [hold i g1, hold j g1']
          exact hs.sep i j si sj g2 g2' hij hw
    · rw [h4.blk k (Nat.lt_of_lt_of_le hk hs.size) ?_]
      · exact hs.blk k hk hO
      · intro off ho
        rcases p.own_le hs ho with h | h
        · exact hO _ h
        · omega
    · rw [hcell k off (Nat.lt_of_lt_of_le hk hs.size) ?_]
      · exact hs.cell k off hk hO
      · intro ho
        rcases p.own_le hs ho with h | h
        · exact hO h
        · omega
    · rw [hfrz k off (Nat.lt_of_lt_of_le hk hs.size)]; exact hs.frz k off hk
    · rcases row k s2 hk with ⟨i, so1, rfl, g2, rfl, q1, q2, q3, q4⟩ | ⟨g1, g2, g3⟩
      · rw [SO.ren_len] at hj
        rw [hnm i q1]
        by_cases c : i < u0
        · obtain ⟨so, sc, e1, e2, e3, e4, e5, e6⟩ := q4 c
          rw [hlow i c]
          exact hs.fresh _ sc e4 e6 j (by omega)
        · rcases hnew i so1 g2 (Nat.le_of_not_lt c) j hj with h | ⟨i', es, c', hi', h⟩
          · exact .inr (Nat.le_trans hs.size h)
          · exact p.own_le hs (.inr ⟨i', es, c', hi', h⟩)
      · rw [hold k g1]
        exact hs.fresh k s2 g2 hw j hj
    · have drow : ∀ k es c, look (callH l u0 u H0 (H1 x) H) k = some (.dict es c) → (∃ i, nm l u0 u i = k ∧ look (H1 x) i = some (.dict es c) ∧ ρ2 k = ρo i) ∨ (look H k = some (.dict es c) ∧ ρ2 k = ρ k ∧ ∀ i so, look H0 i = some so → so.wr = true → nthD l i ≠ k) := fun k es c hk => by
        rcases row k _ hk with ⟨i, so1, h1, g2, h2, q1, q2, q3, q4⟩ | ⟨g1, g2, g3⟩
        · refine .inl ⟨i, h1, ?_, by rw [← h1]; exact hnm i q1⟩
          cases so1 <;> cases h2
          exact g2
        · exact .inr ⟨g2, hold k g1, hnone k _ g2 g3⟩
      have dnew : ∀ i es c, look (H1 x) i = some (.dict es c) → ∀ k es' c', look H k = some (.dict es' c') → (∀ i so, look H0 i = some so → so.wr = true → nthD l i ≠ k) → (ρo i).1 ≠ (ρ k).1 := fun i es c hi k es' c' hk hn e => by
        rcases h6.dict.own i es c hi with h | h
        · have := h 0
          rw [show ((via ρ' τ) i).1 = (ρ k).1 from e] at this
          exact p.far_dict hs hk hn 0 this
        · have := dict_lt (hs.dict.at_ k es' c' hk)
          rw [show ((via ρ' τ) i).1 = (ρ k).1 from e] at h
          omega
      refine ⟨fun k es c hk => ?_, fun k es c hk => ?_, fun k k' ei ci ej cj hk hk' hkk => ?_⟩
      · rcases drow k es c hk with ⟨i, h1, h2, h3⟩ | ⟨h1, h2, h3⟩
        · rw [h3]; exact h6.dict.at_ i es c h2
        · rw [h2]
          exact ⟨(h4.blk _ (dict_lt (hs.dict.at_ k es c h1)) (p.far_dict hs h1 h3)).trans (hs.dict.at_ k es c h1).obj, (hs.dict.at_ k es c h1).sits⟩
      · rcases drow k es c hk with ⟨i, h1, h2, h3⟩ | ⟨h1, h2, h3⟩
        · rw [h3]
          rcases h6.dict.own i es c h2 with h | h
          · by_cases g : w0.heap.size ≤ (ρo i).1
            · exact .inr g
            · exact .inl fun off => (p.own_le hs (h off)).resolve_right g
          · exact .inr (Nat.le_trans hs.size h)
        · rw [h2]; exact hs.dict.own k es c h1
      · rcases drow k ei ci hk with ⟨i, h1, h2, h3⟩ | ⟨h1, h2, h3⟩
        · rcases drow k' ej cj hk' with ⟨i', h1', h2', h3'⟩ | ⟨h1', h2', h3'⟩
          · rw [h3, h3']; exact h6.dict.sep i i' ei ci ej cj h2 h2' (fun e => hkk (by rw [← h1, ← h1', e]))
          · rw [h3, h2']; exact dnew i ei ci h2 k' ej cj h1' h3'
        · rcases drow k' ej cj hk' with ⟨i', h1', h2', h3'⟩ | ⟨h1', h2', h3'⟩
          · rw [h2, h3']; exact Ne.symm (dnew i' ej cj h2' k ei ci h1 h3)
          · rw [h2, h2']; exact hs.dict.sep k k' ei ci ej cj h1 h1' hkk

end Go.Sh
