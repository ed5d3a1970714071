import Derived.Test.YtmfpndffepjcpaaSh22
import Derived.OrdersHeld
/- Names led elsewhere; a function that reads and lays what it is given, and makes blocks of its own: its contract, and its call in a greater heap. -/
set_option linter.unusedVariables false
namespace Go.Sh
open Go.RowKit

mutual
def SV.ren (f : Nat → Nat) : SV → SV
  | .ptr i o => .ptr (f i) o
  | .ptrx i o => .ptrx (f i) o
  | .slice i o l c => .slice (f i) o l c
  | .slicen i o l j => .slicen (f i) o l (f j)
  | .slz b i o l c => .slz b (f i) o l c
  | .map i => .map (f i)
  | .func g cs => .func g (SV.rens f cs)
  | .agg cs => .agg (SV.rens f cs)
  | .tup cs => .tup (SV.rens f cs)
  | .tt => .tt | .ff => .ff | .bool b => .bool b | .int k n => .int k n | .nil => .nil | .nilSlice => .nilSlice | .nilMap => .nilMap | .nilFunc => .nilFunc | .raw v => .raw v | .undef => .undef
def SV.rens (f : Nat → Nat) : List SV → List SV
  | [] => []
  | v :: r => SV.ren f v :: SV.rens f r
end
def SO.ren (f : Nat → Nat) : SO → SO
  | .cells cs => .cells (SV.rens f cs)
  | so => so
def renH (f : Nat → Nat) : Hp → Hp
  | [] => []
  | (i, so) :: r => (f i, so.ren f) :: renH f r

mutual
theorem SV.ren_val (f : Nat → Nat) (ρ : Env) : ∀ v : SV, (v.ren f).val ρ = v.val (fun i => ρ (f i))
  | .ptr i o => rfl | .ptrx i o => rfl | .slice i o l c => rfl | .slicen i o l j => (by cases l <;> rfl) | .slz b i o l c => rfl | .map i => rfl
  | .func g cs => by rw [SV.ren, SV.val, SV.val, SV.rens_vals f ρ cs]
  | .agg cs => by rw [SV.ren, SV.val, SV.val, SV.rens_vals f ρ cs]
  | .tup cs => by rw [SV.ren, SV.val, SV.val, SV.rens_vals f ρ cs]
  | .tt => rfl | .ff => rfl | .bool b => rfl | .int k n => rfl | .nil => rfl | .nilSlice => rfl | .nilMap => rfl | .nilFunc => rfl | .raw v => rfl | .undef => rfl
theorem SV.rens_vals (f : Nat → Nat) (ρ : Env) : ∀ l : List SV, SV.vals ρ (SV.rens f l) = SV.vals (fun i => ρ (f i)) l
  | [] => rfl
  | v :: r => by rw [SV.rens, SV.vals, SV.vals, SV.ren_val f ρ v, SV.rens_vals f ρ r]
end
mutual
theorem SV.ren_In (f : Nat → Nat) (N : Nat → Prop) : ∀ v : SV, (v.ren f).In N ↔ v.In (fun i => N (f i))
  | .ptr i o => by simp [SV.ren, SV.In] | .ptrx i o => by simp [SV.ren, SV.In] | .slice i o l c => by simp [SV.ren, SV.In] | .slicen i o l j => by simp [SV.ren, SV.In] | .slz b i o l c => by simp [SV.ren, SV.In] | .map i => by simp [SV.ren, SV.In]
  | .func g cs => by rw [SV.ren, SV.In, SV.In, SV.rens_Ins f N cs]
  | .agg cs => by rw [SV.ren, SV.In, SV.In, SV.rens_Ins f N cs]
  | .tup cs => by rw [SV.ren, SV.In, SV.In, SV.rens_Ins f N cs]
  | .tt => Iff.rfl | .ff => Iff.rfl | .bool b => Iff.rfl | .int k n => Iff.rfl | .nil => Iff.rfl | .nilSlice => Iff.rfl | .nilMap => Iff.rfl | .nilFunc => Iff.rfl | .raw v => Iff.rfl | .undef => Iff.rfl
theorem SV.rens_Ins (f : Nat → Nat) (N : Nat → Prop) : ∀ l : List SV, SV.Ins N (SV.rens f l) ↔ SV.Ins (fun i => N (f i)) l
  | [] => Iff.rfl
  | v :: r => by rw [SV.rens, SV.Ins, SV.Ins, SV.ren_In f N v, SV.rens_Ins f N r]
end
theorem SV.rens_length (f : Nat → Nat) : ∀ l : List SV, (SV.rens f l).length = l.length
  | [] => rfl
  | v :: r => by simp [SV.rens, SV.rens_length f r]
theorem SO.ren_vals (f : Nat → Nat) (ρ : Env) (so : SO) : (so.ren f).vals ρ = so.vals (fun i => ρ (f i)) := by
  cases so <;> first | rfl | exact SV.rens_vals f ρ _
theorem SO.ren_In (f : Nat → Nat) (N : Nat → Prop) (so : SO) : (so.ren f).In N ↔ so.In (fun i => N (f i)) := by
  cases so <;> first | exact Iff.rfl | exact SV.rens_Ins f N _
theorem SO.ren_len (f : Nat → Nat) (so : SO) : (so.ren f).len = so.len := by
  cases so <;> first | rfl | exact SV.rens_length f _
theorem SO.ren_wr (f : Nat → Nat) (so : SO) : (so.ren f).wr = so.wr := by cases so <;> rfl
theorem look_renH (f : Nat → Nat) : ∀ (H : Hp) (k : Nat) (s : SO), look (renH f H) k = some s → ∃ i so, f i = k ∧ look H i = some so ∧ s = so.ren f
  | [], k, s, h => by cases h
  | (i, so) :: r, k, s, h => by
    rw [renH, look_cons] at h
    by_cases e : f i = k
    · rw [if_pos e] at h
      injection h with h
      exact ⟨i, so, e, look_same _ _ _, h.symm⟩
    · rw [if_neg e] at h
      obtain ⟨j, s2, h1, h2, h3⟩ := look_renH f r k s h
      exact ⟨j, s2, h1, by rw [look_cons, if_neg (fun e' => e (by rw [e', h1]))]; exact h2, h3⟩

/-! ### The names of a call -/
def nthD : List Nat → Nat → Nat
  | [], _ => 0
  | a :: r, i => match i with | 0 => a | i + 1 => nthD r i
def nm (l : List Nat) (u0 u i : Nat) : Nat := match Nat.blt i u0 with | true => nthD l i | false => u + (i - u0)
def notIn (a : Nat) : List Nat → Bool
  | [] => true
  | b :: r => (match Nat.beq a b with | true => false | false => notIn a r)
def okNames (u : Nat) : List Nat → Bool
  | [] => true
  | a :: r => Nat.blt a u && (notIn a r && okNames u r)

theorem nthD_get : ∀ (l : List Nat) (i : Nat), i < l.length → l[i]? = some (nthD l i)
  | [], i, h => by simp at h
  | a :: r, 0, h => rfl
  | a :: r, i + 1, h => by simpa [nthD] using nthD_get r i (by simpa using h)
theorem notIn_out {a : Nat} : ∀ {l : List Nat}, notIn a l = true → a ∉ l
  | [], _ => by simp
  | b :: r, h => by
    rw [notIn] at h
    cases e : Nat.beq a b with
    | true => rw [e] at h; cases h
    | false =>
      rw [e] at h
      have : a ≠ b := fun h => by subst h; rw [Nat.beq_refl] at e; cases e
      simp [this, notIn_out h]
theorem okNames_out {u : Nat} : ∀ {l : List Nat}, okNames u l = true → (∀ a ∈ l, a < u) ∧ l.Nodup
  | [], _ => by simp
  | b :: r, h => by
    rw [okNames, Bool.and_eq_true, Bool.and_eq_true] at h
    obtain ⟨h1, h2⟩ := okNames_out h.2.2
    refine ⟨fun a ha => ?_, List.nodup_cons.2 ⟨notIn_out h.2.1, h2⟩⟩
    rcases List.mem_cons.1 ha with rfl | ha
    · simpa using h.1
    · exact h1 a ha

section
variable {l : List Nat} {u0 u : Nat} (hl : l.length = u0) (ho : okNames u l = true)
include hl ho
theorem nm_low {i : Nat} (h : i < u0) : nm l u0 u i = nthD l i ∧ nthD l i < u := by
  have hb : Nat.blt i u0 = true := by simpa using h
  refine ⟨by simp only [nm, hb], (okNames_out ho).1 _ ?_⟩
  exact List.mem_of_getElem? (nthD_get l i (hl ▸ h))
theorem nthD_inj {i j : Nat} (hi : i < u0) (hj : j < u0) (h : nthD l i = nthD l j) : i = j := by
  have h1 := nthD_get l i (hl ▸ hi)
  have h2 := nthD_get l j (hl ▸ hj)
  rw [h] at h1
  have := (okNames_out ho).2
  have e1 := (List.getElem?_eq_some_iff.1 h1)
  have e2 := (List.getElem?_eq_some_iff.1 h2)
  exact (List.getElem_inj this).1 (e1.2.trans e2.2.symm)
end
theorem nm_high {l : List Nat} {u0 u i : Nat} (h : u0 ≤ i) : nm l u0 u i = u + (i - u0) := by
  have : Nat.blt i u0 = false := by rw [← Bool.not_eq_true, Nat.blt_eq]; omega
  simp [nm, this]

/-! ### The contract -/
/-- What a function does with the rows H0 (names below u0) that it is given: behind it stand the rows H1 x (m names more), and it hands back r x: for some x of R. -/
def Fun (P : Program) (f : FuncId) (args0 : List SV) (H0 : Hp) (u0 m : Nat) {ι : Type} (R : ι → Prop) (r : ι → SV) (H1 : ι → Hp) : Prop :=
  Spec P f args0 H0 u0 fun v H' _ => ∃ (x : ι) (τ : Nat → Nat × Nat), R x ∧ (∀ i, i < u0 → τ i = (i, 0)) ∧ Part (H1 x) (u0 + m) τ H' ∧ ∀ ρ, v.val ρ = (r x).val (via ρ τ)

/-- Every row that may be laid stands behind it, as long as it was; and no row of H0 that may not be. -/
def covers (H1 : Hp) : Hp → Prop
  | [] => True
  | (i, so) :: r => (match so.wr with | true => ∃ so1, look H1 i = some so1 ∧ so1.wr = true ∧ so1.len = so.len | false => look H1 i = none) ∧ covers H1 r
theorem covers_out {H1 : Hp} : ∀ {H0 : Hp}, covers H1 H0 → ∀ i so, look H0 i = some so → (so.wr = true → ∃ so1, look H1 i = some so1 ∧ so1.wr = true ∧ so1.len = so.len) ∧ (so.wr = false → look H1 i = none)
  | [], _, i, so, h => by cases h
  | (k, x) :: r, h, i, so, hi => by
    rw [look_cons] at hi
    split at hi
    · rename_i e
      injection hi with hi
      subst hi; subst e
      have := h.1
      cases hw : x.wr
      · rw [hw] at this; exact ⟨fun h => (by cases h), fun _ => this⟩
      · rw [hw] at this; exact ⟨fun _ => this, fun h => (by cases h)⟩
    · exact covers_out h.2 i so hi
/-- The rows behind are of names below n, and those from u0 on may be laid. -/
def rowsOk (H0 : Hp) (u0 n : Nat) : Hp → Bool
  | [] => true
  | (i, so) :: r => Nat.blt i n && (so.ok n && (so.wr && ((match Nat.blt i u0 with | true => (look H0 i).isSome | false => true) && rowsOk H0 u0 n r)))
theorem rowsOk_out {H0 : Hp} {u0 n : Nat} : ∀ {H1 : Hp}, rowsOk H0 u0 n H1 = true → ∀ i so, look H1 i = some so → i < n ∧ so.In (· < n) ∧ so.wr = true ∧ (i < u0 → ∃ s, look H0 i = some s)
  | [], _, i, so, h => by cases h
  | (k, x) :: r, h, i, so, hi => by
    simp only [rowsOk, Bool.and_eq_true] at h
    rw [look_cons] at hi
    split at hi
    · rename_i e
      injection hi with hi
      subst hi; subst e
      refine ⟨by simpa using h.1, SO.In_of_ok h.2.1, h.2.2.1, fun hu => ?_⟩
      have := h.2.2.2.1
      rw [show Nat.blt k u0 = true from by simpa using hu] at this
      exact Option.isSome_iff_exists.1 this
    · exact rowsOk_out h.2.2.2.2 i so hi

/-- The caller's rows that the callee has not laid. -/
def wrNames (l : List Nat) : Hp → List Nat
  | [] => []
  | (i, so) :: r => match so.wr with | true => nthD l i :: wrNames l r | false => wrNames l r
def dropHs : List Nat → Hp → Hp
  | [], H => H
  | a :: r, H => dropH a (dropHs r H)
theorem look_dropHs : ∀ {l : List Nat} {H : Hp} {k : Nat} {s : SO}, look (dropHs l H) k = some s → k ∉ l ∧ look H k = some s
  | [], H, k, s, h => ⟨by simp, h⟩
  | a :: r, H, k, s, h => by
    obtain ⟨h1, h2⟩ := look_dropH a _ k s h
    obtain ⟨h3, h4⟩ := look_dropHs h2
    exact ⟨by simp [h1, h3], h4⟩
theorem mem_wrNames {l : List Nat} : ∀ {H : Hp} {i : Nat} {so : SO}, look H i = some so → so.wr = true → nthD l i ∈ wrNames l H
  | [], i, so, h, _ => by cases h
  | (k, x) :: r, i, so, h, hw => by
    rw [look_cons] at h
    rw [wrNames]
    split at h
    · rename_i e
      injection h with h
      subst h; subst e
      rw [hw]; exact List.mem_cons_self
    · have := mem_wrNames (l := l) h hw
      cases x.wr
      · exact this
      · exact List.mem_cons_of_mem _ this

def callH (l : List Nat) (u0 u : Nat) (H0 H1 H : Hp) : Hp := renH (nm l u0 u) H1 ++ dropHs (wrNames l H0) H

/-- A CALL. -/
theorem Spec.fn {P : Program} {f : FuncId} {args args0 : List SV} {H H0 : Hp} {u u0 m : Nat} {ι : Type} {R : ι → Prop} {r : ι → SV} {H1 : ι → Hp} {K : SV → Hp → Nat → Prop} (h : Fun P f args0 H0 u0 m R r H1) (l : List Nat)
    (hl : l.length = u0) (ho : okNames u l = true) (ha : ∀ ρ, SV.vals ρ args = SV.vals (fun i => ρ (nthD l i)) args0) (hin : SV.oks u0 args0 = true) (hs0 : sameH u0 (fun i => (nthD l i, 0)) H H0)
    (hok : ∀ x, R x → (r x).ok (u0 + m) = true ∧ rowsOk H0 u0 (u0 + m) (H1 x) = true ∧ covers (H1 x) H0)
    (k : ∀ x, R x → K ((r x).ren (nm l u0 u)) (callH l u0 u H0 (H1 x) H) (u + m)) : Spec P f args H u K := by
  refine ⟨h.ent, fun w0 O ρ w hs _ => ?_⟩
  have hvia : ∀ ρ : Env, via ρ (fun i => (nthD l i, 0)) = fun i => ρ (nthD l i) := fun ρ => by funext i; simp [via]
  have p : Part H0 u0 (fun i => (nthD l i, 0)) H := Part.same hs0 fun i j hi hj hij e => hij (nthD_inj hl ho hi hj e)
  rw [ha ρ, ← hvia ρ]
  refine (h.sem w _ _ w (p.sat hs) (SV.Ins_of_oks _ hin)).mono ?_
  rintro e w' ⟨v, H', u', ρ', rfl, h1, h2, h3, h4, x, τ, hR, hτ, hp, hv⟩
  obtain ⟨hrok, hrows, hcov⟩ := hok x hR
  have h6 : Sat w (ownBy H0 (via ρ fun i => (nthD l i, 0))) (· < u0 + m) (via ρ' τ) (H1 x) w' := hp.sat0 h4
  let ρo : Env := via ρ' τ
  let ρ2 : Env := fun k => if k < u then ρ k else ρo (u0 + (k - u))
  have hlow : ∀ i, i < u0 → ρo i = ρ (nthD l i) := fun i hi => by
    show via ρ' τ i = _
    simp only [via, hτ i hi, Nat.add_zero]
    have := h2 i hi
    rw [this]; simp [via]
  have hnm : ∀ i, i < u0 + m → ρ2 (nm l u0 u i) = ρo i := fun i hi => by
    by_cases c : i < u0
    · obtain ⟨e1, e2⟩ := nm_low hl ho c
      rw [e1, hlow i c]
      exact if_pos e2
    · rw [nm_high (Nat.le_of_not_lt c)]
      show (if _ then _ else _) = _
      rw [if_neg (by omega)]
      congr 1; omega
  have hnmlt : ∀ i, i < u0 + m → nm l u0 u i < u + m := fun i hi => by
    by_cases c : i < u0
    · obtain ⟨e1, e2⟩ := nm_low hl ho c
      omega
    · rw [nm_high (Nat.le_of_not_lt c)]; omega
  have hold : ∀ i, i < u → ρ2 i = ρ i := fun i hi => if_pos hi
  have hcell : ∀ b o, b < w.heap.size → ¬ ownBy H0 (via ρ fun i => (nthD l i, 0)) b o → w'.cell? ⟨b, o, none⟩ = w.cell? ⟨b, o, none⟩ := fun b o hb hn => h4.cell b o hb hn
  have hfrz : ∀ b o, b < w.heap.size → w'.frozen? ⟨b, o, none⟩ = w.frozen? ⟨b, o, none⟩ := fun b o hb => h4.frz b o hb
  have hroom : ∀ i so, look H i = some so → ∀ j, j < so.len → (ρ i).1 < w.heap.size := fun i so hi j hj => by
    obtain ⟨v, hv⟩ := (hs.dom i so hi).2.2.room j hj
    exact block_lt hv
  -- a row of the caller's that the callee was not given to lay
  have hfar : ∀ k s2, look H k = some s2 → k ∉ wrNames l H0 → ∀ j, j < s2.len → ¬ ownBy H0 (via ρ fun i => (nthD l i, 0)) (ρ k).1 ((ρ k).2 + j) := by
    rintro k s2 hk hn j hj (⟨i, so, j', hi, hw, hj', e1, e2⟩ | ⟨i, es, c, hi, e1⟩)
    rotate_left
    · exact p.far_cell hs hk hj hi e1
    obtain ⟨_, _, sc, g⟩ := p.lies i so hi
    have hmem := mem_wrNames (l := l) hi hw
    have hne : nthD l i ≠ k := fun e => hn (e ▸ hmem)
    have := hs.sep _ _ sc s2 g.at_ hk hne (g.wr hw) j' j (by have := g.len; simp only at this; omega) hj
    simp only [via, Nat.add_zero] at e1 e2
    exact this e1.symm e2.symm
  -- what is new lies in new blocks
  have hnew : ∀ i so1, look (H1 x) i = some so1 → u0 ≤ i → ∀ j, j < so1.len → w.heap.size ≤ (ρo i).1 ∨ ∃ i' es c, look H0 i' = some (.dict es c) ∧ (ρo i).1 = (via ρ (fun i => (nthD l i, 0)) i').1 := by
    intro i so1 hi hu j hj
    obtain ⟨q1, q2, q3, q4⟩ := rowsOk_out hrows i so1 hi
    rcases h6.fresh i so1 hi q3 j hj with (⟨i', so, j', hi', hw', hj', e1, e2⟩ | ⟨i', es, c, hi', e1⟩) | e
    rotate_left
    · exact .inr ⟨i', es, c, hi', e1⟩
    rotate_right
    · exfalso
      obtain ⟨hlt, _, _⟩ := p.lies i' so hi'
      obtain ⟨so1', g1, g2, g3⟩ := (covers_out hcov i' so hi').1 hw'
      have hne : i ≠ i' := by omega
      have := h6.sep i i' so1 so1' hi g1 hne q3 j j' hj (by omega)
      have el : (via ρ' τ) i' = ρ (nthD l i') := hlow i' hlt
      rw [el] at this
      simp only [via, Nat.add_zero] at e1 e2 this
      exact this e1 e2
    · exact .inl e
  have row : ∀ k s2, look (callH l u0 u H0 (H1 x) H) k = some s2 → (∃ i so1, nm l u0 u i = k ∧ look (H1 x) i = some so1 ∧ s2 = so1.ren (nm l u0 u) ∧ i < u0 + m ∧ so1.In (· < u0 + m) ∧ so1.wr = true ∧ (i < u0 → ∃ so sc, look H0 i = some so ∧ so.wr = true ∧ so1.len = so.len ∧ look H (nthD l i) = some sc ∧ so.len ≤ sc.len ∧ sc.wr = true)) ∨ (k < u ∧ look H k = some s2 ∧ k ∉ wrNames l H0) := by
    intro k s2 hk
    rw [callH, look_append] at hk
    cases hr : look (renH (nm l u0 u) (H1 x)) k with
    | some s =>
      rw [hr] at hk
      injection hk with hk
      subst hk
      obtain ⟨i, so1, g1, g2, g3⟩ := look_renH _ _ _ _ hr
      obtain ⟨q1, q2, q3, q4⟩ := rowsOk_out hrows i so1 g2
      refine .inl ⟨i, so1, g1, g2, g3, q1, q2, q3, fun hi => ?_⟩
      obtain ⟨so, hso⟩ := q4 hi
      obtain ⟨_, _, sc, g⟩ := p.lies i so hso
      cases hw : so.wr with
      | false => have := (covers_out hcov i so hso).2 hw; rw [g2] at this; cases this
      | true =>
        obtain ⟨so1', e1, e2, e3⟩ := (covers_out hcov i so hso).1 hw
        rw [g2] at e1
        injection e1 with e1
        subst e1
        exact ⟨so, sc, hso, hw, e3, g.at_, by have := g.len; simp only at this; omega, g.wr hw⟩
    | none =>
      rw [hr, Option.none_or] at hk
      obtain ⟨g1, g2⟩ := look_dropHs hk
      exact .inr ⟨(hs.dom k s2 g2).1, g2, g1⟩
  have hnone : ∀ k s2, look H k = some s2 → k ∉ wrNames l H0 → ∀ i so, look H0 i = some so → so.wr = true → nthD l i ≠ k := fun k s2 _ hn i so hi hw e => hn (e ▸ mem_wrNames (l := l) hi hw)
  refine ⟨(r x).ren (nm l u0 u), callH l u0 u H0 (H1 x) H, u + m, ρ2, ?_, Nat.le_add_right _ _, hold, ?_, ?_, k x hR⟩
  · rw [hv ρ', SV.ren_val]
    congr 1
    exact (SV.val_agree (N := (· < u0 + m)) (fun i hi => hnm i hi) (r x) (SV.In_of_ok _ hrok)).symm
  · exact (SV.ren_In _ _ _).2 (SV.In.mono hnmlt _ (SV.In_of_ok _ hrok))
  · refine ⟨h4.os.trans hs.os, h4.tape.trans hs.tape, h4.output.trans hs.output, Nat.le_trans hs.size h4.size, fun k s2 hk => ?_, fun i j si sj hi hj hij hw => ?_, fun k hk hO => ?_, fun k off hk hO => ?_, fun k off hk => ?_, fun k s2 hk hw j hj => ?_, ?_⟩
    · rcases row k s2 hk with ⟨i, so1, rfl, g2, rfl, q1, q2, q3, q4⟩ | ⟨g1, g2, g3⟩
      · obtain ⟨a1, a2, a3⟩ := h6.dom i so1 g2
        refine ⟨hnmlt i q1, (SO.ren_In _ _ _).2 (SO.In.mono hnmlt q2), ?_⟩
        rw [hnm i q1]
        have hvv : (so1.ren (nm l u0 u)).vals ρ2 = so1.vals ρo := by
          rw [SO.ren_vals]
          exact SO.vals_agree (N := (· < u0 + m)) (fun i hi => hnm i hi) q2
        exact ⟨by rw [hvv]; exact a3.cell, fun hw j hj => a3.free q3 j (by rwa [SO.ren_len] at hj), fun j hj => a3.room j (by rwa [SO.ren_len] at hj), by rw [hvv, SO.ren_len]; exact a3.fits⟩
      · obtain ⟨a1, a2, a3⟩ := hs.dom k s2 g2
        have hc : ∀ j, j < s2.len → w'.cell? ⟨(ρ k).1, (ρ k).2 + j, none⟩ = w.cell? ⟨(ρ k).1, (ρ k).2 + j, none⟩ := fun j hj => hcell _ _ (hroom k s2 g2 j hj) (hfar k s2 g2 g3 j hj)
        refine ⟨Nat.lt_of_lt_of_le g1 (Nat.le_add_right _ _), SO.In.mono (fun i hi => Nat.lt_of_lt_of_le hi (Nat.le_add_right _ _)) a2, ?_⟩
        rw [hold k g1]
        refine is_agree hold a2 ⟨⟨fun j v hv => ?_, a3.cell.2⟩, fun hw j hj => ?_, fun j hj => ?_, a3.fits⟩
        · rw [hc j (Nat.lt_of_lt_of_le (List.getElem?_eq_some_iff.1 hv).1 a3.fits)]; exact a3.cell.1 j v hv
        · rw [hfrz _ _ (hroom k s2 g2 j hj)]; exact a3.free hw j hj
        · rw [hc j hj]; exact a3.room j hj
    · rcases row i si hi with ⟨a, sa, rfl, g2, rfl, q1, q2, q3, q4⟩ | ⟨g1, g2, g3⟩
      · rcases row j sj hj with ⟨b, sb, rfl, g2', rfl, q1', q2', q3', q4'⟩ | ⟨g1', g2', g3'⟩
        · rw [hnm a q1, hnm b q1', SO.ren_len, SO.ren_len]
          exact h6.sep a b sa sb g2 g2' (fun e => hij (by rw [e])) q3
        · rw [hnm a q1, hold j g1', SO.ren_len]
          by_cases c : a < u0
          · obtain ⟨so, sc, e1, e2, e3, e4, e5, e6⟩ := q4 c
            rw [hlow a c]
            intro x y hx hy
            exact hs.sep (nthD l a) j sc sj e4 g2' (hnone j sj g2' g3' a so e1 e2) e6 x y (by omega) hy
          · intro x y hx hy e
            rcases hnew a sa g2 (Nat.le_of_not_lt c) x hx with h | ⟨i', es, c', hi', h⟩
            · have := hroom j sj g2' y hy
              omega
            · exact (p.far_cell hs g2' hy hi' (e.symm.trans h)).elim
      · rcases row j sj hj with ⟨b, sb, rfl, g2', rfl, q1', q2', q3', q4'⟩ | ⟨g1', g2', g3'⟩
        · rw [hold i g1, hnm b q1', SO.ren_len]
          by_cases c : b < u0
          · obtain ⟨so, sc, e1, e2, e3, e4, e5, e6⟩ := q4' c
            rw [hlow b c]
            intro x y hx hy
            exact hs.sep i (nthD l b) si sc g2 e4 (Ne.symm (hnone i si g2 g3 b so e1 e2)) hw x y hx (by omega)
          · intro x y hx hy e
            rcases hnew b sb g2' (Nat.le_of_not_lt c) y hy with h | ⟨i', es, c', hi', h⟩
            · have := hroom i si g2 x hx
              omega
            · exact (p.far_cell hs g2 hx hi' (e.trans h)).elim
        · rw [hold i g1, hold j g1']
          exact hs.sep i j si sj g2 g2' hij hw
    · rw [h4.blk k (Nat.lt_of_lt_of_le hk hs.size) ?_]
      · exact hs.blk k hk hO
      · intro off ho
        rcases p.own_le hs ho with h | h
        · exact hO _ h
        · omega
    · rw [hcell k off (Nat.lt_of_lt_of_le hk hs.size) ?_]
      · exact hs.cell k off hk hO
      · intro ho
        rcases p.own_le hs ho with h | h
        · exact hO h
        · omega
    · rw [hfrz k off (Nat.lt_of_lt_of_le hk hs.size)]; exact hs.frz k off hk
    · rcases row k s2 hk with ⟨i, so1, rfl, g2, rfl, q1, q2, q3, q4⟩ | ⟨g1, g2, g3⟩
      · rw [SO.ren_len] at hj
        rw [hnm i q1]
        by_cases c : i < u0
        · obtain ⟨so, sc, e1, e2, e3, e4, e5, e6⟩ := q4 c
          rw [hlow i c]
          exact hs.fresh _ sc e4 e6 j (by omega)
        · rcases hnew i so1 g2 (Nat.le_of_not_lt c) j hj with h | ⟨i', es, c', hi', h⟩
          · exact .inr (Nat.le_trans hs.size h)
          · exact p.own_le hs (.inr ⟨i', es, c', hi', h⟩)
      · rw [hold k g1]
        exact hs.fresh k s2 g2 hw j hj
    · have drow : ∀ k es c, look (callH l u0 u H0 (H1 x) H) k = some (.dict es c) → (∃ i, nm l u0 u i = k ∧ look (H1 x) i = some (.dict es c) ∧ ρ2 k = ρo i) ∨ (look H k = some (.dict es c) ∧ ρ2 k = ρ k ∧ ∀ i so, look H0 i = some so → so.wr = true → nthD l i ≠ k) := fun k es c hk => by
        rcases row k _ hk with ⟨i, so1, h1, g2, h2, q1, q2, q3, q4⟩ | ⟨g1, g2, g3⟩
        · refine .inl ⟨i, h1, ?_, by rw [← h1]; exact hnm i q1⟩
          cases so1 <;> cases h2
          exact g2
        · exact .inr ⟨g2, hold k g1, hnone k _ g2 g3⟩
      have dnew : ∀ i es c, look (H1 x) i = some (.dict es c) → ∀ k es' c', look H k = some (.dict es' c') → (∀ i so, look H0 i = some so → so.wr = true → nthD l i ≠ k) → (ρo i).1 ≠ (ρ k).1 := fun i es c hi k es' c' hk hn e => by
        rcases h6.dict.own i es c hi with h | h
        · have := h 0
          rw [show ((via ρ' τ) i).1 = (ρ k).1 from e] at this
          exact p.far_dict hs hk hn 0 this
        · have := dict_lt (hs.dict.at_ k es' c' hk)
          rw [show ((via ρ' τ) i).1 = (ρ k).1 from e] at h
          omega
      refine ⟨fun k es c hk => ?_, fun k es c hk => ?_, fun k k' ei ci ej cj hk hk' hkk => ?_⟩
      · rcases drow k es c hk with ⟨i, h1, h2, h3⟩ | ⟨h1, h2, h3⟩
        · rw [h3]; exact h6.dict.at_ i es c h2
        · rw [h2, h4.blk _ (dict_lt (hs.dict.at_ k es c h1)) (p.far_dict hs h1 h3)]
          exact hs.dict.at_ k es c h1
      · rcases drow k es c hk with ⟨i, h1, h2, h3⟩ | ⟨h1, h2, h3⟩
        · rw [h3]
          rcases h6.dict.own i es c h2 with h | h
          · by_cases g : w0.heap.size ≤ (ρo i).1
            · exact .inr g
            · exact .inl fun off => (p.own_le hs (h off)).resolve_right g
          · exact .inr (Nat.le_trans hs.size h)
        · rw [h2]; exact hs.dict.own k es c h1
      · rcases drow k ei ci hk with ⟨i, h1, h2, h3⟩ | ⟨h1, h2, h3⟩
        · rcases drow k' ej cj hk' with ⟨i', h1', h2', h3'⟩ | ⟨h1', h2', h3'⟩
          · rw [h3, h3']; exact h6.dict.sep i i' ei ci ej cj h2 h2' (fun e => hkk (by rw [← h1, ← h1', e]))
          · rw [h3, h2']; exact dnew i ei ci h2 k' ej cj h1' h3'
        · rcases drow k' ej cj hk' with ⟨i', h1', h2', h3'⟩ | ⟨h1', h2', h3'⟩
          · rw [h2, h3']; exact Ne.symm (dnew i' ej cj h2' k ei ci h1 h3)
          · rw [h2, h2']; exact hs.dict.sep k k' ei ci ej cj h1 h1' hkk

end Go.Sh

/- Regions that draw their order, where appends, stores and calls stand: the small operations are taken first; of the others each order is walked. -/
set_option linter.unusedVariables false
namespace Go.Sh
open Go.RowKit

/-- The order in which a region is walked. -/
inductive Sched where
  | fin
  | take (i : Nat) (s : Sched)
  | alt (i : Nat) (s r : Sched)
  | stop

def altIdx : Sched → List Nat
  | .alt i _ r => i :: altIdx r
  | _ => []
def chk (ops : Array Oper) : Bool → Nat → Sched → Array Bool → Bool
  | true, _, .fin, l => (Region.ready .any ops l) == []
  | true, n + 1, .take i s, l => Region.free .any ops l i && ((Region.ready .any ops l).contains i && chk ops true n s (l.setIfInBounds i true))
  | true, n + 1, .alt i s r, l => (Region.ready .any ops l) == (i :: altIdx r) && (chk ops true n s (l.setIfInBounds i true) && chk ops false (n + 1) r l)
  | false, n + 1, .alt i s r, l => chk ops true n s (l.setIfInBounds i true) && chk ops false (n + 1) r l
  | false, _, .stop, _ => true
  | _, _, _, _ => false

def lightC (P : Program) (tab : Tab) (HS : Hp) (all : List Oper) (i : Nat) (ih : OpsT) : OpsT := fun F H u K => match nthOp all i with
  | none => False
  | some o => guardK all o F (fun F' => vop P tab o F' HS (fun v => ih (putF o.dst v F') H u K) (VL P o F' HS fun v => ih (putF o.dst v F') H u K)) (fun F' => ih (putF o.dst .undef F') H u K)
def heavyC (P : Program) (tab : Tab) (HS : Hp) (all : List Oper) (i : Nat) (ih : OpsT) : OpsT := fun F H u K => match nthOp all i with
  | none => False
  | some o => guardK all o F (fun F' => sop P tab o F' H u fun v H' u' => Needs (subH HS H') (ih (putF o.dst v F') H' u' K)) (fun F' => ih (putF o.dst .undef F') H u K)
def qrun (P : Program) (tab : Tab) (HS : Hp) (all : List Oper) (s : Sched) : OpsT :=
  Sched.rec (motive := fun _ => OpsT) (fun F H u K => K F H u) (fun i _ ih => lightC P tab HS all i ih)
    (fun i _ r ihs ihr F H u K => match r with | .stop => heavyC P tab HS all i ihs F H u K | _ => heavyC P tab HS all i ihs F H u K ∧ ihr F H u K) (fun _ _ _ _ => True) s

theorem Sat.base {w0 w : World} {O : Nat → Nat → Prop} {N : Nat → Prop} {ρ : Env} {H : Hp} (h : Sat w0 O N ρ H w) : Sat w (fun _ _ => True) N ρ H w :=
  ⟨rfl, rfl, rfl, Nat.le_refl _, h.dom, h.sep, fun _ _ h => (h 0 trivial).elim, fun _ _ _ _ => rfl, fun _ _ _ => rfl, fun _ _ _ _ _ _ => .inl trivial, h.dict.at_, fun _ _ _ _ => .inl fun _ => trivial, h.dict.sep⟩
theorem Sat.agree {w0 w : World} {O : Nat → Nat → Prop} {N : Nat → Prop} {ρ ρ' : Env} {H : Hp} (h : Sat w0 O N ρ H w) (e : ∀ i, N i → ρ' i = ρ i) : Sat w0 O N ρ' H w := by
  refine ⟨h.os, h.tape, h.output, h.size, fun i so hi => ?_, fun i j si sj hi hj hij hw => ?_, h.blk, h.cell, h.frz, fun i so hi hw j hj => ?_, h.dict.of fun i es c hi => ⟨hi, e i (h.dom i _ hi).1⟩⟩
  · obtain ⟨h1, h2, h3⟩ := h.dom i so hi
    exact ⟨h1, h2, by rw [e i h1]; exact is_agree e h2 h3⟩
  · rw [e i (h.dom i si hi).1, e j (h.dom j sj hj).1]; exact h.sep i j si sj hi hj hij hw
  · rw [e i (h.dom i so hi).1]; exact h.fresh i so hi hw j hj

section
variable {P : Program} {tab : Tab} {all : List Oper} {n : Nat} {w0 : World} {O : Nat → Nat → Prop} {Q : Exit → Act → World → Prop} {HS : Hp} {u0 : Nat} {ρ0 : Env}

def Held (HS : Hp) (u0 : Nat) (ρ0 : Env) (w : World) : Prop := Sat w (fun _ _ => True) (· < u0) ρ0 HS w

theorem St.held {u : Nat} {ρ : Env} {F : Fr} {H : Hp} {a : Act} {w : World} (hs : St n w0 O u ρ F H a w) (hsub : subH HS H) (hwf : wfH u0 HS = true) (hρ : ∀ i, i < u0 → ρ i = ρ0 i) : Held HS u0 ρ0 w :=
  ((hs.sat.base).weaken (M := (· < u0)) (subH_out hsub) (wfH_out hwf)).agree fun i hi => (hρ i hi).symm

theorem qrun_sound (hP : TabOk P tab) (hsel : Region.noSelect all.toArray = true) (hd : all.all (dstOk n) = true) (hp : ∀ c a w, ¬ Q (.panic c) a w) (hwf : wfH u0 HS = true) : ∀ (s : Sched),
    (∀ {fuel : Nat} {listed : Array Bool} {F : Fr} {H : Hp} {u : Nat} {Q' : Fr → Hp → Nat → Prop} (h : qrun P tab HS all s F H u Q') (hc : chk all.toArray true fuel s listed = true) {ρ : Env} {a : Act} {w : World} (hs : St n w0 O u ρ F H a w) (hsub : subH HS H) (hu : u0 ≤ u) (hρ : ∀ i, i < u0 → ρ i = ρ0 i)
      (hQ : ∀ F' H' u' ρ' a' w', u ≤ u' → (∀ i, i < u → ρ' i = ρ i) → St n w0 O u' ρ' F' H' a' w' → Q' F' H' u' → Q .normal a' w'), wpAnyH P .any all.toArray Q (Held HS u0 ρ0) fuel listed a w) ∧
    (∀ {fuel : Nat} {listed : Array Bool} {F : Fr} {H : Hp} {u : Nat} {Q' : Fr → Hp → Nat → Prop} (h : qrun P tab HS all s F H u Q') (hc : chk all.toArray false (fuel + 1) s listed = true) {ρ : Env} {a : Act} {w : World} (hs : St n w0 O u ρ F H a w) (hsub : subH HS H) (hu : u0 ≤ u) (hρ : ∀ i, i < u0 → ρ i = ρ0 i)
      (hQ : ∀ F' H' u' ρ' a' w', u ≤ u' → (∀ i, i < u → ρ' i = ρ i) → St n w0 O u' ρ' F' H' a' w' → Q' F' H' u' → Q .normal a' w'), ∀ i ∈ altIdx s, wpOp P all.toArray Q i (fun a' w' => Held HS u0 ρ0 w' ∧ wpAnyH P .any all.toArray Q (Held HS u0 ρ0) fuel (listed.setIfInBounds i true) a' w') a w)
  | .fin => ⟨fun {fuel listed F H u Q'} h hc {ρ a w} hs hsub hu hρ hQ => by
      have : Region.ready .any all.toArray listed = [] := by
        cases fuel <;> simpa [chk] using hc
      exact wpAnyH_done this (hQ F H u ρ a w (Nat.le_refl _) (fun _ _ => rfl) hs h) fuel, fun {fuel listed F H u Q'} h hc {ρ a w} hs hsub hu hρ hQ i hi => by cases hi⟩
  | .stop => ⟨fun {fuel listed F H u Q'} h hc {ρ a w} hs hsub hu hρ hQ => by cases fuel <;> simp [chk] at hc, fun {fuel listed F H u Q'} h hc {ρ a w} hs hsub hu hρ hQ i hi => by cases hi⟩
  | .take i s => ⟨fun {fuel listed F H u Q'} h hc {ρ a w} hs hsub hu hρ hQ => by
      cases fuel with
      | zero => simp [chk] at hc
      | succ fuel =>
        simp only [chk, Bool.and_eq_true] at hc
        obtain ⟨hf, hr, hc⟩ := hc
        have h : lightC P tab HS all i (qrun P tab HS all s) F H u Q' := h
        unfold lightC at h
        cases ho : nthOp all i with
        | none => rw [ho] at h; exact h.elim
        | some o =>
          rw [ho] at h
          rw [nthOp_eq] at ho
          have hi : all.toArray[i]? = some o := by simpa using ho
          have hdo : dstOk n o = true := List.all_eq_true.1 hd o (List.mem_of_getElem? ho)
          have hS := hs.held hsub hwf hρ
          have hQp : ∀ v c a w, Q (.panic c) (a.put o.dst v) w → Q (.panic c) a w := fun v c a w h => (hp _ _ _ h).elim
          obtain ⟨F', hF, ⟨hw, h1⟩ | ⟨hw, h1⟩⟩ := guardK_out h hs.fr
          · have hs' : St n w0 O u ρ F' H a w := ⟨hs.size, hs.defers, hF, hs.sat⟩
            have fin : ∀ v, VSem P o F' HS v → qrun P tab HS all s (putF o.dst v F') H u Q' → wpAnyH P .any all.toArray Q (Held HS u0 ρ0) (fuel + 1) listed a w := fun v hv k => by
              have yv : ∀ w', Held HS u0 ρ0 w' → (execOp a.eval o).run P w' = .ok (.value (v.val ρ)) w' ∧ v.In (· < u) := fun w' hw' =>
                hv w' _ (· < u) ρ a w' HS hF (fun _ _ h _ => h) ((Sat.agree hw' hρ).weaken (M := (· < u)) (fun _ _ h => h) fun i so hi => ⟨Nat.lt_of_lt_of_le (wfH_out hwf i so hi).1 hu, SO.In.mono (fun j hj => Nat.lt_of_lt_of_le hj hu) (wfH_out hwf i so hi).2⟩)
              exact wpAnyH_take hi hsel hf (by simpa using hr) (hQp _) (.inl ⟨hw, fun w' hw' => (yv w' hw').1⟩) hS
                ((qrun_sound hP hsel hd hp hwf s).1 k hc (hs'.put hdo (Nat.le_refl _) (fun _ _ => rfl) (yv w hS).2 hs.sat) hsub hu hρ hQ)
            rcases vop_sound hP h1 with ⟨v, k, hv⟩ | g
            · exact fin v hv k
            · obtain ⟨v, k, hv⟩ := g.out
              exact fin v hv k
          · have hs' : St n w0 O u ρ F' H a w := ⟨hs.size, hs.defers, hF, hs.sat⟩
            exact wpAnyH_take hi hsel hf (by simpa using hr) (hQp _) (.inr ⟨hw, rfl⟩) hS
              ((qrun_sound hP hsel hd hp hwf s).1 h1 hc (hs'.put (v := .undef) hdo (Nat.le_refl _) (fun _ _ => rfl) trivial hs.sat) hsub hu hρ hQ), fun {fuel listed F H u Q'} h hc {ρ a w} hs hsub hu hρ hQ i hi => by simp [chk] at hc⟩
  | .alt i s r => by
      have one : ∀ {fuel : Nat} {listed : Array Bool} {F : Fr} {H : Hp} {u : Nat} {Q' : Fr → Hp → Nat → Prop} (h : heavyC P tab HS all i (qrun P tab HS all s) F H u Q') (hc : chk all.toArray true fuel s (listed.setIfInBounds i true) = true) {ρ : Env} {a : Act} {w : World} (hs : St n w0 O u ρ F H a w) (hsub : subH HS H) (hu : u0 ≤ u) (hρ : ∀ i, i < u0 → ρ i = ρ0 i)
          (hQ : ∀ F' H' u' ρ' a' w', u ≤ u' → (∀ i, i < u → ρ' i = ρ i) → St n w0 O u' ρ' F' H' a' w' → Q' F' H' u' → Q .normal a' w'), wpOp P all.toArray Q i (fun a' w' => Held HS u0 ρ0 w' ∧ wpAnyH P .any all.toArray Q (Held HS u0 ρ0) fuel (listed.setIfInBounds i true) a' w') a w := by
        intro fuel listed F H u Q' h hc ρ a w hs hsub hu hρ hQ
        unfold heavyC at h
        cases ho : nthOp all i with
        | none => rw [ho] at h; exact h.elim
        | some o =>
          rw [ho] at h
          rw [nthOp_eq] at ho
          have hi : all.toArray[i]? = some o := by simpa using ho
          have hdo : dstOk n o = true := List.all_eq_true.1 hd o (List.mem_of_getElem? ho)
          have hS := hs.held hsub hwf hρ
          unfold wpOp
          rw [hi]
          obtain ⟨F', hF, ⟨hw, h1⟩ | ⟨hw, h1⟩⟩ := guardK_out h hs.fr
          · simp only [hw, if_true]
            refine .inl (sop_sound hP h1 w0 O ρ a w _ _ hF hs.sat fun v H' u' ρ' w' q1 q2 q3 q4 q5 => ?_)
            have hs' : St n w0 O u ρ F' H a w := ⟨hs.size, hs.defers, hF, hs.sat⟩
            have hs2 := hs'.put hdo q1 q2 q3 q4
            have hρ2 : ∀ i, i < u0 → ρ' i = ρ0 i := fun i hi => (q2 i (Nat.lt_of_lt_of_le hi hu)).trans (hρ i hi)
            exact ⟨hs2.held q5.has hwf hρ2, (qrun_sound hP hsel hd hp hwf s).1 q5.go hc hs2 q5.has (Nat.le_trans hu q1) hρ2 fun F2 H2 u2 ρ2 a2 w2 g1 g2 g3 g4 => hQ F2 H2 u2 ρ2 a2 w2 (Nat.le_trans q1 g1) (fun i hi => (g2 i (Nat.lt_of_lt_of_le hi q1)).trans (q2 i hi)) g3 g4⟩
          · simp only [hw, Bool.false_eq_true, if_false]
            have hs' : St n w0 O u ρ F' H a w := ⟨hs.size, hs.defers, hF, hs.sat⟩
            exact ⟨hS, (qrun_sound hP hsel hd hp hwf s).1 h1 hc (hs'.put (v := .undef) hdo (Nat.le_refl _) (fun _ _ => rfl) trivial hs.sat) hsub hu hρ hQ⟩
      have two : ∀ {F : Fr} {H : Hp} {u : Nat} {Q' : Fr → Hp → Nat → Prop}, qrun P tab HS all (.alt i s r) F H u Q' → heavyC P tab HS all i (qrun P tab HS all s) F H u Q' ∧ qrun P tab HS all r F H u Q' := by
        intro F H u Q' h
        cases r with
        | stop => exact ⟨h, trivial⟩
        | fin => exact h
        | take => exact h
        | alt => exact h
      have many : ∀ {fuel : Nat} {listed : Array Bool} {F : Fr} {H : Hp} {u : Nat} {Q' : Fr → Hp → Nat → Prop} (h : qrun P tab HS all (.alt i s r) F H u Q') (hc : (chk all.toArray true fuel s (listed.setIfInBounds i true) && chk all.toArray false (fuel + 1) r listed) = true) {ρ : Env} {a : Act} {w : World} (hs : St n w0 O u ρ F H a w) (hsub : subH HS H) (hu : u0 ≤ u) (hρ : ∀ i, i < u0 → ρ i = ρ0 i)
          (hQ : ∀ F' H' u' ρ' a' w', u ≤ u' → (∀ i, i < u → ρ' i = ρ i) → St n w0 O u' ρ' F' H' a' w' → Q' F' H' u' → Q .normal a' w'), ∀ j ∈ i :: altIdx r, wpOp P all.toArray Q j (fun a' w' => Held HS u0 ρ0 w' ∧ wpAnyH P .any all.toArray Q (Held HS u0 ρ0) fuel (listed.setIfInBounds j true) a' w') a w := by
        intro fuel listed F H u Q' h hc ρ a w hs hsub hu hρ hQ j hj
        rw [Bool.and_eq_true] at hc
        obtain ⟨k1, k2⟩ := two h
        rcases List.mem_cons.1 hj with rfl | hj
        · exact one k1 hc.1 hs hsub hu hρ hQ
        · exact (qrun_sound hP hsel hd hp hwf r).2 k2 hc.2 hs hsub hu hρ hQ j hj
      refine ⟨fun {fuel listed F H u Q'} h hc {ρ a w} hs hsub hu hρ hQ => ?_, fun {fuel listed F H u Q'} h hc {ρ a w} hs hsub hu hρ hQ => ?_⟩
      · cases fuel with
        | zero => simp [chk] at hc
        | succ fuel =>
          simp only [chk, Bool.and_eq_true, beq_iff_eq] at hc
          exact wpAnyH_all hc.1 (by simp) (many h (by rw [Bool.and_eq_true]; exact hc.2) hs hsub hu hρ hQ)
      · rw [chk] at hc
        exact many h hc hs hsub hu hρ hQ
end

/-- A region that draws its order. HS: the rows that the small operations read, which no operation lays. -/
theorem CodeL.any {P : Program} {tab : Tab} (hP : TabOk P tab) (hm : P.follows .mixedOrders = true) {n id : Nat} {ops : Array Oper} {F : Fr} {H : Hp} {u : Nat} {Q : SE → Fr → Hp → Nat → Prop} (HS : Hp) (s : Sched)
    (hB : (Region.noSelect ops && chk ops true ops.size s (Array.replicate ops.size false)) = true) (hd : ops.toList.all (dstOk n) = true) (hsub : subH HS H) (hwf : wfH u HS = true)
    (h : qrun P tab HS ops.toList s F H u (Q .normal)) : CodeL P n (.region id ops true) F H u Q := by
  refine ⟨fun w0 O ρ a w hs => ?_⟩
  rw [Bool.and_eq_true] at hB
  have e : ops.toList.toArray = ops := by simp
  refine wp_region_held (S := Held HS u ρ) hm ?_
  have := (qrun_sound (n := n) (w0 := w0) (O := O) (Q := Post n w0 O u ρ Q) (ρ0 := ρ) hP (by rw [e]; exact hB.1) hd (fun c a w h => by
    obtain ⟨se, F, H, u, ρ, h1, _⟩ := h; cases h1) hwf s).1 h (by rw [e]; exact hB.2) (w := { w with drawn := w.drawn + 1 }) ⟨hs.size, hs.defers, hs.fr, hs.sat.drew⟩ hsub (Nat.le_refl _) (fun _ _ => rfl)
    fun F' H' u' ρ' a' w' h1 h2 h3 h4 => ⟨.normal, F', H', u', ρ', rfl, h1, h2, h3, h4⟩
  rwa [e] at this

end Go.Sh

/- Slice expressions; the empty slice literal; copy; append, whatever is appended. -/
set_option linter.unusedVariables false
namespace Go.Sh
open Go.RowKit

/-! ### Slice expressions -/
def oevK (F : Fr) (x : Option Operand) (k : Option SV → Prop) : Prop := match x with
  | none => k none
  | some x => evK F x fun v => k (some v)
theorem oevK_out {F : Fr} {x : Option Operand} {k : Option SV → Prop} (h : oevK F x k) : ∃ v, k v ∧ ∀ N ρ a, FOk N ρ F a → x.map a.eval = v.map (SV.val ρ) := by
  cases x with
  | none => exact ⟨none, h, fun _ _ _ _ => rfl⟩
  | some x =>
    obtain ⟨v, h1, h2⟩ := evK_out h
    exact ⟨some v, h1, fun N ρ a ha => by simp [(h2 N ρ a ha).1]⟩

def sbd : Option SV → Nat → Nat → Prop
  | none, d, l => l = d
  | some (.int _ z), _, l => z = (l : Int)
  | _, _, _ => False
def okmx : Option SV → Option SV → Bool
  | none, some _ => false
  | _, _ => true
/-- A slice expression: from l on, to h, room to m. -/
structure SlcL (vlo vhi vmx : Option SV) (len cap : Nat) (k : Nat → Nat → Nat → Prop) : Prop where
  out : ∃ l h m : Nat, sbd vlo 0 l ∧ sbd vhi len h ∧ sbd vmx cap m ∧ okmx vhi vmx = true ∧ l ≤ h ∧ h ≤ m ∧ m ≤ cap ∧ k l h m

def sOff (m l off size : Nat) : Nat := match Nat.beq m l with | true => off | false => off + l * size
def slcK (tab : Tab) (o : Oper) (F : Fr) (k : SV → Prop) : Prop := match o.op with
  | .slice t x lo hi mx => tabK tab t fun ti => evK F x fun v => oevK F lo fun vlo => oevK F hi fun vhi => oevK F mx fun vmx => (match ti.desc with
    | .array n e => tabK tab e fun ei => (match v with
      | .ptr i off => SlcL vlo vhi vmx n n fun l h m => k (.slice i (sOff m l off ei.size) (h - l) (m - l))
      | .ptrx i off => SlcL vlo vhi vmx n n fun l h m => k (.slice i (sOff m l off ei.size) (h - l) (m - l))
      | _ => False)
    | .slice e => tabK tab e fun ei => (match v with
      | .slice i off len cap => SlcL vlo vhi vmx len cap fun l h m => k (.slice i (sOff m l off ei.size) (h - l) (m - l))
      | .slz b i off len cap => Needs (b = true → cap = 0) (SlcL vlo vhi vmx len cap fun l h m => k (.slz (b && Nat.beq len 0) i (sOff m l off ei.size) (h - l) (m - l)))
      | .nilSlice => SlcL vlo vhi vmx 0 0 fun l h m => k .nilSlice
      | _ => False)
    | _ => False)
  | _ => False

theorem run_bound {P : Program} {w : World} {v : Value} {k : IntKind} {l y : Nat} (hv : v = .int k (l : Int)) (h : l ≤ y) (c : BoundsCode) : (Instr.sliceBound v y c).run P w = .ok l w := by
  subst hv
  simp [Instr.sliceBound, asIntOf, h]

theorem run_bounds {P : Program} {w : World} {sl : Bool} {len cap : Nat} {vlo vhi vmx : Option SV} {ρ : Env} {l h m : Nat} (h1 : sbd vlo 0 l) (h2 : sbd vhi len h) (h3 : sbd vmx cap m) (hm : okmx vhi vmx = true) (h4 : l ≤ h) (h5 : h ≤ m) (h6 : m ≤ cap) :
    (Instr.sliceBounds sl len cap (vlo.map (SV.val ρ)) (vhi.map (SV.val ρ)) (vmx.map (SV.val ρ))).run P w = .ok (l, h, m) w := by
  have key : ∀ {v : Option SV} {d l : Nat}, sbd v d l → (v = none ∧ l = d) ∨ ∃ k, v = some (.int k (l : Int)) := fun {v d l} h => by
    unfold sbd at h
    split at h
    · exact .inl ⟨rfl, h⟩
    · rename_i k z; subst h; exact .inr ⟨k, rfl⟩
    · exact h.elim
  rcases key h1 with ⟨rfl, rfl⟩ | ⟨k1, rfl⟩ <;> rcases key h2 with ⟨rfl, rfl⟩ | ⟨k2, rfl⟩ <;> rcases key h3 with ⟨rfl, rfl⟩ | ⟨k3, rfl⟩ <;> first
    | (simp [okmx] at hm; done)
    | (simp only [Instr.sliceBounds, Option.map_none, Option.map_some, SV.val, Sem.run_bind, Sem.run_pure, Result.andThen_ok, Option.isSome, run_bound (P := P) (w := w) rfl h4, run_bound (P := P) (w := w) rfl h5, run_bound (P := P) (w := w) rfl h6])

theorem VL.slice {P : Program} {tab : Tab} (hP : TabOk P tab) {o : Oper} {F : Fr} {H : Hp} {K : SV → Prop} (h : slcK tab o F K) : VL P o F H K := by
  unfold slcK at h
  split at h
  · rename_i t x lo hi mx ho
    obtain ⟨ti, ht, h1⟩ := tabK_out hP h
    clear h
    obtain ⟨v, h2, hx⟩ := evK_out h1
    obtain ⟨vlo, h3, hlo⟩ := oevK_out h2
    obtain ⟨vhi, h4, hhi⟩ := oevK_out h3
    obtain ⟨vmx, h5, hmx⟩ := oevK_out h4
    clear h1 h2 h3 h4
    have hu := ht.und
    have run : ∀ a : Act, (execOp a.eval o) = (do pure (.value (← Instr.sliceAt t (a.eval x) (lo.map a.eval) (hi.map a.eval) (mx.map a.eval)))) := fun a => by simp only [execOp, ho]
    have ad : ∀ (b off m l size : Nat), (if m = l then (⟨b, off, none⟩ : Addr) else (⟨b, off, none⟩ : Addr).add (l * size)) = ⟨b, sOff m l off size, none⟩ := fun b off m l size => by
      unfold sOff
      by_cases e : m = l
      · subst e; rw [if_pos rfl, Nat.beq_refl]
      · rw [if_neg e]
        have : Nat.beq m l = false := by rw [← Bool.not_eq_true, Nat.beq_eq]; exact e
        rw [this, add_at]
    have adr : ∀ (p : Nat × Nat) (off m l size : Nat), p.2 + sOff m l off size = sOff m l (p.2 + off) size := fun p off m l size => by
      unfold sOff; split <;> omega
    split at h5
    · rename_i n e hd
      rw [hd] at hu
      obtain ⟨ei, he, h6⟩ := tabK_out hP h5
      clear h5
      have fin : ∀ i off (hv : ∀ N ρ a, FOk N ρ F a → a.eval x = .pointer (some ⟨(ρ i).1, (ρ i).2 + off, none⟩) ∧ N i) (g : SlcL vlo vhi vmx n n fun l h m => K (.slice i (sOff m l off ei.size) (h - l) (m - l))), VL P o F H K := fun i off hv g => by
        obtain ⟨l, h, m, e1, e2, e3, e4, e5, e6, e7, k⟩ := g.out
        refine ⟨_, k, fun w0 O N ρ a w H2 ha _ _ => ⟨?_, (hv _ ρ a ha).2⟩⟩
        rw [run a, (hv _ ρ a ha).1, hlo _ ρ a ha, hhi _ ρ a ha, hmx _ ρ a ha]
        simp only [Instr.sliceAt, Sem.run_bind, run_underlying hu, Result.andThen_ok, Instr.sureAddr, Sem.run_pure, run_bounds (P := P) (w := w) (ρ := ρ) (sl := false) e1 e2 e3 e4 e5 e6 e7, he.run_size, SV.val, adr, ad]
      split at h6
      · exact fin _ _ (fun N ρ a ha => hx N ρ a ha) h6
      · exact fin _ _ (fun N ρ a ha => hx N ρ a ha) h6
      · exact h6.elim
    · rename_i e hd
      rw [hd] at hu
      obtain ⟨ei, he, h6⟩ := tabK_out hP h5
      clear h5
      have go : ∀ (a : Act) (w : World) (v : Value), (Instr.slice t (a.eval x) (lo.map a.eval) (hi.map a.eval) (mx.map a.eval)).run P w = .ok v w → (execOp a.eval o).run P w = .ok (.value v) w := fun a w v hr => by
        rw [run a]
        simp only [Instr.sliceAt, Sem.run_bind, run_underlying hu, Result.andThen_ok, hr, Sem.run_pure]
      split at h6
      · rename_i i off len cap
        obtain ⟨l, h, m, e1, e2, e3, e4, e5, e6, e7, k⟩ := (h6 : SlcL _ _ _ _ _ _).out
        refine ⟨_, k, fun w0 O N ρ a w H2 ha _ _ => ⟨go a w _ ?_, (hx _ ρ a ha).2⟩⟩
        rw [(hx _ ρ a ha).1, hlo _ ρ a ha, hhi _ ρ a ha, hmx _ ρ a ha]
        simp only [Instr.slice, Sem.run_bind, run_underlying hu, Result.andThen_ok, SV.val, run_bounds (P := P) (w := w) (ρ := ρ) (sl := true) e1 e2 e3 e4 e5 e6 e7, he.run_size, Sem.run_pure]
        by_cases hml : m = l
        · simp [hml, sOff]
        · have : Nat.beq m l = false := by rw [← Bool.not_eq_true, Nat.beq_eq]; exact hml
          simp [hml, sOff, this, add_at, Nat.add_assoc]
      · rename_i b i off len cap
        obtain ⟨hb, h7⟩ := (h6 : Needs _ _)
        obtain ⟨l, h, m, e1, e2, e3, e4, e5, e6, e7, k⟩ := (h7 : SlcL _ _ _ _ _ _).out
        refine ⟨_, k, fun w0 O N ρ a w H2 ha _ _ => ⟨go a w _ ?_, (hx _ ρ a ha).2⟩⟩
        rw [(hx _ ρ a ha).1, hlo _ ρ a ha, hhi _ ρ a ha, hmx _ ρ a ha]
        cases hz : b && Nat.beq len 0 with
        | true =>
          simp only [Bool.and_eq_true, Nat.beq_eq] at hz
          obtain ⟨rfl, rfl⟩ := hz
          have hc : cap = 0 := hb rfl
          subst hc
          have hm0 : m = 0 := by omega
          have hh0 : h = 0 := by omega
          have hl0 : l = 0 := by omega
          subst hm0 hh0 hl0
          simp only [Instr.slice, Sem.run_bind, run_underlying hu, Result.andThen_ok, SV.val, slzV, Bool.true_and, Nat.beq_refl, run_bounds (P := P) (w := w) (ρ := ρ) (sl := true) e1 e2 e3 e4 e5 e6 e7, he.run_size, Sem.run_pure]
          simp
        | false =>
          simp only [Instr.slice, Sem.run_bind, run_underlying hu, Result.andThen_ok, SV.val, slzV, hz, Bool.false_and, run_bounds (P := P) (w := w) (ρ := ρ) (sl := true) e1 e2 e3 e4 e5 e6 e7, he.run_size, Sem.run_pure]
          by_cases hml : m = l
          · simp [hml, sOff]
          · have : Nat.beq m l = false := by rw [← Bool.not_eq_true, Nat.beq_eq]; exact hml
            simp [hml, sOff, this, add_at, Nat.add_assoc]
      · obtain ⟨l, h, m, e1, e2, e3, e4, e5, e6, e7, k⟩ := (h6 : SlcL _ _ _ _ _ _).out
        refine ⟨_, k, fun w0 O N ρ a w H2 ha _ _ => ⟨go a w _ ?_, trivial⟩⟩
        have hm0 : m = 0 := by omega
        have hh0 : h = 0 := by omega
        have hl0 : l = 0 := by omega
        subst hm0 hh0 hl0
        rw [(hx _ ρ a ha).1, hlo _ ρ a ha, hhi _ ρ a ha, hmx _ ρ a ha]
        simp only [Instr.slice, Sem.run_bind, run_underlying hu, Result.andThen_ok, SV.val, run_bounds (P := P) (w := w) (ρ := ρ) (sl := true) e1 e2 e3 e4 e5 e6 e7, he.run_size, Sem.run_pure]
        simp
      · exact h6.elim
    · exact h5.elim
  · exact h.elim

/-! ### The empty literal -/
def bsl0K (tab : Tab) (o : Oper) (k : Prop) : Prop := match o.op with
  | .buildSlice t n parts => tabK tab t fun ti => (match ti.desc with
    | .slice e => tabK tab e fun ei => (match n, parts.toList with | 0, [] => k | _, _ => False)
    | _ => False)
  | _ => False
theorem OpL.bsl0 {P : Program} {tab : Tab} (hP : TabOk P tab) {o : Oper} {F : Fr} {H : Hp} {u : Nat} {K : SV → Hp → Nat → Prop} (h : bsl0K tab o (K (.slice u 0 0 0) ((u, .vec [] 0) :: H) (u + 1))) : OpL P o F H u K := by
  unfold bsl0K at h
  split at h
  · rename_i t n parts ho
    obtain ⟨ti, ht, h1⟩ := tabK_out hP h
    have hu := ht.und
    split at h1
    · rename_i e hd
      rw [hd] at hu
      obtain ⟨ei, he, h2⟩ := tabK_out hP h1
      split at h2
      · rename_i hp
        have hp' : parts = #[] := by
          cases parts; simpa using hp
        refine ⟨OpSem.turn fun w0 O ρ a w ha hs => ?_⟩
        refine ⟨.slice u 0 0 0, _, u + 1, upd ρ u (w.heap.size, 0), w.alloc (.cells #[] e), ?_, Nat.le_succ u, agree_upd ρ u _, Nat.lt_succ_self u, ?_, h2⟩
        · have e0 : Array.range 0 = #[] := rfl
          simp [execOp, ho, hp', Instr.buildSlice, run_underlying hu, he.run_size, Instr.fill, newRow, SV.val, upd_same, e0]
        · exact hs.alloc (M := (· < u + 1)) (Nat.lt_irrefl u) #[] e (succ_iff u) trivial (fun j v hj => by simp [SO.vals] at hj) (by simp [SO.vals]) (by simp [SO.len]) (by simp [SO.vals]) rfl
      · exact h2.elim
    · exact h1.elim
  · exact h.elim

/-! ### Slices as sources and destinations -/
def srcK (vx : SV) (H : Hp) (u : Nat) (k : SO → Nat → Nat → Nat → Prop) : Prop := match vx with
  | .nilSlice => k (.cells []) (u + 1) 0 0
  | .slice j oj m _ => (match look H j with | some so => k so j oj m | none => False)
  | .slz _ j oj m _ => (match look H j with | some so => k so j oj m | none => False)
  | .slicen j oj m _ => (match look H j with | some so => k so j oj m | none => False)
  | _ => False
theorem srcK_out {vx : SV} {H : Hp} {u : Nat} {k : SO → Nat → Nat → Nat → Prop} (h : srcK vx H u k) : ∃ so j oj m, k so j oj m ∧ (look H j = some so ∨ (j = u + 1 ∧ so = .cells [] ∧ m = 0)) ∧
    ∀ ρ, ∃ base cap, vx.val ρ = .slice base m cap ∧ ((base = some ⟨(ρ j).1, (ρ j).2 + oj, none⟩ ∧ look H j = some so) ∨ (base = none ∧ m = 0)) := by
  unfold srcK at h
  split at h
  · exact ⟨_, _, _, _, h, .inr ⟨rfl, rfl, rfl⟩, fun ρ => ⟨none, 0, rfl, .inr ⟨rfl, rfl⟩⟩⟩
  · split at h
    · rename_i hl; exact ⟨_, _, _, _, h, .inl hl, fun ρ => ⟨_, _, rfl, .inl ⟨rfl, hl⟩⟩⟩
    · exact h.elim
  · rename_i b j oj m c
    split at h
    · rename_i hl
      refine ⟨_, _, _, _, h, .inl hl, fun ρ => ?_⟩
      simp only [SV.val]
      cases hz : b && Nat.beq m 0 with
      | true =>
        have : m = 0 := by simp at hz; exact hz.2
        subst this
        exact ⟨none, 0, by simp only [slzV, hz], .inr ⟨rfl, rfl⟩⟩
      | false => exact ⟨_, c, by simp only [slzV, hz], .inl ⟨rfl, hl⟩⟩
    · exact h.elim
  · rename_i j oj m c
    split at h
    · rename_i hl
      refine ⟨_, _, _, _, h, .inl hl, fun ρ => ?_⟩
      cases m with
      | zero => exact ⟨none, 0, rfl, .inr ⟨rfl, rfl⟩⟩
      | succ n => exact ⟨_, _, rfl, .inl ⟨rfl, hl⟩⟩
    · exact h.elim
  · exact h.elim

theorem run_first {P : Program} {w0 w : World} {O : Nat → Nat → Prop} {N : Nat → Prop} {ρ : Env} {H : Hp} (hs : Sat w0 O N ρ H w) {so : SO} {j oj m size cap : Nat} {base : Option Addr} {news : List Value}
    (hb : (base = some ⟨(ρ j).1, (ρ j).2 + oj, none⟩ ∧ look H j = some so) ∨ (base = none ∧ m = 0)) (hn : ((so.vals ρ).drop oj).take (m * size) = news) (hl : news.length = m * size) :
    (Builtin.firstCells size m (.slice base m cap)).run P w = .ok news.toArray w := by
  rcases hb with ⟨rfl, hj⟩ | ⟨rfl, rfl⟩
  · simp only [Builtin.firstCells]
    by_cases h0 : m * size = 0
    · rw [h0] at hl ⊢
      have : news = [] := List.length_eq_zero_iff.1 hl
      subst this
      exact run_loadCells_list (P := P) (w := w) ⟨(ρ j).1, (ρ j).2 + oj, none⟩ [] (fun _ _ h => by simp at h)
    · rw [← hn]
      refine hs.run_cells hj ?_
      have : (((so.vals ρ).drop oj).take (m * size)).length = m * size := by rw [hn, hl]
      simp at this; omega
  · have : news = [] := List.length_eq_zero_iff.1 (by rw [hl, Nat.zero_mul])
    subst this
    simp [Builtin.firstCells]

/-! ### copy -/
structure CpyL (so sj : SO) (oi oj n size : Nat) (k : SO → Prop) : Prop where
  out : ∃ (so' : SO) (news : Env → List Value), k so' ∧ (∀ ρ, ((sj.vals ρ).drop oj).take (n * size) = news ρ ∧ (news ρ).length = n * size) ∧ (∀ N, so.In N → sj.In N → so'.In N) ∧ so'.len = so.len ∧ so.wr = true ∧ so'.wr = true ∧ so'.isD = false ∧
    ∀ ρ, oi + n * size ≤ (so.vals ρ).length ∧ so'.vals ρ = setRange (so.vals ρ) oi (news ρ)
def cpyK (tab : Tab) (o : Oper) (F : Fr) (H : Hp) (u : Nat) (K : SV → Hp → Nat → Prop) : Prop := match o.op with
  | .call c => (match c.callee with
    | .builtin .copy => (match c.args.toList, c.argTypes.toList with
      | [d, s], [t, t'] => tabK tab t fun ti => (match ti.desc with
        | .slice e => tabK tab e fun ei => evK F d fun vd => evK F s fun vs => srcK vs H u fun sj j oj sl => (match vd with
          | .slice i oi dl _ => (match look H i with
            | some so => CpyL so sj oi oj (Nat.min sl dl) ei.size fun so' => K (.int .i64 (Nat.min sl dl : Nat)) ((i, so') :: H) u
            | none => False)
          | _ => False)
        | _ => False)
      | _, _ => False)
    | _ => False)
  | _ => False

theorem OpL.copy {P : Program} {tab : Tab} (hP : TabOk P tab) {o : Oper} {F : Fr} {H : Hp} {u : Nat} {K : SV → Hp → Nat → Prop} (h : cpyK tab o F H u K) : OpL P o F H u K := by
  unfold cpyK at h
  split at h
  · rename_i c ho
    split at h
    · rename_i hcal
      split at h
      · rename_i d s t t' hargs htys
        obtain ⟨ti, ht, h1⟩ := tabK_out hP h
        clear h
        have hu := ht.und
        split at h1
        · rename_i e hd
          rw [hd] at hu
          obtain ⟨ei, he, h2⟩ := tabK_out hP h1
          clear h1
          obtain ⟨vd, h3, hvd⟩ := evK_out h2
          obtain ⟨vs, h4, hvs⟩ := evK_out h3
          clear h2 h3
          obtain ⟨sj, j, oj, sl, h5, hj, hsrc⟩ := srcK_out h4
          clear h4
          split at h5
          · rename_i i oi dl dc
            split at h5
            · rename_i so hi
              obtain ⟨so', news, k, hn, hin, hlen, hw, hw', hnd, hv⟩ := (h5 : CpyL _ _ _ _ _ _ _).out
              refine ⟨OpSem.turn fun w0 O ρ a w ha hs => ?_⟩
              obtain ⟨base, cap, e1, e2⟩ := hsrc ρ
              have ex : a.eval s = .slice base sl cap := ((hvs _ ρ a ha).1).trans e1
              have ed : a.eval d = .slice (some ⟨(ρ i).1, (ρ i).2 + oi, none⟩) dl dc := (hvd _ ρ a ha).1
              have hfirst : (Builtin.firstCells ei.size (Nat.min sl dl) (a.eval s)).run P w = .ok (news ρ).toArray w := by
                rw [ex]
                rcases e2 with ⟨rfl, hj'⟩ | ⟨rfl, rfl⟩
                · exact run_first (cap := cap) (m := Nat.min sl dl) hs (.inl ⟨rfl, hj'⟩) (hn ρ).1 (hn ρ).2
                · have h0 : Nat.min 0 dl = 0 := Nat.zero_min dl
                  have := run_first (P := P) (w := w) (cap := cap) (m := Nat.min 0 dl) (size := ei.size) (j := j) (oj := oj) hs (.inr ⟨rfl, h0⟩) (hn ρ).1 (hn ρ).2
                  exact this
              have hsj : sj.In (· < u) := by
                rcases hj with hj | ⟨_, rfl, _⟩
                · exact (hs.dom j sj hj).2.1
                · exact trivial
              obtain ⟨w', hr, hs'⟩ := Sat.run_store (P := P) (news ρ) hs hi hw (d := oi) (e := 0) (so' := so') (by rw [(hn ρ).2]; exact (hv ρ).1) (hin _ (hs.dom i so hi).2.1 hsj) hlen hw' (by simpa using (hv ρ).2) (fun x hx => by
                rw [← (hn ρ).1] at hx
                rcases hj with hj | ⟨_, rfl, _⟩
                · exact (hs.dom j sj hj).2.2.cell.2 x (List.mem_of_mem_drop (List.mem_of_mem_take hx))
                · simp [SO.vals, SV.vals] at hx) hnd
              refine ⟨.int .i64 (Nat.min sl dl : Nat), (i, so') :: H, u, ρ, w', ?_, Nat.le_refl _, fun _ _ => rfl, trivial, hs', k⟩
              have a1 : c.args = #[d, s] := by apply Array.ext'; simpa using hargs
              have a2 : c.argTypes = #[t, t'] := by apply Array.ext'; simpa using htys
              have hlen : (Builtin.lenOf (a.eval s)).run P w = .ok sl w := by rw [ex]; simp [Builtin.lenOf]
              simp only [execOp, ho, resolve, hcal, invoke, builtin, Sem.run_bind, Sem.run_pure, Result.andThen_ok, a1, a2, List.map_toArray, List.map_cons, List.map_nil, Builtin.copy_, List.getElem?_toArray, List.getElem?_cons_zero, List.getElem?_cons_succ, run_underlying hu, ed, hlen, he.run_size, hfirst, hr, goInt, SV.val]
            · exact h5.elim
          · exact h5.elim
        · exact h1.elim
      · exact h.elim
    · exact h.elim
  · exact h.elim

/-! ### append -/
theorem Sat.emptyRow {w0 w : World} {O : Nat → Nat → Prop} {ρ : Env} {H : Hp} {u : Nat} (h : Sat w0 O (· < u) ρ H w) (p : Nat × Nat) : Sat w0 O (· < u + 1) (upd ρ u p) ((u, .vec [] 0) :: H) w := by
  have hρ : ∀ i, i < u → upd ρ u p i = ρ i := fun i hi => upd_other ρ _ (Nat.ne_of_lt hi)
  have row : ∀ k s2, look ((u, SO.vec [] 0) :: H) k = some s2 → (k = u ∧ s2 = .vec [] 0) ∨ (k < u ∧ look H k = some s2) := fun k s2 hk => by
    rw [look_cons] at hk
    split at hk
    · rename_i e; subst e; injection hk with hk; exact .inl ⟨rfl, hk.symm⟩
    · exact .inr ⟨(h.dom k s2 hk).1, hk⟩
  refine ⟨h.os, h.tape, h.output, h.size, fun k s2 hk => ?_, fun i j si sj hi hj hij hw => ?_, h.blk, h.cell, h.frz, fun k s2 hk hw j hj => ?_, h.dict.of fun k es c hk => (by
    rcases row k _ hk with ⟨_, h⟩ | ⟨q1, q2⟩
    · cases h
    · exact ⟨q2, hρ k q1⟩)⟩
  · rcases row k s2 hk with ⟨rfl, rfl⟩ | ⟨q1, q2⟩
    · exact ⟨Nat.lt_succ_self _, trivial, ⟨⟨fun j v hv => by simp [SO.vals] at hv, by simp [SO.vals]⟩, fun _ j hj => by simp [SO.len] at hj, fun j hj => by simp [SO.len] at hj, by simp [SO.vals]⟩⟩
    · obtain ⟨a1, a2, a3⟩ := h.dom k s2 q2
      refine ⟨Nat.lt_succ_of_lt q1, SO.In.mono (fun i hi => Nat.lt_succ_of_lt hi) a2, ?_⟩
      rw [hρ k q1]; exact is_agree hρ a2 a3
  · rcases row i si hi with ⟨rfl, rfl⟩ | ⟨q1, q2⟩
    · intro k l hk; simp [SO.len] at hk
    · rcases row j sj hj with ⟨rfl, rfl⟩ | ⟨r1, r2⟩
      · intro k l hk hl; simp [SO.len] at hl
      · rw [hρ i q1, hρ j r1]; exact h.sep i j si sj q2 r2 hij hw
  · rcases row k s2 hk with ⟨rfl, rfl⟩ | ⟨q1, q2⟩
    · simp [SO.len] at hj
    · rw [hρ k q1]; exact h.fresh k s2 q2 hw j hj

/-- A row under another name. -/
theorem Sat.rename {w0 w : World} {O : Nat → Nat → Prop} {ρ : Env} {H : Hp} {u i : Nat} {cs : List Value} {cap : Nat} (h : Sat w0 O (· < u) ρ ((i, .vec cs cap) :: H) w) : Sat w0 O (· < u + 1) (upd ρ u (ρ i)) ((u, .vec cs cap) :: dropH i H) w := by
  have hρ : ∀ k, k < u → upd ρ u (ρ i) k = ρ k := fun k hk => upd_other ρ _ (Nat.ne_of_lt hk)
  have me : look ((i, SO.vec cs cap) :: H) i = some (.vec cs cap) := look_same _ _ _
  have row : ∀ k s2, look ((u, SO.vec cs cap) :: dropH i H) k = some s2 → (k = u ∧ s2 = .vec cs cap) ∨ (k ≠ i ∧ k < u ∧ look ((i, SO.vec cs cap) :: H) k = some s2) := fun k s2 hk => by
    rw [look_cons] at hk
    split at hk
    · rename_i e; subst e; injection hk with hk; exact .inl ⟨rfl, hk.symm⟩
    · obtain ⟨q1, q2⟩ := look_dropH i H k s2 hk
      have q3 : look ((i, SO.vec cs cap) :: H) k = some s2 := by rw [look_cons, if_neg (Ne.symm q1)]; exact q2
      exact .inr ⟨q1, (h.dom k s2 q3).1, q3⟩
  refine ⟨h.os, h.tape, h.output, h.size, fun k s2 hk => ?_, fun k k' s2 s3 hk hk' hkk hw => ?_, h.blk, h.cell, h.frz, fun k s2 hk hw q hq => ?_, h.dict.of fun k es c hk => (by
    rcases row k _ hk with ⟨_, h⟩ | ⟨q1, q2, q3⟩
    · cases h
    · exact ⟨q3, hρ k q2⟩)⟩
  · rcases row k s2 hk with ⟨rfl, rfl⟩ | ⟨q1, q2, q3⟩
    · refine ⟨Nat.lt_succ_self _, trivial, ?_⟩
      rw [upd_same]
      have g := (h.dom i _ me).2.2
      exact ⟨g.cell, g.free, g.room, g.fits⟩
    · obtain ⟨q4, q5, q6⟩ := h.dom k s2 q3
      refine ⟨Nat.lt_succ_of_lt q2, SO.In.mono (fun i hi => Nat.lt_succ_of_lt hi) q5, ?_⟩
      rw [hρ k q2]
      exact is_agree hρ q5 q6
  · rcases row k s2 hk with ⟨rfl, rfl⟩ | ⟨q1, q2, q3⟩
    · rcases row k' s3 hk' with ⟨rfl, rfl⟩ | ⟨r1, r2, r3⟩
      · exact absurd rfl hkk
      · rw [upd_same, hρ k' r2]
        exact h.sep i k' _ s3 me r3 (Ne.symm r1) rfl
    · rcases row k' s3 hk' with ⟨rfl, rfl⟩ | ⟨r1, r2, r3⟩
      · rw [upd_same, hρ k q2]
        exact h.sep k i s2 _ q3 me q1 hw
      · rw [hρ k q2, hρ k' r2]
        exact h.sep k k' s2 s3 q3 r3 hkk hw
  · rcases row k s2 hk with ⟨rfl, rfl⟩ | ⟨q1, q2, q3⟩
    · rw [upd_same]; exact h.fresh i _ me rfl q hq
    · rw [hρ k q2]; exact h.fresh k s2 q3 hw q hq

structure AppM (so : SO) (oj m l c size bytes cap : Nat) (cs : List Value) (K : List Value → Nat → Bool → Prop) : Prop where
  out : ∃ news : List Value, (∀ ρ, ((so.vals ρ).drop oj).take (m * size) = news) ∧ news.length = m * size ∧ cs.length = l * size ∧ cap = c * size ∧ l ≤ c ∧ l + m ≤ 9223372036854775807 ∧ (l + m) * bytes ≤ 140737488355328 ∧ ∀ b c', l + m ≤ c' → (b = true → l + m = 0 ∧ c' = 0) → K news c' b

def dstK (vs : SV) (H : Hp) (u : Nat) (k : Nat → List Value → Nat → Nat → Nat → Prop) : Prop := match vs with
  | .nilSlice => k u [] 0 0 0
  | .slice i oi l cp => (match oi, look H i with | 0, some (.vec cs cap) => k i cs cap l cp | _, _ => False)
  | .slz _ i oi l cp => (match oi, look H i with | 0, some (.vec cs cap) => k i cs cap l cp | _, _ => False)
  | _ => False
theorem dstK_out {vs : SV} {H : Hp} {u : Nat} {k : Nat → List Value → Nat → Nat → Nat → Prop} (h : dstK vs H u k) : ∃ i cs cap l cp, k i cs cap l cp ∧
    ∀ ρ, (vs.val ρ = .slice none 0 0 ∧ l = 0) ∨ (vs.val ρ = .slice (some ⟨(ρ i).1, (ρ i).2, none⟩) l cp ∧ look H i = some (.vec cs cap)) := by
  unfold dstK at h
  split at h
  · exact ⟨_, _, _, _, _, h, fun ρ => .inl ⟨rfl, rfl⟩⟩
  · split at h
    · rename_i hl; exact ⟨_, _, _, _, _, h, fun ρ => .inr ⟨rfl, hl⟩⟩
    · exact h.elim
  · rename_i b i oi l cp
    split at h
    · rename_i hl
      refine ⟨_, _, _, _, _, h, fun ρ => ?_⟩
      simp only [SV.val, slzV]
      cases hz : b && Nat.beq l 0 with
      | true => exact .inl ⟨rfl, by simp at hz; exact hz.2⟩
      | false => exact .inr ⟨rfl, hl⟩
    · exact h.elim
  · exact h.elim

def appMK (tab : Tab) (o : Oper) (F : Fr) (H : Hp) (u : Nat) (K : SV → Hp → Nat → Prop) : Prop :=
  match o.op with
  | .call c => (match c.callee with
    | .builtin .append => (match c.args.toList, c.argTypes.toList with
      | [s, x], [t, t'] => (match Nat.beq t t' with
        | true => tabK tab t fun ti => (match ti.desc with
          | .slice e => tabK tab e fun ei => evK F s fun vs => evK F x fun vx => srcK vx H u fun so j oj m => dstK vs H u fun i cs cap l cp => (match Nat.beq i j with
            | false => AppM so oj m l cp ei.size ei.bytes cap cs fun news c' b => K (.slz b u 0 (l + m) c') ((u, .vec (cs ++ news) (c' * ei.size)) :: dropH i H) (u + 1)
            | true => False)
          | _ => False)
        | false => False)
      | _, _ => False)
    | _ => False)
  | _ => False

theorem OpL.app {P : Program} {tab : Tab} (hP : TabOk P tab) {o : Oper} {F : Fr} {H : Hp} {u : Nat} {K : SV → Hp → Nat → Prop} (h : appMK tab o F H u K) : OpL P o F H u K := by
  unfold appMK at h
  split at h
  · rename_i c ho
    split at h
    · rename_i hcal
      split at h
      · rename_i s x t t' hargs htys
        split at h
        · rename_i htt
          have htt : t = t' := by simpa using htt
          subst htt
          obtain ⟨ti, ht, h1⟩ := tabK_out hP h
          clear h
          have hu := ht.und
          split at h1
          · rename_i e hd
            rw [hd] at hu
            obtain ⟨ei, he, h2⟩ := tabK_out hP h1
            clear h1
            obtain ⟨vs, h3, hs⟩ := evK_out h2
            obtain ⟨vx, h4, hx⟩ := evK_out h3
            clear h2 h3
            obtain ⟨so, j, oj, m, h5, hj, hsrc⟩ := srcK_out h4
            clear h4
            obtain ⟨i', cs, cap, l, cp, h6, hdst⟩ := dstK_out h5
            clear h5
            split at h6
            · rename_i hij
              have hij : i' ≠ j := by intro e; subst e; rw [Nat.beq_refl] at hij; cases hij
              obtain ⟨news, hn, hnl, hcl, hcap, hlc, hmax, hbytes, hK⟩ := (h6 : AppM _ _ _ _ _ _ _ _ _ _).out
              obtain ⟨i, z, hi, hsz, hby, hz, hzv, _, hzl, hzvl, hz1, _⟩ := he.inf
              have hzsz : z.cells.size = ei.size := by rw [← Array.length_toList, ← hzv zenv]; exact hzvl zenv
              have hrunop : ∀ (a : Act) (w w' : World) (v : Value), (Builtin.append_ #[t, t] o.type #[a.eval s, a.eval x]).run P w = .ok v w' → (execOp a.eval o).run P w = .ok (.value v) w' := fun a w w' v h => by
                have e1 : c.args = #[s, x] := by apply Array.ext'; simpa using hargs
                have e2 : c.argTypes = #[t, t] := by apply Array.ext'; simpa using htys
                simp only [execOp, ho, resolve, hcal, invoke, builtin, Sem.run_bind, Sem.run_pure, Result.andThen_ok, e1, e2, List.map_toArray, List.map_cons, List.map_nil, h]
              -- a new block for old and new cells
              have grow : ∀ (w0 : World) (O : Nat → Nat → Prop) (ρ : Env) (w : World) (H' : Hp) (cs news : List Value) (need old : Nat), Sat w0 O (· < u) ρ H w → (∀ k so, look H' k = some so → look H k = some so) → (cs ++ news).length = need * ei.size → (∀ v ∈ cs ++ news, v.oneCell' = true) →
                  Sat w0 O (· < u + 1) (upd ρ u (w.heap.size, 0)) ((u, .vec (cs ++ news) (grownCap w need old e * ei.size)) :: H') (w.drew.alloc (.cells (cs.toArray ++ news.toArray ++ Builtin.zeroCells z.cells (grownCap w need old e - need)) e)) := by
                intro w0 O ρ w H' cs news need old hsat hsub hlen hone
                have hge := grownCap_ge w need old e
                have h5 : Sat w0 O (· < u) ρ H' w.drew := hsat.drew.weaken hsub fun k so hk => ⟨(hsat.dom k so (hsub k so hk)).1, (hsat.dom k so (hsub k so hk)).2.1⟩
                have hsize : (cs.toArray ++ news.toArray ++ Builtin.zeroCells z.cells (grownCap w need old e - need)).size = grownCap w need old e * ei.size := by
                  have hl2 : cs.length + news.length = need * ei.size := by simpa using hlen
                  simp only [Array.size_append, List.size_toArray, size_zeroCells, hzsz, hl2]
                  rw [← Nat.add_mul]
                  congr 1; omega
                refine h5.alloc (M := (· < u + 1)) (Nat.lt_irrefl u) _ e (so := .vec (cs ++ news) (grownCap w need old e * ei.size)) (succ_iff u) trivial (fun j v hj => ?_) (fun v hv => hone v hv) (by simp only [SO.len]; omega) ?_ rfl
                · simp only [SO.vals] at hj
                  have hj' := (List.getElem?_eq_some_iff.1 hj).1
                  have : (cs.toArray ++ news.toArray) = (cs ++ news).toArray := by simp
                  rw [this, Array.getElem?_append_left (by simpa using hj')]
                  simpa using hj
                · simp only [SO.vals, SO.len, hlen]
                  exact Nat.mul_le_mul_right _ hge
              refine ⟨OpSem.turn fun w0 O ρ a w ha hsat => ?_⟩
              obtain ⟨base, cj, e1, e2⟩ := hsrc ρ
              have ex : a.eval x = .slice base m cj := ((hx _ ρ a ha).1).trans e1
              have hf := run_first (P := P) (cap := cj) hsat e2 (hn ρ) hnl
              have hone : ∀ v ∈ news, v.oneCell' = true := fun v hv => by
                rw [← hn ρ] at hv
                rcases hj with hj | ⟨_, rfl, _⟩
                · exact (hsat.dom j so hj).2.2.cell.2 v (List.mem_of_mem_drop (List.mem_of_mem_take hv))
                · simp [SO.vals, SV.vals] at hv
              have hcells : ∀ b, base = some b → ∀ k v, news[k]? = some v → w.cell? (b.add k) = some v := fun b hb k v hk => by
                rcases e2 with ⟨rfl, hl⟩ | ⟨rfl, _⟩
                · injection hb with hb; subst hb
                  rw [add_at, Nat.add_assoc]
                  refine hsat.read hl ?_
                  have hk' := hk
                  rw [← hn ρ, List.getElem?_take] at hk'
                  split at hk'
                  · rw [List.getElem?_drop] at hk'; exact hk'
                  · cases hk'
                · cases hb
              have somebase : 0 < m → ∃ b, base = some b := fun hm => by
                rcases e2 with ⟨rfl, _⟩ | ⟨_, rfl⟩
                · exact ⟨_, rfl⟩
                · omega
              rcases hdst ρ with ⟨hv, hl0⟩ | ⟨hv, hlook⟩
              · have es : a.eval s = .slice none 0 0 := ((hs _ ρ a ha).1).trans hv
                subst hl0
                have hcs : cs = [] := List.length_eq_zero_iff.1 (by rw [hcl, Nat.zero_mul])
                subst hcs
                by_cases hm : m = 0
                · subst hm
                  have hn0 : news = [] := List.length_eq_zero_iff.1 (by rw [hnl, Nat.zero_mul])
                  subst hn0
                  have hr : (Builtin.append_ #[t, t] o.type #[.slice none 0 0, .slice base 0 cj]).run P w = .ok (.slice none 0 0) w := by
                    simp [Builtin.append_, run_underlying hu, sizeOf, typeInfo, hi, hsz, Builtin.lenOf, hf]
                  refine ⟨.slz true u 0 (0 + 0) 0, _, u + 1, upd ρ u (0, 0), w, hrunop a w _ _ (by rw [es, ex, hr]; rfl), Nat.le_succ u, agree_upd ρ u _, Nat.lt_succ_self u, ?_, hK true 0 (Nat.le_refl _) (fun _ => ⟨rfl, rfl⟩)⟩
                  have := (hsat.weaken (H1 := dropH i' H) (M := (· < u)) (fun k so hk => (look_dropH i' H k so hk).2) fun k so hk => ⟨(hsat.dom k so (look_dropH i' H k so hk).2).1, (hsat.dom k so (look_dropH i' H k so hk).2).2.1⟩).emptyRow (0, 0)
                  simpa using this
                · obtain ⟨b, hb⟩ := somebase (by omega)
                  subst hb
                  have hr := run_append_nil (P := P) w t o.type e i z hu hi hz b m cj news (by rw [hsz]; exact hnl) (hcells b rfl) (by omega) (by omega) (by rw [hby]; rw [Nat.zero_add] at hbytes; omega)
                  have hg := grow w0 O ρ w (dropH i' H) [] news m 0 hsat (fun k so hk => (look_dropH i' H k so hk).2) (by simpa using hnl) (by simpa using hone)
                  have hge := grownCap_ge w m 0 e
                  refine ⟨.slz false u 0 (0 + m) (grownCap w m 0 e), _, u + 1, upd ρ u (w.heap.size, 0), _, hrunop a w _ _ (by rw [es, ex, hr]; simp only [SV.val, slzV, Bool.false_and, upd_same, Nat.zero_add]; rfl), Nat.le_succ u, agree_upd ρ u _, Nat.lt_succ_self u, ?_, hK false _ (by omega) (fun h => by cases h)⟩
                  simpa using hg
              · have es : a.eval s = .slice (some ⟨(ρ i').1, (ρ i').2, none⟩) l cp := ((hs _ ρ a ha).1).trans hv
                have hd := hsat.dom i' _ hlook
                by_cases hroom : l + m ≤ cp
                · obtain ⟨w', hst, hs'⟩ := hsat.run_extend (P := P) news hlook (d := l * ei.size) (e := 0) (by omega) (by rw [hcap, hcl, hnl, ← Nat.add_mul]; exact Nat.mul_le_mul_right _ hroom) hone
                  have hr : (Builtin.append_ #[t, t] o.type #[.slice (some ⟨(ρ i').1, (ρ i').2, none⟩) l cp, .slice base m cj]).run P w = .ok (.slice (some ⟨(ρ i').1, (ρ i').2, none⟩) (l + m) cp) w' := by
                    have hst' : (storeCells ((⟨(ρ i').1, (ρ i').2, none⟩ : Addr).add (l * ei.size)) news).run P w = .ok () w' := by rw [add_at]; exact hst
                    simp [Builtin.append_, run_underlying hu, sizeOf, typeInfo, hi, hsz, Builtin.lenOf, hroom, hf, hst']
                  refine ⟨.slz false u 0 (l + m) cp, _, u + 1, upd ρ u (ρ i'), w', hrunop a w _ _ (by rw [es, ex, hr]; simp only [SV.val, slzV, Bool.false_and, upd_same, Nat.add_zero]), Nat.le_succ u, agree_upd ρ u _, Nat.lt_succ_self u, ?_, hK false cp hroom (fun h => by cases h)⟩
                  rw [← hcap]
                  exact hs'.rename
                · have holds : ∀ k v, cs[k]? = some v → w.cell? ((⟨(ρ i').1, (ρ i').2, none⟩ : Addr).add k) = some v := fun k v hk => by
                    rw [add_at]
                    exact hsat.read hlook hk
                  obtain ⟨b, hb⟩ := somebase (by omega)
                  subst hb
                  have hr := run_append_grow (P := P) w t o.type e i z hu hi hz ⟨(ρ i').1, (ρ i').2, none⟩ l cp cs (by rw [hsz]; exact hcl) holds b m cj news (by rw [hsz]; exact hnl) (hcells b rfl) (by omega) (by omega) (growslice_fits (by omega) (by rw [hby]; exact hbytes))
                  have hg := grow w0 O ρ w (dropH i' H) cs news (l + m) cp hsat (fun k so hk => (look_dropH i' H k so hk).2) (by rw [List.length_append, hcl, hnl, Nat.add_mul]) (fun v hv => (List.mem_append.1 hv).elim (fun h => hd.2.2.cell.2 v h) (hone v))
                  have hge := grownCap_ge w (l + m) cp e
                  exact ⟨.slz false u 0 (l + m) (grownCap w (l + m) cp e), _, u + 1, upd ρ u (w.heap.size, 0), _, hrunop a w _ _ (by rw [es, ex, hr]; simp only [SV.val, slzV, Bool.false_and, upd_same]), Nat.le_succ u, agree_upd ρ u _, Nat.lt_succ_self u, hg, hK false _ hge (fun h => by cases h)⟩
            · exact h6.elim
          · exact h1.elim
        · exact h.elim
      · exact h.elim
    · exact h.elim
  · exact h.elim
end Go.Sh

/- An empty row, ahead of a loop; a call that lays one row. -/
set_option linter.unusedVariables false
namespace Go.Sh
open Go.RowKit

theorem CodeL.ghost {P : Program} {n : Nat} {c : Code} {F : Fr} {H : Hp} {u : Nat} {Q : SE → Fr → Hp → Nat → Prop} (h : CodeL P n c F ((u, .vec [] 0) :: H) (u + 1) Q) : CodeL P n c F H u Q := by
  refine ⟨fun w0 O ρ a w hs => ?_⟩
  have hs' : St n w0 O (u + 1) (upd ρ u (0, 0)) F ((u, .vec [] 0) :: H) a w := ⟨hs.size, hs.defers, hs.fr.move (fun i hi => Nat.lt_succ_of_lt hi) (agree_upd ρ u _), hs.sat.emptyRow (0, 0)⟩
  exact wp_mono (h.sem w0 O _ a w hs') fun e a w p => p.base (Nat.le_succ u) (agree_upd ρ u _)

/-- A loop whose head has names of its own, u ≤ i < u1; ahead of it the name u leads to an empty row. -/
theorem CodeL.loopG {P : Program} {tab : Tab} (hP : TabOk P tab) {n : Nat} {body : Code} {F : Fr} {H : Hp} {u : Nat} {Q : SE → Fr → Hp → Nat → Prop} {ι : Type} (u1 : Nat) (hu1 : u ≤ u1) (I : ι → Fr × Hp) (μ : ι → Nat) (C : ι → Prop) (hd : okd n body = true)
    (wf : ∀ i, wfF u1 (I i).1 = true) (i0 : ι) (c0 : C i0) (τ0 : Nat → Nat × Nat) (hτ0 : ∀ k, k < u → τ0 k = (k, 0)) (h0 : subFv τ0 (I i0).1 F ∧ Part (I i0).2 u1 τ0 ((u, .vec [] 0) :: H))
    (round : ∀ i, C i → swp P tab n body (I i).1 (I i).2 u1 (thenK Q fun F' H' _ => ∃ j τ, C j ∧ μ j < μ i ∧ (∀ k, k < u → τ k = (k, 0)) ∧ subFv τ (I j).1 F' ∧ Part (I j).2 u1 τ H')) : CodeL P n (.loop body) F H u Q := by
  refine ⟨fun w0 O ρ a w hs => ?_⟩
  have same : ∀ (ρ : Env) (τ : Nat → Nat × Nat), (∀ k, k < u → τ k = (k, 0)) → ∀ k, k < u → via ρ τ k = ρ k := fun ρ τ h k hk => by simp [via, h k hk]
  have hs' : St n w0 O (u + 1) (upd ρ u (0, 0)) F ((u, .vec [] 0) :: H) a w := ⟨hs.size, hs.defers, hs.fr.move (fun i hi => Nat.lt_succ_of_lt hi) (agree_upd ρ u _), hs.sat.emptyRow (0, 0)⟩
  refine wp_loop_ghost (fun m a w => ∃ i ρ1, C i ∧ μ i = m ∧ (∀ k, k < u → ρ1 k = ρ k) ∧ St n w0 O u1 ρ1 (I i).1 (I i).2 a w) (μ i0) ⟨i0, via (upd ρ u (0, 0)) τ0, c0, rfl, fun k hk => (same _ τ0 hτ0 k hk).trans (agree_upd ρ u _ k hk), hs'.named τ0 h0.1 h0.2 (wf i0)⟩ ?_
  rintro m a w ⟨i, ρ1, ci, rfl, hρ, hst⟩
  refine wp_mono (swp_sound hP body (round i ci) hd w0 O ρ1 a w hst) ?_
  rintro e a' w' ⟨se, F', H', u', ρ', h1, h2, h3, h4, h5⟩
  have hlt : ∀ k, k < u → ρ' k = ρ k := fun k hk => (h3 k (Nat.lt_of_lt_of_le hk hu1)).trans (hρ k hk)
  cases e with
  | normal =>
    injection h1 with h1; subst h1
    obtain ⟨j, τ, cj, hm, hτ, hF, hH⟩ := h5
    exact ⟨μ j, hm, j, via ρ' τ, cj, rfl, fun k hk => (same ρ' τ hτ k hk).trans (hlt k hk), h4.named τ hF hH (wf j)⟩
  | exit id => injection h1 with h1; subst h1; exact ⟨_, F', H', u', ρ', rfl, Nat.le_trans hu1 h2, hlt, h4, h5⟩
  | ret => injection h1 with h1; subst h1; exact ⟨_, F', H', u', ρ', rfl, Nat.le_trans hu1 h2, hlt, h4, h5⟩
  | goto l => cases h1
  | panic c => cases h1
  | outgrown => cases h1

/-- An empty row, ahead of a call. -/
theorem Spec.ghost {P : Program} {g : FuncId} {args : List SV} {H : Hp} {u : Nat} {K : SV → Hp → Nat → Prop} (h : Spec P g args ((u, .vec [] 0) :: H) (u + 1) K) : Spec P g args H u K := by
  refine ⟨h.ent, fun w0 O ρ w hs hin => ?_⟩
  have := h.sem w0 O (upd ρ u (0, 0)) w (hs.emptyRow (0, 0)) (SV.Ins.mono (fun i hi => Nat.lt_succ_of_lt hi) _ hin)
  rw [SV.vals_agree (N := (· < u)) (agree_upd ρ u _) args hin] at this
  refine this.mono ?_
  rintro e w' ⟨v, H', u', ρ', h1, h2, h3, h4, h5, h6⟩
  exact ⟨v, H', u', ρ', h1, by omega, fun i hi => (h3 i (Nat.lt_succ_of_lt hi)).trans (agree_upd ρ u _ i hi), h4, h5, h6⟩

/-- Behind a piece of code frame and heap are told anew. -/
theorem CodeL.cut {P : Program} {n : Nat} {c : Code} {F : Fr} {H : Hp} {u : Nat} {Q : SE → Fr → Hp → Nat → Prop} {ι : Type} (u1 : Nat) (hu1 : u ≤ u1) (I : ι → Fr × Hp) (R : ι → Prop) (wf : ∀ x, wfF u1 (I x).1 = true)
    (h : CodeL P n c F H u fun e F' H' _ => match e with | .normal => ∃ x τ, R x ∧ (∀ k, k < u → τ k = (k, 0)) ∧ subFv τ (I x).1 F' ∧ Part (I x).2 u1 τ H' | _ => False) (k : ∀ x, R x → Q .normal (I x).1 (I x).2 u1) : CodeL P n c F H u Q := by
  refine ⟨fun w0 O ρ a w hs => wp_mono (h.sem w0 O ρ a w hs) ?_⟩
  rintro e a' w' ⟨se, F', H', u', ρ', h1, h2, h3, h4, h5⟩
  cases se with
  | normal =>
    obtain ⟨x, τ, hR, hτ, hF, hH⟩ := h5
    exact ⟨.normal, (I x).1, (I x).2, u1, via ρ' τ, h1, hu1, fun i hi => by simp [via, hτ i hi, h3 i hi], h4.named τ hF hH (wf x), k x hR⟩
  | exit id => exact False.elim h5
  | ret => exact False.elim h5

/-- Of a slice: its room, and that it is nil only where there is none. -/
def okS (len : Nat) (x : Bool × Nat) : Prop := len ≤ x.2 ∧ (x.1 = true → x.2 = 0)
def nthP : List (Nat × Nat) → Nat → Nat × Nat
  | [], _ => (0, 0)
  | a :: r, i => match i with | 0 => a | i + 1 => nthP r i
theorem nthP_fst : ∀ (l : List (Nat × Nat)) (i : Nat), (nthP l i).1 = nthD (l.map (·.1)) i
  | [], i => rfl
  | a :: r, 0 => rfl
  | a :: r, i + 1 => nthP_fst r i

/-- A call that lays one row, whole. -/
theorem Spec.row {P : Program} {f : FuncId} {args args0 : List SV} {H : Hp} {u t : Nat} {K : SV → Hp → Nat → Prop} {cs cs' : List Value} {r : SV} {sc : SO}
    (h : Spec P f args0 [(0, .row cs)] 1 fun v H' _ => (∀ ρ, v.val ρ = r.val ρ) ∧ subH [(0, .row cs')] H') (ht : look H t = some sc) (hsv : ∀ ρ, sc.vals ρ = cs) (hsl : sc.len = cs.length) (hsw : sc.wr = true) (hlen : cs'.length = cs.length) (hr : r.ok 0 = true)
    (ha : ∀ ρ, SV.vals ρ args = SV.vals (via ρ (nthP [(t, 0)])) args0) (hin : SV.oks 1 args0 = true) (k : K r ((t, .row cs') :: H) u) : Spec P f args H u K := by
  refine Spec.frame (nthP [(t, 0)]) (H0 := [(0, .row cs)]) (H1 := [(0, .row cs')]) (H2 := (t, .row cs') :: H) h ha hin ⟨fun i so hi => ?_, fun i j si sj hi hj hij => ?_, fun i es c hi => (by
    rw [look_cons] at hi
    split at hi
    · injection hi with hi; cases hi
    · cases hi)⟩ hr (fun k s2 hk => ?_) rfl k
  · rw [look_cons] at hi
    split at hi
    · rename_i e; subst e; injection hi with hi; subst hi
      exact ⟨by decide, trivial, sc, ht, fun ρ j v hj => by rw [hsv]; show cs[0 + j]? = some v; rw [Nat.zero_add]; exact hj, by rw [hsl]; show 0 + cs.length ≤ cs.length; omega, fun _ => Nat.le_refl _, fun _ => hsw⟩
    · cases hi
  · rw [look_cons] at hi hj
    split at hi
    · split at hj
      · omega
      · cases hj
    · cases hi
  · rw [look_cons] at hk
    split at hk
    · rename_i e
      subst e
      injection hk with hk
      subst hk
      refine .laid 0 (.row cs) (.row cs') sc rfl (look_same _ _ _) rfl ht hsw rfl (by rw [hsl]; exact hlen) rfl (fun ρ => ⟨hlen, hlen, ?_⟩) (fun ρ => by rw [hsv, hsl]) rfl
      rw [hsv]
      show cs' = setRange cs 0 cs'
      simp only [setRange, List.take_zero, List.nil_append, Nat.zero_add]
      rw [List.drop_eq_nil_of_le (by omega), List.append_nil]
    · rename_i e
      refine .far hk fun i so hi hw => ?_
      rw [look_cons] at hi
      split at hi
      · rename_i e'; subst e'; exact e
      · cases hi
end Go.Sh

/- A law's parameter that is a slice of flat elements, opened; from a contract over it to the row. -/
set_option linter.unusedVariables false
namespace Go.Sh
open Go.RowKit Go.WideShapes Go.ChangeShapes

inductive Kd where
  | int (k : IntKind)
  | bool
def Kd.ok : Kd → Value → Prop
  | .int k, v => ∃ n, v = .int k n ∧ (Lit.int k n).wf = true
  | .bool, v => ∃ b, v = .bool b
def Fits : List Kd → List Value → Prop
  | [], [] => True
  | k :: r, v :: s => k.ok v ∧ Fits r s
  | _, _ => False
/-- A type whose values are ints and bools, cell by cell. -/
def FlatT (P : Program) (t : TypeId) (ks : List Kd) : Prop := ∀ {H : Type} {enc : TypeId × Value → H} {w : World} {base : Nat} {spare : Nat → Bool} {held : Bool} {fuel : Nat} {cs : List Value} {x : DataW H × List MemPlace},
  DataW.trod enc P w base spare held fuel t cs = some x → Fits ks cs
theorem FlatT.int {P : Program} {t : TypeId} {k : IntKind} (ht : P.underlying t = some (.int k)) : FlatT P t [.int k] := fun h => by
  obtain ⟨n, rfl, _, hw⟩ := DataW.trod_int ht h
  exact ⟨⟨n, rfl, hw⟩, trivial⟩
theorem FlatT.bool {P : Program} {t : TypeId} (ht : P.underlying t = some .bool) : FlatT P t [.bool] := fun h => by
  obtain ⟨b, rfl, _⟩ := DataW.trod_bool ht h
  exact ⟨⟨b, rfl⟩, trivial⟩
theorem fits_append : ∀ {a c : List Kd} {b d : List Value}, Fits a b → Fits c d → Fits (a ++ c) (b ++ d)
  | [], c, [], d, _, h => h
  | x :: a, c, y :: b, d, h1, h => ⟨h1.1, fits_append h1.2 h⟩
/-- The fields, one behind the other. -/
def FlatF (P : Program) (off : Nat) : List Field → List Kd → Prop
  | [], ks => ks = []
  | f :: r, ks => f.offset = off ∧ ∃ k1 k2, ks = k1 ++ k2 ∧ FlatT P f.type k1 ∧ P.cellsOf f.type = k1.length ∧ FlatF P (off + k1.length) r k2
theorem FlatT.struct {P : Program} {t : TypeId} {fs : Array Field} {ks : List Kd} (ht : P.underlying t = some (.struct fs)) (hc : P.cellsOf t = ks.length) (hf : FlatF P 0 fs.toList ks) : FlatT P t ks := by
  intro H enc w base spare held fuel cs x h
  obtain ⟨xs, n, rfl, rfl, hl, hxl, hx⟩ := DataW.trod_struct ht h
  have key : ∀ (l : List Field) (i off : Nat) (ks : List Kd), (∀ j f, l[j]? = some f → fs[i + j]? = some f) → FlatF P off l ks → off + ks.length = cs.length → Fits ks (cs.drop off) := by
    intro l
    induction l with
    | nil =>
      intro i off ks _ hF he
      have : ks = [] := hF
      subst this
      rw [List.drop_eq_nil_of_le (by simpa using Nat.le_of_eq he.symm)]
      exact trivial
    | cons f r ih =>
      intro i off ks hi hF he
      obtain ⟨h1, k1, k2, rfl, h2, h3, h4⟩ := hF
      have hf0 := hi 0 f rfl
      have hlt : i < xs.length := by
        rw [hxl]; exact (Array.getElem?_eq_some_iff.1 hf0).1
      have := hx i f hf0
      rw [h1, h3, List.getElem?_eq_getElem hlt] at this
      have g1 := h2 this
      have g2 := ih (i + 1) (off + k1.length) k2 (fun j f hj => by have := hi (j + 1) f (by simpa using hj); rwa [show i + 1 + j = i + (j + 1) by omega]) h4 (by simp at he; omega)
      have e : cs.drop off = (cs.drop off).take k1.length ++ cs.drop (off + k1.length) := by rw [← List.drop_drop, List.take_append_drop]
      rw [e]
      exact fits_append g1 g2
  have := key fs.toList 0 0 ks (fun j f hj => by rw [Nat.zero_add]; simpa using hj) hf (by rw [hl, hc, Nat.zero_add])
  simpa using this

theorem cells_add (b o i : Nat) : (⟨b, o, none⟩ : Addr).add i = ⟨b, o + i, none⟩ := add_at b o i

/-- A slice of flat elements. -/
theorem open_slice {H : Type} {enc : TypeId × Value → H} {P : Program} {w : World} {base b0 : Nat} {spare : Nat → Bool} {held : Bool} {r : Reach} {t e : TypeId} {v : Value} {d : DataW H} {ps : List MemPlace} {ks : List Kd}
    (ht : P.underlying t = some (.slice e)) (hk : FlatT P e ks) (hc : P.cellsOf e = ks.length) (hval : Value.okWide P w r b0 t v) (hd : DataW.Trod enc P w base spare held t v d ps) :
    ∃ (b : Bool) (blk off n c : Nat) (cells : List Value), v = slzV b ⟨blk, off, none⟩ n c ∧ n ≤ c ∧ (b = true → c = 0) ∧ n ≤ maxLen ∧ cells.length = n * ks.length ∧ (∀ j x, cells[j]? = some x → w.cell? ⟨blk, off + j, none⟩ = some x) ∧
      ∀ i, i < n → Fits ks ((cells.drop (i * ks.length)).take ks.length) := by
  obtain ⟨fuel, hf⟩ := hd
  have hcells : v.cells.toList = [v] := by
    cases v <;> simp [Value.okWide, Cell.okWide, Cell.ok, ht] at hval <;> rfl
  rw [hcells] at hf
  rcases DataW.trod_slice ht hf with ⟨h0, _⟩ | ⟨a, len, cap, elems, rest, n, rfl, h0, hx, hb, hl, hm, hel, hrow, _, _⟩
  · injection h0 with h0
    exact ⟨true, 0, 0, 0, 0, [], h0, Nat.le_refl _, fun _ => rfl, Nat.zero_le _, by simp, by simp, fun i hi => absurd hi (Nat.not_lt_zero _)⟩
  · injection h0 with h0
    subst h0
    have hs : a.spot = none := by
      simp only [Value.okWide, Cell.okWide, Cell.ok, ht] at hval
      exact hval.2.2.2.1
    obtain ⟨blk, off, spot⟩ := a
    simp only at hs
    subst hs
    have each : ∀ i, i < len → ∃ cs : List Value, cs.length = ks.length ∧ (∀ j, j < ks.length → w.cell? ⟨blk, off + (i * ks.length + j), none⟩ = cs[j]?) ∧ Fits ks cs := fun i hi => by
      have := hrow i hi
      rw [hc, List.getElem?_eq_getElem (by omega), Option.bind_eq_some_iff] at this
      obtain ⟨cs, h1, h2⟩ := this
      obtain ⟨_, h3, h4⟩ := World.cells?_some h1
      refine ⟨cs, h3, fun j hj => ?_, hk h2⟩
      rw [← h4 j hj, add_at, add_at, Nat.add_assoc]
    have all : ∀ m, m ≤ len → ∃ cells : List Value, cells.length = m * ks.length ∧ (∀ j x, cells[j]? = some x → w.cell? ⟨blk, off + j, none⟩ = some x) ∧ ∀ i, i < m → Fits ks ((cells.drop (i * ks.length)).take ks.length) := by
      intro m
      induction m with
      | zero => intro _; exact ⟨[], by simp, by simp, fun i hi => absurd hi (Nat.not_lt_zero _)⟩
      | succ m ih =>
        intro hm
        obtain ⟨cells, h1, h2, h3⟩ := ih (by omega)
        obtain ⟨cs, g1, g2, g3⟩ := each m (by omega)
        refine ⟨cells ++ cs, by simp [h1, g1, Nat.add_mul], fun j x hj => ?_, fun i hi => ?_⟩
        · by_cases c : j < cells.length
          · rw [List.getElem?_append_left c] at hj; exact h2 j x hj
          · rw [List.getElem?_append_right (by omega)] at hj
            have hlt := (List.getElem?_eq_some_iff.1 hj).1
            rw [h1] at hj hlt
            have := g2 (j - m * ks.length) (by omega)
            rw [hj] at this
            rw [← this]; congr 2; omega
        · by_cases e : i < m
          · have hle : i * ks.length + ks.length ≤ cells.length := by
              rw [h1, ← Nat.succ_mul]; exact Nat.mul_le_mul_right _ e
            rw [List.drop_append_of_le_length (by omega), List.take_append_of_le_length (by simp; omega)]
            exact h3 i e
          · have : i = m := by omega
            subst this
            rw [← h1, List.drop_left, List.take_of_length_le (by omega)]
            exact g3
    obtain ⟨cells, h1, h2, h3⟩ := all len (Nat.le_refl _)
    exact ⟨false, blk, off, len, cap, cells, rfl, hl, fun h => (by cases h), Nat.le_trans hl hm, h1, h2, h3⟩

/-- The elements, one by one. -/
theorem rows_of {α : Type} (enc : α → List Value) (good : α → Prop) {L : Nat} : ∀ {n : Nat} {cells : List Value}, cells.length = n * L → (∀ i, i < n → ∃ a, (cells.drop (i * L)).take L = enc a ∧ good a) → ∃ A : List α, A.length = n ∧ cells = A.flatMap enc ∧ ∀ a ∈ A, good a
  | 0, cells, hl, _ => ⟨[], rfl, by simpa using List.length_eq_zero_iff.1 (by simpa using hl), by simp⟩
  | n + 1, cells, hl, h => by
    obtain ⟨a, h1, h2⟩ := h 0 (by omega)
    obtain ⟨A, h3, h4, h5⟩ := rows_of enc good (L := L) (n := n) (cells := cells.drop L) (by rw [List.length_drop, hl, Nat.add_mul]; omega) fun i hi => by
      obtain ⟨a, h1, h2⟩ := h (i + 1) (by omega)
      exact ⟨a, by rw [List.drop_drop, ← h1]; congr 2; rw [Nat.add_mul, Nat.one_mul, Nat.add_comm], h2⟩
    refine ⟨a :: A, by simp [h3], ?_, ?_⟩
    · rw [List.flatMap_cons, ← h4, ← h1, Nat.zero_mul, List.drop_zero, List.take_append_drop]
    · simpa using ⟨h2, h5⟩

/-- A law over one slice: from the contract to the call. -/
theorem calls_slice {P : Program} {f : FuncId} {b : Bool} {blk off n c : Nat} {cells : List Value} {more : List SV} {r : SV} (h : Spec P f (.slz b 0 0 n c :: more) [(0, .view cells)] 1 fun v _ _ => ∀ ρ, v.val ρ = r.val ρ) (hm : SV.oks 0 more = true) (hr : r.ok 0 = true) {w : World}
    (hc : ∀ j x, cells[j]? = some x → w.cell? ⟨blk, off + j, none⟩ = some x) (h1 : ∀ x ∈ cells, x.oneCell' = true) :
    Calls P f (slzV b ⟨blk, off, none⟩ n c :: SV.vals zenv more).toArray w fun e w' => e = .returned (r.val zenv) ∧ Below w.heap.size w w' := by
  have hs : Sat w (fun _ _ => False) (· < 1) (fun _ => (blk, off)) [(0, .view cells)] w := by
    refine ⟨rfl, rfl, rfl, Nat.le_refl _, fun i so hi => ?_, fun i j si sj hi hj hij hw => ?_, fun _ _ _ => rfl, fun _ _ _ _ => rfl, fun _ _ _ => rfl, fun i so hi hw => ?_, (DictOk.nil (ρ := fun _ => (blk, off))).cons rfl fun _ _ _ h => (by cases h)⟩
    · rw [look_cons] at hi
      split at hi
      · rename_i e; subst e; injection hi with hi; subst hi
        exact ⟨by decide, trivial, ⟨⟨hc, h1⟩, fun hw => (by cases hw), fun j hj => ⟨_, hc j _ (List.getElem?_eq_getElem hj)⟩, Nat.le_refl _⟩⟩
      · cases hi
    · rw [look_cons] at hi
      split at hi
      · injection hi with hi; subst hi; cases hw
      · cases hi
    · rw [look_cons] at hi
      split at hi
      · injection hi with hi; subst hi; cases hw
      · cases hi
  have e : SV.vals (fun _ => (blk, off)) (.slz b 0 0 n c :: more) = slzV b ⟨blk, off, none⟩ n c :: SV.vals zenv more := by
    rw [SV.vals, closed_vals hm]; rfl
  have := h.sem w _ _ w hs ⟨by show 0 < 1; decide, closed_Ins hm _⟩
  rw [e] at this
  refine this.mono ?_
  rintro e w' ⟨v, H', u', ρ', rfl, h1, h2, h3, h4, hv⟩
  exact ⟨by rw [hv ρ', closed_val hr ρ'], h4.below⟩
end Go.Sh
