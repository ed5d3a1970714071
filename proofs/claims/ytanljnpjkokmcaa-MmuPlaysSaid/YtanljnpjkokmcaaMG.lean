import Derived.Test.YtanljnpjkokmcaaML
import Derived.Test.YtanljnpjkokmcaaUnit2
import Derived.Test.YtanljnpjkokmcaaMB
/- The sets and the reference's lines, side by side: the plain law. -/
set_option linter.unusedVariables false
namespace Go.Sh
open Go.RowKit

def toRL (x : Ln) : RL := ⟨x.asid, x.num, x.at_⟩
structure Inv (s : Nat → List Ln) : Prop where
  len : okT s
  num : ∀ q x, x ∈ s q → 0 ≤ x.num ∧ q4 x.num = q
  one : ∀ q, (s q).Pairwise fun x y => ¬ (x.asid = y.asid ∧ x.num = y.num)
theorem Inv.nil : Inv fun _ => [] := ⟨fun _ => by simp, fun q x h => by simp at h, fun q => .nil⟩
theorem mem_preL {s : Nat → List Ln} {x : Ln} : ∀ {i : Nat}, x ∈ preL s i ↔ ∃ q, q < i ∧ x ∈ s q
  | 0 => by simp [preL]
  | i + 1 => by
    rw [preL, List.mem_append, mem_preL (i := i)]
    constructor
    · rintro (⟨q, h1, h2⟩ | h)
      · exact ⟨q, by omega, h2⟩
      · exact ⟨i, by omega, h⟩
    · rintro ⟨q, h1, h2⟩
      by_cases e : q = i
      · subst e; exact .inr h2
      · exact .inl ⟨q, by omega, h2⟩
theorem preL_filter (s : Nat → List Ln) (p : Ln → Bool) : ∀ i, (preL s i).filter p = preL (fun q => (s q).filter p) i
  | 0 => rfl
  | i + 1 => by rw [preL, preL, List.filter_append, preL_filter s p i]
theorem preL_congr {s s' : Nat → List Ln} : ∀ {i : Nat}, (∀ q, q < i → s q = s' q) → preL s i = preL s' i
  | 0, _ => rfl
  | i + 1, h => by rw [preL, preL, preL_congr fun q hq => h q (by omega), h i (by omega)]

theorem Inv.filter {s : Nat → List Ln} (h : Inv s) {q : Nat} (p : Ln → Bool) : Inv (fset s q ((s q).filter p)) := by
  refine ⟨okT_fset h.len (Nat.le_trans (List.length_filter_le _ _) (h.len q)), fun k x hx => ?_, fun k => ?_⟩
  · unfold fset at hx
    split at hx
    · rename_i e; subst e; exact h.num k x ((List.mem_filter.1 hx).1)
    · exact h.num k x hx
  · unfold fset; split
    · exact (h.one q).filter _
    · exact h.one k
theorem Inv.filtS {s : Nat → List Ln} (h : Inv s) (p : Ln → Bool) (i : Nat) : Inv (filtS p s i) := by
  refine ⟨okT_filtS h.len i, fun k x hx => ?_, fun k => ?_⟩
  · unfold Go.Sh.filtS at hx
    split at hx
    · exact h.num k x ((List.mem_filter.1 hx).1)
    · exact h.num k x hx
  · unfold Go.Sh.filtS; split
    · exact (h.one k).filter _
    · exact h.one k

/-! ### Drop, Flush, Clear -/
theorem keepP_toRL (a n : Int) (x : Ln) : keepP a n (toRL x) = !isP a n x := by
  simp only [keepP, toRL, isP, Bool.not_and]; rfl
theorem filter_none {s : Nat → List Ln} (h : Inv s) {a n : Int} {k : Nat} (hk : k ≠ q4 n) : (s k).filter (fun x => !isP a n x) = s k := by
  refine List.filter_eq_self.2 fun x hx => ?_
  have := (h.num k x hx).2
  simp only [isP, Bool.not_eq_true', Bool.and_eq_false_iff, decide_eq_false_iff_not]
  right; intro e; rw [e] at this; exact hk this.symm
theorem dropS_preL {s : Nat → List Ln} (h : Inv s) (a n : Int) : (preL (fset s (q4 n) ((s (q4 n)).filter fun x => !isP a n x)) 4).map toRL = ((preL s 4).map toRL).filter (keepP a n) := by
  rw [List.filter_map, show (keepP a n ∘ toRL) = fun x => !isP a n x from funext fun x => keepP_toRL a n x, preL_filter]
  congr 1
  refine preL_congr fun q _ => ?_
  unfold fset
  split
  · rename_i e; subst e; rfl
  · rename_i e; exact (filter_none h e).symm
theorem flushS_preL (s : Nat → List Ln) (a : Int) : (preL (filtS (fun x => !isA a x) s 4) 4).map toRL = ((preL s 4).map toRL).filter (keepA a) := by
  have e : preL (filtS (fun x => !isA a x) s 4) 4 = preL (fun q => (s q).filter fun x => !isA a x) 4 := preL_congr fun q hq => if_pos hq
  rw [e, List.filter_map, show (keepA a ∘ toRL) = fun x => !isA a x from funext fun x => rfl, preL_filter]
theorem clearS_preL (s : Nat → List Ln) : preL (filtS (fun x => !isT x) s 4) 4 = [] := by
  have e : preL (filtS (fun x => !isT x) s 4) 4 = preL (fun q => (s q).filter fun x => !isT x) 4 := preL_congr fun q hq => if_pos hq
  rw [e, ← preL_filter]
  simp [isT]

/-! ### Put -/
theorem Inv.put {s : Nat → List Ln} (h : Inv s) (l : Ln) (hl : 0 ≤ l.num) : Inv (putS s l) := by
  unfold putS
  have hf := h.filter (q := q4 l.num) fun x => !isP l.asid l.num x
  have e : fset s (q4 l.num) ((s (q4 l.num)).filter fun x => !isP l.asid l.num x) (q4 l.num) = (s (q4 l.num)).filter fun x => !isP l.asid l.num x := fset_same _ _ _
  have hone := hf.one (q4 l.num)
  rw [e] at hone
  have hnum : ∀ x, x ∈ (s (q4 l.num)).filter (fun x => !isP l.asid l.num x) → (0 ≤ x.num ∧ q4 x.num = q4 l.num) ∧ ¬ (x.asid = l.asid ∧ x.num = l.num) := fun x hx => by
    obtain ⟨h1, h2⟩ := List.mem_filter.1 hx
    refine ⟨h.num _ x h1, fun g => ?_⟩
    simp [isP, g.1, g.2] at h2
  have hlen : ((s (q4 l.num)).filter fun x => !isP l.asid l.num x).length ≤ 2 := Nat.le_trans (List.length_filter_le _ _) (h.len _)
  generalize (s (q4 l.num)).filter (fun x => !isP l.asid l.num x) = L at hone hnum hlen
  have hsub : ∀ x, x ∈ (if L.length = 2 then L.drop 1 else L) → x ∈ L := fun x hx => by
    split at hx
    · exact List.mem_of_mem_drop hx
    · exact hx
  have hpw : (if L.length = 2 then L.drop 1 else L).Pairwise fun x y => ¬ (x.asid = y.asid ∧ x.num = y.num) := by
    split
    · exact hone.sublist (List.drop_sublist _ _)
    · exact hone
  refine ⟨okT_fset h.len (putL_len hlen l), fun k x hx => ?_, fun k => ?_⟩
  · unfold fset at hx
    split at hx
    · rename_i ek
      subst ek
      rcases List.mem_append.1 hx with hx | hx
      · exact (hnum x (hsub x hx)).1
      · simp at hx; subst hx; exact ⟨hl, rfl⟩
    · exact h.num k x hx
  · unfold fset
    split
    · refine List.pairwise_append.2 ⟨hpw, List.pairwise_singleton _ _, fun x hx y hy => ?_⟩
      simp at hy; subst hy
      exact (hnum x (hsub x hx)).2
    · exact h.one k

/-- The scan of lines that are all below, then of the set, then above. -/
theorem scan_low {q : Int} : ∀ (A : List RL) (t : Scan × Nat), (∀ x ∈ A, x.n.tmod 4 < q) → (A ≠ [] → True) → A.foldl (scanStep q) t = (⟨t.1.n, t.1.first, if A = [] then t.1.at_ else (t.2 + A.length : Nat)⟩, t.2 + A.length)
  | [], t, _, _ => by simp
  | x :: r, t, h, _ => by
    have hx := h x (by simp)
    rw [List.foldl_cons, scan_low r _ (fun y hy => h y (by simp [hy])) (fun _ => trivial)]
    simp only [scanStep, if_neg (show ¬ x.n.tmod 4 = q by omega), if_neg (show ¬ (x.n.tmod 4 = q ∧ t.1.first < 0) from fun g => by omega), if_pos (show x.n.tmod 4 ≤ q by omega), List.length_cons, List.cons_ne_nil, if_false]
    refine Prod.ext ?_ (by simp only; omega)
    simp only [Scan.mk.injEq, true_and]
    split
    · rename_i e; subst e; simp
    · omega
theorem scan_mid {q : Int} : ∀ (A : List RL) (t : Scan × Nat), (∀ x ∈ A, x.n.tmod 4 = q) → (0 ≤ t.1.first ∨ t.1.first = -1) → A.foldl (scanStep q) t = (⟨t.1.n + A.length, if A ≠ [] ∧ t.1.first < 0 then (t.2 : Int) else t.1.first, if A = [] then t.1.at_ else (t.2 + A.length : Nat)⟩, t.2 + A.length)
  | [], t, _, _ => by simp
  | x :: r, t, h, ht => by
    have hx := h x (by simp)
    rw [List.foldl_cons, scan_mid r _ (fun y hy => h y (by simp [hy])) (by simp only [scanStep]; split <;> omega)]
    simp only [scanStep, List.length_cons, List.cons_ne_nil, if_false, ne_eq, not_false_eq_true, true_and, hx, if_true, Int.le_refl]
    refine Prod.ext ?_ (by simp only; omega)
    simp only [Scan.mk.injEq]
    refine ⟨by push_cast; omega, ?_, ?_⟩
    · by_cases g : t.1.first < 0
      · rw [if_pos g, if_neg (by omega)]
      · rw [if_neg g, if_neg (fun e => g e.2)]
    · split
      · rename_i e; subst e; simp
      · omega
theorem scan_high {q : Int} : ∀ (A : List RL) (t : Scan × Nat), (∀ x ∈ A, q < x.n.tmod 4) → A.foldl (scanStep q) t = (t.1, t.2 + A.length)
  | [], t, _ => rfl
  | x :: r, t, h => by
    have hx := h x (by simp)
    rw [List.foldl_cons, scan_high r _ (fun y hy => h y (by simp [hy]))]
    simp only [scanStep, if_neg (show ¬ x.n.tmod 4 = q by omega), if_neg (show ¬ (x.n.tmod 4 = q ∧ t.1.first < 0) from fun g => by omega), if_neg (show ¬ x.n.tmod 4 ≤ q by omega), List.length_cons]
    exact Prod.ext rfl (by simp only; omega)
theorem scan_three {q : Int} {A S B : List RL} (hA : ∀ x ∈ A, x.n.tmod 4 < q) (hS : ∀ x ∈ S, x.n.tmod 4 = q) (hB : ∀ x ∈ B, q < x.n.tmod 4) : (scan q (A ++ (S ++ B))).1 = ⟨S.length, if S = [] then -1 else A.length, (A.length + S.length : Nat)⟩ := by
  rw [scan, List.foldl_append, List.foldl_append, scan_low A _ hA (fun _ => trivial), scan_mid S _ hS (.inr rfl), scan_high B _ hB]
  simp only [Scan.mk.injEq]
  refine ⟨by omega, ?_, ?_⟩
  · by_cases e : S = []
    · simp [e]
    · simp [e]
  · by_cases e : S = []
    · subst e
      by_cases e2 : A = []
      · simp [e2]
      · simp [e2]
    · simp [e]

/-- The sets, cut at one. -/
theorem preL_three (s : Nat → List Ln) {q : Nat} (hq : q < 4) : ∃ A B : List Ln, preL s 4 = A ++ (s q ++ B) ∧ (∀ x ∈ A, ∃ k, k < q ∧ x ∈ s k) ∧ (∀ x ∈ B, ∃ k, q < k ∧ x ∈ s k) ∧ ∀ L, preL (fset s q L) 4 = A ++ (L ++ B) := by
  have : q = 0 ∨ q = 1 ∨ q = 2 ∨ q = 3 := by omega
  rcases this with rfl | rfl | rfl | rfl
  · refine ⟨[], s 1 ++ (s 2 ++ s 3), by simp [preL], by simp, fun x hx => ?_, fun L => by simp [preL, fset]⟩
    simp only [List.mem_append] at hx
    rcases hx with h | h | h
    · exact ⟨1, by omega, h⟩
    · exact ⟨2, by omega, h⟩
    · exact ⟨3, by omega, h⟩
  · refine ⟨s 0, s 2 ++ s 3, by simp [preL], fun x hx => ⟨0, by omega, hx⟩, fun x hx => ?_, fun L => by simp [preL, fset]⟩
    simp only [List.mem_append] at hx
    rcases hx with h | h
    · exact ⟨2, by omega, h⟩
    · exact ⟨3, by omega, h⟩
  · refine ⟨s 0 ++ s 1, s 3, by simp [preL], fun x hx => ?_, fun x hx => ⟨3, by omega, hx⟩, fun L => by simp [preL, fset]⟩
    simp only [List.mem_append] at hx
    rcases hx with h | h
    · exact ⟨0, by omega, h⟩
    · exact ⟨1, by omega, h⟩
  · refine ⟨s 0 ++ (s 1 ++ s 2), [], by simp [preL], fun x hx => ?_, by simp, fun L => by simp [preL, fset]⟩
    simp only [List.mem_append] at hx
    rcases hx with h | h | h
    · exact ⟨0, by omega, h⟩
    · exact ⟨1, by omega, h⟩
    · exact ⟨2, by omega, h⟩

theorem putS_preL {s : Nat → List Ln} (h : Inv s) (l : Ln) (hl : 0 ≤ l.num) : (preL (putS s l) 4).map toRL = putR ((preL s 4).map toRL) (toRL l) := by
  have hq := q4_lt l.num
  have hi := h.filter (q := q4 l.num) fun x => !isP l.asid l.num x
  have hd := dropS_preL h l.asid l.num
  unfold putS putR
  rw [show (toRL l).a = l.asid from rfl, show (toRL l).n = l.num from rfl, ← hd, q4_eq hl]
  have e : fset s (q4 l.num) ((s (q4 l.num)).filter fun x => !isP l.asid l.num x) (q4 l.num) = (s (q4 l.num)).filter fun x => !isP l.asid l.num x := fset_same _ _ _
  generalize (s (q4 l.num)).filter (fun x => !isP l.asid l.num x) = L at e hi ⊢
  generalize q4 l.num = q at hq e hi ⊢
  rw [show fset s q (putL L l) = fset (fset s q L) q (putL L l) from (fset_twice _ _ _ _).symm]
  generalize fset s q L = s1 at hi e ⊢
  obtain ⟨A, B, h1, h2, h3, h4⟩ := preL_three s1 hq
  rw [h4, h1, e]
  have hmod : ∀ k x, x ∈ s1 k → (toRL x).n.tmod 4 = (k : Int) := fun k x hx => by
    obtain ⟨g1, g2⟩ := hi.num k x hx
    show x.num.tmod 4 = _
    rw [q4_eq g1, g2]
  have hlen : L.length ≤ 2 := by rw [← e]; exact hi.len q
  have hs := scan_three (q := (q : Int)) (A := A.map toRL) (S := L.map toRL) (B := B.map toRL) (fun x hx => by
      obtain ⟨y, hy, rfl⟩ := List.mem_map.1 hx
      obtain ⟨k, g1, g2⟩ := h2 y hy
      rw [hmod k y g2]; omega) (fun x hx => by
      obtain ⟨y, hy, rfl⟩ := List.mem_map.1 hx
      rw [← e] at hy
      exact hmod q y hy) (fun x hx => by
      obtain ⟨y, hy, rfl⟩ := List.mem_map.1 hx
      obtain ⟨k, g1, g2⟩ := h3 y hy
      rw [hmod k y g2]; omega)
  simp only [List.map_append] at hs ⊢
  rw [hs]
  have hpo : putO ⟨(L.map toRL).length, if L.map toRL = [] then -1 else (A.map toRL).length, ((A.map toRL).length + (L.map toRL).length : Nat)⟩ (A.map toRL ++ (L.map toRL ++ B.map toRL)) (toRL l) = A.map toRL ++ (L.map toRL ++ (toRL l :: B.map toRL)) := by
    unfold putO
    simp only [Int.toNat_natCast]
    rw [← List.append_assoc, List.take_left' (by simp), List.drop_left' (by simp)]
    simp
  unfold putT
  rw [hpo]
  simp only [putL]
  rcases le2 hlen with rfl | ⟨x, rfl⟩ | ⟨x, y, rfl⟩
  · simp
  · simp
  · simp only [List.map_cons, List.map_nil, List.length_cons, List.length_nil, Nat.zero_add, Nat.reduceAdd, List.cons_ne_nil, if_false, Int.toNat_natCast, List.drop_succ_cons, List.drop_zero]
    rw [if_pos trivial, if_pos (show ((2 : Nat) : Int) = 2 from rfl)]
    simp only [List.length_map]
    rw [List.take_left' (by simp), show A.length + 1 = (A.map toRL).length + 1 by simp, List.drop_append]
    simp

/-! ### Look, Evict -/
theorem find_preL {s : Nat → List Ln} (h : Inv s) (a n : Int) : (((preL s 4).map toRL).find? (atP a n)) = ((s (q4 n)).find? (isP a n)).map toRL := by
  obtain ⟨A, B, h1, h2, h3, _⟩ := preL_three s (q4_lt n)
  have no : ∀ l : List Ln, (∀ x ∈ l, ∃ k, k ≠ q4 n ∧ x ∈ s k) → l.find? (isP a n) = none := fun l hl => by
    rw [List.find?_eq_none]
    intro x hx
    obtain ⟨k, g1, g2⟩ := hl x hx
    have := (h.num k x g2).2
    simp only [isP, Bool.and_eq_true, decide_eq_true_eq]
    intro g; rw [g.2] at this; exact g1 this.symm
  rw [List.find?_map, show (atP a n ∘ toRL) = isP a n from rfl, h1, List.find?_append, List.find?_append, no A fun x hx => by
    obtain ⟨k, g1, g2⟩ := h2 x hx; exact ⟨k, by omega, g2⟩, no B fun x hx => by
    obtain ⟨k, g1, g2⟩ := h3 x hx; exact ⟨k, by omega, g2⟩]
  simp
theorem preL_one {s : Nat → List Ln} (h : Inv s) : ∀ i, (preL s i).Pairwise fun x y => ¬ (x.asid = y.asid ∧ x.num = y.num)
  | 0 => .nil
  | i + 1 => by
    rw [preL]
    refine List.pairwise_append.2 ⟨preL_one h i, h.one i, fun x hx y hy g => ?_⟩
    obtain ⟨k, g1, g2⟩ := mem_preL.1 hx
    have e1 := (h.num k x g2).2
    have e2 := (h.num i y hy).2
    rw [g.2] at e1; omega
theorem erase_filter {l : List Ln} (h : l.Pairwise fun x y => ¬ (x.asid = y.asid ∧ x.num = y.num)) : ∀ {k : Nat} {x : Ln}, l[k]? = some x → l.filter (fun y => !isP x.asid x.num y) = l.take k ++ l.drop (k + 1) := by
  induction l with
  | nil => intro k x hx; simp at hx
  | cons a r ih =>
    intro k x hx
    rw [List.pairwise_cons] at h
    cases k with
    | zero =>
      simp only [List.getElem?_cons_zero, Option.some.injEq] at hx
      subst hx
      have : isP a.asid a.num a = true := by simp [isP]
      rw [List.filter_cons, this]
      simp only [Bool.not_true, Bool.false_eq_true, if_false, List.take_zero, List.nil_append, List.drop_succ_cons, List.drop_zero]
      refine List.filter_eq_self.2 fun y hy => ?_
      have := h.1 y hy
      simp only [isP, Bool.not_eq_true', Bool.and_eq_false_iff, decide_eq_false_iff_not]
      by_cases g : y.asid = a.asid
      · exact .inr fun e => this ⟨g.symm, e.symm⟩
      · exact .inl g
    | succ k =>
      rw [List.getElem?_cons_succ] at hx
      have hm : x ∈ r := List.mem_of_getElem? hx
      have : isP x.asid x.num a = false := by
        have := h.1 x hm
        simp only [isP, Bool.and_eq_false_iff, decide_eq_false_iff_not]
        by_cases g : a.asid = x.asid
        · exact .inr fun e => this ⟨g, e⟩
        · exact .inl g
      rw [List.filter_cons, this]
      simp only [Bool.not_false, if_true, List.take_succ_cons, List.drop_succ_cons, List.cons_append]
      rw [ih h.2 hx]
theorem evict_preL {s : Nat → List Ln} (h : Inv s) {k : Nat} {x : Ln} (hx : (preL s 4)[k]? = some x) : (preL (fset s (q4 x.num) ((s (q4 x.num)).filter fun y => !isP x.asid x.num y)) 4).map toRL = ((preL s 4).map toRL).take k ++ ((preL s 4).map toRL).drop (k + 1) := by
  rw [dropS_preL h, List.filter_map, show (keepP x.asid x.num ∘ toRL) = fun y => !isP x.asid x.num y from funext fun y => keepP_toRL _ _ y, erase_filter (preL_one h 4) hx]
  simp [List.map_take, List.map_drop]
end Go.Sh

/- A unit and the document's, side by side: plain. -/
set_option linter.unusedVariables false
namespace Go.Sh
open Go.RowKit

/-- A line and the document's, whose entry has a place. -/
structure RelL (T : List Ent) (x y : Ln) : Prop where
  a : x.asid = y.asid
  n : x.num = y.num
  e : x.e = y.e
  i : ∃ i : Nat, y.at_ = (i : Int) ∧ T[i]? = some y.e
inductive RelQ (T : List Ent) : List Ln → List Ln → Prop
  | nil : RelQ T [] []
  | cons {x y L L'} : RelL T x y → RelQ T L L' → RelQ T (x :: L) (y :: L')
abbrev RelS (T : List Ent) (s s' : Nat → List Ln) : Prop := ∀ q, RelQ T (s q) (s' q)
theorem RelL.mono {T : List Ent} {x y : Ln} (h : RelL T x y) (m : Ent) : RelL (T ++ [m]) x y := by
  obtain ⟨i, h1, h2⟩ := h.i
  refine ⟨h.a, h.n, h.e, i, h1, ?_⟩
  rw [List.getElem?_append_left (List.getElem?_eq_some_iff.1 h2).1, h2]
theorem RelQ.mono {T : List Ent} {L L' : List Ln} (h : RelQ T L L') (m : Ent) : RelQ (T ++ [m]) L L' := by
  induction h with
  | nil => exact .nil
  | cons h _ ih => exact .cons (h.mono m) ih
theorem RelQ.len {T : List Ent} {L L' : List Ln} (h : RelQ T L L') : L.length = L'.length := by
  induction h with
  | nil => rfl
  | cons _ _ ih => simp [ih]
theorem RelQ.filter {T : List Ent} {L L' : List Ln} {p : Ln → Bool} (hp : ∀ x y, RelL T x y → p x = p y) (h : RelQ T L L') : RelQ T (L.filter p) (L'.filter p) := by
  induction h with
  | nil => exact .nil
  | cons h _ ih =>
    rw [List.filter_cons, List.filter_cons, hp _ _ h]
    split
    · exact .cons h ih
    · exact ih
theorem isP_rel {T : List Ent} {x y : Ln} (h : RelL T x y) (a n : Int) : isP a n x = isP a n y := by unfold isP; rw [h.a, h.n]
theorem isA_rel {T : List Ent} {x y : Ln} (h : RelL T x y) (a : Int) : isA a x = isA a y := by unfold isA; rw [h.a]
theorem RelS.fset {T : List Ent} {s s' : Nat → List Ln} (h : RelS T s s') {q : Nat} {L L' : List Ln} (hL : RelQ T L L') : RelS T (fset s q L) (fset s' q L') := fun k => by
  unfold Go.Sh.fset
  split
  · exact hL
  · exact h k
theorem RelS.dropP {T : List Ent} {s s' : Nat → List Ln} (h : RelS T s s') (q : Nat) (a n : Int) : RelS T (Go.Sh.fset s q ((s q).filter fun x => !isP a n x)) (Go.Sh.fset s' q ((s' q).filter fun x => !isP a n x)) :=
  h.fset ((h q).filter fun x y g => by rw [isP_rel g])
theorem RelS.filtS {T : List Ent} {s s' : Nat → List Ln} (h : RelS T s s') (p : Ln → Bool) (hp : ∀ x y, RelL T x y → p x = p y) (i : Nat) : RelS T (Go.Sh.filtS p s i) (Go.Sh.filtS p s' i) := fun k => by
  unfold Go.Sh.filtS
  split
  · exact (h k).filter hp
  · exact h k
theorem RelQ.snoc {T : List Ent} {L L' : List Ln} (h : RelQ T L L') {l l' : Ln} (hl : RelL T l l') : RelQ T (L ++ [l]) (L' ++ [l']) := by
  induction h with
  | nil => exact .cons hl .nil
  | cons h _ ih => exact .cons h ih
theorem RelQ.drop1 {T : List Ent} {L L' : List Ln} (h : RelQ T L L') : RelQ T (L.drop 1) (L'.drop 1) := by
  cases h with
  | nil => exact .nil
  | cons _ h => exact h
theorem RelQ.putL {T : List Ent} {L L' : List Ln} (h : RelQ T L L') {l l' : Ln} (hl : RelL T l l') : RelQ T (Go.Sh.putL L l) (Go.Sh.putL L' l') := by
  unfold Go.Sh.putL
  rw [← h.len]
  refine RelQ.snoc ?_ hl
  split
  · exact h.drop1
  · exact h
theorem RelS.put {T : List Ent} {s s' : Nat → List Ln} (h : RelS T s s') {l l' : Ln} (hl : RelL T l l') : RelS T (putS s l) (putS s' l') := by
  unfold putS
  rw [← hl.a, ← hl.n]
  exact h.fset (RelQ.putL ((h _).filter fun x y g => by rw [isP_rel g]) hl)
theorem RelS.fill {T : List Ent} {s s' : Nat → List Ln} (h : RelS T s s') (a n : Int) (m : Ent) (at_ : Int) : RelS (T ++ [m]) (putS s ⟨a, n, m, at_⟩) (putS s' ⟨a, n, m, (T.length : Nat)⟩) :=
  RelS.put (fun q => (h q).mono m) ⟨rfl, rfl, rfl, T.length, rfl, by rw [List.getElem?_append_right (Nat.le_refl _), Nat.sub_self]; rfl⟩
theorem RelQ.app {T : List Ent} {L L' M M' : List Ln} (h : RelQ T L L') (g : RelQ T M M') : RelQ T (L ++ M) (L' ++ M') := by
  induction h with
  | nil => exact g
  | cons h _ ih => exact .cons h ih
theorem RelS.preL {T : List Ent} {s s' : Nat → List Ln} (h : RelS T s s') : ∀ i, RelQ T (Go.Sh.preL s i) (Go.Sh.preL s' i)
  | 0 => .nil
  | i + 1 => (RelS.preL h i).app (h i)
theorem RelQ.get {T : List Ent} {L L' : List Ln} (h : RelQ T L L') : ∀ {k : Nat} {x : Ln}, L[k]? = some x → ∃ y, L'[k]? = some y ∧ RelL T x y := by
  induction h with
  | nil => intro k x hx; cases hx
  | cons h _ ih =>
    intro k x hx
    cases k with
    | zero =>
      simp only [List.getElem?_cons_zero, Option.some.injEq] at hx
      subst hx; exact ⟨_, rfl, h⟩
    | succ k => rw [List.getElem?_cons_succ] at hx; rw [List.getElem?_cons_succ]; exact ih hx
theorem RelQ.findP {T : List Ent} {L L' : List Ln} (h : RelQ T L L') (a n : Int) : (L.find? (isP a n) = none ∧ L'.find? (isP a n) = none) ∨ ∃ x y, L.find? (isP a n) = some x ∧ L'.find? (isP a n) = some y ∧ RelL T x y := by
  induction h with
  | nil => exact .inl ⟨rfl, rfl⟩
  | cons h _ ih =>
    rw [List.find?_cons, List.find?_cons, ← isP_rel h]
    split
    · exact .inr ⟨_, _, rfl, rfl, h⟩
    · exact ih

/-- The entries, as cells. -/
def entVs (e : Ent) : List Value := [.bool e.v, .bool e.r, .bool e.w, .bool e.x, .bool e.u, .bool e.g, .bool e.a, .bool e.d, .bool e.cw, .bool e.cr, .bool e.cd, .bool e.gn, .int .u64 e.fr]
def entsV : List Ent → List Value
  | [] => []
  | e :: r => entVs e ++ entsV r
theorem entsV_len : ∀ T, (entsV T).length = T.length * 13
  | [] => rfl
  | e :: r => by rw [entsV, List.length_append, entsV_len r, List.length_cons]; show 13 + _ = _; omega
theorem entsV_app : ∀ A B, entsV (A ++ B) = entsV A ++ entsV B
  | [], B => rfl
  | e :: r, B => by rw [List.cons_append, entsV, entsV, entsV_app r B, List.append_assoc]
theorem entsV_get : ∀ {T : List Ent} {i : Nat} {e : Ent}, T[i]? = some e → ((entsV T).drop (i * 13)).take 13 = entVs e
  | [], i, e, h => by simp at h
  | x :: r, 0, e, h => by
    simp only [List.getElem?_cons_zero, Option.some.injEq] at h
    subst h; rfl
  | x :: r, i + 1, e, h => by
    rw [List.getElem?_cons_succ] at h
    have : (i + 1) * 13 = (entVs x).length + i * 13 := by show _ = 13 + _; omega
    rw [entsV, this, List.drop_append]
    simp only [Nat.add_sub_cancel_left]
    rw [List.drop_eq_nil_of_le (by omega), List.nil_append]
    exact entsV_get h

/-- What holds between two steps. -/
structure PInv (s s' : Nat → List Ln) (T : List Ent) (log : List (Nat × Nat)) (i : Nat) : Prop where
  is : Inv s
  is' : Inv s'
  rel : RelS T s s'
  okl : okL log
  ll : log.length ≤ 16 + 8 * i
  lt : T.length ≤ i
theorem PInv.len {s s' : Nat → List Ln} {T : List Ent} {log : List (Nat × Nat)} {i : Nat} (h : PInv s s' T log i) : (preL s 4).length = (preL s' 4).length := (h.rel.preL 4).len
theorem PInv.next {s s' : Nat → List Ln} {T : List Ent} {log : List (Nat × Nat)} {i : Nat} (h : PInv s s' T log i) : PInv s s' T log (i + 1) :=
  ⟨h.is, h.is', h.rel, h.okl, by have := h.ll; omega, by have := h.lt; omega⟩
theorem PInv.dropP {s s' : Nat → List Ln} {T : List Ent} {log : List (Nat × Nat)} {i : Nat} (h : PInv s s' T log i) (a n : Int) : PInv (fset s (q4 n) ((s (q4 n)).filter fun x => !isP a n x)) (fset s' (q4 n) ((s' (q4 n)).filter fun x => !isP a n x)) T log (i + 1) :=
  ⟨h.is.filter _, h.is'.filter _, h.rel.dropP _ _ _, h.okl, by have := h.ll; omega, by have := h.lt; omega⟩
theorem PInv.filtS {s s' : Nat → List Ln} {T : List Ent} {log : List (Nat × Nat)} {i : Nat} (h : PInv s s' T log i) (p : Ln → Bool) (hp : ∀ x y, RelL T x y → p x = p y) : PInv (Go.Sh.filtS p s 4) (Go.Sh.filtS p s' 4) T log (i + 1) :=
  ⟨h.is.filtS p 4, h.is'.filtS p 4, h.rel.filtS p hp 4, h.okl, by have := h.ll; omega, by have := h.lt; omega⟩
theorem PInv.store {s s' : Nat → List Ln} {T : List Ent} {log : List (Nat × Nat)} {i : Nat} (h : PInv s s' T log i) {a v : Nat} (ha : a + 8 < 2 ^ 64) : PInv s s' T (log ++ stL a v 8) (i + 1) :=
  ⟨h.is, h.is', h.rel, okL_st h.okl ha, by have := h.ll; rw [List.length_append, stL_len]; omega, by have := h.lt; omega⟩
theorem PInv.fill {s s' : Nat → List Ln} {T : List Ent} {log : List (Nat × Nat)} {i : Nat} (h : PInv s s' T log i) (a n : Int) (hn : 0 ≤ n) (m : Ent) (at_ : Int) : PInv (putS s ⟨a, n, m, at_⟩) (putS s' ⟨a, n, m, (T.length : Nat)⟩) (T ++ [m]) log (i + 1) :=
  ⟨h.is.put _ hn, h.is'.put _ hn, h.rel.fill a n m at_, h.okl, by have := h.ll; omega, by have := h.lt; simp; omega⟩
theorem PInv.fillst {s s' : Nat → List Ln} {T : List Ent} {log : List (Nat × Nat)} {i : Nat} (h : PInv s s' T log i) (a n : Int) (hn : 0 ≤ n) (m : Ent) (at_ : Int) {p v : Nat} (hp : p + 8 < 2 ^ 64) : PInv (putS s ⟨a, n, m, at_⟩) (putS s' ⟨a, n, m, (T.length : Nat)⟩) (T ++ [m]) (log ++ stL p v 8) (i + 1) :=
  ⟨h.is.put _ hn, h.is'.put _ hn, h.rel.fill a n m at_, okL_st h.okl hp, by have := h.ll; rw [List.length_append, stL_len]; omega, by have := h.lt; simp; omega⟩
end Go.Sh

/- A unit's generation, laid anew: plain. -/
set_option linter.unusedVariables false
namespace Go.Sh
open Go.RowKit
theorem set_app2 {A : List Value} (hA : A.length = 132) (x y z v : Value) : setRange (A ++ [x, y, z]) 134 [v] = A ++ [x, y, v] := by
  have h1 : (A ++ [x, y, z]).take 134 = A ++ [x, y] := by rw [show 134 = A.length + 2 by omega, List.take_length_add_append]; rfl
  have h2 : (A ++ [x, y, z]).drop 135 = [] := by rw [show 135 = A.length + 3 by omega, List.drop_length_add_append]; rfl
  unfold setRange
  rw [h1, show 134 + [v].length = 135 from rfl, h2]
  simp
theorem uC_setg {s : Nat → List Ln} (hs : okT s) (root a : Nat) (g g' : Bool) : setRange (tlbC s (uR root a g)) 134 [.bool g'] = tlbC s (uR root a g') := by
  have h0 := setVal_len (hs 0); have h1 := setVal_len (hs 1); have h2 := setVal_len (hs 2); have h3 := setVal_len (hs 3)
  have e : ∀ rest, tlbC s rest = (setVal (s 0) ++ (setVal (s 1) ++ (setVal (s 2) ++ setVal (s 3)))) ++ rest := fun rest => by
    show setVal (s 0) ++ (setVal (s 1) ++ (setVal (s 2) ++ (setVal (s 3) ++ rest))) = _
    simp [List.append_assoc]
  rw [e, e]
  exact set_app2 (by simp only [List.length_append]; omega) _ _ _ _
theorem uC_len {s : Nat → List Ln} (hs : okT s) (root a : Nat) (g : Bool) : (tlbC s (uR root a g)).length = 135 := tlbC_len hs _
end Go.Sh
