import Derived.Test.YtmfpndffepjcpaaMA
import Derived.Test.YtmfpndffepjcpaaSh22
import Derived.MapKept
/- A law's parameter that is a struct of flat cells, opened. -/
set_option linter.unusedVariables false
namespace Go.Sh
open Go.RowKit Go.WideShapes Go.ChangeShapes

theorem open_flat {H : Type} {enc : TypeId × Value → H} {P : Program} {w : World} {base b0 : Nat} {spare : Nat → Bool} {held : Bool} {r : Reach} {t : TypeId} {fs : Array Field} {v : Value} {d : DataW H} {ps : List MemPlace} {ks : List Kd}
    (ht : P.underlying t = some (.struct fs)) (hk : FlatT P t ks) (hval : Value.okWide P w r b0 t v) (hd : DataW.Trod enc P w base spare held t v d ps) : ∃ l : List Value, v = .agg ⟨l⟩ ∧ Fits ks l := by
  have : ∃ cs, v = .agg cs := by
    cases v <;> simp [Value.okWide, ht] at hval
    exact ⟨_, rfl⟩
  obtain ⟨⟨l⟩, rfl⟩ := this
  obtain ⟨fuel, hf⟩ := hd
  exact ⟨l, rfl, hk hf⟩
theorem fits_int {k : IntKind} {ks : List Kd} {l : List Value} (h : Fits (.int k :: ks) l) : ∃ n s, l = .int k n :: s ∧ (Lit.int k n).wf = true ∧ Fits ks s := by
  cases l with
  | nil => exact h.elim
  | cons v s => obtain ⟨⟨n, rfl, hw⟩, h2⟩ := h; exact ⟨n, s, rfl, hw, h2⟩
theorem fits_bool {ks : List Kd} {l : List Value} (h : Fits (.bool :: ks) l) : ∃ b s, l = .bool b :: s ∧ Fits ks s := by
  cases l with
  | nil => exact h.elim
  | cons v s => obtain ⟨⟨b, rfl⟩, h2⟩ := h; exact ⟨b, s, rfl, h2⟩
theorem fits_nil {l : List Value} (h : Fits [] l) : l = [] := by
  cases l with
  | nil => rfl
  | cons v s => exact h.elim
end Go.Sh

/- A state's rows, laid over others: apart where they are named. -/
set_option linter.unusedVariables false
namespace Go.Sh
open Go.RowKit

def freeOf (x : Nat) : List Nat → Bool
  | [] => true
  | y :: r => !Nat.beq x y && freeOf x r
def nodupB : List Nat → Bool
  | [] => true
  | x :: r => freeOf x r && nodupB r
def keysBy (τ : Nat → Nat × Nat) : Hp → List Nat
  | [] => []
  | (i, _) :: r => (τ i).1 :: keysBy τ r
theorem freeOf_out {x : Nat} : ∀ {l : List Nat}, freeOf x l = true → x ∉ l
  | [], _ => by simp
  | y :: r, h => by
    simp only [freeOf, Bool.and_eq_true, Bool.not_eq_true'] at h
    have h1 : x ≠ y := fun e => by subst e; simp at h
    have := freeOf_out h.2
    simp [h1, this]
theorem keysBy_mem {τ : Nat → Nat × Nat} : ∀ {H : Hp} {i : Nat} {so : SO}, look H i = some so → (τ i).1 ∈ keysBy τ H
  | [], i, so, h => by cases h
  | (k, x) :: r, i, so, h => by
    rw [look_cons] at h
    split at h
    · rename_i e; subst e; exact List.mem_cons_self ..
    · exact List.mem_cons_of_mem _ (keysBy_mem h)
theorem keysBy_inj {τ : Nat → Nat × Nat} : ∀ {H : Hp}, nodupB (keysBy τ H) = true → ∀ {i j : Nat} {si sj : SO}, look H i = some si → look H j = some sj → i ≠ j → (τ i).1 ≠ (τ j).1
  | [], _, i, j, si, sj, hi, _, _ => by cases hi
  | (k, x) :: r, h, i, j, si, sj, hi, hj, hij => by
    simp only [keysBy, nodupB, Bool.and_eq_true] at h
    have hf := freeOf_out h.1
    rw [look_cons] at hi hj
    split at hi
    · rename_i e
      subst e
      split at hj
      · rename_i e; exact absurd e hij
      · intro g; rw [g] at hf; exact hf (keysBy_mem hj)
    · split at hj
      · rename_i e; subst e; intro g; rw [← g] at hf; exact hf (keysBy_mem hi)
      · exact keysBy_inj h.2 hi hj hij
theorem Part.keys {u0 : Nat} {τ : Nat → Nat × Nat} {H H0 : Hp} (h : sameH u0 τ H H0) (hn : nodupB (keysBy τ H0) = true) : Part H0 u0 τ H :=
  ⟨sameH_out h, fun i j si sj hi hj hij _ => keysBy_inj hn hi hj hij, sameH_dict h⟩
/-- Names led elsewhere. -/
def toL : List (Nat × Nat) → Nat → Nat × Nat
  | [], k => (k, 0)
  | (n, t) :: r, k => match Nat.beq k n with | true => (t, 0) | false => toL r k
def overB (u : Nat) : List (Nat × Nat) → Bool
  | [] => true
  | (n, _) :: r => Nat.ble u n && overB u r
theorem toL_low {u : Nat} : ∀ {l : List (Nat × Nat)}, overB u l = true → ∀ k, k < u → toL l k = (k, 0)
  | [], _, k, _ => rfl
  | (n, t) :: r, h, k, hk => by
    simp only [overB, Bool.and_eq_true, Nat.ble_eq] at h
    have : Nat.beq k n = false := by rw [← Bool.not_eq_true, Nat.beq_eq]; omega
    rw [toL, this]
    exact toL_low h.2 k hk
end Go.Sh

/- Arrays among a law's parameters: of two bools, of three numbers. -/
set_option linter.unusedVariables false
namespace Go.Sh
open Go.RowKit Go.WideShapes Go.ChangeShapes

section
variable {H : Type} {enc : TypeId × Value → H} {P : Program} {w : World} {base : Nat} {spare : Nat → Bool} {held : Bool}
theorem three_of {α : Type} (l : List α) (h : l.length = 3) : ∃ a b c, l = [a, b, c] := by
  match l, h with
  | [a, b, c], _ => exact ⟨a, b, c, rfl⟩
theorem open_arr3 {r : Reach} {b0 : Nat} {t e : TypeId} {k : IntKind} {v : Value} {d : DataW H} {ps : List MemPlace} (ht : P.underlying t = some (.array 3 e)) (he : P.underlying e = some (.int k)) (hce : P.cellsOf e = 1) (hct : P.cellsOf t = 3)
    (hval : Value.okWide P w r b0 t v) (hd : DataW.Trod enc P w base spare held t v d ps) : ∃ a b c, v = .agg #[.int k a, .int k b, .int k c] ∧ (Lit.int k a).wf = true ∧ (Lit.int k b).wf = true ∧ (Lit.int k c).wf = true := by
  obtain ⟨⟨l⟩, rfl, hsz⟩ := arr_of ht hval
  rw [hct] at hsz
  obtain ⟨c0, c1, c2, rfl⟩ := three_of l hsz
  obtain ⟨fuel, hf⟩ := hd
  obtain ⟨y0, y1, y2, m, hx, hy0, hy1, hy2⟩ := trod_array3 ht hce hf
  obtain ⟨x0, e0, _, w0⟩ := DataW.trod_int he hy0
  obtain ⟨x1, e1, _, w1⟩ := DataW.trod_int he hy1
  obtain ⟨x2, e2, _, w2⟩ := DataW.trod_int he hy2
  simp only [List.cons.injEq, and_true] at e0 e1 e2
  subst e0 e1 e2
  exact ⟨x0, x1, x2, rfl, w0, w1, w2⟩
theorem open_arrb2 {r : Reach} {b0 : Nat} {t e : TypeId} {v : Value} {d : DataW H} {ps : List MemPlace} (ht : P.underlying t = some (.array 2 e)) (he : P.underlying e = some .bool) (hce : P.cellsOf e = 1) (hct : P.cellsOf t = 2)
    (hval : Value.okWide P w r b0 t v) (hd : DataW.Trod enc P w base spare held t v d ps) : ∃ a b, v = .agg #[.bool a, .bool b] := by
  obtain ⟨⟨l⟩, rfl, hsz⟩ := arr_of ht hval
  rw [hct] at hsz
  obtain ⟨c0, c1, rfl⟩ := two_of l hsz
  obtain ⟨fuel, hf⟩ := hd
  obtain ⟨y0, y1, m, hy0, hy1⟩ := trod_array2 ht hce hf
  obtain ⟨x0, e0, _⟩ := DataW.trod_bool he hy0
  obtain ⟨x1, e1, _⟩ := DataW.trod_bool he hy1
  simp only [List.cons.injEq, and_true] at e0 e1
  subst e0 e1
  exact ⟨x0, x1, rfl⟩
end
end Go.Sh

/- Maps, as rows: made, looked up, laid, shortened, counted. -/
set_option linter.unusedVariables false
namespace Go.Sh
open Go.RowKit Go.MapKept

/-! ### Plain -/
section
variable {κ : Type} [DecidableEq κ] {ν : Type}
def findD (a : κ) : List (κ × ν × Nat) → Nat → Option (Nat × ν)
  | [], _ => none
  | x :: r, i => if x.1 = a then some (i, x.2.1) else findD a r (i + 1)
def getD (D : List (κ × ν × Nat)) (a : κ) : Option ν := (findD a D 0).map (·.2)
def setD (a : κ) (v : ν) (c : Nat) : List (κ × ν × Nat) → List (κ × ν × Nat)
  | [] => [(a, v, c)]
  | x :: r => if x.1 = a then (a, v, x.2.2) :: r else x :: setD a v c r
def tickD (D : List (κ × ν × Nat)) (a : κ) (c : Nat) : Nat := match findD a D 0 with | some _ => c | none => c + 1
def delD (a : κ) : List (κ × ν × Nat) → List (κ × ν × Nat)
  | [] => []
  | x :: r => if x.1 = a then r else x :: delD a r
def ents (kv : κ → Value) (vv : ν → Value) (D : List (κ × ν × Nat)) : List MapEntry := D.map fun x => ⟨kv x.1, vv x.2.1, x.2.2⟩
theorem findD_shift (a : κ) : ∀ (D : List (κ × ν × Nat)) (i : Nat), findD a D i = (findD a D 0).map fun p => (p.1 + i, p.2)
  | [], i => rfl
  | x :: r, i => by
    unfold findD
    split
    · simp
    · rw [findD_shift a r (i + 1), findD_shift a r (0 + 1)]
      cases findD a r 0 <;> simp; omega
theorem findD_cons (a : κ) (x : κ × ν × Nat) (r : List (κ × ν × Nat)) : findD a (x :: r) 0 = if x.1 = a then some (0, x.2.1) else (findD a r 0).map fun p => (p.1 + 1, p.2) := by
  rw [findD, findD_shift a r (0 + 1)]
theorem getD_cons (a : κ) (x : κ × ν × Nat) (r : List (κ × ν × Nat)) : getD (x :: r) a = if x.1 = a then some x.2.1 else getD r a := by
  unfold getD
  rw [findD_cons]
  split
  · rfl
  · cases findD a r 0 <;> rfl
theorem getD_nil (a : κ) : getD ([] : List (κ × ν × Nat)) a = none := rfl
theorem getD_set (a b : κ) (v : ν) (c : Nat) : ∀ D : List (κ × ν × Nat), getD (setD a v c D) b = if a = b then some v else getD D b
  | [] => by rw [setD, getD_cons]
  | x :: r => by
    rw [setD]
    split
    · rename_i e
      rw [getD_cons, getD_cons]
      by_cases h : a = b
      · rw [if_pos h, if_pos h]
      · rw [if_neg h, if_neg h, if_neg (by rw [e]; exact h)]
    · rename_i e
      rw [getD_cons, getD_cons, getD_set a b v c r]
      by_cases h : x.1 = b
      · rw [if_pos h, if_pos h, if_neg (by intro g; exact e (h.trans g.symm))]
      · rw [if_neg h, if_neg h]
def keysD (D : List (κ × ν × Nat)) : List κ := D.map (·.1)
theorem keysD_set (a : κ) (v : ν) (c : Nat) : ∀ D : List (κ × ν × Nat), keysD (setD a v c D) = if a ∈ keysD D then keysD D else keysD D ++ [a]
  | [] => by simp [setD, keysD]
  | x :: r => by
    rw [setD]
    split
    · rename_i e; simp [keysD, e]
    · rename_i e
      have := keysD_set a v c r
      show x.1 :: keysD (setD a v c r) = _
      rw [this]
      by_cases h : a ∈ keysD r
      · rw [if_pos h, if_pos (show a ∈ keysD (x :: r) from List.mem_cons_of_mem _ h)]; rfl
      · rw [if_neg h, if_neg (show a ∉ keysD (x :: r) from fun g => (List.mem_cons.1 g).elim (fun g => e g.symm) h)]; rfl
theorem nodup_set {a : κ} {v : ν} {c : Nat} {D : List (κ × ν × Nat)} (h : (keysD D).Nodup) : (keysD (setD a v c D)).Nodup := by
  rw [keysD_set]
  split
  · exact h
  · rename_i e
    exact List.nodup_append.2 ⟨h, List.nodup_cons.2 ⟨by simp, .nil⟩, fun x hx y hy => by simp at hy; subst hy; intro g; subst g; exact e hx⟩
theorem keysD_del (a : κ) : ∀ D : List (κ × ν × Nat), (keysD (delD a D)).Sublist (keysD D)
  | [] => .refl _
  | x :: r => by
    rw [delD]
    split
    · exact .cons _ (.refl _)
    · exact .cons_cons _ (keysD_del a r)
theorem nodup_del {a : κ} {D : List (κ × ν × Nat)} (h : (keysD D).Nodup) : (keysD (delD a D)).Nodup := h.sublist (keysD_del a D)
theorem getD_none {a : κ} : ∀ {D : List (κ × ν × Nat)}, getD D a = none ↔ a ∉ keysD D
  | [] => by simp [getD_nil, keysD]
  | x :: r => by
    rw [getD_cons]
    have := getD_none (a := a) (D := r)
    by_cases e : x.1 = a
    · rw [if_pos e]; simp [keysD, e]
    · rw [if_neg e, this]; simp only [keysD, List.map_cons, List.mem_cons, not_or]
      exact ⟨fun h => ⟨fun g => e g.symm, h⟩, fun h => h.2⟩
theorem getD_del {a b : κ} : ∀ {D : List (κ × ν × Nat)}, (keysD D).Nodup → getD (delD a D) b = if a = b then none else getD D b
  | [], _ => by simp [delD, getD_nil]
  | x :: r, h => by
    have hx : x.1 ∉ keysD r := (List.nodup_cons.1 h).1
    have hr : (keysD r).Nodup := (List.nodup_cons.1 h).2
    rw [delD]
    split
    · rename_i e
      rw [getD_cons]
      by_cases g : a = b
      · rw [if_pos g, ← g, getD_none, ← e]; exact hx
      · rw [if_neg g, if_neg (by rw [e]; exact g)]
    · rename_i e
      rw [getD_cons, getD_cons, getD_del hr]
      by_cases g : x.1 = b
      · rw [if_pos g, if_pos g, if_neg (fun k => e (g.trans k.symm))]
      · rw [if_neg g, if_neg g]
theorem findD_none {a : κ} {D : List (κ × ν × Nat)} : findD a D 0 = none ↔ getD D a = none := by unfold getD; simp
theorem set_new {kv : κ → Value} {vv : ν → Value} {a : κ} (v : ν) (c : Nat) : ∀ {D : List (κ × ν × Nat)}, findD a D 0 = none → ents kv vv (setD a v c D) = ents kv vv D ++ [⟨kv a, vv v, c⟩]
  | [], _ => rfl
  | x :: r, h => by
    rw [findD_cons] at h
    split at h
    · cases h
    · rename_i e
      rw [setD, if_neg e]
      have := set_new (kv := kv) (vv := vv) v c (D := r) (by simpa using h)
      simp only [ents, List.map_cons, List.cons_append] at this ⊢
      rw [this]
theorem set_old {kv : κ → Value} {vv : ν → Value} {a : κ} (v : ν) (c : Nat) : ∀ {D : List (κ × ν × Nat)} {i : Nat} {y : ν}, findD a D 0 = some (i, y) → ents kv vv (setD a v c D) = (ents kv vv D).modify i (fun e => { e with key := kv a, val := vv v }) ∧ ((ents kv vv D)[i]?).map (·.key) = some (kv a)
  | [], i, y, h => by simp [findD] at h
  | x :: r, i, y, h => by
    rw [findD_cons] at h
    split at h
    · rename_i e
      injection h with h; injection h with h1 h2
      subst h1
      rw [setD, if_pos e]
      exact ⟨by simp [ents, List.modify_cons], by simp [ents, e]⟩
    · rename_i e
      cases hf : findD a r 0 with
      | none => rw [hf] at h; cases h
      | some p =>
        obtain ⟨j, z⟩ := p
        rw [hf] at h
        simp only [Option.map_some, Option.some.injEq, Prod.mk.injEq] at h
        obtain ⟨rfl, rfl⟩ := h
        obtain ⟨h1, h2⟩ := set_old (kv := kv) (vv := vv) v c hf
        rw [setD, if_neg e]
        simp only [ents, List.map_cons] at h1 h2 ⊢
        exact ⟨by rw [h1]; rfl, by simpa using h2⟩
theorem del_old {kv : κ → Value} {vv : ν → Value} {a : κ} : ∀ {D : List (κ × ν × Nat)} {i : Nat} {y : ν}, findD a D 0 = some (i, y) → ents kv vv (delD a D) = (ents kv vv D).eraseIdx i
  | [], i, y, h => by simp [findD] at h
  | x :: r, i, y, h => by
    rw [findD_cons] at h
    split at h
    · rename_i e
      injection h with h; injection h with h1 h2
      subst h1
      rw [delD, if_pos e]; rfl
    · rename_i e
      cases hf : findD a r 0 with
      | none => rw [hf] at h; cases h
      | some p =>
        obtain ⟨j, z⟩ := p
        rw [hf] at h
        simp only [Option.map_some, Option.some.injEq, Prod.mk.injEq] at h
        obtain ⟨rfl, rfl⟩ := h
        rw [delD, if_neg e]
        simp only [ents, List.map_cons, List.eraseIdx_cons_succ]
        rw [← ents, ← ents, del_old hf]
theorem del_new {kv : κ → Value} {vv : ν → Value} {a : κ} : ∀ {D : List (κ × ν × Nat)}, findD a D 0 = none → delD a D = D
  | [], _ => rfl
  | x :: r, h => by
    rw [findD_cons] at h
    split at h
    · cases h
    · rename_i e
      rw [delD, if_neg e, del_new (kv := kv) (vv := vv) (D := r) (by simpa using h)]

/-- The keys of a type. -/
structure KeyT (P : Program) (kt : TypeId) (kv : κ → Value) : Prop where
  chk : ∀ e a w, (Instr.checkKey e 10000 kt (kv a)).run P w = .ok () w
  find : ∀ {ν : Type} (vv : ν → Value) a (D : List (κ × ν × Nat)) w, (Instr.findKey kt (kv a) (ents kv vv D)).run P w = .ok ((findD a D 0).map fun p => (p.1, vv p.2)) w
  same : ∀ a, Instr.sameBits 10000 (kv a) (kv a) = true
end

/-! ### Numbers as keys -/
theorem KeyT.int {P : Program} {kt : TypeId} {q : IntKind} (hu : P.underlying kt = some (.int q)) : KeyT P kt (fun n : Int => Value.int q n) := by
  refine ⟨fun e a w => ?_, fun {ν} vv a D w => ?_, fun a => ?_⟩
  · rw [show (10000 : Nat) = 9999 + 1 from rfl, Instr.checkKey]
    simp [run_underlying hu]
  · have key : ∀ (D : List (Int × ν × Nat)) i, Instr.findNow (.int q) (.int q a) (ents (fun n : Int => Value.int q n) vv D) i = some ((findD a D i).map fun p => (p.1, vv p.2)) := fun D => by
      induction D with
      | nil => intro i; rfl
      | cons x r ih =>
        intro i
        show Instr.findNow (.int q) (.int q a) (⟨Value.int q x.1, vv x.2.1, x.2.2⟩ :: ents (fun n : Int => Value.int q n) vv r) i = _
        by_cases e : x.1 = a
        · simp [Instr.findNow, Instr.sameNow, findD, e]
        · have e' : ¬ a = x.1 := fun g => e g.symm
          simp only [Instr.findNow, Instr.sameNow, if_true, findD, if_neg e]
          rw [show (a == x.1) = false by simpa using e']
          exact ih (i + 1)
    exact run_findKey hu (key D 0)
  · rw [show (10000 : Nat) = 9999 + 1 from rfl, Instr.sameBits]; simp

/-! ### Pairs of numbers as keys -/
def pairV (q : IntKind) (p : Int × Int) : Value := .agg #[.int q p.1, .int q p.2]
theorem KeyT.pair {P : Program} {kt e1 : TypeId} {q : IntKind} {ei : TI} {f1 f2 : Field} (hu : P.underlying kt = some (.struct #[f1, f2])) (he : TIok P e1 ei) (hed : ei.desc = .int q) (t1 : f1.type = e1) (t2 : f2.type = e1) (o1 : f1.offset = 0) (o2 : f2.offset = 1) (n1 : (f1.name == "_") = false) (n2 : (f2.name == "_") = false)
    (heq : ∀ (a b : Int × Int) w, (Op.equal kt (pairV q a) (pairV q b)).run P w = .ok (decide (a = b)) w) : KeyT P kt (pairV q) := by
  have hue : P.underlying e1 = some (.int q) := by rw [← hed]; exact he.und
  have hag : ei.agg = false := by simp [TI.agg, hed]
  have hp0 : ∀ (p : Int × Int) w, (part f1.type #[.int q p.1, .int q p.2] f1.offset).run P w = .ok (.int q p.1) w := fun p w => by
    rw [t1, o1, run_part he, hag]; simp
  have hp1 : ∀ (p : Int × Int) w, (part f2.type #[.int q p.1, .int q p.2] f2.offset).run P w = .ok (.int q p.2) w := fun p w => by
    rw [t2, o2, run_part he, hag]; simp
  have n1 : ¬ f1.name = "_" := by simpa using n1
  have n2 : ¬ f2.name = "_" := by simpa using n2
  refine ⟨fun e a w => ?_, fun {ν} vv a D w => ?_, fun a => ?_⟩
  · have one : ∀ (t : TypeId) (x : Int) w, t = e1 → (Instr.checkKey e 9999 t (.int q x)).run P w = .ok () w := fun t x w ht => by
      subst ht
      rw [show (9999 : Nat) = 9998 + 1 from rfl, Instr.checkKey]
      simp [run_underlying hue]
    rw [show (10000 : Nat) = 9999 + 1 from rfl, Instr.checkKey]
    simp [run_underlying hu, pairV, n1, n2, hp0 a, hp1 a, one f1.type a.1 w t1, one f2.type a.2 w t2]
  · have ask : ∀ (D : List ((Int × Int) × ν × Nat)) i, (Instr.findAsking kt (pairV q a) (ents (pairV q) vv D) i).run P w = .ok ((findD a D i).map fun p => (p.1, vv p.2)) w := fun D => by
      induction D with
      | nil => intro i; simp [ents, Instr.findAsking, findD]
      | cons x r ih =>
        intro i
        show (Instr.findAsking kt (pairV q a) (⟨pairV q x.1, vv x.2.1, x.2.2⟩ :: ents (pairV q) vv r) i).run P w = _
        rw [Instr.findAsking]
        simp only [Sem.run_bind, heq, Result.andThen_ok]
        by_cases e : a = x.1
        · simp [e, findD]
        · have e' : ¬ x.1 = a := fun g => e g.symm
          simp only [decide_eq_false e, findD, if_neg e']
          exact ih (i + 1)
    unfold Instr.findKey
    simp only [Sem.run_bind, run_underlying hu, Result.andThen_ok]
    cases D with
    | nil => simp [ents, Instr.findNow, findD]
    | cons x r =>
      show (match Instr.findNow (.struct #[f1, f2]) (pairV q a) (⟨pairV q x.1, vv x.2.1, x.2.2⟩ :: ents (pairV q) vv r) 0 with | some r => pure r | none => Instr.findAsking kt (pairV q a) (ents (pairV q) vv (x :: r))).run P w = _
      have : Instr.findNow (.struct #[f1, f2]) (pairV q a) (⟨pairV q x.1, vv x.2.1, x.2.2⟩ :: ents (pairV q) vv r) 0 = none := by
        simp [Instr.findNow, Instr.sameNow]
      rw [this]
      exact ask (x :: r) 0
  · rw [show (10000 : Nat) = 9998 + 1 + 1 from rfl, pairV, Instr.sameBits]
    simp [Instr.sameBits]
end Go.Sh

/- Maps: what the operations do to a heap. -/
set_option linter.unusedVariables false
namespace Go.Sh
open Go.RowKit Go.MapKept

section
variable {w0 w : World} {O : Nat → Nat → Prop} {ρ : Env} {H : Hp} {u : Nat}
theorem cell_map {w : World} {r c c' : Nat} {es es' : Array MapEntry} (h : w.heap[r]? = some (.map es c)) (b o : Nat) : World.cell? { w with heap := w.heap.setIfInBounds r (.map es' c') } ⟨b, o, none⟩ = w.cell? ⟨b, o, none⟩ := by
  have hlt := dict_lt h
  by_cases e : b = r
  · subst e
    have hg : w.heap[b] = .map es c := by rw [Array.getElem?_eq_getElem hlt] at h; injection h
    simp [World.cell?, hlt, hg]
  · exact World.cell?_of_block (w := w) (by simp [Ne.symm e])
theorem frz_map {w : World} {r c c' : Nat} {es es' : Array MapEntry} (h : w.heap[r]? = some (.map es c)) (b o : Nat) : World.frozen? { w with heap := w.heap.setIfInBounds r (.map es' c') } ⟨b, o, none⟩ = w.frozen? ⟨b, o, none⟩ := by
  have hlt := dict_lt h
  by_cases e : b = r
  · subst e
    have hg : w.heap[b] = .map es c := by rw [Array.getElem?_eq_getElem hlt] at h; injection h
    simp [World.frozen?, hlt, hg]
  · exact World.frozen?_of_block (w := w) (by simp [Ne.symm e])
/-- A map laid anew. -/
theorem Sat.setD {N : Nat → Prop} (h : Sat w0 O N ρ H w) {i c : Nat} {es : List MapEntry} (hi : look H i = some (.dict es c)) (es' : List MapEntry) (c' : Nat) : Sat w0 O N ρ ((i, .dict es' c') :: H) { w with heap := w.heap.setIfInBounds (ρ i).1 (.map es'.toArray c') } := by
  have ha := h.dict.at_ i es c hi
  have hb : ∀ k, k ≠ (ρ i).1 → (w.heap.setIfInBounds (ρ i).1 (.map es'.toArray c'))[k]? = w.heap[k]? := fun k hk => by simp [Ne.symm hk]
  have row : ∀ k so, look ((i, SO.dict es' c') :: H) k = some so → (k = i ∧ so = .dict es' c') ∨ (k ≠ i ∧ look H k = some so) := fun k so hk => by
    rw [look_cons] at hk
    split at hk
    · rename_i e; injection hk with hk; exact .inl ⟨e.symm, hk.symm⟩
    · rename_i e; exact .inr ⟨fun g => e g.symm, hk⟩
  refine ⟨h.os, h.tape, h.output, by simpa using h.size, fun k so hk => ?_, fun k j si sj hk hj hkj hw => ?_, fun k hk hO => ?_, fun k off hk hO => ?_, fun k off hk => ?_, fun k so hk hw j hj => ?_, ?_⟩
  · rcases row k so hk with ⟨rfl, rfl⟩ | ⟨_, h1⟩
    · exact ⟨(h.dom k _ hi).1, trivial, ⟨⟨fun j v hv => by simp [SO.vals] at hv, by simp [SO.vals]⟩, fun _ j hj => by simp [SO.len] at hj, fun j hj => by simp [SO.len] at hj, by simp [SO.vals]⟩⟩
    · obtain ⟨g1, g2, g3⟩ := h.dom k so h1
      refine ⟨g1, g2, ⟨⟨fun j v hv => ?_, g3.cell.2⟩, fun hw j hj => ?_, fun j hj => ?_, g3.fits⟩⟩
      · rw [cell_map ha]; exact g3.cell.1 j v hv
      · rw [frz_map ha]; exact g3.free hw j hj
      · rw [cell_map ha]; exact g3.room j hj
  · rcases row k si hk with ⟨rfl, rfl⟩ | ⟨_, h1⟩
    · intro x y hx; simp [SO.len] at hx
    · rcases row j sj hj with ⟨rfl, rfl⟩ | ⟨_, h2⟩
      · intro x y hx hy; simp [SO.len] at hy
      · exact h.sep k j si sj h1 h2 hkj hw
  · show (w.heap.setIfInBounds _ _)[k]? = _
    rw [hb k, h.blk k hk hO]
    intro e
    subst e
    rcases h.dict.own i es c hi with g | g
    · exact hO 0 (g 0)
    · omega
  · rw [cell_map ha]; exact h.cell k off hk hO
  · rw [frz_map ha]; exact h.frz k off hk
  · rcases row k so hk with ⟨rfl, rfl⟩ | ⟨_, h1⟩
    · simp [SO.len] at hj
    · exact h.fresh k so h1 hw j hj
  · refine ⟨fun k es2 c2 hk => ?_, fun k es2 c2 hk => ?_, fun k j ei ci ej cj hk hj hkj => ?_⟩
    · rcases row k _ hk with ⟨rfl, e⟩ | ⟨hne, h1⟩
      · cases e
        show (w.heap.setIfInBounds _ _)[(ρ k).1]? = _
        simp [dict_lt ha]
      · show (w.heap.setIfInBounds _ _)[(ρ k).1]? = _
        rw [hb _ (h.dict.sep k i es2 c2 es c h1 hi hne)]
        exact h.dict.at_ k es2 c2 h1
    · rcases row k _ hk with ⟨rfl, e⟩ | ⟨hne, h1⟩
      · exact h.dict.own k es c hi
      · exact h.dict.own k es2 c2 h1
    · rcases row k _ hk with ⟨rfl, e⟩ | ⟨hne, h1⟩
      · rcases row j _ hj with ⟨rfl, e'⟩ | ⟨hne', h2⟩
        · exact absurd rfl hkj
        · exact h.dict.sep k j es c ej cj hi h2 hkj
      · rcases row j _ hj with ⟨rfl, e'⟩ | ⟨hne', h2⟩
        · exact h.dict.sep k j ei ci es c h1 hi hkj
        · exact h.dict.sep k j ei ci ej cj h1 h2 hkj
/-- A new map. -/
theorem Sat.newD (h : Sat w0 O (· < u) ρ H w) (es : List MapEntry) (c : Nat) : Sat w0 O (· < u + 1) (upd ρ u (w.heap.size, 0)) ((u, .dict es c) :: H) (w.alloc (.map es.toArray c)) := by
  have hρ : ∀ i, i < u → upd ρ u (w.heap.size, 0) i = ρ i := fun i hi => upd_other ρ _ (Nat.ne_of_lt hi)
  have row : ∀ k so, look ((u, SO.dict es c) :: H) k = some so → (k = u ∧ so = .dict es c) ∨ (k < u ∧ look H k = some so) := fun k so hk => by
    rw [look_cons] at hk
    split at hk
    · rename_i e; injection hk with hk; exact .inl ⟨e.symm, hk.symm⟩
    · exact .inr ⟨(h.dom k so hk).1, hk⟩
  have hold : ∀ k, k < w.heap.size → (w.alloc (.map es.toArray c)).heap[k]? = w.heap[k]? := fun k hk => Below.heap_alloc w _ k hk
  refine ⟨h.os, h.tape, h.output, Nat.le_trans h.size (by simp), fun k so hk => ?_, fun k j si sj hk hj hkj hw => ?_, fun k hk hO => ?_, fun k off hk hO => ?_, fun k off hk => ?_, fun k so hk hw j hj => ?_, ?_⟩
  · rcases row k so hk with ⟨rfl, rfl⟩ | ⟨hlt, h1⟩
    · exact ⟨Nat.lt_succ_self _, trivial, ⟨⟨fun j v hv => by simp [SO.vals] at hv, by simp [SO.vals]⟩, fun _ j hj => by simp [SO.len] at hj, fun j hj => by simp [SO.len] at hj, by simp [SO.vals]⟩⟩
    · obtain ⟨g1, g2, g3⟩ := h.dom k so h1
      rw [hρ k hlt]
      exact ⟨Nat.lt_succ_of_lt hlt, SO.In.mono (fun i hi => Nat.lt_succ_of_lt hi) g2, is_agree hρ g2 (is_alloc g3 _)⟩
  · rcases row k si hk with ⟨rfl, rfl⟩ | ⟨hlt, h1⟩
    · intro x y hx; simp [SO.len] at hx
    · rcases row j sj hj with ⟨rfl, rfl⟩ | ⟨hlt', h2⟩
      · intro x y hx hy; simp [SO.len] at hy
      · rw [hρ k hlt, hρ j hlt']; exact h.sep k j si sj h1 h2 hkj hw
  · rw [hold k (Nat.lt_of_lt_of_le hk h.size)]; exact h.blk k hk hO
  · rw [cell_alloc w _ (Nat.ne_of_lt (Nat.lt_of_lt_of_le hk h.size))]; exact h.cell k off hk hO
  · rw [frz_alloc w _ (Nat.ne_of_lt (Nat.lt_of_lt_of_le hk h.size))]; exact h.frz k off hk
  · rcases row k so hk with ⟨rfl, rfl⟩ | ⟨hlt, h1⟩
    · simp [SO.len] at hj
    · rw [hρ k hlt]; exact h.fresh k so h1 hw j hj
  · refine ⟨fun k es2 c2 hk => ?_, fun k es2 c2 hk => ?_, fun k j ei ci ej cj hk hj hkj => ?_⟩
    · rcases row k _ hk with ⟨rfl, e⟩ | ⟨hlt, h1⟩
      · cases e
        rw [upd_same]
        show (w.heap.push _)[w.heap.size]? = _
        exact Array.getElem?_push_size
      · rw [hρ k hlt, hold _ (dict_lt (h.dict.at_ k es2 c2 h1))]
        exact h.dict.at_ k es2 c2 h1
    · rcases row k _ hk with ⟨rfl, e⟩ | ⟨hlt, h1⟩
      · rw [upd_same]; exact .inr h.size
      · rw [hρ k hlt]; exact h.dict.own k es2 c2 h1
    · rcases row k _ hk with ⟨rfl, e⟩ | ⟨hlt, h1⟩
      · rcases row j _ hj with ⟨rfl, e'⟩ | ⟨hlt', h2⟩
        · exact absurd rfl hkj
        · rw [upd_same, hρ j hlt']
          exact Nat.ne_of_gt (dict_lt (h.dict.at_ j ej cj h2))
      · rcases row j _ hj with ⟨rfl, e'⟩ | ⟨hlt', h2⟩
        · rw [upd_same, hρ k hlt]
          exact Nat.ne_of_lt (dict_lt (h.dict.at_ k ei ci h1))
        · rw [hρ k hlt, hρ j hlt']; exact h.dict.sep k j ei ci ej cj h1 h2 hkj
end

/-! ### The operations -/
def mkmK (o : Oper) (K : Prop) : Prop := match o.op with
  | .makeMap t none => K
  | _ => False
theorem OpL.mkm {P : Program} {o : Oper} {F : Fr} {H : Hp} {u : Nat} {K : SV → Hp → Nat → Prop} (h : mkmK o (K (.map u) ((u, .dict [] 0) :: H) (u + 1))) : OpL P o F H u K := by
  unfold mkmK at h
  split at h
  · rename_i t ho
    refine ⟨OpSem.turn fun w0 O ρ a w ha hs => ?_⟩
    exact ⟨.map u, (u, .dict [] 0) :: H, u + 1, upd ρ u (w.heap.size, 0), w.alloc (.map #[] 0), by simp [execOp, ho, Instr.makeMap, SV.val, upd_same], Nat.le_succ u, agree_upd ρ u _, Nat.lt_succ_self u, hs.newD [] 0, h⟩
  · exact h.elim

/-- A map, and what it holds. -/
def mapK (v : SV) (H : Hp) (k : Nat → List MapEntry → Nat → Prop) : Prop := match v with
  | .map i => (match look H i with | some (.dict es c) => k i es c | _ => False)
  | _ => False
theorem mapK_out {v : SV} {H : Hp} {k : Nat → List MapEntry → Nat → Prop} (h : mapK v H k) : ∃ i es c, v = .map i ∧ look H i = some (.dict es c) ∧ k i es c := by
  unfold mapK at h
  split at h
  · split at h
    · exact ⟨_, _, _, rfl, by assumption, h⟩
    · exact h.elim
  · exact h.elim

/-! #### A look-up -/
structure LkpL (P : Program) (kt vt : TypeId) (es : List MapEntry) (vi : SV) (ok : Bool) (K : SV → Prop) : Prop where
  out : ∃ (r : SV) (f : Option (Nat × Value)), K r ∧ r.ok 0 = true ∧ (∀ ρ w, (Instr.checkKey es.isEmpty 10000 kt (vi.val ρ)).run P w = .ok () w ∧ (Instr.findKey kt (vi.val ρ) es).run P w = .ok f w) ∧
    (match f with | some (_, v) => r.val zenv = (match ok with | true => .tuple #[v, .bool true] | false => v) | none => ∃ z, (∀ w, (zeroValue vt).run P w = .ok z w) ∧ r.val zenv = (match ok with | true => .tuple #[z, .bool false] | false => z))
def lkpK (P : Program) (tab : Tab) (o : Oper) (F : Fr) (H : Hp) (K : SV → Prop) : Prop := match o.op with
  | .lookup t x ix ok => tabK tab t fun ti => (match ti.desc with
    | .map kt vt => evK F x fun vx => evK F ix fun vi => (match vx with
      | .nilMap => LkpL P kt vt [] vi ok K
      | vx => mapK vx H fun _ es _ => LkpL P kt vt es vi ok K)
    | _ => False)
  | _ => False
theorem VL.lkp {P : Program} {tab : Tab} (hP : TabOk P tab) {o : Oper} {F : Fr} {H : Hp} {K : SV → Prop} (h : lkpK P tab o F H K) : VL P o F H K := by
  unfold lkpK at h
  split at h
  · rename_i t x ix ok ho
    obtain ⟨ti, ht, h1⟩ := tabK_out hP h
    have hu := ht.und
    split at h1
    · rename_i kt vt hd
      rw [hd] at hu
      obtain ⟨vx, h2, hx⟩ := evK_out h1
      obtain ⟨vi, h3, hi⟩ := evK_out h2
      split at h3
      · obtain ⟨r, f, k, hr, hk, hf⟩ := (h3 : LkpL _ _ _ _ _ _ _).out
        refine ⟨r, k, fun w0 O N ρ a w H2 ha hsub hs => ⟨?_, closed_In hr _⟩⟩
        have e1 : a.eval x = .map none := (hx N ρ a ha).1
        have e3 := (hi N ρ a ha).1
        obtain ⟨g1, g2⟩ := hk ρ w
        have g1 : (Instr.checkKey true 10000 kt (vi.val ρ)).run P w = .ok () w := g1
        rw [closed_val hr ρ]
        simp only [execOp, ho, Instr.lookup, Sem.run_bind, run_underlying hu, Result.andThen_ok, e1, e3, Sem.run_pure, Array.isEmpty_empty, g1, g2]
        cases f with
        | some p => obtain ⟨i, v⟩ := p; cases ok <;> simp_all
        | none => obtain ⟨z, hz, hrz⟩ := hf; cases ok <;> simp_all
      · obtain ⟨i, es, c, rfl, hlk, h4⟩ := mapK_out h3
        obtain ⟨r, f, k, hr, hk, hf⟩ := (h4 : LkpL _ _ _ _ _ _ _).out
        refine ⟨r, k, fun w0 O N ρ a w H2 ha hsub hs => ⟨?_, closed_In hr _⟩⟩
        obtain ⟨e1, hN⟩ := hx N ρ a ha
        have e1 : a.eval x = .map (some (ρ i).1) := e1
        have e3 := (hi N ρ a ha).1
        have hobj := hs.dict.at_ i es c (hsub i _ hlk hN)
        obtain ⟨g1, g2⟩ := hk ρ w
        have hemp : es.toArray.isEmpty = es.isEmpty := by simp
        rw [closed_val hr ρ]
        simp only [execOp, ho, Instr.lookup, Sem.run_bind, run_underlying hu, Result.andThen_ok, e1, e3, Go.MapKept.run_getObj_map hobj, Sem.run_pure, hemp, g1, g2]
        cases f with
        | some p => obtain ⟨i, v⟩ := p; cases ok <;> simp_all
        | none => obtain ⟨z, hz, hrz⟩ := hf; cases ok <;> simp_all
    · exact h1.elim
  · exact h.elim
section
variable {κ : Type} [DecidableEq κ] {ν : Type} {P : Program} {kt vt : TypeId} {kv : κ → Value} {vv : ν → Value} {D : List (κ × ν × Nat)} {vi : SV} {ok : Bool} {K : SV → Prop}
/-- It is there. -/
theorem LkpL.yes (T : KeyT P kt kv) (a : κ) (ha : ∀ ρ, vi.val ρ = kv a) {v : ν} (h : getD D a = some v) (r : SV) (hc : r.ok 0 = true) (hr : r.val zenv = (match ok with | true => .tuple #[vv v, .bool true] | false => vv v)) (k : K r) : LkpL P kt vt (ents kv vv D) vi ok K := by
  unfold getD at h
  obtain ⟨p, hp, rfl⟩ := Option.map_eq_some_iff.1 h
  exact ⟨r, some (p.1, vv p.2), k, hc, fun ρ w => by rw [ha]; exact ⟨T.chk _ a w, by rw [T.find vv a D w, hp]; rfl⟩, hr⟩
/-- It is not. -/
theorem LkpL.no (T : KeyT P kt kv) (a : κ) (ha : ∀ ρ, vi.val ρ = kv a) (h : getD D a = none) (z : Value) (hz : ∀ w, (zeroValue vt).run P w = .ok z w) (r : SV) (hc : r.ok 0 = true) (hr : r.val zenv = (match ok with | true => .tuple #[z, .bool false] | false => z)) (k : K r) : LkpL P kt vt (ents kv vv D) vi ok K := by
  have hp := findD_none.2 h
  exact ⟨r, Option.none, k, hc, fun ρ w => by rw [ha]; exact ⟨T.chk _ a w, by rw [T.find vv a D w, hp]; rfl⟩, z, hz, hr⟩
end

/-! #### An entry laid -/
structure UpdL (P : Program) (kt : TypeId) (es : List MapEntry) (c : Nat) (vk vx : SV) (K : List MapEntry → Nat → Prop) : Prop where
  out : ∃ (es' : List MapEntry) (c' : Nat) (f : Option (Nat × Value)), K es' c' ∧ ∀ ρ, Instr.sameBits 10000 (vk.val ρ) (vk.val ρ) = true ∧ (∀ w, (Instr.checkKey false 10000 kt (vk.val ρ)).run P w = .ok () w ∧ (Instr.findKey kt (vk.val ρ) es).run P w = .ok f w) ∧
    (match f with | some (i, _) => (es[i]?).map (·.key) = some (vk.val ρ) ∧ es' = es.modify i (fun e => { e with key := vk.val ρ, val := vx.val ρ }) ∧ c' = c | none => es' = es ++ [⟨vk.val ρ, vx.val ρ, c⟩] ∧ c' = c + 1)
def updK (P : Program) (tab : Tab) (o : Oper) (F : Fr) (H : Hp) (u : Nat) (K : SV → Hp → Nat → Prop) : Prop := match o.op with
  | .mapUpdate t m k x => tabK tab t fun ti => (match ti.desc with
    | .map kt vt => evK F m fun vm => evK F k fun vk => evK F x fun vx => mapK vm H fun i es c => UpdL P kt es c vk vx fun es' c' => K .undef ((i, .dict es' c') :: H) u
    | _ => False)
  | _ => False
theorem OpL.upd {P : Program} {tab : Tab} (hP : TabOk P tab) {o : Oper} {F : Fr} {H : Hp} {u : Nat} {K : SV → Hp → Nat → Prop} (h : updK P tab o F H u K) : OpL P o F H u K := by
  unfold updK at h
  split at h
  · rename_i t m k x ho
    obtain ⟨ti, ht, h1⟩ := tabK_out hP h
    have hu := ht.und
    split at h1
    · rename_i kt vt hd
      rw [hd] at hu
      obtain ⟨vm, h2, hm⟩ := evK_out h1
      obtain ⟨vk, h3, hk⟩ := evK_out h2
      obtain ⟨vx, h4, hx⟩ := evK_out h3
      obtain ⟨i, es, c, rfl, hlk, h5⟩ := mapK_out h4
      obtain ⟨es', c', f, kk, hf⟩ := (h5 : UpdL _ _ _ _ _ _ _).out
      refine ⟨OpSem.skip fun w0 O ρ a w ha hs => ⟨(i, .dict es' c') :: H, _, ?_, hs.setD hlk es' c', kk⟩⟩
      have e1 : a.eval m = .map (some (ρ i).1) := (hm _ ρ a ha).1
      have e2 := (hk _ ρ a ha).1
      have e3 := (hx _ ρ a ha).1
      have hobj := hs.dict.at_ i es c hlk
      obtain ⟨hsame, g, hfe⟩ := hf ρ
      obtain ⟨g1, g2⟩ := g w
      simp only [execOp, ho, Instr.mapUpdate, Sem.run_bind, run_underlying hu, Result.andThen_ok, e1, e2, e3, Go.MapKept.run_getObj_map hobj, g1, g2]
      rcases f with _ | ⟨j, y⟩
      · obtain ⟨rfl, rfl⟩ := hfe
        simp only [Go.MapKept.run_setObj_map _ hobj, List.push_toArray]
        rfl
      · obtain ⟨hj, rfl, rfl⟩ := hfe
        have hj' : ((es.toArray[j]?).map (·.key)).getD (vk.val ρ) = vk.val ρ := by simp [hj]
        simp only [hj', Instr.keyThatStays, hsame, if_true, Sem.run_bind, Sem.run_pure, Result.andThen_ok, Go.MapKept.run_setObj_map _ hobj]
        simp
    · exact h1.elim
  · exact h.elim
section
variable {κ : Type} [DecidableEq κ] {ν : Type} {P : Program} {kt vt : TypeId} {kv : κ → Value} {vv : ν → Value} {D : List (κ × ν × Nat)}
theorem UpdL.set (T : KeyT P kt kv) {c : Nat} {vk vx : SV} {K : List MapEntry → Nat → Prop} (a : κ) (ha : ∀ ρ, vk.val ρ = kv a) (v : ν) (hv : ∀ ρ, vx.val ρ = vv v) (k : K (ents kv vv (setD a v c D)) (tickD D a c)) : UpdL P kt (ents kv vv D) c vk vx K := by
  refine ⟨_, _, (findD a D 0).map fun p => (p.1, vv p.2), k, fun ρ => ⟨by rw [ha]; exact T.same a, fun w => by rw [ha]; exact ⟨T.chk _ a w, T.find vv a D w⟩, ?_⟩⟩
  unfold tickD
  cases hf : findD a D 0 with
  | none =>
    rw [ha, hv]
    exact ⟨set_new v c hf, rfl⟩
  | some p =>
    obtain ⟨i, y⟩ := p
    obtain ⟨h1, h2⟩ := set_old (kv := kv) (vv := vv) v c hf
    rw [ha, hv]
    exact ⟨h2, h1, rfl⟩
end

/-! #### An entry taken out -/
structure DelL (P : Program) (kt : TypeId) (es : List MapEntry) (vk : SV) (K : List MapEntry → Prop) : Prop where
  out : ∃ (es' : List MapEntry) (f : Option (Nat × Value)), K es' ∧ (∀ ρ w, (Instr.checkKey es.isEmpty 10000 kt (vk.val ρ)).run P w = .ok () w ∧ (Instr.findKey kt (vk.val ρ) es).run P w = .ok f w) ∧
    (match f with | some (i, _) => es' = es.eraseIdx i | none => es' = es)
def dltK (P : Program) (tab : Tab) (o : Oper) (F : Fr) (H : Hp) (u : Nat) (K : SV → Hp → Nat → Prop) : Prop := match o.op with
  | .call c => (match c.callee with
    | .builtin .delete => (match c.args.toList, c.argTypes.toList with
      | [m, k], [t, _] => tabK tab t fun ti => (match ti.desc with
        | .map kt vt => evK F m fun vm => evK F k fun vk => mapK vm H fun i es c => DelL P kt es vk fun es' => K (.tup []) ((i, .dict es' c) :: H) u
        | _ => False)
      | _, _ => False)
    | _ => False)
  | _ => False
theorem OpL.dlt {P : Program} {tab : Tab} (hP : TabOk P tab) {o : Oper} {F : Fr} {H : Hp} {u : Nat} {K : SV → Hp → Nat → Prop} (h : dltK P tab o F H u K) : OpL P o F H u K := by
  unfold dltK at h
  split at h
  · rename_i cl ho
    split at h
    · rename_i hcal
      split at h
      · rename_i m k t t' hargs htys
        obtain ⟨ti, ht, h1⟩ := tabK_out hP h
        have hu := ht.und
        split at h1
        · rename_i kt vt hd
          rw [hd] at hu
          obtain ⟨vm, h2, hm⟩ := evK_out h1
          obtain ⟨vk, h3, hk⟩ := evK_out h2
          obtain ⟨i, es, c, rfl, hlk, h5⟩ := mapK_out h3
          obtain ⟨es', f, kk, hf, hfe⟩ := (h5 : DelL _ _ _ _ _).out
          refine ⟨OpSem.turn fun w0 O ρ a w ha hs => ⟨.tup [], (i, .dict es' c) :: H, u, ρ, _, ?_, Nat.le_refl _, fun _ _ => rfl, trivial, hs.setD hlk es' c, kk⟩⟩
          have a1 : cl.args = #[m, k] := by apply Array.ext'; simpa using hargs
          have a2 : cl.argTypes = #[t, t'] := by apply Array.ext'; simpa using htys
          have e1 : a.eval m = .map (some (ρ i).1) := (hm _ ρ a ha).1
          have e2 := (hk _ ρ a ha).1
          have hobj := hs.dict.at_ i es c hlk
          obtain ⟨g1, g2⟩ := hf ρ w
          have hemp : es.toArray.isEmpty = es.isEmpty := by simp
          have hdel : (Builtin.delete_ #[t, t'] o.type #[a.eval m, a.eval k]).run P w = .ok (.tuple #[]) { w with heap := w.heap.setIfInBounds (ρ i).1 (.map es'.toArray c) } := by
            unfold Builtin.delete_
            simp only [e1, e2, List.getElem?_toArray, List.getElem?_cons_zero, List.getElem?_cons_succ, Sem.run_bind, run_underlying hu, Result.andThen_ok, Go.MapKept.run_getObj_map hobj, hemp, g1, g2]
            rcases f with _ | ⟨j, y⟩
            · subst hfe
              simp only [Sem.run_bind, Go.MapKept.run_setObj_map _ hobj, Result.andThen_ok, Sem.run_pure]
            · subst hfe
              have he : es.toArray.eraseIdxIfInBounds j = (es.eraseIdx j).toArray := by simp
              simp only [he, Sem.run_bind, Go.MapKept.run_setObj_map _ hobj, Result.andThen_ok, Sem.run_pure]
          simp only [execOp, ho, resolve, hcal, invoke, builtin, Sem.run_bind, Sem.run_pure, Result.andThen_ok, a1, a2, List.map_toArray, List.map_cons, List.map_nil, hdel]
          rfl
        · exact h1.elim
      · exact h.elim
    · exact h.elim
  · exact h.elim
section
variable {κ : Type} [DecidableEq κ] {ν : Type} {P : Program} {kt vt : TypeId} {kv : κ → Value} {vv : ν → Value} {D : List (κ × ν × Nat)}
theorem DelL.del (T : KeyT P kt kv) {vk : SV} {K : List MapEntry → Prop} (a : κ) (ha : ∀ ρ, vk.val ρ = kv a) (k : K (ents kv vv (delD a D))) : DelL P kt (ents kv vv D) vk K := by
  refine ⟨_, (findD a D 0).map fun p => (p.1, vv p.2), k, fun ρ w => by rw [ha]; exact ⟨T.chk _ a w, T.find vv a D w⟩, ?_⟩
  cases hf : findD a D 0 with
  | none => rw [del_new (kv := kv) (vv := vv) hf]; rfl
  | some p => exact del_old hf
end

/-! #### How many -/
def lenK (tab : Tab) (o : Oper) (F : Fr) (H : Hp) (K : SV → Prop) : Prop := match o.op with
  | .call c => (match c.callee with
    | .builtin .len => (match c.args.toList, c.argTypes.toList with
      | [m], [t] => tabK tab t fun ti => (match ti.desc with
        | .map kt vt => evK F m fun vm => (match vm with | .nilMap => K (.int .i64 0) | vm => mapK vm H fun i es c => K (.int .i64 (es.length : Nat)))
        | _ => False)
      | _, _ => False)
    | _ => False)
  | _ => False
end Go.Sh
