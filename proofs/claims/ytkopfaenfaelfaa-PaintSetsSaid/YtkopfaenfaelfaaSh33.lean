import Derived.Test.YtkopfaenfaelfaaSh32
import Derived.MapKept
/- Maps, as rows: made, looked up, laid, shortened, counted. -/
set_option linter.unusedVariables false
namespace Go.Sh
open Go.RowKit Go.MapKept

/-! ### Plain -/
section
variable {κ : Type} [DecidableEq κ] {ν : Type}
def findD (a : κ) : List (κ × ν × Nat) → Nat → Option (Nat × ν)
  | [], _ => none
  | x :: r, i => if x.1 = a then some (i, x.2.1) else findD a r (i + 1)
def getD (D : List (κ × ν × Nat)) (a : κ) : Option ν := (findD a D 0).map (·.2)
def setD (a : κ) (v : ν) (c : Nat) : List (κ × ν × Nat) → List (κ × ν × Nat)
  | [] => [(a, v, c)]
  | x :: r => if x.1 = a then (a, v, x.2.2) :: r else x :: setD a v c r
def tickD (D : List (κ × ν × Nat)) (a : κ) (c : Nat) : Nat := match findD a D 0 with | some _ => c | none => c + 1
def delD (a : κ) : List (κ × ν × Nat) → List (κ × ν × Nat)
  | [] => []
  | x :: r => if x.1 = a then r else x :: delD a r
def ents (kv : κ → Value) (vv : ν → Value) (D : List (κ × ν × Nat)) : List MapEntry := D.map fun x => ⟨kv x.1, vv x.2.1, x.2.2⟩
theorem findD_shift (a : κ) : ∀ (D : List (κ × ν × Nat)) (i : Nat), findD a D i = (findD a D 0).map fun p => (p.1 + i, p.2)
  | [], i => rfl
  | x :: r, i => by
    unfold findD
    split
    · simp
    · rw [findD_shift a r (i + 1), findD_shift a r (0 + 1)]
      cases findD a r 0 <;> simp; omega
theorem findD_cons (a : κ) (x : κ × ν × Nat) (r : List (κ × ν × Nat)) : findD a (x :: r) 0 = if x.1 = a then some (0, x.2.1) else (findD a r 0).map fun p => (p.1 + 1, p.2) := by
  rw [findD, findD_shift a r (0 + 1)]
theorem getD_cons (a : κ) (x : κ × ν × Nat) (r : List (κ × ν × Nat)) : getD (x :: r) a = if x.1 = a then some x.2.1 else getD r a := by
  unfold getD
  rw [findD_cons]
  split
  · rfl
  · cases findD a r 0 <;> rfl
theorem getD_nil (a : κ) : getD ([] : List (κ × ν × Nat)) a = none := rfl
theorem getD_set (a b : κ) (v : ν) (c : Nat) : ∀ D : List (κ × ν × Nat), getD (setD a v c D) b = if a = b then some v else getD D b
  | [] => by rw [setD, getD_cons]
  | x :: r => by
    rw [setD]
    split
    · rename_i e
      rw [getD_cons, getD_cons]
      by_cases h : a = b
      · rw [if_pos h, if_pos h]
      · rw [if_neg h, if_neg h, if_neg (by rw [e]; exact h)]
    · rename_i e
      rw [getD_cons, getD_cons, getD_set a b v c r]
      by_cases h : x.1 = b
      · rw [if_pos h, if_pos h, if_neg (by intro g; exact e (h.trans g.symm))]
      · rw [if_neg h, if_neg h]
def keysD (D : List (κ × ν × Nat)) : List κ := D.map (·.1)
theorem keysD_set (a : κ) (v : ν) (c : Nat) : ∀ D : List (κ × ν × Nat), keysD (setD a v c D) = if a ∈ keysD D then keysD D else keysD D ++ [a]
  | [] => by simp [setD, keysD]
  | x :: r => by
    rw [setD]
    split
    · rename_i e; simp [keysD, e]
    · rename_i e
      have := keysD_set a v c r
      show x.1 :: keysD (setD a v c r) = _
      rw [this]
      by_cases h : a ∈ keysD r
      · rw [if_pos h, if_pos (show a ∈ keysD (x :: r) from List.mem_cons_of_mem _ h)]; rfl
      · rw [if_neg h, if_neg (show a ∉ keysD (x :: r) from fun g => (List.mem_cons.1 g).elim (fun g => e g.symm) h)]; rfl
theorem nodup_set {a : κ} {v : ν} {c : Nat} {D : List (κ × ν × Nat)} (h : (keysD D).Nodup) : (keysD (setD a v c D)).Nodup := by
  rw [keysD_set]
  split
  · exact h
  · rename_i e
    exact List.nodup_append.2 ⟨h, List.nodup_cons.2 ⟨by simp, .nil⟩, fun x hx y hy => by simp at hy; subst hy; intro g; subst g; exact e hx⟩
theorem keysD_del (a : κ) : ∀ D : List (κ × ν × Nat), (keysD (delD a D)).Sublist (keysD D)
  | [] => .refl _
  | x :: r => by
    rw [delD]
    split
    · exact .cons _ (.refl _)
    · exact .cons_cons _ (keysD_del a r)
theorem nodup_del {a : κ} {D : List (κ × ν × Nat)} (h : (keysD D).Nodup) : (keysD (delD a D)).Nodup := h.sublist (keysD_del a D)
theorem getD_none {a : κ} : ∀ {D : List (κ × ν × Nat)}, getD D a = none ↔ a ∉ keysD D
  | [] => by simp [getD_nil, keysD]
  | x :: r => by
    rw [getD_cons]
    have := getD_none (a := a) (D := r)
    by_cases e : x.1 = a
    · rw [if_pos e]; simp [keysD, e]
    · rw [if_neg e, this]; simp only [keysD, List.map_cons, List.mem_cons, not_or]
      exact ⟨fun h => ⟨fun g => e g.symm, h⟩, fun h => h.2⟩
theorem getD_del {a b : κ} : ∀ {D : List (κ × ν × Nat)}, (keysD D).Nodup → getD (delD a D) b = if a = b then none else getD D b
  | [], _ => by simp [delD, getD_nil]
  | x :: r, h => by
    have hx : x.1 ∉ keysD r := (List.nodup_cons.1 h).1
    have hr : (keysD r).Nodup := (List.nodup_cons.1 h).2
    rw [delD]
    split
    · rename_i e
      rw [getD_cons]
      by_cases g : a = b
      · rw [if_pos g, ← g, getD_none, ← e]; exact hx
      · rw [if_neg g, if_neg (by rw [e]; exact g)]
    · rename_i e
      rw [getD_cons, getD_cons, getD_del hr]
      by_cases g : x.1 = b
      · rw [if_pos g, if_pos g, if_neg (fun k => e (g.trans k.symm))]
      · rw [if_neg g, if_neg g]
theorem findD_none {a : κ} {D : List (κ × ν × Nat)} : findD a D 0 = none ↔ getD D a = none := by unfold getD; simp
theorem set_new {kv : κ → Value} {vv : ν → Value} {a : κ} (v : ν) (c : Nat) : ∀ {D : List (κ × ν × Nat)}, findD a D 0 = none → ents kv vv (setD a v c D) = ents kv vv D ++ [⟨kv a, vv v, c⟩]
  | [], _ => rfl
  | x :: r, h => by
    rw [findD_cons] at h
    split at h
    · cases h
    · rename_i e
      rw [setD, if_neg e]
      have := set_new (kv := kv) (vv := vv) v c (D := r) (by simpa using h)
      simp only [ents, List.map_cons, List.cons_append] at this ⊢
      rw [this]
theorem set_old {kv : κ → Value} {vv : ν → Value} {a : κ} (v : ν) (c : Nat) : ∀ {D : List (κ × ν × Nat)} {i : Nat} {y : ν}, findD a D 0 = some (i, y) → ents kv vv (setD a v c D) = (ents kv vv D).modify i (fun e => { e with key := kv a, val := vv v }) ∧ ((ents kv vv D)[i]?).map (·.key) = some (kv a)
  | [], i, y, h => by simp [findD] at h
  | x :: r, i, y, h => by
    rw [findD_cons] at h
    split at h
    · rename_i e
      injection h with h; injection h with h1 h2
      subst h1
      rw [setD, if_pos e]
      exact ⟨by simp [ents, List.modify_cons], by simp [ents, e]⟩
    · rename_i e
      cases hf : findD a r 0 with
      | none => rw [hf] at h; cases h
      | some p =>
        obtain ⟨j, z⟩ := p
        rw [hf] at h
        simp only [Option.map_some, Option.some.injEq, Prod.mk.injEq] at h
        obtain ⟨rfl, rfl⟩ := h
        obtain ⟨h1, h2⟩ := set_old (kv := kv) (vv := vv) v c hf
        rw [setD, if_neg e]
        simp only [ents, List.map_cons] at h1 h2 ⊢
        exact ⟨by rw [h1]; rfl, by simpa using h2⟩
theorem del_old {kv : κ → Value} {vv : ν → Value} {a : κ} : ∀ {D : List (κ × ν × Nat)} {i : Nat} {y : ν}, findD a D 0 = some (i, y) → ents kv vv (delD a D) = (ents kv vv D).eraseIdx i
  | [], i, y, h => by simp [findD] at h
  | x :: r, i, y, h => by
    rw [findD_cons] at h
    split at h
    · rename_i e
      injection h with h; injection h with h1 h2
      subst h1
      rw [delD, if_pos e]; rfl
    · rename_i e
      cases hf : findD a r 0 with
      | none => rw [hf] at h; cases h
      | some p =>
        obtain ⟨j, z⟩ := p
        rw [hf] at h
        simp only [Option.map_some, Option.some.injEq, Prod.mk.injEq] at h
        obtain ⟨rfl, rfl⟩ := h
        rw [delD, if_neg e]
        simp only [ents, List.map_cons, List.eraseIdx_cons_succ]
        rw [← ents, ← ents, del_old hf]
theorem del_new {kv : κ → Value} {vv : ν → Value} {a : κ} : ∀ {D : List (κ × ν × Nat)}, findD a D 0 = none → delD a D = D
  | [], _ => rfl
  | x :: r, h => by
    rw [findD_cons] at h
    split at h
    · cases h
    · rename_i e
      rw [delD, if_neg e, del_new (kv := kv) (vv := vv) (D := r) (by simpa using h)]

/-- The keys of a type. -/
structure KeyT (P : Program) (kt : TypeId) (kv : κ → Value) : Prop where
  chk : ∀ e a w, (Instr.checkKey e 10000 kt (kv a)).run P w = .ok () w
  find : ∀ {ν : Type} (vv : ν → Value) a (D : List (κ × ν × Nat)) w, (Instr.findKey kt (kv a) (ents kv vv D)).run P w = .ok ((findD a D 0).map fun p => (p.1, vv p.2)) w
  same : ∀ a, Instr.sameBits 10000 (kv a) (kv a) = true
end

/-! ### Numbers as keys -/
theorem KeyT.int {P : Program} {kt : TypeId} {q : IntKind} (hu : P.underlying kt = some (.int q)) : KeyT P kt (fun n : Int => Value.int q n) := by
  refine ⟨fun e a w => ?_, fun {ν} vv a D w => ?_, fun a => ?_⟩
  · rw [show (10000 : Nat) = 9999 + 1 from rfl, Instr.checkKey]
    simp [run_underlying hu]
  · have key : ∀ (D : List (Int × ν × Nat)) i, Instr.findNow (.int q) (.int q a) (ents (fun n : Int => Value.int q n) vv D) i = some ((findD a D i).map fun p => (p.1, vv p.2)) := fun D => by
      induction D with
      | nil => intro i; rfl
      | cons x r ih =>
        intro i
        show Instr.findNow (.int q) (.int q a) (⟨Value.int q x.1, vv x.2.1, x.2.2⟩ :: ents (fun n : Int => Value.int q n) vv r) i = _
        by_cases e : x.1 = a
        · simp [Instr.findNow, Instr.sameNow, findD, e]
        · have e' : ¬ a = x.1 := fun g => e g.symm
          simp only [Instr.findNow, Instr.sameNow, if_true, findD, if_neg e]
          rw [show (a == x.1) = false by simpa using e']
          exact ih (i + 1)
    exact run_findKey hu (key D 0)
  · rw [show (10000 : Nat) = 9999 + 1 from rfl, Instr.sameBits]; simp

/-! ### Pairs of numbers as keys -/
def pairV (q : IntKind) (p : Int × Int) : Value := .agg #[.int q p.1, .int q p.2]
theorem KeyT.pair {P : Program} {kt e1 : TypeId} {q : IntKind} {ei : TI} {f1 f2 : Field} (hu : P.underlying kt = some (.struct #[f1, f2])) (he : TIok P e1 ei) (hed : ei.desc = .int q) (t1 : f1.type = e1) (t2 : f2.type = e1) (o1 : f1.offset = 0) (o2 : f2.offset = 1) (n1 : (f1.name == "_") = false) (n2 : (f2.name == "_") = false)
    (heq : ∀ (a b : Int × Int) w, (Op.equal kt (pairV q a) (pairV q b)).run P w = .ok (decide (a = b)) w) : KeyT P kt (pairV q) := by
  have hue : P.underlying e1 = some (.int q) := by rw [← hed]; exact he.und
  have hag : ei.agg = false := by simp [TI.agg, hed]
  have hp0 : ∀ (p : Int × Int) w, (part f1.type #[.int q p.1, .int q p.2] f1.offset).run P w = .ok (.int q p.1) w := fun p w => by
    rw [t1, o1, run_part he, hag]; simp
  have hp1 : ∀ (p : Int × Int) w, (part f2.type #[.int q p.1, .int q p.2] f2.offset).run P w = .ok (.int q p.2) w := fun p w => by
    rw [t2, o2, run_part he, hag]; simp
  have n1 : ¬ f1.name = "_" := by simpa using n1
  have n2 : ¬ f2.name = "_" := by simpa using n2
  refine ⟨fun e a w => ?_, fun {ν} vv a D w => ?_, fun a => ?_⟩
  · have one : ∀ (t : TypeId) (x : Int) w, t = e1 → (Instr.checkKey e 9999 t (.int q x)).run P w = .ok () w := fun t x w ht => by
      subst ht
      rw [show (9999 : Nat) = 9998 + 1 from rfl, Instr.checkKey]
      simp [run_underlying hue]
    rw [show (10000 : Nat) = 9999 + 1 from rfl, Instr.checkKey]
    simp [run_underlying hu, pairV, n1, n2, hp0 a, hp1 a, one f1.type a.1 w t1, one f2.type a.2 w t2]
  · have ask : ∀ (D : List ((Int × Int) × ν × Nat)) i, (Instr.findAsking kt (pairV q a) (ents (pairV q) vv D) i).run P w = .ok ((findD a D i).map fun p => (p.1, vv p.2)) w := fun D => by
      induction D with
      | nil => intro i; simp [ents, Instr.findAsking, findD]
      | cons x r ih =>
        intro i
        show (Instr.findAsking kt (pairV q a) (⟨pairV q x.1, vv x.2.1, x.2.2⟩ :: ents (pairV q) vv r) i).run P w = _
        rw [Instr.findAsking]
        simp only [Sem.run_bind, heq, Result.andThen_ok]
        by_cases e : a = x.1
        · simp [e, findD]
        · have e' : ¬ x.1 = a := fun g => e g.symm
          simp only [decide_eq_false e, findD, if_neg e']
          exact ih (i + 1)
    unfold Instr.findKey
    simp only [Sem.run_bind, run_underlying hu, Result.andThen_ok]
    cases D with
    | nil => simp [ents, Instr.findNow, findD]
    | cons x r =>
      show (match Instr.findNow (.struct #[f1, f2]) (pairV q a) (⟨pairV q x.1, vv x.2.1, x.2.2⟩ :: ents (pairV q) vv r) 0 with | some r => pure r | none => Instr.findAsking kt (pairV q a) (ents (pairV q) vv (x :: r))).run P w = _
      have : Instr.findNow (.struct #[f1, f2]) (pairV q a) (⟨pairV q x.1, vv x.2.1, x.2.2⟩ :: ents (pairV q) vv r) 0 = none := by
        simp [Instr.findNow, Instr.sameNow]
      rw [this]
      exact ask (x :: r) 0
  · rw [show (10000 : Nat) = 9998 + 1 + 1 from rfl, pairV, Instr.sameBits]
    simp [Instr.sameBits]
end Go.Sh
