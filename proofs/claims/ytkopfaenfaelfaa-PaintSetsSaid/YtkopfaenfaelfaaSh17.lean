import Derived.Test.YtkopfaenfaelfaaSh16
import Derived.DeepKeys
import Derived.Laws.StructEq
/- Equality of arrays and structs. -/
set_option linter.unusedVariables false
namespace Go.Sh
open Go.RowKit

abbrev RunT := (Bool → Prop) → Prop
abbrev EqT := TypeId → List SV → List SV → (Bool → Prop) → Prop
def eqOneK (g : EqT) (tab : Tab) (xs ys : List SV) (off : Nat) (e : TypeId) (k : Bool → Prop) : Prop := tabK tab e fun ei => takeK xs off ei.size fun l => takeK ys off ei.size fun l' => g e l l' k
def eqRunC (g : EqT) (tab : Tab) (xs ys : List SV) (p : Nat × TypeId) (r : List (Nat × TypeId)) (ih : RunT) : RunT := fun k => match r with
  | [] => eqOneK g tab xs ys p.1 p.2 k
  | _ :: _ => eqOneK g tab xs ys p.1 p.2 fun b => ih fun b' => k (b && b')
def eqRunK (g : EqT) (tab : Tab) (xs ys : List SV) (l : List (Nat × TypeId)) : RunT :=
  List.rec (motive := fun _ => RunT) (fun k => k true) (fun p r ih => eqRunC g tab xs ys p r ih) l

def rngK (size : Nat) (e : TypeId) : Nat → Nat → List (Nat × TypeId)
  | 0, _ => []
  | n + 1, i => (i * size, e) :: rngK size e n (i + 1)
def fldK : List Field → List (Nat × TypeId)
  | [] => []
  | f :: r => (f.offset, f.type) :: fldK r
def noBlank (fs : List Field) : Bool := fs.all fun f => f.name != "_"

def eqTC (P : Program) (tab : Tab) (ih : EqT) : EqT := fun t xs ys k => tabK tab t fun ti => match ti.desc with
    | .int _ => (match xs, ys with
      | [.int q a], [.int q' b] => (match q == q' with | true => k (decide (a = b)) | false => False)
      | _, _ => False)
    | .bool => (match xs, ys with
      | [x], [y] => boolK x fun a => boolK y fun b => k (a == b)
      | _, _ => False)
    | .array n e => tabK tab e fun ei => eqRunK ih tab xs ys (rngK ei.size e n 0) k
    | .struct fs => Needs (noBlank fs.toList = true ∧ P.stoodInHeld t = false) (eqRunK ih tab xs ys (fldK fs.toList) k)
    | _ => False
def eqTK (P : Program) (tab : Tab) (f : Nat) : EqT := Nat.rec (motive := fun _ => EqT) (fun _ _ _ _ => False) (fun _ ih => eqTC P tab ih) f

def mkV (agg : Bool) (l : List Value) : Value := match agg with | true => .agg l.toArray | false => l.headD Go.undef

/-- What the look says of two values of one type. -/
def EqS (P : Program) (f : Nat) (t : TypeId) (xs ys : List SV) (b : Bool) : Prop :=
  ∀ ti, TIok P t ti → (ti.agg = false → ∃ x y, xs = [x] ∧ ys = [y]) ∧ ∀ w ρ d, f ≤ d → (Op.equalIn d t (mkV ti.agg (SV.vals ρ xs)) (mkV ti.agg (SV.vals ρ ys))).run P w = .ok b w

theorem TIok.same {P : Program} {t : TypeId} {ti tj : TI} (h : TIok P t ti) (g : TIok P t tj) : ti.desc = tj.desc ∧ ti.size = tj.size := by
  obtain ⟨i, z, h1, h2, _⟩ := h.inf
  obtain ⟨j, z', g1, g2, _⟩ := g.inf
  rw [h1] at g1; injection g1 with g1; subst g1
  have := h.und
  rw [g.und] at this
  injection this with this
  exact ⟨this.symm, h2.symm.trans g2⟩

theorem run_part_of {P : Program} {e : TypeId} {ei : TI} (he : TIok P e ei) {xs l : List SV} {off : Nat} (hl : l = (xs.drop off).take ei.size) (hle : off + ei.size ≤ xs.length) (h1 : ei.agg = false → ∃ x, l = [x]) (w : World) (ρ : Env) :
    (part e (SV.vals ρ xs).toArray off).run P w = .ok (mkV ei.agg (SV.vals ρ l)) w := by
  simp only [part, Sem.run_bind, he.run_agg, Result.andThen_ok]
  cases hag : ei.agg
  · simp only [Bool.false_eq_true, if_false]
    obtain ⟨x, hx⟩ := h1 hag
    have hx' : xs[off]? = some x := by
      have : l[0]? = some x := by rw [hx]; rfl
      rw [hl, List.getElem?_take] at this
      split at this
      · simpa using this
      · cases this
    have : (SV.vals ρ xs).toArray[off]? = some (x.val ρ) := by simp [SV.vals_eq, hx']
    rw [this]
    simp [mkV, hx, SV.vals]
  · simp only [if_true, Sem.run_bind, he.run_size, Result.andThen_ok, Sem.run_pure, mkV]
    congr 2
    apply Array.ext'
    rw [hl]
    simp [SV.vals_eq, List.extract, List.map_take, List.map_drop]

theorem eqRunK_out {P : Program} {tab : Tab} (hP : TabOk P tab) {f : Nat} {g : EqT} (hg : ∀ t xs ys k, g t xs ys k → ∃ b, k b ∧ EqS P f t xs ys b) {xs ys : List SV} : ∀ {r : List (Nat × TypeId)} {k : Bool → Prop}, eqRunK g tab xs ys r k →
    ∃ b, k b ∧ (∀ e size is, r = is.map (fun i => (i * size, e)) → (∀ ei, TIok P e ei → ei.size = size) → P.cellsOf e = size → ∀ w ρ d, f ≤ d → (Op.eqItems d e size (SV.vals ρ xs).toArray (SV.vals ρ ys).toArray is).run P w = .ok b w) ∧
      (∀ fs, r = fldK fs → noBlank fs = true → ∀ w ρ d, f ≤ d → (Op.eqFields d (SV.vals ρ xs).toArray (SV.vals ρ ys).toArray fs).run P w = .ok b w) := by
  have one : ∀ {off e} {k : Bool → Prop}, (tabK tab e fun ei => takeK xs off ei.size fun l => takeK ys off ei.size fun l' => g e l l' k) → ∃ b, k b ∧ ∀ w ρ d, f ≤ d →
      ∃ va vb, (part e (SV.vals ρ xs).toArray off).run P w = .ok va w ∧ (part e (SV.vals ρ ys).toArray off).run P w = .ok vb w ∧ (Op.equalIn d e va vb).run P w = .ok b w := by
    intro off e k h
    obtain ⟨ei, he, h⟩ := tabK_out hP h
    obtain ⟨h1, h⟩ := takeK_out h
    obtain ⟨h2, h⟩ := takeK_out h
    obtain ⟨b, hk, hE⟩ := hg _ _ _ _ h
    obtain ⟨e1, e2⟩ := hE ei he
    exact ⟨b, hk, fun w ρ d hd => ⟨_, _, run_part_of he rfl h1 (fun ha => ⟨(e1 ha).choose, (e1 ha).choose_spec.choose_spec.1⟩) w ρ,
      run_part_of he rfl h2 (fun ha => ⟨(e1 ha).choose_spec.choose, (e1 ha).choose_spec.choose_spec.2⟩) w ρ, e2 w ρ d hd⟩⟩
  intro r
  induction r with
  | nil =>
    intro k h
    refine ⟨true, h, fun e size is hr _ _ w ρ d _ => ?_, fun fs hr _ w ρ d _ => ?_⟩
    · cases is with
      | nil => simp [Op.eqItems]
      | cons => simp at hr
    · cases fs with
      | nil => simp [Op.eqFields]
      | cons => simp [fldK] at hr
  | cons x r ih =>
    intro k h
    have fin : ∀ b b' : Bool, (∀ w ρ d, f ≤ d → ∃ va vb, (part x.2 (SV.vals ρ xs).toArray x.1).run P w = .ok va w ∧ (part x.2 (SV.vals ρ ys).toArray x.1).run P w = .ok vb w ∧ (Op.equalIn d x.2 va vb).run P w = .ok b w) →
        ((∀ e size is, r = is.map (fun i => (i * size, e)) → (∀ ei, TIok P e ei → ei.size = size) → P.cellsOf e = size → ∀ w ρ d, f ≤ d → (Op.eqItems d e size (SV.vals ρ xs).toArray (SV.vals ρ ys).toArray is).run P w = .ok b' w) ∧
      (∀ fs, r = fldK fs → noBlank fs = true → ∀ w ρ d, f ≤ d → (Op.eqFields d (SV.vals ρ xs).toArray (SV.vals ρ ys).toArray fs).run P w = .ok b' w)) →
        (∀ e size is, x :: r = is.map (fun i => (i * size, e)) → (∀ ei, TIok P e ei → ei.size = size) → P.cellsOf e = size → ∀ w ρ d, f ≤ d → (Op.eqItems d e size (SV.vals ρ xs).toArray (SV.vals ρ ys).toArray is).run P w = .ok (b && b') w) ∧
      (∀ fs, x :: r = fldK fs → noBlank fs = true → ∀ w ρ d, f ≤ d → (Op.eqFields d (SV.vals ρ xs).toArray (SV.vals ρ ys).toArray fs).run P w = .ok (b && b') w) := by
      rintro b b' hb ⟨hr1, hr2⟩
      refine ⟨fun e size is hr hs hc w ρ d hd => ?_, fun fs hr hn w ρ d hd => ?_⟩
      · cases is with
        | nil => simp at hr
        | cons i is =>
          simp only [List.map_cons, List.cons.injEq] at hr
          obtain ⟨rfl, hr⟩ := hr
          obtain ⟨va, vb, q1, q2, q3⟩ := hb w ρ d hd
          simp only [Op.eqItems, Sem.run_bind, q1, q2, q3, Result.andThen_ok]
          cases b
          · simp
          · simpa using hr1 e size is hr hs hc w ρ d hd
      · cases fs with
        | nil => simp [fldK] at hr
        | cons fd fs =>
          simp only [fldK, List.cons.injEq] at hr
          obtain ⟨rfl, hr⟩ := hr
          simp only [noBlank, List.all_cons, Bool.and_eq_true, bne_iff_ne] at hn
          obtain ⟨va, vb, q1, q2, q3⟩ := hb w ρ d hd
          simp only [Op.eqFields, hn.1, ne_eq, not_false_eq_true, if_true, Sem.run_bind, q1, q2, q3, Result.andThen_ok]
          cases b
          · simp
          · simpa using hr2 fs hr hn.2 w ρ d hd
    cases r with
    | nil =>
      obtain ⟨off, e⟩ := x
      obtain ⟨b, hk, hb⟩ := one h
      have := fin b true hb (by
        obtain ⟨b', hb', q1, q2⟩ := ih (k := fun b => b = true) rfl
        subst hb'
        exact ⟨q1, q2⟩)
      rw [Bool.and_true] at this
      exact ⟨b, hk, this⟩
    | cons y r =>
      obtain ⟨off, e⟩ := x
      obtain ⟨b, hk, hb⟩ := one h
      obtain ⟨b', hk', hb'⟩ := ih hk
      exact ⟨b && b', hk', fin b b' hb hb'⟩

theorem rngK_eq (size : Nat) (e : TypeId) : ∀ n i, rngK size e n i = (List.range' i n).map fun i => (i * size, e)
  | 0, i => rfl
  | n + 1, i => by rw [rngK, rngK_eq size e n (i + 1)]; rfl

theorem eqTK_out {P : Program} {tab : Tab} (hP : TabOk P tab) : ∀ (f : Nat) (t : TypeId) (xs ys : List SV) (k : Bool → Prop), eqTK P tab f t xs ys k → ∃ b, k b ∧ EqS P f t xs ys b
  | 0, t, xs, ys, k, h => h.elim
  | f + 1, t, xs, ys, k, h => by
    obtain ⟨ti, ht, h⟩ := tabK_out hP h
    have red : ∀ b, ((ti.agg = false → ∃ x y, xs = [x] ∧ ys = [y]) ∧ ∀ w ρ d, f ≤ d → (Op.equalIn (d + 1) t (mkV ti.agg (SV.vals ρ xs)) (mkV ti.agg (SV.vals ρ ys))).run P w = .ok b w) → EqS P (f + 1) t xs ys b := fun b hb tj hj => by
      have hag : tj.agg = ti.agg := by simp only [TI.agg, (hj.same ht).1]
      rw [hag]
      refine ⟨hb.1, fun w ρ d hd => ?_⟩
      obtain ⟨d, rfl⟩ : ∃ e, d = e + 1 := ⟨d - 1, by omega⟩
      exact hb.2 w ρ d (by omega)
    have hu := ht.und
    split at h
    · rename_i q hq
      have hag : ti.agg = false := by simp [TI.agg, hq]
      split at h
      · obtain ⟨e, h'⟩ := beqK h
        subst e
        refine ⟨_, h', red _ ⟨fun _ => ⟨_, _, rfl, rfl⟩, fun w ρ d _ => ?_⟩⟩
        rw [hag]
        simp only [mkV, SV.vals, SV.val, List.headD_cons]
        rw [hq] at hu
        simp [Op.equalIn, run_underlying hu]
        exact Bool.beq_eq_decide_eq _ _
      · exact h.elim
    · rename_i hq
      have hag : ti.agg = false := by simp [TI.agg, hq]
      split at h
      · rename_i x y
        obtain ⟨a, h, hx⟩ := boolK_out h
        obtain ⟨b, h, hy⟩ := boolK_out h
        refine ⟨_, h, red _ ⟨fun _ => ⟨_, _, rfl, rfl⟩, fun w ρ d _ => ?_⟩⟩
        rw [hag]
        simp only [mkV, SV.vals, List.headD_cons, hx, hy]
        rw [hq] at hu
        simp [Op.equalIn, run_underlying hu]
      · exact h.elim
    · rename_i n e hq
      have hag : ti.agg = true := by simp [TI.agg, hq]
      obtain ⟨ei, he, h⟩ := tabK_out hP h
      obtain ⟨b, hk, hb, _⟩ := eqRunK_out hP (eqTK_out hP f) h
      refine ⟨b, hk, red _ ⟨fun h => (by rw [hag] at h; cases h), fun w ρ d hd => ?_⟩⟩
      rw [hag]
      rw [hq] at hu
      obtain ⟨i, z, hi, hsz, _⟩ := he.inf
      have hc : P.cellsOf e = ei.size := by simp [Program.cellsOf, hi, hsz]
      simp only [mkV]
      rw [run_equalIn_array w d _ _ hu hi, hc]
      refine hb e ei.size (List.range n) ?_ (fun ej hj => (hj.same he).2) hc w ρ d hd
      rw [rngK_eq, List.range_eq_range']
    · rename_i fs hq
      have hag : ti.agg = true := by simp [TI.agg, hq]
      obtain ⟨⟨h1, h2⟩, h⟩ := (h : Needs _ _)
      obtain ⟨b, hk, _, hb⟩ := eqRunK_out hP (eqTK_out hP f) h
      refine ⟨b, hk, red _ ⟨fun h => (by rw [hag] at h; cases h), fun w ρ d hd => ?_⟩⟩
      rw [hag]
      rw [hq] at hu
      have hfs : P.fieldsOf t = fs := by simp [Program.fieldsOf, hu]
      simp only [mkV]
      rw [run_equalIn_struct w d t _ _ (by rw [hfs]; exact hu) h2, hfs]
      exact hb fs.toList rfl h1 w ρ d hd
    · exact h.elim

end Go.Sh
