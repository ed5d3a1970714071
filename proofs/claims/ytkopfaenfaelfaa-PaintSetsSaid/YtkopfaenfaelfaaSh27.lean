import Derived.Test.YtkopfaenfaelfaaSh26
/- A law's parameter that is a slice of flat elements, opened; from a contract over it to the row. -/
set_option linter.unusedVariables false
namespace Go.Sh
open Go.RowKit Go.WideShapes Go.ChangeShapes

inductive Kd where
  | int (k : IntKind)
  | bool
def Kd.ok : Kd → Value → Prop
  | .int k, v => ∃ n, v = .int k n ∧ (Lit.int k n).wf = true
  | .bool, v => ∃ b, v = .bool b
def Fits : List Kd → List Value → Prop
  | [], [] => True
  | k :: r, v :: s => k.ok v ∧ Fits r s
  | _, _ => False
/-- A type whose values are ints and bools, cell by cell. -/
def FlatT (P : Program) (t : TypeId) (ks : List Kd) : Prop := ∀ {H : Type} {enc : TypeId × Value → H} {w : World} {base : Nat} {spare : Nat → Bool} {held : Bool} {fuel : Nat} {cs : List Value} {x : DataW H × List MemPlace},
  DataW.trod enc P w base spare held fuel t cs = some x → Fits ks cs
theorem FlatT.int {P : Program} {t : TypeId} {k : IntKind} (ht : P.underlying t = some (.int k)) : FlatT P t [.int k] := fun h => by
  obtain ⟨n, rfl, _, hw⟩ := DataW.trod_int ht h
  exact ⟨⟨n, rfl, hw⟩, trivial⟩
theorem FlatT.bool {P : Program} {t : TypeId} (ht : P.underlying t = some .bool) : FlatT P t [.bool] := fun h => by
  obtain ⟨b, rfl, _⟩ := DataW.trod_bool ht h
  exact ⟨⟨b, rfl⟩, trivial⟩
theorem fits_append : ∀ {a c : List Kd} {b d : List Value}, Fits a b → Fits c d → Fits (a ++ c) (b ++ d)
  | [], c, [], d, _, h => h
  | x :: a, c, y :: b, d, h1, h => ⟨h1.1, fits_append h1.2 h⟩
/-- The fields, one behind the other. -/
def FlatF (P : Program) (off : Nat) : List Field → List Kd → Prop
  | [], ks => ks = []
  | f :: r, ks => f.offset = off ∧ ∃ k1 k2, ks = k1 ++ k2 ∧ FlatT P f.type k1 ∧ P.cellsOf f.type = k1.length ∧ FlatF P (off + k1.length) r k2
theorem FlatT.struct {P : Program} {t : TypeId} {fs : Array Field} {ks : List Kd} (ht : P.underlying t = some (.struct fs)) (hc : P.cellsOf t = ks.length) (hf : FlatF P 0 fs.toList ks) : FlatT P t ks := by
  intro H enc w base spare held fuel cs x h
  obtain ⟨xs, n, rfl, rfl, hl, hxl, hx⟩ := DataW.trod_struct ht h
  have key : ∀ (l : List Field) (i off : Nat) (ks : List Kd), (∀ j f, l[j]? = some f → fs[i + j]? = some f) → FlatF P off l ks → off + ks.length = cs.length → Fits ks (cs.drop off) := by
    intro l
    induction l with
    | nil =>
      intro i off ks _ hF he
      have : ks = [] := hF
      subst this
      rw [List.drop_eq_nil_of_le (by simpa using Nat.le_of_eq he.symm)]
      exact trivial
    | cons f r ih =>
      intro i off ks hi hF he
      obtain ⟨h1, k1, k2, rfl, h2, h3, h4⟩ := hF
      have hf0 := hi 0 f rfl
      have hlt : i < xs.length := by
        rw [hxl]; exact (Array.getElem?_eq_some_iff.1 hf0).1
      have := hx i f hf0
      rw [h1, h3, List.getElem?_eq_getElem hlt] at this
      have g1 := h2 this
      have g2 := ih (i + 1) (off + k1.length) k2 (fun j f hj => by have := hi (j + 1) f (by simpa using hj); rwa [show i + 1 + j = i + (j + 1) by omega]) h4 (by simp at he; omega)
      have e : cs.drop off = (cs.drop off).take k1.length ++ cs.drop (off + k1.length) := by rw [← List.drop_drop, List.take_append_drop]
      rw [e]
      exact fits_append g1 g2
  have := key fs.toList 0 0 ks (fun j f hj => by rw [Nat.zero_add]; simpa using hj) hf (by rw [hl, hc, Nat.zero_add])
  simpa using this

theorem cells_add (b o i : Nat) : (⟨b, o, none⟩ : Addr).add i = ⟨b, o + i, none⟩ := add_at b o i

/-- A slice of flat elements. -/
theorem open_slice {H : Type} {enc : TypeId × Value → H} {P : Program} {w : World} {base b0 : Nat} {spare : Nat → Bool} {held : Bool} {r : Reach} {t e : TypeId} {v : Value} {d : DataW H} {ps : List MemPlace} {ks : List Kd}
    (ht : P.underlying t = some (.slice e)) (hk : FlatT P e ks) (hc : P.cellsOf e = ks.length) (hval : Value.okWide P w r b0 t v) (hd : DataW.Trod enc P w base spare held t v d ps) :
    ∃ (b : Bool) (blk off n c : Nat) (cells : List Value), v = slzV b ⟨blk, off, none⟩ n c ∧ n ≤ c ∧ (b = true → c = 0) ∧ n ≤ maxLen ∧ cells.length = n * ks.length ∧ (∀ j x, cells[j]? = some x → w.cell? ⟨blk, off + j, none⟩ = some x) ∧
      ∀ i, i < n → Fits ks ((cells.drop (i * ks.length)).take ks.length) := by
  obtain ⟨fuel, hf⟩ := hd
  have hcells : v.cells.toList = [v] := by
    cases v <;> simp [Value.okWide, Cell.okWide, Cell.ok, ht] at hval <;> rfl
  rw [hcells] at hf
  rcases DataW.trod_slice ht hf with ⟨h0, _⟩ | ⟨a, len, cap, elems, rest, n, rfl, h0, hx, hb, hl, hm, hel, hrow, _, _⟩
  · injection h0 with h0
    exact ⟨true, 0, 0, 0, 0, [], h0, Nat.le_refl _, fun _ => rfl, Nat.zero_le _, by simp, by simp, fun i hi => absurd hi (Nat.not_lt_zero _)⟩
  · injection h0 with h0
    subst h0
    have hs : a.spot = none := by
      simp only [Value.okWide, Cell.okWide, Cell.ok, ht] at hval
      exact hval.2.2.2.1
    obtain ⟨blk, off, spot⟩ := a
    simp only at hs
    subst hs
    have each : ∀ i, i < len → ∃ cs : List Value, cs.length = ks.length ∧ (∀ j, j < ks.length → w.cell? ⟨blk, off + (i * ks.length + j), none⟩ = cs[j]?) ∧ Fits ks cs := fun i hi => by
      have := hrow i hi
      rw [hc, List.getElem?_eq_getElem (by omega), Option.bind_eq_some_iff] at this
      obtain ⟨cs, h1, h2⟩ := this
      obtain ⟨_, h3, h4⟩ := World.cells?_some h1
      refine ⟨cs, h3, fun j hj => ?_, hk h2⟩
      rw [← h4 j hj, add_at, add_at, Nat.add_assoc]
    have all : ∀ m, m ≤ len → ∃ cells : List Value, cells.length = m * ks.length ∧ (∀ j x, cells[j]? = some x → w.cell? ⟨blk, off + j, none⟩ = some x) ∧ ∀ i, i < m → Fits ks ((cells.drop (i * ks.length)).take ks.length) := by
      intro m
      induction m with
      | zero => intro _; exact ⟨[], by simp, by simp, fun i hi => absurd hi (Nat.not_lt_zero _)⟩
      | succ m ih =>
        intro hm
        obtain ⟨cells, h1, h2, h3⟩ := ih (by omega)
        obtain ⟨cs, g1, g2, g3⟩ := each m (by omega)
        refine ⟨cells ++ cs, by simp [h1, g1, Nat.add_mul], fun j x hj => ?_, fun i hi => ?_⟩
        · by_cases c : j < cells.length
          · rw [List.getElem?_append_left c] at hj; exact h2 j x hj
          · rw [List.getElem?_append_right (by omega)] at hj
            have hlt := (List.getElem?_eq_some_iff.1 hj).1
            rw [h1] at hj hlt
            have := g2 (j - m * ks.length) (by omega)
            rw [hj] at this
            rw [← this]; congr 2; omega
        · by_cases e : i < m
          · have hle : i * ks.length + ks.length ≤ cells.length := by
              rw [h1, ← Nat.succ_mul]; exact Nat.mul_le_mul_right _ e
            rw [List.drop_append_of_le_length (by omega), List.take_append_of_le_length (by simp; omega)]
            exact h3 i e
          · have : i = m := by omega
            subst this
            rw [← h1, List.drop_left, List.take_of_length_le (by omega)]
            exact g3
    obtain ⟨cells, h1, h2, h3⟩ := all len (Nat.le_refl _)
    exact ⟨false, blk, off, len, cap, cells, rfl, hl, fun h => (by cases h), Nat.le_trans hl hm, h1, h2, h3⟩

/-- The elements, one by one. -/
theorem rows_of {α : Type} (enc : α → List Value) (good : α → Prop) {L : Nat} : ∀ {n : Nat} {cells : List Value}, cells.length = n * L → (∀ i, i < n → ∃ a, (cells.drop (i * L)).take L = enc a ∧ good a) → ∃ A : List α, A.length = n ∧ cells = A.flatMap enc ∧ ∀ a ∈ A, good a
  | 0, cells, hl, _ => ⟨[], rfl, by simpa using List.length_eq_zero_iff.1 (by simpa using hl), by simp⟩
  | n + 1, cells, hl, h => by
    obtain ⟨a, h1, h2⟩ := h 0 (by omega)
    obtain ⟨A, h3, h4, h5⟩ := rows_of enc good (L := L) (n := n) (cells := cells.drop L) (by rw [List.length_drop, hl, Nat.add_mul]; omega) fun i hi => by
      obtain ⟨a, h1, h2⟩ := h (i + 1) (by omega)
      exact ⟨a, by rw [List.drop_drop, ← h1]; congr 2; rw [Nat.add_mul, Nat.one_mul, Nat.add_comm], h2⟩
    refine ⟨a :: A, by simp [h3], ?_, ?_⟩
    · rw [List.flatMap_cons, ← h4, ← h1, Nat.zero_mul, List.drop_zero, List.take_append_drop]
    · simpa using ⟨h2, h5⟩

/-- A law over one slice: from the contract to the call. -/
theorem calls_slice {P : Program} {f : FuncId} {b : Bool} {blk off n c : Nat} {cells : List Value} {more : List SV} {r : SV} (h : Spec P f (.slz b 0 0 n c :: more) [(0, .view cells)] 1 fun v _ _ => ∀ ρ, v.val ρ = r.val ρ) (hm : SV.oks 0 more = true) (hr : r.ok 0 = true) {w : World}
    (hc : ∀ j x, cells[j]? = some x → w.cell? ⟨blk, off + j, none⟩ = some x) (h1 : ∀ x ∈ cells, x.oneCell' = true) :
    Calls P f (slzV b ⟨blk, off, none⟩ n c :: SV.vals zenv more).toArray w fun e w' => e = .returned (r.val zenv) ∧ Below w.heap.size w w' := by
  have hs : Sat w (fun _ _ => False) (· < 1) (fun _ => (blk, off)) [(0, .view cells)] w := by
    refine ⟨rfl, rfl, rfl, Nat.le_refl _, fun i so hi => ?_, fun i j si sj hi hj hij hw => ?_, fun _ _ _ => rfl, fun _ _ _ _ => rfl, fun _ _ _ => rfl, fun i so hi hw => ?_, (DictOk.nil (ρ := fun _ => (blk, off))).cons rfl fun _ _ _ h => (by cases h)⟩
    · rw [look_cons] at hi
      split at hi
      · rename_i e; subst e; injection hi with hi; subst hi
        exact ⟨by decide, trivial, ⟨⟨hc, h1⟩, fun hw => (by cases hw), fun j hj => ⟨_, hc j _ (List.getElem?_eq_getElem hj)⟩, Nat.le_refl _⟩⟩
      · cases hi
    · rw [look_cons] at hi
      split at hi
      · injection hi with hi; subst hi; cases hw
      · cases hi
    · rw [look_cons] at hi
      split at hi
      · injection hi with hi; subst hi; cases hw
      · cases hi
  have e : SV.vals (fun _ => (blk, off)) (.slz b 0 0 n c :: more) = slzV b ⟨blk, off, none⟩ n c :: SV.vals zenv more := by
    rw [SV.vals, closed_vals hm]; rfl
  have := h.sem w _ _ w hs ⟨by show 0 < 1; decide, closed_Ins hm _⟩
  rw [e] at this
  refine this.mono ?_
  rintro e w' ⟨v, H', u', ρ', rfl, h1, h2, h3, h4, hv⟩
  exact ⟨by rw [hv ρ', closed_val hr ρ'], h4.below⟩
end Go.Sh
