import Derived.Test.YtmfpndffepjcpaaMA
import Derived.Test.YtmfpndffepjcpaaMB
/- Lines, sets of lines, and the row of a Tlb: plain lemmas. -/
set_option linter.unusedVariables false
namespace Go.Sh
open Go.RowKit

/-- An entry of a page table. -/
structure Ent where
  v : Bool
  r : Bool
  w : Bool
  x : Bool
  u : Bool
  g : Bool
  a : Bool
  d : Bool
  cw : Bool
  cr : Bool
  cd : Bool
  gn : Bool
  fr : Int
def entC (e : Ent) : List SV := [.bool e.v, .bool e.r, .bool e.w, .bool e.x, .bool e.u, .bool e.g, .bool e.a, .bool e.d, .bool e.cw, .bool e.cr, .bool e.cd, .bool e.gn, .int .u64 e.fr]
def ent0 : Ent := ⟨false, false, false, false, false, false, false, false, false, false, false, false, 0⟩

theorem lek {n m : Nat} (h : Nat.ble n m = true) : n ≤ m := Nat.le_of_ble_eq_true h
theorem ltk {n m : Nat} (h : Nat.ble (n + 1) m = true) : n < m := Nat.le_of_ble_eq_true h

theorem LoadL.at1 {cs : List Value} {o n : Nat} {K : SV → Prop} (v : SV) (o' : Nat) (e : o = o') (h : cs[o']? = some (v.val zenv)) (hc : v.ok 0 = true) (k : K v) : LoadL cs o n false K := ⟨v, k, hc, by rw [e]; exact h⟩
theorem LoadL.atN {cs : List Value} {o n : Nat} {K : SV → Prop} (l : List SV) (o' : Nat) (e : o = o') (hl : o' + n ≤ cs.length) (h : (cs.drop o').take n = SV.vals zenv l) (hc : SV.oks 0 l = true) (k : K (.agg l)) : LoadL cs o n true K :=
  ⟨.agg l, k, hc, by rw [e]; exact hl, (SV.vals zenv l).toArray, rfl, by rw [e, h]⟩
theorem PutL.row {cs : List Value} {o n : Nat} {y : SV} {K : SO → Prop} (cs' : List Value) (ys : List SV) (o' : Nat) (e : o = o') (hy : ∀ ρ, (y.val ρ).cells.toList = SV.vals ρ ys) (h1 : SV.allone ys = true) (hn : ys.length = n) (hc : SV.oks 0 ys = true) (hb : o' + n ≤ cs.length)
    (hs : setRange cs o' (SV.vals zenv ys) = cs') (k : K (.row cs')) : PutL (.row cs) o n y K := by
  have hl : cs'.length = cs.length := by rw [← hs]; exact setRange_length (by rw [SV.vals_length, hn]; exact hb)
  exact ⟨.row cs', ys, k, hy, h1, hn, fun _ _ _ => trivial, hl, rfl, rfl, rfl, fun ρ => ⟨by rw [e]; exact hb, by rw [e, closed_vals hc ρ]; exact hs.symm⟩⟩

theorem sOff_zero (m off size : Nat) : sOff m 0 off size = off := by unfold sOff; split <;> omega
theorem sOff_lt {m l off size : Nat} (h : l < m) : sOff m l off size = off + l * size := by
  have : Nat.beq m l = false := by rw [← Bool.not_eq_true, Nat.beq_eq]; omega
  simp only [sOff, this]

/-- A line. -/
structure Ln where
  asid : Int
  num : Int
  e : Ent
  at_ : Int
def lnC (l : Ln) : List SV := [.int .u64 l.asid, .int .u64 l.num, .bool l.e.v, .bool l.e.r, .bool l.e.w, .bool l.e.x, .bool l.e.u, .bool l.e.g, .bool l.e.a, .bool l.e.d, .bool l.e.cw, .bool l.e.cr, .bool l.e.cd, .bool l.e.gn, .int .u64 l.e.fr, .int .u64 l.at_]
def ln0 : Ln := ⟨0, 0, ent0, 0⟩
def lnZ : List SV := [.int .u64 0, .int .u64 0, .ff, .ff, .ff, .ff, .ff, .ff, .ff, .ff, .ff, .ff, .ff, .ff, .int .u64 0, .int .u64 0]
def lnV (l : Ln) : List Value := [.int .u64 l.asid, .int .u64 l.num, .bool l.e.v, .bool l.e.r, .bool l.e.w, .bool l.e.x, .bool l.e.u, .bool l.e.g, .bool l.e.a, .bool l.e.d, .bool l.e.cw, .bool l.e.cr, .bool l.e.cd, .bool l.e.gn, .int .u64 l.e.fr, .int .u64 l.at_]
theorem lnV_len (l : Ln) : (lnV l).length = 16 := rfl
def linesV : List Ln → List Value
  | [] => []
  | a :: r => lnV a ++ linesV r
theorem linesV_len : ∀ l, (linesV l).length = l.length * 16
  | [] => rfl
  | a :: r => by rw [linesV, List.length_append, linesV_len r, lnV_len]; simp; omega
theorem linesV_append : ∀ a b, linesV (a ++ b) = linesV a ++ linesV b
  | [], b => rfl
  | x :: r, b => by rw [List.cons_append, linesV, linesV, linesV_append r b, List.append_assoc]
theorem linesV_get : ∀ (l : List Ln) (i : Nat) (a : Ln), l[i]? = some a → ((linesV l).drop (i * 16)).take 16 = lnV a
  | [], i, a, h => by simp at h
  | x :: r, 0, a, h => by
    simp only [List.getElem?_cons_zero, Option.some.injEq] at h
    subst h
    rw [linesV, Nat.zero_mul, List.drop_zero, List.take_append_of_le_length (by rw [lnV_len]; exact Nat.le_refl _)]
    rfl
  | x :: r, i + 1, a, h => by
    rw [List.getElem?_cons_succ] at h
    have : (i + 1) * 16 = (lnV x).length + i * 16 := by rw [lnV_len]; omega
    rw [linesV, this, List.drop_append]
    simp only [Nat.add_sub_cancel_left]
    rw [List.drop_eq_nil_of_le (by omega), List.nil_append]
    exact linesV_get r i a h

/-- A set: two lines, and how many there are. -/
def setC : List Ln → List SV
  | [] => lnZ ++ (lnZ ++ [.int .i64 0])
  | [a] => lnC a ++ (lnZ ++ [.int .i64 1])
  | [a, b] => lnC a ++ (lnC b ++ [.int .i64 2])
  | _ => []
def setVal (l : List Ln) : List Value := SV.vals zenv (setC l)
theorem setC_vals (ρ : Env) (l : List Ln) : SV.vals ρ (setC l) = setVal l := by
  unfold setVal setC
  split <;> rfl
theorem le2 {α : Type} {l : List α} (h : l.length ≤ 2) : l = [] ∨ (∃ a, l = [a]) ∨ ∃ a b, l = [a, b] := by
  rcases l with _ | ⟨a, _ | ⟨b, _ | ⟨c, r⟩⟩⟩
  · exact .inl rfl
  · exact .inr (.inl ⟨a, rfl⟩)
  · exact .inr (.inr ⟨a, b, rfl⟩)
  · simp at h
theorem setVal0 : setVal [] = lnV ln0 ++ (lnV ln0 ++ [.int .i64 0]) := rfl
theorem setVal1 (a : Ln) : setVal [a] = lnV a ++ (lnV ln0 ++ [.int .i64 1]) := rfl
theorem setVal2 (a b : Ln) : setVal [a, b] = lnV a ++ (lnV b ++ [.int .i64 2]) := rfl
theorem setVal_len {l : List Ln} (h : l.length ≤ 2) : (setVal l).length = 33 := by
  rcases le2 h with rfl | ⟨a, rfl⟩ | ⟨a, b, rfl⟩
  · rw [setVal0]; simp [lnV_len]
  · rw [setVal1]; simp [lnV_len]
  · rw [setVal2]; simp [lnV_len]
theorem get32 (a b : Ln) (v : Value) : (lnV a ++ (lnV b ++ [v]))[32]? = some v := by
  rw [List.getElem?_append_right (by rw [lnV_len]; omega), lnV_len, List.getElem?_append_right (by rw [lnV_len]; omega), lnV_len]; rfl
theorem setVal_n {l : List Ln} (h : l.length ≤ 2) : (setVal l)[32]? = some (.int .i64 (l.length : Int)) := by
  rcases le2 h with rfl | ⟨a, rfl⟩ | ⟨a, b, rfl⟩
  · rw [setVal0, get32]; rfl
  · rw [setVal1, get32]; rfl
  · rw [setVal2, get32]; rfl
theorem take16 (a : Ln) (r : List Value) : (lnV a ++ r).take 16 = lnV a := by
  rw [List.take_append_of_le_length (by rw [lnV_len]; exact Nat.le_refl _)]; rfl
theorem drop16 (a : Ln) (r : List Value) : (lnV a ++ r).drop 16 = r := by
  rw [List.drop_append_of_le_length (by rw [lnV_len]; exact Nat.le_refl _), List.drop_eq_nil_of_le (by rw [lnV_len]; exact Nat.le_refl _), List.nil_append]
theorem setVal_lines {l : List Ln} (h : l.length ≤ 2) : (setVal l).take (l.length * 16) = linesV l := by
  rcases le2 h with rfl | ⟨a, rfl⟩ | ⟨a, b, rfl⟩
  · rfl
  · rw [setVal1]; simp only [List.length_cons, List.length_nil, Nat.zero_add, Nat.one_mul, take16, linesV, List.append_nil]
  · rw [setVal2]
    simp only [List.length_cons, List.length_nil, Nat.zero_add, Nat.reduceAdd, Nat.reduceMul, linesV, List.append_nil]
    rw [← List.append_assoc, List.take_append_of_le_length (by simp [lnV_len]), List.take_of_length_le (by simp [lnV_len])]
theorem setVal_line {l : List Ln} (h : l.length ≤ 2) {i : Nat} {a : Ln} (ha : l[i]? = some a) : ((setVal l).drop (16 * i)).take 16 = lnV a := by
  have hi : i < l.length := (List.getElem?_eq_some_iff.1 ha).1
  rcases le2 h with rfl | ⟨x, rfl⟩ | ⟨x, y, rfl⟩
  · simp at hi
  · have : i = 0 := by simpa using hi
    subst this
    simp only [List.getElem?_cons_zero, Option.some.injEq] at ha
    subst ha
    rw [setVal1, Nat.mul_zero, List.drop_zero, take16]
  · have : i = 0 ∨ i = 1 := by simp at hi; omega
    rcases this with rfl | rfl
    · simp only [List.getElem?_cons_zero, Option.some.injEq] at ha
      subst ha
      rw [setVal2, Nat.mul_zero, List.drop_zero, take16]
    · simp only [List.getElem?_cons_succ, List.getElem?_cons_zero, Option.some.injEq] at ha
      subst ha
      rw [setVal2, Nat.mul_one, drop16, take16]

/-! ### The row -/
def tlbR (v : Nat → List Value) (rest : List Value) : List Value := v 0 ++ (v 1 ++ (v 2 ++ (v 3 ++ rest)))
def fset {α : Type} (v : Nat → α) (q : Nat) (l : α) : Nat → α := fun k => if k = q then l else v k
theorem fset_same {α : Type} (v : Nat → α) (q : Nat) (l : α) : fset v q l q = l := by simp [fset]
theorem fset_ne {α : Type} (v : Nat → α) {q k : Nat} (l : α) (h : k ≠ q) : fset v q l k = v k := by simp [fset, h]
theorem fset_twice {α : Type} (v : Nat → α) (q : Nat) (l m : α) : fset (fset v q l) q m = fset v q m := by
  funext k; simp only [fset]; split <;> rfl
theorem fset_self {α : Type} (v : Nat → α) (q : Nat) : fset v q (v q) = v := by
  funext k; simp only [fset]; split
  · rename_i h; rw [h]
  · rfl

section
variable {v : Nat → List Value} (hv : ∀ q, q < 4 → (v q).length = 33) (rest : List Value)
include hv
theorem tlbR_drop {q : Nat} (hq : q < 4) : ∃ r, (tlbR v rest).drop (33 * q) = v q ++ r := by
  have h0 := hv 0 (by omega); have h1 := hv 1 (by omega); have h2 := hv 2 (by omega); have h3 := hv 3 (by omega)
  have : q = 0 ∨ q = 1 ∨ q = 2 ∨ q = 3 := by omega
  rcases this with rfl | rfl | rfl | rfl
  · exact ⟨_, rfl⟩
  · refine ⟨v 2 ++ (v 3 ++ rest), ?_⟩
    rw [tlbR, show 33 * 1 = (v 0).length + 0 from by omega, List.drop_append]; simp
  · refine ⟨v 3 ++ rest, ?_⟩
    rw [tlbR, ← List.append_assoc, show 33 * 2 = (v 0 ++ v 1).length + 0 from by simp; omega, List.drop_append]; simp
  · refine ⟨rest, ?_⟩
    rw [tlbR, ← List.append_assoc, ← List.append_assoc, show 33 * 3 = (v 0 ++ v 1 ++ v 2).length + 0 from by simp; omega, List.drop_append]; simp
theorem tlbR_len : (tlbR v rest).length = 132 + rest.length := by
  have h0 := hv 0 (by omega); have h1 := hv 1 (by omega); have h2 := hv 2 (by omega); have h3 := hv 3 (by omega)
  simp [tlbR]; omega
theorem tlbR_get {q k : Nat} (hq : q < 4) (hk : k < 33) : (tlbR v rest)[33 * q + k]? = (v q)[k]? := by
  obtain ⟨r, hr⟩ := tlbR_drop hv rest hq
  rw [← List.getElem?_drop, hr, List.getElem?_append_left (by rw [hv q hq]; exact hk)]
theorem tlbR_take {q k n : Nat} (hq : q < 4) (hk : k + n ≤ 33) : ((tlbR v rest).drop (33 * q + k)).take n = ((v q).drop k).take n := by
  obtain ⟨r, hr⟩ := tlbR_drop hv rest hq
  rw [← List.drop_drop, hr, List.drop_append_of_le_length (by rw [hv q hq]; omega), List.take_append_of_le_length (by simp [hv q hq]; omega)]
theorem tlbR_set {q k : Nat} {vs : List Value} (hq : q < 4) (hk : k + vs.length ≤ 33) : setRange (tlbR v rest) (33 * q + k) vs = tlbR (fset v q (setRange (v q) k vs)) rest := by
  have h0 := hv 0 (by omega); have h1 := hv 1 (by omega); have h2 := hv 2 (by omega); have h3 := hv 3 (by omega)
  have key : ∀ (a b r : List Value), k + vs.length ≤ b.length → setRange (a ++ (b ++ r)) (a.length + k) vs = a ++ (setRange b k vs ++ r) := fun a b r hb => by
    simp only [setRange]
    rw [List.take_append, List.drop_append]
    rw [List.take_of_length_le (by omega), List.drop_eq_nil_of_le (by omega), Nat.add_sub_cancel_left, show a.length + k + vs.length - a.length = k + vs.length by omega, List.take_append_of_le_length (by omega), List.drop_append_of_le_length (by omega)]
    simp
  have : q = 0 ∨ q = 1 ∨ q = 2 ∨ q = 3 := by omega
  rcases this with rfl | rfl | rfl | rfl
  · have := key [] (v 0) (v 1 ++ (v 2 ++ (v 3 ++ rest))) (by omega)
    simp only [List.nil_append, List.length_nil, Nat.zero_add] at this
    simp only [tlbR, Nat.mul_zero, Nat.zero_add, this]
    rfl
  · have := key (v 0) (v 1) (v 2 ++ (v 3 ++ rest)) (by omega)
    rw [h0] at this
    simp only [tlbR, Nat.mul_one, this]
    rfl
  · have := key (v 0 ++ v 1) (v 2) (v 3 ++ rest) (by omega)
    rw [show (v 0 ++ v 1).length = 33 * 2 by simp; omega, List.append_assoc, List.append_assoc] at this
    simp only [tlbR, this]
    rfl
  · have := key (v 0 ++ (v 1 ++ v 2)) (v 3) rest (by omega)
    rw [show (v 0 ++ (v 1 ++ v 2)).length = 33 * 3 by simp; omega] at this
    simp only [List.append_assoc] at this
    simp only [tlbR, this]
    rfl
end

/-- The row of a Tlb of the sets s. -/
def tlbC (s : Nat → List Ln) (rest : List Value) : List Value := tlbR (fun q => setVal (s q)) rest
def okT (s : Nat → List Ln) : Prop := ∀ q, (s q).length ≤ 2
theorem okT_len {s : Nat → List Ln} (h : okT s) : ∀ q, q < 4 → (setVal (s q)).length = 33 := fun q _ => setVal_len (h q)
theorem okT_fset {s : Nat → List Ln} (h : okT s) {q : Nat} {l : List Ln} (hl : l.length ≤ 2) : okT (fset s q l) := fun k => by
  unfold fset; split
  · exact hl
  · exact h k
theorem tlbC_len {s : Nat → List Ln} (h : okT s) (rest : List Value) : (tlbC s rest).length = 132 + rest.length := tlbR_len (okT_len h) rest
theorem tlbC_fset (s : Nat → List Ln) (q : Nat) (l : List Ln) (rest : List Value) : tlbC (fset s q l) rest = tlbR (fset (fun q => setVal (s q)) q (setVal l)) rest := by
  unfold tlbC
  congr 1
  funext k; simp only [fset]; split <;> rfl
theorem tlbC_set {s : Nat → List Ln} (h : okT s) (rest : List Value) {q : Nat} (hq : q < 4) {l : List Ln} (hl : l.length ≤ 2) : setRange (tlbC s rest) (33 * q) (setVal l) = tlbC (fset s q l) rest := by
  have := tlbR_set (okT_len h) rest (k := 0) (vs := setVal l) hq (by rw [setVal_len hl]; omega)
  rw [Nat.add_zero] at this
  rw [tlbC, this, tlbC_fset]
  congr 2
  simp only [setRange, List.take_zero, List.nil_append, setVal_len hl, Nat.zero_add]
  rw [List.drop_eq_nil_of_le (by have := okT_len h q hq; show (setVal (s q)).length ≤ 33; omega), List.append_nil]
theorem tlbC_get {s : Nat → List Ln} (h : okT s) (rest : List Value) {q k : Nat} (hq : q < 4) (hk : k < 33) : (tlbC s rest)[33 * q + k]? = (setVal (s q))[k]? := tlbR_get (okT_len h) rest hq hk
theorem tlbC_n {s : Nat → List Ln} (h : okT s) (rest : List Value) {q : Nat} (hq : q < 4) : (tlbC s rest)[33 * q + 32]? = some (.int .i64 ((s q).length : Int)) := by
  rw [tlbC_get h rest hq (by omega), setVal_n (h q)]
theorem tlbC_line {s : Nat → List Ln} (h : okT s) (rest : List Value) {q i : Nat} (hq : q < 4) {a : Ln} (ha : (s q)[i]? = some a) : ((tlbC s rest).drop (33 * q + i * 16)).take 16 = lnV a := by
  have hi : i < (s q).length := (List.getElem?_eq_some_iff.1 ha).1
  have := h q
  rw [tlbC, tlbR_take (okT_len h) rest hq (by omega), Nat.mul_comm]
  exact setVal_line (h q) ha
theorem tlbC_lines {s : Nat → List Ln} (h : okT s) (rest : List Value) {q : Nat} (hq : q < 4) : ((tlbC s rest).drop (33 * q)).take ((s q).length * 16) = linesV (s q) := by
  have := h q
  have h2 := tlbR_take (okT_len h) rest (k := 0) (n := (s q).length * 16) hq (by omega)
  rw [Nat.add_zero, List.drop_zero] at h2
  rw [tlbC, h2, setVal_lines (h q)]

/-! ### Kept rows, listed -/
def farL (τ : Nat → Nat × Nat) (k : Nat) : Hp → Prop
  | [] => True
  | (i, so) :: r => (so.wr = true → (τ i).1 ≠ k) ∧ farL τ k r
theorem farL_out {τ : Nat → Nat × Nat} {k : Nat} : ∀ {H0 : Hp}, farL τ k H0 → ∀ i so, look H0 i = some so → so.wr = true → (τ i).1 ≠ k
  | [], _, i, so, h => by cases h
  | (j, x) :: r, h, i, so, hi => by
    rw [look_cons] at hi
    split at hi
    · rename_i e; injection hi with hi; subst hi; subst e; exact h.1
    · exact farL_out h.2 i so hi
def keptL (H H0 H1 : Hp) (u : Nat) (τ : Nat → Nat × Nat) : Hp → Prop
  | [] => True
  | (k, s) :: r => Kept H H0 H1 u τ k s ∧ keptL H H0 H1 u τ r
theorem keptL_out {H H0 H1 : Hp} {u : Nat} {τ : Nat → Nat × Nat} : ∀ {H2 : Hp}, keptL H H0 H1 u τ H2 → ∀ k s2, look H2 k = some s2 → Kept H H0 H1 u τ k s2
  | [], _, k, s2, h => by cases h
  | (j, x) :: r, h, k, s2, hk => by
    rw [look_cons] at hk
    split at hk
    · rename_i e; injection hk with hk; subst hk; subst e; exact h.1
    · exact keptL_out h.2 k s2 hk
def sepL (τ : Nat → Nat × Nat) (i : Nat) : Hp → Prop
  | [] => True
  | (j, _) :: r => (i ≠ j → (τ i).1 ≠ (τ j).1) ∧ sepL τ i r
def liesL (u0 : Nat) (τ : Nat → Nat × Nat) (H : Hp) : Hp → Prop
  | [] => True
  | (i, so) :: r => (i < u0 ∧ so.ok u0 = true ∧ ∃ sc, Lies H (τ i) so τ sc) ∧ liesL u0 τ H r
theorem liesL_out {u0 : Nat} {τ : Nat → Nat × Nat} {H : Hp} : ∀ {H0 : Hp}, liesL u0 τ H H0 → ∀ i so, look H0 i = some so → i < u0 ∧ so.In (· < u0) ∧ ∃ sc, Lies H (τ i) so τ sc
  | [], _, i, so, h => by cases h
  | (k, x) :: r, h, i, so, hi => by
    rw [look_cons] at hi
    split at hi
    · rename_i e; injection hi with hi; subst hi; subst e; exact ⟨h.1.1, SO.In_of_ok h.1.2.1, h.1.2.2⟩
    · exact liesL_out h.2 i so hi
theorem Part.listsD {u0 : Nat} {τ : Nat → Nat × Nat} {H H0 : Hp} (h : liesL u0 τ H H0) (inj : ∀ i j, i < u0 → j < u0 → i ≠ j → (τ i).1 ≠ (τ j).1) (hd : ∀ i es c, look H0 i = some (.dict es c) → False) : Part H0 u0 τ H :=
  ⟨liesL_out h, fun i j si sj hi hj hij _ => inj i j (liesL_out h i si hi).1 (liesL_out h j sj hj).1 hij, fun i es c hi => (hd i es c hi).elim⟩
def noD : Hp → Bool
  | [] => true
  | (_, so) :: r => !so.isD && noD r
theorem noD_out : ∀ {H : Hp}, noD H = true → ∀ i es c, look H i = some (.dict es c) → False
  | [], _, i, es, c, h => by cases h
  | (k, x) :: r, h, i, es, c, hi => by
    simp only [noD, Bool.and_eq_true, Bool.not_eq_true'] at h
    rw [look_cons] at hi
    split at hi
    · injection hi with hi; subst hi; cases h.1
    · exact noD_out h.2 i es c hi
theorem Part.lists {u0 : Nat} {τ : Nat → Nat × Nat} {H H0 : Hp} (h : liesL u0 τ H H0) (inj : ∀ i j, i < u0 → j < u0 → i ≠ j → (τ i).1 ≠ (τ j).1) (hd : noD H0 = true := by rfl) : Part H0 u0 τ H := Part.listsD h inj (noD_out hd)
theorem Lies.whole {H : Hp} {k : Nat} {so : SO} {τs : Nat → Nat × Nat} {sc : SO} (h : look H k = some sc) (hv : ∀ ρ, so.vals (via ρ τs) = sc.vals ρ) (hl : so.len ≤ sc.len) (hf : ∀ ρ, (so.vals ρ).length ≤ so.len) (hw : so.wr = true → sc.wr = true) : Lies H (k, 0) so τs sc :=
  ⟨h, fun ρ j v hj => by rw [Nat.zero_add, ← hv]; exact hj, by simpa using hl, hf, hw⟩

theorem setC_oks (u : Nat) (l : List Ln) : SV.oks u (setC l) = true := by
  unfold setC
  split <;> rfl
theorem setC_length {l : List Ln} (h : l.length ≤ 2) : (setC l).length = 33 := by
  have := setVal_len h
  rwa [setVal, SV.vals_length] at this
theorem wfH_set {u i : Nat} {l : List Ln} {r : Hp} (h : Nat.blt i u = true) (hr : wfH u r = true) : wfH u ((i, .cells (setC l)) :: r) = true := by
  rw [wfH, h, hr]
  show (true && (SV.oks u (setC l) && true)) = true
  rw [setC_oks]; rfl
/-- A set laid in the place of another one, in a row of its own. -/
theorem Kept.set {H H0 H1 : Hp} {u i : Nat} {τ : Nat → Nat × Nat} {l l' : List Ln} (hl : l.length ≤ 2) (hl' : l'.length ≤ 2) (hτ : τ i = (i, 0)) (h0 : look H0 i = some (.cells (setC l))) (h1 : look H1 i = some (.cells (setC l'))) (hc : look H i = some (.cells (setC l))) : Kept H H0 H1 u τ i (.cells (setC l')) := by
  refine .laid i (.cells (setC l)) (.cells (setC l')) (.cells (setC l)) (by rw [hτ]) h0 h1 hc rfl rfl ?_ (setC_oks u l') (fun ρ => ⟨?_, ?_, ?_⟩) (fun ρ => by simp only [SO.vals, SO.len, SV.vals_length]) rfl
  · simp only [SO.len, setC_length hl, setC_length hl']
  · simp only [SO.vals, SO.len, SV.vals_length, setC_length hl, setC_length hl']
  · simp only [SO.len, setC_length hl, setC_length hl']
  · simp only [SO.vals, setC_vals, hτ, setRange, List.take_zero, List.nil_append, setVal_len hl', Nat.zero_add]
    rw [List.drop_eq_nil_of_le (by rw [setVal_len hl]; exact Nat.le_refl _), List.append_nil]
theorem IdxL.here {n : Int} {len : Nat} {Kl Kx : Nat → Prop} (j : Nat) (h : n = (j : Int)) (hl : j < len) (k : Kl j) : IdxL n len Kl Kx := ⟨j, h, hl, .inl k⟩
theorem IdxL.there {n : Int} {len : Nat} {Kl Kx : Nat → Prop} (j : Nat) (h : n = (j : Int)) (hl : j < len) (k : Kx j) : IdxL n len Kl Kx := ⟨j, h, hl, .inr k⟩

/-- A call that lays a set of a Tlb's row. -/
theorem Spec.set {P : Program} {f : FuncId} {args args0 : List SV} {H : Hp} {u u0 : Nat} {K : SV → Hp → Nat → Prop} {s : Nat → List Ln} {rest : List Value} {q t : Nat} {l' : List Ln} {caps : Hp}
    (h : Spec P f args0 ((0, .cells (setC (s q))) :: caps) u0 fun v H' _ => (∀ ρ, v.val ρ = (SV.tup []).val ρ) ∧ subH [(0, .cells (setC l'))] H') (cl : List (Nat × Nat)) (hs : okT s) (hq : q < 4) (hl' : l'.length ≤ 2) (ht : look H t = some (.row (tlbC s rest)))
    (hro : ∀ i so, look caps i = some so → so.wr = false) (ha : ∀ ρ, SV.vals ρ args = SV.vals (via ρ (nthP ((t, 33 * q) :: cl))) args0) (hin : SV.oks u0 args0 = true) (hcap : liesL u0 (nthP ((t, 33 * q) :: cl)) H caps)
    (hl : cl.length + 1 = u0) (hn : okNames u (t :: cl.map (·.1)) = true) (k : K (.tup []) ((t, .row (tlbC (fset s q l') rest)) :: H) u) : Spec P f args H u K := by
  have hlen : (t :: cl.map (·.1)).length = u0 := by simp [hl]
  refine Spec.frame (nthP ((t, 33 * q) :: cl)) (H1 := [(0, .cells (setC l'))]) (H2 := (t, .row (tlbC (fset s q l') rest)) :: H) h ha hin (Part.listsD ⟨⟨by omega, ?_, .row (tlbC s rest), ?_⟩, hcap⟩ (fun i j hi hj hij e => ?_) fun i es c hi => (by
    rw [look_cons] at hi
    split at hi
    · injection hi with hi; cases hi
    · have := hro i _ hi; cases this)) rfl (fun k s2 hk => ?_) ?_ k
  · show SV.oks u0 (setC (s q)) = true
    exact setC_oks _ _
  · refine ⟨ht, fun ρ j v hj => ?_, ?_, fun ρ => by simp only [SO.vals, SO.len, SV.vals_length]; exact Nat.le_refl _, fun _ => rfl⟩
    · simp only [SO.vals, setC_vals] at hj ⊢
      have hlt : j < 33 := by rw [← setVal_len (hs q)]; exact (List.getElem?_eq_some_iff.1 hj).1
      show (tlbC s rest)[33 * q + j]? = some v
      rw [tlbC_get hs rest hq hlt]; exact hj
    · show 33 * q + (setC (s q)).length ≤ (tlbC s rest).length
      rw [setC_length (hs q), tlbC_len hs]; omega
  · rw [nthP_fst, nthP_fst] at e
    exact hij (nthD_inj (u := u) hlen hn hi hj e)
  · rw [look_cons] at hk
    split at hk
    · rename_i e
      subst e
      injection hk with hk
      subst hk
      refine .laid 0 (.cells (setC (s q))) (.cells (setC l')) (.row (tlbC s rest)) rfl (look_same _ _ _) rfl ht rfl rfl ?_ rfl (fun ρ => ⟨?_, ?_, ?_⟩) (fun ρ => rfl) rfl
      · show (tlbC (fset s q l') rest).length = (tlbC s rest).length
        rw [tlbC_len hs, tlbC_len (okT_fset hs hl')]
      · simp only [SO.vals, SO.len, SV.vals_length, setC_length (hs q), setC_length hl']
      · simp only [SO.len, setC_length (hs q), setC_length hl']
      · show tlbC (fset s q l') rest = setRange (tlbC s rest) (33 * q) (SV.vals _ (setC l'))
        rw [setC_vals, tlbC_set hs rest hq hl']
    · rename_i e
      refine .far hk fun i so hi hw => ?_
      rw [look_cons] at hi
      split at hi
      · rename_i e'; subst e'; exact e
      · rw [hro i so hi] at hw; cases hw
  · show (Nat.blt 0 u0 && (SV.oks u0 (setC l') && true)) = true
    rw [setC_oks, Bool.true_and, Bool.and_true]
    simp; omega

theorem ha_at {ρ : Env} {t a b : Nat} {r : List Value} (e : a = b) : Value.pointer (some ⟨(ρ t).1, (ρ t).2 + a, none⟩) :: r = Value.pointer (some ⟨(ρ t).1, (ρ t).2 + b + 0, none⟩) :: r := by rw [e]; rfl
/-- A view of one cell. -/
theorem Lies.one {H : Hp} {k : Nat} {c : SV} {v : Value} {τs : Nat → Nat × Nat} (h : look H k = some (.cells [c])) (hv : ∀ ρ, c.val ρ = v) : Lies H (k, 0) (.view [v]) τs (.cells [c]) :=
  Lies.whole h (fun ρ => by simp only [SO.vals, SV.vals, hv]) (Nat.le_refl _) (fun _ => Nat.le_refl _) (fun h => by cases h)
def noWr : Hp → Bool
  | [] => true
  | (_, so) :: r => !so.wr && noWr r
theorem noWr_out : ∀ {H : Hp}, noWr H = true → ∀ i so, look H i = some so → so.wr = false
  | [], _, i, so, h => by cases h
  | (k, x) :: r, h, i, so, hi => by
    rw [noWr, Bool.and_eq_true] at h
    rw [look_cons] at hi
    split at hi
    · injection hi with hi; subst hi; simpa using h.1
    · exact noWr_out h.2 i so hi
theorem ptr_at (ρ : Env) (t q a b : Nat) (e : a = b) : Value.pointer (some ⟨(ρ t).1, (ρ t).2 + a, none⟩) = Value.pointer (some ⟨(ρ t).1, (ρ t).2 + b, none⟩) := by rw [e]

/-- A function that reads. -/
theorem Fun.read {P : Program} {f : FuncId} {args0 : List SV} {H0 : Hp} {u0 : Nat} {r : SV} (h : Spec P f args0 H0 u0 fun v _ _ => ∀ ρ, v.val ρ = r.val ρ) (hr : r.ok u0 = true) : Fun P f args0 H0 u0 0 (fun _ : Unit => True) (fun _ => r) (fun _ => []) :=
  h.mono fun v H' u' hv => ⟨(), fun i => (i, 0), trivial, fun _ _ => rfl, ⟨fun i so hi => (by cases hi), fun i j si sj hi => (by cases hi), fun i es c hi => (by cases hi)⟩, fun ρ => by rw [hv ρ]; congr 1⟩
end Go.Sh

/- A line laid into a set: plain lemmas. -/
set_option linter.unusedVariables false
namespace Go.Sh
theorem wrap_i64' (x : Int) (h0 : -9223372036854775808 ≤ x) (h1 : x ≤ 9223372036854775807) : IntKind.wrap .i64 x = x := by
  simp [IntKind.wrap, IntKind.bits, IntKind.signed]; omega
open Go.RowKit

def midV : List Ln → Ln → List Value
  | [], l => lnV l ++ (lnV ln0 ++ [.int .i64 0])
  | [x], l => lnV x ++ (lnV l ++ [.int .i64 1])
  | _, _ => []
theorem le1 {α : Type} {l : List α} (h : l.length ≤ 1) : l = [] ∨ ∃ a, l = [a] := by
  rcases l with _ | ⟨a, _ | ⟨b, r⟩⟩
  · exact .inl rfl
  · exact .inr ⟨a, rfl⟩
  · simp at h
theorem midV_len {L : List Ln} (h : L.length ≤ 1) (l : Ln) : (midV L l).length = 33 := by
  rcases le1 h with rfl | ⟨a, rfl⟩ <;> simp [midV, lnV_len]
theorem set_mid (a b : List Value) (r : List Value) (h : a.length = b.length) : setRange (a ++ r) 0 b = b ++ r := by
  simp [setRange, ← h]
theorem set_behind (a b c r : List Value) (h : c.length = b.length) : setRange (a ++ (c ++ r)) a.length b = a ++ (b ++ r) := by
  simp [setRange, ← h, List.drop_append]
theorem setVal_mid {L : List Ln} (h : L.length ≤ 1) (l : Ln) : setRange (setVal L) (16 * L.length) (lnV l) = midV L l := by
  rcases le1 h with rfl | ⟨a, rfl⟩
  · rw [setVal0]; exact set_mid _ _ _ rfl
  · rw [setVal1]; exact set_behind (lnV a) (lnV l) (lnV ln0) _ rfl
theorem midV_n {L : List Ln} (h : L.length ≤ 1) (l : Ln) : (midV L l)[32]? = some (.int .i64 (L.length : Int)) := by
  rcases le1 h with rfl | ⟨a, rfl⟩
  · exact get32 _ _ _
  · exact get32 _ _ _
theorem midV_put {L : List Ln} (h : L.length ≤ 1) (l : Ln) : setRange (midV L l) 32 [.int .i64 ((L.length : Int) + 1)] = setVal (L ++ [l]) := by
  have key : ∀ (a b : Ln) (v w : Value), setRange (lnV a ++ (lnV b ++ [v])) 32 [w] = lnV a ++ (lnV b ++ [w]) := fun a b v w => by
    have := set_behind (lnV a ++ lnV b) [w] [v] [] rfl
    simp only [List.append_assoc, List.append_nil, List.length_append, lnV_len] at this
    exact this
  rcases le1 h with rfl | ⟨a, rfl⟩
  · rw [midV, key]; rfl
  · rw [midV, key]; rfl

theorem okM_len {s : Nat → List Ln} (hs : okT s) {q : Nat} (h1 : (s q).length ≤ 1) (l : Ln) : ∀ k, k < 4 → (fset (fun q => setVal (s q)) q (midV (s q) l) k).length = 33 := fun k hk => by
  unfold fset; split
  · exact midV_len h1 l
  · exact okT_len hs k hk
section
variable {s : Nat → List Ln} (hs : okT s) (rest : List Value) {q : Nat} (hq : q < 4) (h1 : (s q).length ≤ 1) (l : Ln)
/-- The row where the line is laid, and not counted. -/
def tlbM (s : Nat → List Ln) (q : Nat) (l : Ln) (rest : List Value) : List Value := tlbR (fset (fun q => setVal (s q)) q (midV (s q) l)) rest
include hs hq h1
theorem tlbM_len : (tlbM s q l rest).length = (tlbC s rest).length := by
  have _h := hq
  rw [tlbM, tlbR_len (okM_len hs h1 l), tlbC_len hs]
theorem tlbC_mid : setRange (tlbC s rest) (33 * q + 16 * (s q).length) (lnV l) = tlbM s q l rest := by
  rw [tlbC, tlbR_set (okT_len hs) rest hq (by rw [lnV_len]; omega), setVal_mid h1]; rfl
theorem tlbM_n : (tlbM s q l rest)[33 * q + 32]? = some (.int .i64 ((s q).length : Int)) := by
  rw [tlbM, tlbR_get (okM_len hs h1 l) rest hq (by omega), fset_same, midV_n h1]
theorem tlbM_put : setRange (tlbM s q l rest) (33 * q + 32) [.int .i64 (((s q).length : Int) + 1)] = tlbC (fset s q (s q ++ [l])) rest := by
  rw [tlbM, tlbR_set (okM_len hs h1 l) rest hq (by simp), fset_same, fset_twice, midV_put h1, tlbC_fset]
end

/-! ### What the functions do to the sets -/
def isP (a n : Int) (l : Ln) : Bool := decide (l.asid = a) && decide (l.num = n)
def isA (a : Int) (l : Ln) : Bool := decide (l.asid = a)
def isT (l : Ln) : Bool := true
def q4 (n : Int) : Nat := (n % 4).toNat
theorem q4_lt (n : Int) : q4 n < 4 := by unfold q4; omega
theorem q4_eq {n : Int} (h : 0 ≤ n) : n.tmod 4 = (q4 n : Int) := by rw [Int.tmod_eq_emod_of_nonneg h]; unfold q4; omega

/-- A set, and a line more. -/
def putL (L : List Ln) (l : Ln) : List Ln := (if L.length = 2 then L.drop 1 else L) ++ [l]
theorem putL_len {L : List Ln} (h : L.length ≤ 2) (l : Ln) : (putL L l).length ≤ 2 := by
  unfold putL; split <;> simp <;> omega
def putS (s : Nat → List Ln) (l : Ln) : Nat → List Ln := fset s (q4 l.num) (putL ((s (q4 l.num)).filter fun x => !isP l.asid l.num x) l)

theorem find_hit {p : Ln → Bool} : ∀ {L : List Ln} {i : Nat} {x : Ln}, L[i]? = some x → p x = true → (∀ k y, k < i → L[k]? = some y → p y = false) → L.find? p = some x
  | [], i, x, h, _, _ => by simp at h
  | a :: r, 0, x, h, hp, _ => by
    simp only [List.getElem?_cons_zero, Option.some.injEq] at h
    subst h; simp [hp]
  | a :: r, i + 1, x, h, hp, hk => by
    rw [List.getElem?_cons_succ] at h
    have h0 := hk 0 a (by omega) rfl
    rw [List.find?_cons, h0]
    exact find_hit h hp fun k y hk' hy => hk (k + 1) y (by omega) (by simpa using hy)
theorem find_miss {p : Ln → Bool} {L : List Ln} (h : ∀ k y, k < L.length → L[k]? = some y → p y = false) : L.find? p = none := by
  rw [List.find?_eq_none]
  intro x hx
  obtain ⟨k, hk⟩ := List.mem_iff_getElem?.1 hx
  have := h k x (List.getElem?_eq_some_iff.1 hk).1 hk
  simp [this]

def filtS (p : Ln → Bool) (s : Nat → List Ln) (i : Nat) : Nat → List Ln := fun k => if k < i then (s k).filter p else s k
theorem filtS_zero (p : Ln → Bool) (s : Nat → List Ln) : filtS p s 0 = s := by funext k; simp [filtS]
theorem filtS_at (p : Ln → Bool) (s : Nat → List Ln) (i : Nat) : filtS p s i i = s i := by simp [filtS]
theorem filtS_succ (p : Ln → Bool) (s : Nat → List Ln) (i : Nat) : fset (filtS p s i) i ((s i).filter p) = filtS p s (i + 1) := by
  funext k
  simp only [fset, filtS]
  by_cases h : k = i
  · subst h; simp
  · rw [if_neg h]
    by_cases h2 : k < i
    · rw [if_pos h2, if_pos (by omega)]
    · rw [if_neg h2, if_neg (by omega)]
theorem okT_filtS {p : Ln → Bool} {s : Nat → List Ln} (h : okT s) (i : Nat) : okT (filtS p s i) := fun k => by
  unfold filtS; split
  · exact Nat.le_trans (List.length_filter_le _ _) (h k)
  · exact h k

def preL (s : Nat → List Ln) : Nat → List Ln
  | 0 => []
  | i + 1 => preL s i ++ s i
theorem preL_len {s : Nat → List Ln} (h : okT s) : ∀ i, (preL s i).length ≤ 2 * i
  | 0 => Nat.le_refl _
  | i + 1 => by
    have := preL_len h i
    have := h i
    rw [preL, List.length_append]; omega
end Go.Sh

/- The reference's lines: plain. -/
set_option linter.unusedVariables false
namespace Go.Sh
open Go.RowKit

structure RL where
  a : Int
  n : Int
  w : Int
def rlC (x : RL) : List SV := [.int .u64 x.a, .int .u64 x.n, .int .u64 x.w]
def rlV (x : RL) : List Value := [.int .u64 x.a, .int .u64 x.n, .int .u64 x.w]
def refV : List RL → List Value
  | [] => []
  | x :: r => rlV x ++ refV r
theorem refV_len : ∀ l, (refV l).length = l.length * 3
  | [] => rfl
  | a :: r => by rw [refV, List.length_append, refV_len r]; simp [rlV]; omega
theorem refV_append : ∀ a b, refV (a ++ b) = refV a ++ refV b
  | [], b => rfl
  | x :: r, b => by rw [List.cons_append, refV, refV, refV_append r b, List.append_assoc]
theorem refV_drop : ∀ (l : List RL) (i : Nat), (refV l).drop (i * 3) = refV (l.drop i)
  | l, 0 => by simp
  | [], i + 1 => by simp [refV]
  | x :: r, i + 1 => by
    rw [refV, List.drop_succ_cons, ← refV_drop r i]
    have : (i + 1) * 3 = (rlV x).length + i * 3 := by simp [rlV]; omega
    rw [this, List.drop_append]
    simp only [Nat.add_sub_cancel_left]
    rw [List.drop_eq_nil_of_le (by omega), List.nil_append]
theorem refV_take : ∀ (l : List RL) (i : Nat), (refV l).take (i * 3) = refV (l.take i)
  | l, 0 => by simp [refV]
  | [], i + 1 => by simp [refV]
  | x :: r, i + 1 => by
    rw [refV, List.take_succ_cons, refV, ← refV_take r i]
    have : (i + 1) * 3 = (rlV x).length + i * 3 := by simp [rlV]; omega
    rw [this, List.take_append]
    simp only [Nat.add_sub_cancel_left]
    rw [List.take_of_length_le (by omega)]
theorem refV_get {l : List RL} {i : Nat} {x : RL} (h : l[i]? = some x) : ((refV l).drop (i * 3)).take 3 = rlV x := by
  rw [refV_drop]
  have : l.drop i = x :: l.drop (i + 1) := by
    obtain ⟨h1, h2⟩ := List.getElem?_eq_some_iff.1 h
    rw [← h2]; exact (List.getElem_cons_drop h1).symm
  rw [this, refV]; rfl
theorem refV_cell {l : List RL} {i j : Nat} {x : RL} (h : l[i]? = some x) (hj : j < 3) : (refV l)[i * 3 + j]? = (rlV x)[j]? := by
  rw [← refV_get h, List.getElem?_take, if_pos hj, List.getElem?_drop]
theorem refV_part {l : List RL} {o m : Nat} : ((refV l).drop (o * 3)).take (m * 3) = refV ((l.drop o).take m) := by
  rw [refV_drop, refV_take]

theorem refV_head {R : List RL} {c k : Nat} : ((refV R).drop (sOff c 0 0 3)).take ((k - 0) * 3) = refV (R.take k) := by
  rw [sOff_zero, List.drop_zero, Nat.sub_zero, refV_take]
theorem refV_tail {R : List RL} {c k : Nat} (h : k ≤ R.length) (hc : R.length ≤ c) : ((refV R).drop (sOff c k 0 3)).take ((R.length - k) * 3) = refV (R.drop k) := by
  by_cases e : k < c
  · rw [sOff_lt e, Nat.zero_add, refV_drop, refV_take, List.take_of_length_le (by simp)]
  · have : k = R.length := by omega
    subst this
    simp [refV]

/-! ### Filters, step by step -/
def fL {α : Type} (p : α → Bool) (R : List α) (i : Nat) : List α := (R.take i).filter p
theorem fL_yes {α : Type} {p : α → Bool} {R : List α} {i : Nat} {x : α} (h : R[i]? = some x) (hp : p x = true) : fL p R (i + 1) = fL p R i ++ [x] := by
  rw [fL, List.take_add_one, h, List.filter_append]; simp [fL, hp]
theorem fL_no {α : Type} {p : α → Bool} {R : List α} {i : Nat} {x : α} (h : R[i]? = some x) (hp : p x = false) : fL p R (i + 1) = fL p R i := by
  rw [fL, List.take_add_one, h, List.filter_append]; simp [fL, hp]
theorem fL_all {α : Type} {p : α → Bool} {R : List α} : fL p R R.length = R.filter p := by rw [fL, List.take_length]
theorem fL_len {α : Type} {p : α → Bool} {R : List α} (i : Nat) : (fL p R i).length ≤ i := by
  refine Nat.le_trans (List.length_filter_le _ _) ?_
  rw [List.length_take]; omega

def keepP (a n : Int) (x : RL) : Bool := !decide (x.a = a) || !decide (x.n = n)
def keepA (a : Int) (x : RL) : Bool := !decide (x.a = a)
def atP (a n : Int) (x : RL) : Bool := decide (x.a = a) && decide (x.n = n)

/-! ### Where a line is put -/
structure Scan where
  n : Int
  first : Int
  at_ : Int
def scanStep (q : Int) (t : Scan × Nat) (x : RL) : Scan × Nat :=
  (⟨if x.n.tmod 4 = q then t.1.n + 1 else t.1.n, if x.n.tmod 4 = q ∧ t.1.first < 0 then t.2 else t.1.first, if x.n.tmod 4 ≤ q then (t.2 : Int) + 1 else t.1.at_⟩, t.2 + 1)
def scan (q : Int) (R : List RL) : Scan × Nat := R.foldl (scanStep q) (⟨0, -1, 0⟩, 0)
theorem scan_snd (q : Int) : ∀ (R : List RL) (t : Scan × Nat), (R.foldl (scanStep q) t).2 = t.2 + R.length
  | [], t => rfl
  | x :: r, t => by rw [List.foldl_cons, scan_snd q r, List.length_cons]; simp only [scanStep]; omega
theorem scan_take {q : Int} {R : List RL} {i : Nat} {x : RL} (h : R[i]? = some x) : (scan q (R.take (i + 1))).1 = (scanStep q ((scan q (R.take i)).1, i) x).1 := by
  have hi : i < R.length := (List.getElem?_eq_some_iff.1 h).1
  have h2 : (scan q (R.take i)).2 = i := by rw [scan, scan_snd]; simp; omega
  rw [List.take_add_one, h, scan, List.foldl_append]
  have e : scan q (R.take i) = ((scan q (R.take i)).1, i) := Prod.ext rfl h2
  exact congrArg (fun t => (scanStep q t x).1) e
theorem scan_bounds (q : Int) (R : List RL) : let t := (scan q R).1; 0 ≤ t.n ∧ t.n ≤ R.length ∧ -1 ≤ t.first ∧ t.first < R.length ∧ 0 ≤ t.at_ ∧ t.at_ ≤ R.length ∧ (0 < t.n → 0 ≤ t.first) := by
  have key : ∀ (R : List RL) (t : Scan × Nat), (0 ≤ t.1.n ∧ t.1.n ≤ t.2 ∧ -1 ≤ t.1.first ∧ t.1.first < t.2 ∧ 0 ≤ t.1.at_ ∧ t.1.at_ ≤ t.2 ∧ (0 < t.1.n → 0 ≤ t.1.first)) →
      (0 ≤ (R.foldl (scanStep q) t).1.n ∧ (R.foldl (scanStep q) t).1.n ≤ (R.foldl (scanStep q) t).2 ∧ -1 ≤ (R.foldl (scanStep q) t).1.first ∧ (R.foldl (scanStep q) t).1.first < (R.foldl (scanStep q) t).2 ∧ 0 ≤ (R.foldl (scanStep q) t).1.at_ ∧ (R.foldl (scanStep q) t).1.at_ ≤ (R.foldl (scanStep q) t).2 ∧ (0 < (R.foldl (scanStep q) t).1.n → 0 ≤ (R.foldl (scanStep q) t).1.first)) := by
    intro R
    induction R with
    | nil => intro t h; exact h
    | cons x r ih =>
      intro t h
      rw [List.foldl_cons]
      refine ih _ ?_
      simp only [scanStep]
      split <;> split <;> split <;> omega
  have := key R (⟨0, -1, 0⟩, 0) (by simp)
  have h2 : (R.foldl (scanStep q) (⟨0, -1, 0⟩, 0)).2 = R.length := by rw [scan_snd]; simp
  rw [h2] at this
  exact this

/-- The reference's Put. -/
def putO (t : Scan) (R1 : List RL) (l : RL) : List RL := R1.take t.at_.toNat ++ [l] ++ R1.drop t.at_.toNat
def putT (t : Scan) (R1 : List RL) (l : RL) : List RL := if t.n = 2 then (putO t R1 l).take t.first.toNat ++ (putO t R1 l).drop (t.first.toNat + 1) else putO t R1 l
def putR (R : List RL) (l : RL) : List RL := putT (scan (l.n.tmod 4) (R.filter (keepP l.a l.n))).1 (R.filter (keepP l.a l.n)) l
end Go.Sh

/- The sets and the reference's lines, side by side: the plain law. -/
set_option linter.unusedVariables false
namespace Go.Sh
open Go.RowKit

def toRL (x : Ln) : RL := ⟨x.asid, x.num, x.at_⟩
structure Inv (s : Nat → List Ln) : Prop where
  len : okT s
  num : ∀ q x, x ∈ s q → 0 ≤ x.num ∧ q4 x.num = q
  one : ∀ q, (s q).Pairwise fun x y => ¬ (x.asid = y.asid ∧ x.num = y.num)
theorem Inv.nil : Inv fun _ => [] := ⟨fun _ => by simp, fun q x h => by simp at h, fun q => .nil⟩
theorem mem_preL {s : Nat → List Ln} {x : Ln} : ∀ {i : Nat}, x ∈ preL s i ↔ ∃ q, q < i ∧ x ∈ s q
  | 0 => by simp [preL]
  | i + 1 => by
    rw [preL, List.mem_append, mem_preL (i := i)]
    constructor
    · rintro (⟨q, h1, h2⟩ | h)
      · exact ⟨q, by omega, h2⟩
      · exact ⟨i, by omega, h⟩
    · rintro ⟨q, h1, h2⟩
      by_cases e : q = i
      · subst e; exact .inr h2
      · exact .inl ⟨q, by omega, h2⟩
theorem preL_filter (s : Nat → List Ln) (p : Ln → Bool) : ∀ i, (preL s i).filter p = preL (fun q => (s q).filter p) i
  | 0 => rfl
  | i + 1 => by rw [preL, preL, List.filter_append, preL_filter s p i]
theorem preL_congr {s s' : Nat → List Ln} : ∀ {i : Nat}, (∀ q, q < i → s q = s' q) → preL s i = preL s' i
  | 0, _ => rfl
  | i + 1, h => by rw [preL, preL, preL_congr fun q hq => h q (by omega), h i (by omega)]

theorem Inv.filter {s : Nat → List Ln} (h : Inv s) {q : Nat} (p : Ln → Bool) : Inv (fset s q ((s q).filter p)) := by
  refine ⟨okT_fset h.len (Nat.le_trans (List.length_filter_le _ _) (h.len q)), fun k x hx => ?_, fun k => ?_⟩
  · unfold fset at hx
    split at hx
    · rename_i e; subst e; exact h.num k x ((List.mem_filter.1 hx).1)
    · exact h.num k x hx
  · unfold fset; split
    · exact (h.one q).filter _
    · exact h.one k
theorem Inv.filtS {s : Nat → List Ln} (h : Inv s) (p : Ln → Bool) (i : Nat) : Inv (filtS p s i) := by
  refine ⟨okT_filtS h.len i, fun k x hx => ?_, fun k => ?_⟩
  · unfold Go.Sh.filtS at hx
    split at hx
    · exact h.num k x ((List.mem_filter.1 hx).1)
    · exact h.num k x hx
  · unfold Go.Sh.filtS; split
    · exact (h.one k).filter _
    · exact h.one k

/-! ### Drop, Flush, Clear -/
theorem keepP_toRL (a n : Int) (x : Ln) : keepP a n (toRL x) = !isP a n x := by
  simp only [keepP, toRL, isP, Bool.not_and]; rfl
theorem filter_none {s : Nat → List Ln} (h : Inv s) {a n : Int} {k : Nat} (hk : k ≠ q4 n) : (s k).filter (fun x => !isP a n x) = s k := by
  refine List.filter_eq_self.2 fun x hx => ?_
  have := (h.num k x hx).2
  simp only [isP, Bool.not_eq_true', Bool.and_eq_false_iff, decide_eq_false_iff_not]
  right; intro e; rw [e] at this; exact hk this.symm
theorem dropS_preL {s : Nat → List Ln} (h : Inv s) (a n : Int) : (preL (fset s (q4 n) ((s (q4 n)).filter fun x => !isP a n x)) 4).map toRL = ((preL s 4).map toRL).filter (keepP a n) := by
  rw [List.filter_map, show (keepP a n ∘ toRL) = fun x => !isP a n x from funext fun x => keepP_toRL a n x, preL_filter]
  congr 1
  refine preL_congr fun q _ => ?_
  unfold fset
  split
  · rename_i e; subst e; rfl
  · rename_i e; exact (filter_none h e).symm
theorem flushS_preL (s : Nat → List Ln) (a : Int) : (preL (filtS (fun x => !isA a x) s 4) 4).map toRL = ((preL s 4).map toRL).filter (keepA a) := by
  have e : preL (filtS (fun x => !isA a x) s 4) 4 = preL (fun q => (s q).filter fun x => !isA a x) 4 := preL_congr fun q hq => if_pos hq
  rw [e, List.filter_map, show (keepA a ∘ toRL) = fun x => !isA a x from funext fun x => rfl, preL_filter]
theorem clearS_preL (s : Nat → List Ln) : preL (filtS (fun x => !isT x) s 4) 4 = [] := by
  have e : preL (filtS (fun x => !isT x) s 4) 4 = preL (fun q => (s q).filter fun x => !isT x) 4 := preL_congr fun q hq => if_pos hq
  rw [e, ← preL_filter]
  simp [isT]

/-! ### Put -/
theorem Inv.put {s : Nat → List Ln} (h : Inv s) (l : Ln) (hl : 0 ≤ l.num) : Inv (putS s l) := by
  unfold putS
  have hf := h.filter (q := q4 l.num) fun x => !isP l.asid l.num x
  have e : fset s (q4 l.num) ((s (q4 l.num)).filter fun x => !isP l.asid l.num x) (q4 l.num) = (s (q4 l.num)).filter fun x => !isP l.asid l.num x := fset_same _ _ _
  have hone := hf.one (q4 l.num)
  rw [e] at hone
  have hnum : ∀ x, x ∈ (s (q4 l.num)).filter (fun x => !isP l.asid l.num x) → (0 ≤ x.num ∧ q4 x.num = q4 l.num) ∧ ¬ (x.asid = l.asid ∧ x.num = l.num) := fun x hx => by
    obtain ⟨h1, h2⟩ := List.mem_filter.1 hx
    refine ⟨h.num _ x h1, fun g => ?_⟩
    simp [isP, g.1, g.2] at h2
  have hlen : ((s (q4 l.num)).filter fun x => !isP l.asid l.num x).length ≤ 2 := Nat.le_trans (List.length_filter_le _ _) (h.len _)
  generalize (s (q4 l.num)).filter (fun x => !isP l.asid l.num x) = L at hone hnum hlen
  have hsub : ∀ x, x ∈ (if L.length = 2 then L.drop 1 else L) → x ∈ L := fun x hx => by
    split at hx
    · exact List.mem_of_mem_drop hx
    · exact hx
  have hpw : (if L.length = 2 then L.drop 1 else L).Pairwise fun x y => ¬ (x.asid = y.asid ∧ x.num = y.num) := by
    split
    · exact hone.sublist (List.drop_sublist _ _)
    · exact hone
  refine ⟨okT_fset h.len (putL_len hlen l), fun k x hx => ?_, fun k => ?_⟩
  · unfold fset at hx
    split at hx
    · rename_i ek
      subst ek
      rcases List.mem_append.1 hx with hx | hx
      · exact (hnum x (hsub x hx)).1
      · simp at hx; subst hx; exact ⟨hl, rfl⟩
    · exact h.num k x hx
  · unfold fset
    split
    · refine List.pairwise_append.2 ⟨hpw, List.pairwise_singleton _ _, fun x hx y hy => ?_⟩
      simp at hy; subst hy
      exact (hnum x (hsub x hx)).2
    · exact h.one k

/-- The scan of lines that are all below, then of the set, then above. -/
theorem scan_low {q : Int} : ∀ (A : List RL) (t : Scan × Nat), (∀ x ∈ A, x.n.tmod 4 < q) → (A ≠ [] → True) → A.foldl (scanStep q) t = (⟨t.1.n, t.1.first, if A = [] then t.1.at_ else (t.2 + A.length : Nat)⟩, t.2 + A.length)
  | [], t, _, _ => by simp
  | x :: r, t, h, _ => by
    have hx := h x (by simp)
    rw [List.foldl_cons, scan_low r _ (fun y hy => h y (by simp [hy])) (fun _ => trivial)]
    simp only [scanStep, if_neg (show ¬ x.n.tmod 4 = q by omega), if_neg (show ¬ (x.n.tmod 4 = q ∧ t.1.first < 0) from fun g => by omega), if_pos (show x.n.tmod 4 ≤ q by omega), List.length_cons, List.cons_ne_nil, if_false]
    refine Prod.ext ?_ (by simp only; omega)
    simp only [Scan.mk.injEq, true_and]
    split
    · rename_i e; subst e; simp
    · omega
theorem scan_mid {q : Int} : ∀ (A : List RL) (t : Scan × Nat), (∀ x ∈ A, x.n.tmod 4 = q) → (0 ≤ t.1.first ∨ t.1.first = -1) → A.foldl (scanStep q) t = (⟨t.1.n + A.length, if A ≠ [] ∧ t.1.first < 0 then (t.2 : Int) else t.1.first, if A = [] then t.1.at_ else (t.2 + A.length : Nat)⟩, t.2 + A.length)
  | [], t, _, _ => by simp
  | x :: r, t, h, ht => by
    have hx := h x (by simp)
    rw [List.foldl_cons, scan_mid r _ (fun y hy => h y (by simp [hy])) (by simp only [scanStep]; split <;> omega)]
    simp only [scanStep, List.length_cons, List.cons_ne_nil, if_false, ne_eq, not_false_eq_true, true_and, hx, if_true, Int.le_refl]
    refine Prod.ext ?_ (by simp only; omega)
    simp only [Scan.mk.injEq]
    refine ⟨by push_cast; omega, ?_, ?_⟩
    · by_cases g : t.1.first < 0
      · rw [if_pos g, if_neg (by omega)]
      · rw [if_neg g, if_neg (fun e => g e.2)]
    · split
      · rename_i e; subst e; simp
      · omega
theorem scan_high {q : Int} : ∀ (A : List RL) (t : Scan × Nat), (∀ x ∈ A, q < x.n.tmod 4) → A.foldl (scanStep q) t = (t.1, t.2 + A.length)
  | [], t, _ => rfl
  | x :: r, t, h => by
    have hx := h x (by simp)
    rw [List.foldl_cons, scan_high r _ (fun y hy => h y (by simp [hy]))]
    simp only [scanStep, if_neg (show ¬ x.n.tmod 4 = q by omega), if_neg (show ¬ (x.n.tmod 4 = q ∧ t.1.first < 0) from fun g => by omega), if_neg (show ¬ x.n.tmod 4 ≤ q by omega), List.length_cons]
    exact Prod.ext rfl (by simp only; omega)
theorem scan_three {q : Int} {A S B : List RL} (hA : ∀ x ∈ A, x.n.tmod 4 < q) (hS : ∀ x ∈ S, x.n.tmod 4 = q) (hB : ∀ x ∈ B, q < x.n.tmod 4) : (scan q (A ++ (S ++ B))).1 = ⟨S.length, if S = [] then -1 else A.length, (A.length + S.length : Nat)⟩ := by
  rw [scan, List.foldl_append, List.foldl_append, scan_low A _ hA (fun _ => trivial), scan_mid S _ hS (.inr rfl), scan_high B _ hB]
  simp only [Scan.mk.injEq]
  refine ⟨by omega, ?_, ?_⟩
  · by_cases e : S = []
    · simp [e]
    · simp [e]
  · by_cases e : S = []
    · subst e
      by_cases e2 : A = []
      · simp [e2]
      · simp [e2]
    · simp [e]

/-- The sets, cut at one. -/
theorem preL_three (s : Nat → List Ln) {q : Nat} (hq : q < 4) : ∃ A B : List Ln, preL s 4 = A ++ (s q ++ B) ∧ (∀ x ∈ A, ∃ k, k < q ∧ x ∈ s k) ∧ (∀ x ∈ B, ∃ k, q < k ∧ x ∈ s k) ∧ ∀ L, preL (fset s q L) 4 = A ++ (L ++ B) := by
  have : q = 0 ∨ q = 1 ∨ q = 2 ∨ q = 3 := by omega
  rcases this with rfl | rfl | rfl | rfl
  · refine ⟨[], s 1 ++ (s 2 ++ s 3), by simp [preL], by simp, fun x hx => ?_, fun L => by simp [preL, fset]⟩
    simp only [List.mem_append] at hx
    rcases hx with h | h | h
    · exact ⟨1, by omega, h⟩
    · exact ⟨2, by omega, h⟩
    · exact ⟨3, by omega, h⟩
  · refine ⟨s 0, s 2 ++ s 3, by simp [preL], fun x hx => ⟨0, by omega, hx⟩, fun x hx => ?_, fun L => by simp [preL, fset]⟩
    simp only [List.mem_append] at hx
    rcases hx with h | h
    · exact ⟨2, by omega, h⟩
    · exact ⟨3, by omega, h⟩
  · refine ⟨s 0 ++ s 1, s 3, by simp [preL], fun x hx => ?_, fun x hx => ⟨3, by omega, hx⟩, fun L => by simp [preL, fset]⟩
    simp only [List.mem_append] at hx
    rcases hx with h | h
    · exact ⟨0, by omega, h⟩
    · exact ⟨1, by omega, h⟩
  · refine ⟨s 0 ++ (s 1 ++ s 2), [], by simp [preL], fun x hx => ?_, by simp, fun L => by simp [preL, fset]⟩
    simp only [List.mem_append] at hx
    rcases hx with h | h | h
    · exact ⟨0, by omega, h⟩
    · exact ⟨1, by omega, h⟩
    · exact ⟨2, by omega, h⟩

theorem putS_preL {s : Nat → List Ln} (h : Inv s) (l : Ln) (hl : 0 ≤ l.num) : (preL (putS s l) 4).map toRL = putR ((preL s 4).map toRL) (toRL l) := by
  have hq := q4_lt l.num
  have hi := h.filter (q := q4 l.num) fun x => !isP l.asid l.num x
  have hd := dropS_preL h l.asid l.num
  unfold putS putR
  rw [show (toRL l).a = l.asid from rfl, show (toRL l).n = l.num from rfl, ← hd, q4_eq hl]
  have e : fset s (q4 l.num) ((s (q4 l.num)).filter fun x => !isP l.asid l.num x) (q4 l.num) = (s (q4 l.num)).filter fun x => !isP l.asid l.num x := fset_same _ _ _
  generalize (s (q4 l.num)).filter (fun x => !isP l.asid l.num x) = L at e hi ⊢
  generalize q4 l.num = q at hq e hi ⊢
  rw [show fset s q (putL L l) = fset (fset s q L) q (putL L l) from (fset_twice _ _ _ _).symm]
  generalize fset s q L = s1 at hi e ⊢
  obtain ⟨A, B, h1, h2, h3, h4⟩ := preL_three s1 hq
  rw [h4, h1, e]
  have hmod : ∀ k x, x ∈ s1 k → (toRL x).n.tmod 4 = (k : Int) := fun k x hx => by
    obtain ⟨g1, g2⟩ := hi.num k x hx
    show x.num.tmod 4 = _
    rw [q4_eq g1, g2]
  have hlen : L.length ≤ 2 := by rw [← e]; exact hi.len q
  have hs := scan_three (q := (q : Int)) (A := A.map toRL) (S := L.map toRL) (B := B.map toRL) (fun x hx => by
      obtain ⟨y, hy, rfl⟩ := List.mem_map.1 hx
      obtain ⟨k, g1, g2⟩ := h2 y hy
      rw [hmod k y g2]; omega) (fun x hx => by
      obtain ⟨y, hy, rfl⟩ := List.mem_map.1 hx
      rw [← e] at hy
      exact hmod q y hy) (fun x hx => by
      obtain ⟨y, hy, rfl⟩ := List.mem_map.1 hx
      obtain ⟨k, g1, g2⟩ := h3 y hy
      rw [hmod k y g2]; omega)
  simp only [List.map_append] at hs ⊢
  rw [hs]
  have hpo : putO ⟨(L.map toRL).length, if L.map toRL = [] then -1 else (A.map toRL).length, ((A.map toRL).length + (L.map toRL).length : Nat)⟩ (A.map toRL ++ (L.map toRL ++ B.map toRL)) (toRL l) = A.map toRL ++ (L.map toRL ++ (toRL l :: B.map toRL)) := by
    unfold putO
    simp only [Int.toNat_natCast]
    rw [← List.append_assoc, List.take_left' (by simp), List.drop_left' (by simp)]
    simp
  unfold putT
  rw [hpo]
  simp only [putL]
  rcases le2 hlen with rfl | ⟨x, rfl⟩ | ⟨x, y, rfl⟩
  · simp
  · simp
  · simp only [List.map_cons, List.map_nil, List.length_cons, List.length_nil, Nat.zero_add, Nat.reduceAdd, List.cons_ne_nil, if_false, Int.toNat_natCast, List.drop_succ_cons, List.drop_zero]
    rw [if_pos trivial, if_pos (show ((2 : Nat) : Int) = 2 from rfl)]
    simp only [List.length_map]
    rw [List.take_left' (by simp), show A.length + 1 = (A.map toRL).length + 1 by simp, List.drop_append]
    simp

/-! ### Look, Evict -/
theorem find_preL {s : Nat → List Ln} (h : Inv s) (a n : Int) : (((preL s 4).map toRL).find? (atP a n)) = ((s (q4 n)).find? (isP a n)).map toRL := by
  obtain ⟨A, B, h1, h2, h3, _⟩ := preL_three s (q4_lt n)
  have no : ∀ l : List Ln, (∀ x ∈ l, ∃ k, k ≠ q4 n ∧ x ∈ s k) → l.find? (isP a n) = none := fun l hl => by
    rw [List.find?_eq_none]
    intro x hx
    obtain ⟨k, g1, g2⟩ := hl x hx
    have := (h.num k x g2).2
    simp only [isP, Bool.and_eq_true, decide_eq_true_eq]
    intro g; rw [g.2] at this; exact g1 this.symm
  rw [List.find?_map, show (atP a n ∘ toRL) = isP a n from rfl, h1, List.find?_append, List.find?_append, no A fun x hx => by
    obtain ⟨k, g1, g2⟩ := h2 x hx; exact ⟨k, by omega, g2⟩, no B fun x hx => by
    obtain ⟨k, g1, g2⟩ := h3 x hx; exact ⟨k, by omega, g2⟩]
  simp
theorem preL_one {s : Nat → List Ln} (h : Inv s) : ∀ i, (preL s i).Pairwise fun x y => ¬ (x.asid = y.asid ∧ x.num = y.num)
  | 0 => .nil
  | i + 1 => by
    rw [preL]
    refine List.pairwise_append.2 ⟨preL_one h i, h.one i, fun x hx y hy g => ?_⟩
    obtain ⟨k, g1, g2⟩ := mem_preL.1 hx
    have e1 := (h.num k x g2).2
    have e2 := (h.num i y hy).2
    rw [g.2] at e1; omega
theorem erase_filter {l : List Ln} (h : l.Pairwise fun x y => ¬ (x.asid = y.asid ∧ x.num = y.num)) : ∀ {k : Nat} {x : Ln}, l[k]? = some x → l.filter (fun y => !isP x.asid x.num y) = l.take k ++ l.drop (k + 1) := by
  induction l with
  | nil => intro k x hx; simp at hx
  | cons a r ih =>
    intro k x hx
    rw [List.pairwise_cons] at h
    cases k with
    | zero =>
      simp only [List.getElem?_cons_zero, Option.some.injEq] at hx
      subst hx
      have : isP a.asid a.num a = true := by simp [isP]
      rw [List.filter_cons, this]
      simp only [Bool.not_true, Bool.false_eq_true, if_false, List.take_zero, List.nil_append, List.drop_succ_cons, List.drop_zero]
      refine List.filter_eq_self.2 fun y hy => ?_
      have := h.1 y hy
      simp only [isP, Bool.not_eq_true', Bool.and_eq_false_iff, decide_eq_false_iff_not]
      by_cases g : y.asid = a.asid
      · exact .inr fun e => this ⟨g.symm, e.symm⟩
      · exact .inl g
    | succ k =>
      rw [List.getElem?_cons_succ] at hx
      have hm : x ∈ r := List.mem_of_getElem? hx
      have : isP x.asid x.num a = false := by
        have := h.1 x hm
        simp only [isP, Bool.and_eq_false_iff, decide_eq_false_iff_not]
        by_cases g : a.asid = x.asid
        · exact .inr fun e => this ⟨g, e⟩
        · exact .inl g
      rw [List.filter_cons, this]
      simp only [Bool.not_false, if_true, List.take_succ_cons, List.drop_succ_cons, List.cons_append]
      rw [ih h.2 hx]
theorem evict_preL {s : Nat → List Ln} (h : Inv s) {k : Nat} {x : Ln} (hx : (preL s 4)[k]? = some x) : (preL (fset s (q4 x.num) ((s (q4 x.num)).filter fun y => !isP x.asid x.num y)) 4).map toRL = ((preL s 4).map toRL).take k ++ ((preL s 4).map toRL).drop (k + 1) := by
  rw [dropS_preL h, List.filter_map, show (keepP x.asid x.num ∘ toRL) = fun y => !isP x.asid x.num y from funext fun y => keepP_toRL _ _ y, erase_filter (preL_one h 4) hx]
  simp [List.map_take, List.map_drop]
end Go.Sh

/- Counts, and the order of the lines: plain. -/
set_option linter.unusedVariables false
namespace Go.Sh
open Go.RowKit

def cq (L : List Ln) (q : Nat) : Nat := (L.filter fun x => q4 x.num == q).length
def cntV (c : Nat → Nat) : List Value := [.int .i64 (c 0 : Nat), .int .i64 (c 1 : Nat), .int .i64 (c 2 : Nat), .int .i64 (c 3 : Nat)]
theorem cntV_get (c : Nat → Nat) {q : Nat} (h : q < 4) : (cntV c)[q]? = some (.int .i64 (c q : Nat)) := by
  have : q = 0 ∨ q = 1 ∨ q = 2 ∨ q = 3 := by omega
  rcases this with rfl | rfl | rfl | rfl <;> rfl
theorem cntV_set (c : Nat → Nat) {q : Nat} (h : q < 4) : setRange (cntV c) q [.int .i64 ((c q : Nat) + 1 : Int)] = cntV (fset c q (c q + 1)) := by
  have : q = 0 ∨ q = 1 ∨ q = 2 ∨ q = 3 := by omega
  rcases this with rfl | rfl | rfl | rfl <;> rfl
theorem cq_take {L : List Ln} {k : Nat} {x : Ln} (h : L[k]? = some x) : cq (L.take (k + 1)) = fset (cq (L.take k)) (q4 x.num) (cq (L.take k) (q4 x.num) + 1) := by
  funext q
  unfold cq fset
  rw [List.take_add_one, h, List.filter_append]
  by_cases e : q = q4 x.num
  · subst e; simp
  · rw [if_neg e]
    have : (q4 x.num == q) = false := by simp; exact fun h => e h.symm
    simp [this]
theorem cq_le (L : List Ln) (q : Nat) : cq L q ≤ L.length := List.length_filter_le _ _
theorem cq_preL {s : Nat → List Ln} (h : Inv s) {q : Nat} (hq : q < 4) : cq (preL s 4) q = (s q).length := by
  obtain ⟨A, B, h1, h2, h3, _⟩ := preL_three s hq
  have no : ∀ l : List Ln, (∀ x ∈ l, ∃ k, k ≠ q ∧ x ∈ s k) → l.filter (fun x => q4 x.num == q) = [] := fun l hl => by
    rw [List.filter_eq_nil_iff]
    intro x hx
    obtain ⟨k, g1, g2⟩ := hl x hx
    have := (h.num k x g2).2
    simp only [beq_iff_eq]; omega
  unfold cq
  rw [h1, List.filter_append, List.filter_append, no A fun x hx => by
    obtain ⟨k, g1, g2⟩ := h2 x hx; exact ⟨k, by omega, g2⟩, no B fun x hx => by
    obtain ⟨k, g1, g2⟩ := h3 x hx; exact ⟨k, by omega, g2⟩, List.filter_eq_self.2 fun x hx => by simp [(h.num q x hx).2]]
  simp
theorem preL_sorted {s : Nat → List Ln} (h : Inv s) : ∀ i, (preL s i).Pairwise fun x y => q4 x.num ≤ q4 y.num
  | 0 => .nil
  | i + 1 => by
    rw [preL]
    refine List.pairwise_append.2 ⟨preL_sorted h i, ?_, fun x hx y hy => ?_⟩
    · refine List.Pairwise.imp_of_mem (R := fun _ _ => True) (fun {a b} ha hb _ => ?_) (List.pairwise_of_forall fun _ _ => trivial)
      have := (h.num i a ha).2; have := (h.num i b hb).2; omega
    · obtain ⟨k, g1, g2⟩ := mem_preL.1 hx
      have e1 := (h.num k x g2).2
      have e2 := (h.num i y hy).2
      omega
theorem sorted_at {L : List Ln} (h : L.Pairwise fun x y => q4 x.num ≤ q4 y.num) {k : Nat} {x y : Ln} (hx : L[k]? = some x) (hy : L[k + 1]? = some y) : q4 x.num ≤ q4 y.num := by
  obtain ⟨h1, h2⟩ := List.getElem?_eq_some_iff.1 hx
  obtain ⟨h3, h4⟩ := List.getElem?_eq_some_iff.1 hy
  have := List.pairwise_iff_getElem.1 h k (k + 1) h1 h3 (by omega)
  rwa [h2, h4] at this
theorem putS_other {s : Nat → List Ln} (l : Ln) {q : Nat} (h : q ≠ q4 l.num) : putS s l q = s q := fset_ne _ _ h
end Go.Sh

/- What was put last of a page: plain. -/
set_option linter.unusedVariables false
namespace Go.Sh
open Go.RowKit

abbrev DL := List ((Int × Int) × Int × Nat)
abbrev DM := List ((Int × Int) × Bool × Nat)
abbrev pgV := pairV .u64
def nuV (n : Int) : Value := .int .u64 n
def boV (b : Bool) : Value := .bool b
theorem pres_mem {s : Nat → List Ln} {x : Ln} {q : Nat} (hq : q < 4) (h : x ∈ s q) : x ∈ preL s 4 := mem_preL.2 ⟨q, hq, h⟩
theorem mem_dropS {s : Nat → List Ln} (hs : Inv s) {a n : Int} {x : Ln} (h : x ∈ preL (fset s (q4 n) ((s (q4 n)).filter fun x => !isP a n x)) 4) : x ∈ preL s 4 ∧ ¬ (x.asid = a ∧ x.num = n) := by
  obtain ⟨q, hq, hx⟩ := mem_preL.1 h
  unfold fset at hx
  split at hx
  · rename_i e
    obtain ⟨h1, h2⟩ := List.mem_filter.1 hx
    refine ⟨pres_mem (q4_lt _) h1, fun g => ?_⟩
    simp [isP, g.1, g.2] at h2
  · rename_i e
    refine ⟨pres_mem hq hx, fun g => e ?_⟩
    rw [← (hs.num q x hx).2, g.2]
theorem mem_putS {s : Nat → List Ln} (hs : Inv s) {l x : Ln} (h : x ∈ preL (putS s l) 4) : x = l ∨ (x ∈ preL s 4 ∧ ¬ (x.asid = l.asid ∧ x.num = l.num)) := by
  obtain ⟨q, hq, hx⟩ := mem_preL.1 h
  unfold putS fset at hx
  split at hx
  · rename_i e
    unfold putL at hx
    rcases List.mem_append.1 hx with g | g
    · have g2 : x ∈ (s (q4 l.num)).filter fun x => !isP l.asid l.num x := by
        split at g
        · exact List.mem_of_mem_drop g
        · exact g
      obtain ⟨h1, h2⟩ := List.mem_filter.1 g2
      refine .inr ⟨pres_mem (q4_lt _) h1, fun g => ?_⟩
      simp [isP, g.1, g.2] at h2
    · exact .inl (by simpa using g)
  · rename_i e
    refine .inr ⟨pres_mem hq hx, fun g => e ?_⟩
    rw [← (hs.num q x hx).2, g.2]
theorem mem_flush {s : Nat → List Ln} {a : Int} {x : Ln} (h : x ∈ preL (filtS (fun x => !isA a x) s 4) 4) : x ∈ preL s 4 ∧ x.asid ≠ a := by
  obtain ⟨q, hq, hx⟩ := mem_preL.1 h
  unfold filtS at hx
  rw [if_pos hq] at hx
  obtain ⟨h1, h2⟩ := List.mem_filter.1 hx
  exact ⟨pres_mem hq h1, fun g => by simp [isA, g] at h2⟩
theorem find_putS (s : Nat → List Ln) (l : Ln) : ((putS s l) (q4 l.num)).find? (isP l.asid l.num) = some l := by
  have e : putS s l (q4 l.num) = putL ((s (q4 l.num)).filter fun x => !isP l.asid l.num x) l := fset_same _ _ _
  rw [e]
  unfold putL
  rw [List.find?_append]
  have h1 : (if ((s (q4 l.num)).filter fun x => !isP l.asid l.num x).length = 2 then ((s (q4 l.num)).filter fun x => !isP l.asid l.num x).drop 1 else (s (q4 l.num)).filter fun x => !isP l.asid l.num x).find? (isP l.asid l.num) = none := by
    rw [List.find?_eq_none]
    intro x hx
    have hx2 : x ∈ (s (q4 l.num)).filter fun x => !isP l.asid l.num x := by
      split at hx
      · exact List.mem_of_mem_drop hx
      · exact hx
    have := (List.mem_filter.1 hx2).2
    simpa using this
  rw [h1]
  simp [isP]

/-- What holds between two steps. -/
structure LInv (s : Nat → List Ln) (D : DL) : Prop where
  is : Inv s
  nd : (keysD D).Nodup
  all : ∀ x ∈ preL s 4, getD D (x.asid, x.num) = some x.at_
theorem LInv.nil : LInv (fun _ => []) [] := ⟨Inv.nil, .nil, fun x hx => by simp [preL] at hx⟩
theorem LInv.put {s : Nat → List Ln} {D : DL} (h : LInv s D) (l : Ln) (hl : 0 ≤ l.num) (c : Nat) : LInv (putS s l) (setD (l.asid, l.num) l.at_ c D) := by
  refine ⟨h.is.put l hl, nodup_set h.nd, fun x hx => ?_⟩
  rw [getD_set]
  rcases mem_putS h.is hx with rfl | ⟨h1, h2⟩
  · rw [if_pos rfl]
  · rw [if_neg (fun e => h2 ⟨(congrArg Prod.fst e).symm, (congrArg Prod.snd e).symm⟩)]; exact h.all x h1
theorem LInv.drop {s : Nat → List Ln} {D : DL} (h : LInv s D) (a n : Int) : LInv (fset s (q4 n) ((s (q4 n)).filter fun x => !isP a n x)) (delD (a, n) D) := by
  refine ⟨h.is.filter _, nodup_del h.nd, fun x hx => ?_⟩
  obtain ⟨h1, h2⟩ := mem_dropS h.is hx
  rw [getD_del h.nd, if_neg (fun e => h2 ⟨(congrArg Prod.fst e).symm, (congrArg Prod.snd e).symm⟩)]
  exact h.all x h1
theorem LInv.sub {s s' : Nat → List Ln} {D : DL} (h : LInv s D) (hi : Inv s') (hx : ∀ x ∈ preL s' 4, x ∈ preL s 4) : LInv s' D := ⟨hi, h.nd, fun x g => h.all x (hx x g)⟩
/-- Somebody's, taken out one by one. -/
structure FInv (D0 : DL) (a : Int) (D : DL) : Prop where
  nd : (keysD D).Nodup
  far : ∀ p : Int × Int, p.1 ≠ a → getD D p = getD D0 p
theorem FInv.start {D0 : DL} (a : Int) (h : (keysD D0).Nodup) : FInv D0 a D0 := ⟨h, fun _ _ => rfl⟩
theorem FInv.del {D0 D : DL} {a : Int} (h : FInv D0 a D) (n : Int) : FInv D0 a (delD (a, n) D) :=
  ⟨nodup_del h.nd, fun p hp => by rw [getD_del h.nd, if_neg (fun e => hp (congrArg Prod.fst e).symm)]; exact h.far p hp⟩
theorem LInv.flush {s : Nat → List Ln} {D0 D : DL} {a : Int} (h : LInv s D0) (g : FInv D0 a D) : LInv (filtS (fun x => !isA a x) s 4) D := by
  refine ⟨h.is.filtS _ 4, g.nd, fun x hx => ?_⟩
  obtain ⟨h1, h2⟩ := mem_flush hx
  rw [g.far _ h2]
  exact h.all x h1
/-- The pages that were met. -/
def MInv (L : List Ln) (k : Nat) (E : DM) : Prop := ∀ p : Int × Int, (∀ x ∈ L.take k, (x.asid, x.num) ≠ p) → getD E p = none
theorem MInv.start (L : List Ln) : MInv L 0 [] := fun _ _ => rfl
theorem MInv.step {L : List Ln} {k : Nat} {E : DM} (h : MInv L k E) {x : Ln} (hx : L[k]? = some x) (c : Nat) : MInv L (k + 1) (setD (x.asid, x.num) true c E) := fun p hp => by
  have e : L.take (k + 1) = L.take k ++ [x] := by rw [List.take_add_one, hx]; rfl
  rw [e] at hp
  rw [getD_set, if_neg (hp x (by simp))]
  exact h p fun y hy => hp y (by simp [hy])
theorem MInv.none {s : Nat → List Ln} (hs : Inv s) {k : Nat} {E : DM} (h : MInv (preL s 4) k E) {x : Ln} (hx : (preL s 4)[k]? = some x) : getD E (x.asid, x.num) = none := by
  refine h _ fun y hy e => ?_
  obtain ⟨j, hj⟩ := List.mem_iff_getElem?.1 hy
  obtain ⟨hk, hxk⟩ := List.getElem?_eq_some_iff.1 hx
  have hjk : j < k := by
    have := (List.getElem?_eq_some_iff.1 hj).1
    rw [List.length_take] at this; omega
  rw [List.getElem?_take, if_pos hjk] at hj
  obtain ⟨hj1, hyj⟩ := List.getElem?_eq_some_iff.1 hj
  have := List.pairwise_iff_getElem.1 (preL_one hs 4) j k hj1 hk hjk
  rw [hyj, hxk] at this
  exact this ⟨congrArg Prod.fst e, congrArg Prod.snd e⟩
theorem run_zeroV {P : Program} {t : TypeId} {z : Value} (h : (P.info? t).bind (·.zero) = some z) (w : World) : (zeroValue t).run P w = .ok z w := by
  cases hi : P.info? t with
  | none => rw [hi] at h; cases h
  | some i =>
    rw [hi] at h
    have h : i.zero = some z := h
    simp [zeroValue, typeInfo, hi, h]
end Go.Sh
