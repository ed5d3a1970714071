import Derived.Test.YtkopfaenfaelfaaSh26
/- Lines, sets of lines, and the row of a Tlb: plain lemmas. -/
set_option linter.unusedVariables false
namespace Go.Sh
open Go.RowKit

/-- An entry of a page table. -/
structure Ent where
  v : Bool
  r : Bool
  w : Bool
  x : Bool
  u : Bool
  g : Bool
  a : Bool
  d : Bool
  cw : Bool
  cr : Bool
  cd : Bool
  gn : Bool
  fr : Int
def entC (e : Ent) : List SV := [.bool e.v, .bool e.r, .bool e.w, .bool e.x, .bool e.u, .bool e.g, .bool e.a, .bool e.d, .bool e.cw, .bool e.cr, .bool e.cd, .bool e.gn, .int .u64 e.fr]
def ent0 : Ent := ⟨false, false, false, false, false, false, false, false, false, false, false, false, 0⟩

theorem lek {n m : Nat} (h : Nat.ble n m = true) : n ≤ m := Nat.le_of_ble_eq_true h
theorem ltk {n m : Nat} (h : Nat.ble (n + 1) m = true) : n < m := Nat.le_of_ble_eq_true h

theorem LoadL.at1 {cs : List Value} {o n : Nat} {K : SV → Prop} (v : SV) (o' : Nat) (e : o = o') (h : cs[o']? = some (v.val zenv)) (hc : v.ok 0 = true) (k : K v) : LoadL cs o n false K := ⟨v, k, hc, by rw [e]; exact h⟩
theorem LoadL.atN {cs : List Value} {o n : Nat} {K : SV → Prop} (l : List SV) (o' : Nat) (e : o = o') (hl : o' + n ≤ cs.length) (h : (cs.drop o').take n = SV.vals zenv l) (hc : SV.oks 0 l = true) (k : K (.agg l)) : LoadL cs o n true K :=
  ⟨.agg l, k, hc, by rw [e]; exact hl, (SV.vals zenv l).toArray, rfl, by rw [e, h]⟩
theorem PutL.row {cs : List Value} {o n : Nat} {y : SV} {K : SO → Prop} (cs' : List Value) (ys : List SV) (o' : Nat) (e : o = o') (hy : ∀ ρ, (y.val ρ).cells.toList = SV.vals ρ ys) (h1 : SV.allone ys = true) (hn : ys.length = n) (hc : SV.oks 0 ys = true) (hb : o' + n ≤ cs.length)
    (hs : setRange cs o' (SV.vals zenv ys) = cs') (k : K (.row cs')) : PutL (.row cs) o n y K := by
  have hl : cs'.length = cs.length := by rw [← hs]; exact setRange_length (by rw [SV.vals_length, hn]; exact hb)
  exact ⟨.row cs', ys, k, hy, h1, hn, fun _ _ _ => trivial, hl, rfl, rfl, rfl, fun ρ => ⟨by rw [e]; exact hb, by rw [e, closed_vals hc ρ]; exact hs.symm⟩⟩

theorem sOff_zero (m off size : Nat) : sOff m 0 off size = off := by unfold sOff; split <;> omega
theorem sOff_lt {m l off size : Nat} (h : l < m) : sOff m l off size = off + l * size := by
  have : Nat.beq m l = false := by rw [← Bool.not_eq_true, Nat.beq_eq]; omega
  simp only [sOff, this]

/-- A line. -/
structure Ln where
  asid : Int
  num : Int
  e : Ent
  at_ : Int
def lnC (l : Ln) : List SV := [.int .u64 l.asid, .int .u64 l.num, .bool l.e.v, .bool l.e.r, .bool l.e.w, .bool l.e.x, .bool l.e.u, .bool l.e.g, .bool l.e.a, .bool l.e.d, .bool l.e.cw, .bool l.e.cr, .bool l.e.cd, .bool l.e.gn, .int .u64 l.e.fr, .int .u64 l.at_]
def ln0 : Ln := ⟨0, 0, ent0, 0⟩
def lnZ : List SV := [.int .u64 0, .int .u64 0, .ff, .ff, .ff, .ff, .ff, .ff, .ff, .ff, .ff, .ff, .ff, .ff, .int .u64 0, .int .u64 0]
def lnV (l : Ln) : List Value := [.int .u64 l.asid, .int .u64 l.num, .bool l.e.v, .bool l.e.r, .bool l.e.w, .bool l.e.x, .bool l.e.u, .bool l.e.g, .bool l.e.a, .bool l.e.d, .bool l.e.cw, .bool l.e.cr, .bool l.e.cd, .bool l.e.gn, .int .u64 l.e.fr, .int .u64 l.at_]
theorem lnV_len (l : Ln) : (lnV l).length = 16 := rfl
def linesV : List Ln → List Value
  | [] => []
  | a :: r => lnV a ++ linesV r
theorem linesV_len : ∀ l, (linesV l).length = l.length * 16
  | [] => rfl
  | a :: r => by rw [linesV, List.length_append, linesV_len r, lnV_len]; simp; omega
theorem linesV_append : ∀ a b, linesV (a ++ b) = linesV a ++ linesV b
  | [], b => rfl
  | x :: r, b => by rw [List.cons_append, linesV, linesV, linesV_append r b, List.append_assoc]
theorem linesV_get : ∀ (l : List Ln) (i : Nat) (a : Ln), l[i]? = some a → ((linesV l).drop (i * 16)).take 16 = lnV a
  | [], i, a, h => by simp at h
  | x :: r, 0, a, h => by
    simp only [List.getElem?_cons_zero, Option.some.injEq] at h
    subst h
    rw [linesV, Nat.zero_mul, List.drop_zero, List.take_append_of_le_length (by rw [lnV_len]; exact Nat.le_refl _)]
    rfl
  | x :: r, i + 1, a, h => by
    rw [List.getElem?_cons_succ] at h
    have : (i + 1) * 16 = (lnV x).length + i * 16 := by rw [lnV_len]; omega
    rw [linesV, this, List.drop_append]
    simp only [Nat.add_sub_cancel_left]
    rw [List.drop_eq_nil_of_le (by omega), List.nil_append]
    exact linesV_get r i a h

/-- A set: two lines, and how many there are. -/
def setC : List Ln → List SV
  | [] => lnZ ++ (lnZ ++ [.int .i64 0])
  | [a] => lnC a ++ (lnZ ++ [.int .i64 1])
  | [a, b] => lnC a ++ (lnC b ++ [.int .i64 2])
  | _ => []
def setVal (l : List Ln) : List Value := SV.vals zenv (setC l)
theorem setC_vals (ρ : Env) (l : List Ln) : SV.vals ρ (setC l) = setVal l := by
  unfold setVal setC
  split <;> rfl
theorem le2 {α : Type} {l : List α} (h : l.length ≤ 2) : l = [] ∨ (∃ a, l = [a]) ∨ ∃ a b, l = [a, b] := by
  rcases l with _ | ⟨a, _ | ⟨b, _ | ⟨c, r⟩⟩⟩
  · exact .inl rfl
  · exact .inr (.inl ⟨a, rfl⟩)
  · exact .inr (.inr ⟨a, b, rfl⟩)
  · simp at h
theorem setVal0 : setVal [] = lnV ln0 ++ (lnV ln0 ++ [.int .i64 0]) := rfl
theorem setVal1 (a : Ln) : setVal [a] = lnV a ++ (lnV ln0 ++ [.int .i64 1]) := rfl
theorem setVal2 (a b : Ln) : setVal [a, b] = lnV a ++ (lnV b ++ [.int .i64 2]) := rfl
theorem setVal_len {l : List Ln} (h : l.length ≤ 2) : (setVal l).length = 33 := by
  rcases le2 h with rfl | ⟨a, rfl⟩ | ⟨a, b, rfl⟩
  · rw [setVal0]; simp [lnV_len]
  · rw [setVal1]; simp [lnV_len]
  · rw [setVal2]; simp [lnV_len]
theorem get32 (a b : Ln) (v : Value) : (lnV a ++ (lnV b ++ [v]))[32]? = some v := by
  rw [List.getElem?_append_right (by rw [lnV_len]; omega), lnV_len, List.getElem?_append_right (by rw [lnV_len]; omega), lnV_len]; rfl
theorem setVal_n {l : List Ln} (h : l.length ≤ 2) : (setVal l)[32]? = some (.int .i64 (l.length : Int)) := by
  rcases le2 h with rfl | ⟨a, rfl⟩ | ⟨a, b, rfl⟩
  · rw [setVal0, get32]; rfl
  · rw [setVal1, get32]; rfl
  · rw [setVal2, get32]; rfl
theorem take16 (a : Ln) (r : List Value) : (lnV a ++ r).take 16 = lnV a := by
  rw [List.take_append_of_le_length (by rw [lnV_len]; exact Nat.le_refl _)]; rfl
theorem drop16 (a : Ln) (r : List Value) : (lnV a ++ r).drop 16 = r := by
  rw [List.drop_append_of_le_length (by rw [lnV_len]; exact Nat.le_refl _), List.drop_eq_nil_of_le (by rw [lnV_len]; exact Nat.le_refl _), List.nil_append]
theorem setVal_lines {l : List Ln} (h : l.length ≤ 2) : (setVal l).take (l.length * 16) = linesV l := by
  rcases le2 h with rfl | ⟨a, rfl⟩ | ⟨a, b, rfl⟩
  · rfl
  · rw [setVal1]; simp only [List.length_cons, List.length_nil, Nat.zero_add, Nat.one_mul, take16, linesV, List.append_nil]
  · rw [setVal2]
    simp only [List.length_cons, List.length_nil, Nat.zero_add, Nat.reduceAdd, Nat.reduceMul, linesV, List.append_nil]
    rw [← List.append_assoc, List.take_append_of_le_length (by simp [lnV_len]), List.take_of_length_le (by simp [lnV_len])]
theorem setVal_line {l : List Ln} (h : l.length ≤ 2) {i : Nat} {a : Ln} (ha : l[i]? = some a) : ((setVal l).drop (16 * i)).take 16 = lnV a := by
  have hi : i < l.length := (List.getElem?_eq_some_iff.1 ha).1
  rcases le2 h with rfl | ⟨x, rfl⟩ | ⟨x, y, rfl⟩
  · simp at hi
  · have : i = 0 := by simpa using hi
    subst this
    simp only [List.getElem?_cons_zero, Option.some.injEq] at ha
    subst ha
    rw [setVal1, Nat.mul_zero, List.drop_zero, take16]
  · have : i = 0 ∨ i = 1 := by simp at hi; omega
    rcases this with rfl | rfl
    · simp only [List.getElem?_cons_zero, Option.some.injEq] at ha
      subst ha
      rw [setVal2, Nat.mul_zero, List.drop_zero, take16]
    · simp only [List.getElem?_cons_succ, List.getElem?_cons_zero, Option.some.injEq] at ha
      subst ha
      rw [setVal2, Nat.mul_one, drop16, take16]

/-! ### The row -/
def tlbR (v : Nat → List Value) (rest : List Value) : List Value := v 0 ++ (v 1 ++ (v 2 ++ (v 3 ++ rest)))
def fset {α : Type} (v : Nat → α) (q : Nat) (l : α) : Nat → α := fun k => if k = q then l else v k
theorem fset_same {α : Type} (v : Nat → α) (q : Nat) (l : α) : fset v q l q = l := by simp [fset]
theorem fset_ne {α : Type} (v : Nat → α) {q k : Nat} (l : α) (h : k ≠ q) : fset v q l k = v k := by simp [fset, h]
theorem fset_twice {α : Type} (v : Nat → α) (q : Nat) (l m : α) : fset (fset v q l) q m = fset v q m := by
  funext k; simp only [fset]; split <;> rfl
theorem fset_self {α : Type} (v : Nat → α) (q : Nat) : fset v q (v q) = v := by
  funext k; simp only [fset]; split
  · rename_i h; rw [h]
  · rfl

section
variable {v : Nat → List Value} (hv : ∀ q, q < 4 → (v q).length = 33) (rest : List Value)
include hv
theorem tlbR_drop {q : Nat} (hq : q < 4) : ∃ r, (tlbR v rest).drop (33 * q) = v q ++ r := by
  have h0 := hv 0 (by omega); have h1 := hv 1 (by omega); have h2 := hv 2 (by omega); have h3 := hv 3 (by omega)
  have : q = 0 ∨ q = 1 ∨ q = 2 ∨ q = 3 := by omega
  rcases this with rfl | rfl | rfl | rfl
  · exact ⟨_, rfl⟩
  · refine ⟨v 2 ++ (v 3 ++ rest), ?_⟩
    rw [tlbR, show 33 * 1 = (v 0).length + 0 from by omega, List.drop_append]; simp
  · refine ⟨v 3 ++ rest, ?_⟩
    rw [tlbR, ← List.append_assoc, show 33 * 2 = (v 0 ++ v 1).length + 0 from by simp; omega, List.drop_append]; simp
  · refine ⟨rest, ?_⟩
    rw [tlbR, ← List.append_assoc, ← List.append_assoc, show 33 * 3 = (v 0 ++ v 1 ++ v 2).length + 0 from by simp; omega, List.drop_append]; simp
theorem tlbR_len : (tlbR v rest).length = 132 + rest.length := by
  have h0 := hv 0 (by omega); have h1 := hv 1 (by omega); have h2 := hv 2 (by omega); have h3 := hv 3 (by omega)
  simp [tlbR]; omega
theorem tlbR_get {q k : Nat} (hq : q < 4) (hk : k < 33) : (tlbR v rest)[33 * q + k]? = (v q)[k]? := by
  obtain ⟨r, hr⟩ := tlbR_drop hv rest hq
  rw [← List.getElem?_drop, hr, List.getElem?_append_left (by rw [hv q hq]; exact hk)]
theorem tlbR_take {q k n : Nat} (hq : q < 4) (hk : k + n ≤ 33) : ((tlbR v rest).drop (33 * q + k)).take n = ((v q).drop k).take n := by
  obtain ⟨r, hr⟩ := tlbR_drop hv rest hq
  rw [← List.drop_drop, hr, List.drop_append_of_le_length (by rw [hv q hq]; omega), List.take_append_of_le_length (by simp [hv q hq]; omega)]
theorem tlbR_set {q k : Nat} {vs : List Value} (hq : q < 4) (hk : k + vs.length ≤ 33) : setRange (tlbR v rest) (33 * q + k) vs = tlbR (fset v q (setRange (v q) k vs)) rest := by
  have h0 := hv 0 (by omega); have h1 := hv 1 (by omega); have h2 := hv 2 (by omega); have h3 := hv 3 (by omega)
  have key : ∀ (a b r : List Value), k + vs.length ≤ b.length → setRange (a ++ (b ++ r)) (a.length + k) vs = a ++ (setRange b k vs ++ r) := fun a b r hb => by
    simp only [setRange]
    rw [List.take_append, List.drop_append]
    rw [List.take_of_length_le (by omega), List.drop_eq_nil_of_le (by omega), Nat.add_sub_cancel_left, show a.length + k + vs.length - a.length = k + vs.length by omega, List.take_append_of_le_length (by omega), List.drop_append_of_le_length (by omega)]
    simp
  have : q = 0 ∨ q = 1 ∨ q = 2 ∨ q = 3 := by omega
  rcases this with rfl | rfl | rfl | rfl
  · have := key [] (v 0) (v 1 ++ (v 2 ++ (v 3 ++ rest))) (by omega)
    simp only [List.nil_append, List.length_nil, Nat.zero_add] at this
    simp only [tlbR, Nat.mul_zero, Nat.zero_add, this]
    rfl
  · have := key (v 0) (v 1) (v 2 ++ (v 3 ++ rest)) (by omega)
    rw [h0] at this
    simp only [tlbR, Nat.mul_one, this]
    rfl
  · have := key (v 0 ++ v 1) (v 2) (v 3 ++ rest) (by omega)
    rw [show (v 0 ++ v 1).length = 33 * 2 by simp; omega, List.append_assoc, List.append_assoc] at this
    simp only [tlbR, this]
    rfl
  · have := key (v 0 ++ (v 1 ++ v 2)) (v 3) rest (by omega)
    rw [show (v 0 ++ (v 1 ++ v 2)).length = 33 * 3 by simp; omega] at this
    simp only [List.append_assoc] at this
    simp only [tlbR, this]
    rfl
end

/-- The row of a Tlb of the sets s. -/
def tlbC (s : Nat → List Ln) (rest : List Value) : List Value := tlbR (fun q => setVal (s q)) rest
def okT (s : Nat → List Ln) : Prop := ∀ q, (s q).length ≤ 2
theorem okT_len {s : Nat → List Ln} (h : okT s) : ∀ q, q < 4 → (setVal (s q)).length = 33 := fun q _ => setVal_len (h q)
theorem okT_fset {s : Nat → List Ln} (h : okT s) {q : Nat} {l : List Ln} (hl : l.length ≤ 2) : okT (fset s q l) := fun k => by
  unfold fset; split
  · exact hl
  · exact h k
theorem tlbC_len {s : Nat → List Ln} (h : okT s) (rest : List Value) : (tlbC s rest).length = 132 + rest.length := tlbR_len (okT_len h) rest
theorem tlbC_fset (s : Nat → List Ln) (q : Nat) (l : List Ln) (rest : List Value) : tlbC (fset s q l) rest = tlbR (fset (fun q => setVal (s q)) q (setVal l)) rest := by
  unfold tlbC
  congr 1
  funext k; simp only [fset]; split <;> rfl
theorem tlbC_set {s : Nat → List Ln} (h : okT s) (rest : List Value) {q : Nat} (hq : q < 4) {l : List Ln} (hl : l.length ≤ 2) : setRange (tlbC s rest) (33 * q) (setVal l) = tlbC (fset s q l) rest := by
  have := tlbR_set (okT_len h) rest (k := 0) (vs := setVal l) hq (by rw [setVal_len hl]; omega)
  rw [Nat.add_zero] at this
  rw [tlbC, this, tlbC_fset]
  congr 2
  simp only [setRange, List.take_zero, List.nil_append, setVal_len hl, Nat.zero_add]
  rw [List.drop_eq_nil_of_le (by have := okT_len h q hq; show (setVal (s q)).length ≤ 33; omega), List.append_nil]
theorem tlbC_get {s : Nat → List Ln} (h : okT s) (rest : List Value) {q k : Nat} (hq : q < 4) (hk : k < 33) : (tlbC s rest)[33 * q + k]? = (setVal (s q))[k]? := tlbR_get (okT_len h) rest hq hk
theorem tlbC_n {s : Nat → List Ln} (h : okT s) (rest : List Value) {q : Nat} (hq : q < 4) : (tlbC s rest)[33 * q + 32]? = some (.int .i64 ((s q).length : Int)) := by
  rw [tlbC_get h rest hq (by omega), setVal_n (h q)]
theorem tlbC_line {s : Nat → List Ln} (h : okT s) (rest : List Value) {q i : Nat} (hq : q < 4) {a : Ln} (ha : (s q)[i]? = some a) : ((tlbC s rest).drop (33 * q + i * 16)).take 16 = lnV a := by
  have hi : i < (s q).length := (List.getElem?_eq_some_iff.1 ha).1
  have := h q
  rw [tlbC, tlbR_take (okT_len h) rest hq (by omega), Nat.mul_comm]
  exact setVal_line (h q) ha
theorem tlbC_lines {s : Nat → List Ln} (h : okT s) (rest : List Value) {q : Nat} (hq : q < 4) : ((tlbC s rest).drop (33 * q)).take ((s q).length * 16) = linesV (s q) := by
  have := h q
  have h2 := tlbR_take (okT_len h) rest (k := 0) (n := (s q).length * 16) hq (by omega)
  rw [Nat.add_zero, List.drop_zero] at h2
  rw [tlbC, h2, setVal_lines (h q)]

/-! ### Kept rows, listed -/
def farL (τ : Nat → Nat × Nat) (k : Nat) : Hp → Prop
  | [] => True
  | (i, so) :: r => (so.wr = true → (τ i).1 ≠ k) ∧ farL τ k r
theorem farL_out {τ : Nat → Nat × Nat} {k : Nat} : ∀ {H0 : Hp}, farL τ k H0 → ∀ i so, look H0 i = some so → so.wr = true → (τ i).1 ≠ k
  | [], _, i, so, h => by cases h
  | (j, x) :: r, h, i, so, hi => by
    rw [look_cons] at hi
    split at hi
    · rename_i e; injection hi with hi; subst hi; subst e; exact h.1
    · exact farL_out h.2 i so hi
def keptL (H H0 H1 : Hp) (u : Nat) (τ : Nat → Nat × Nat) : Hp → Prop
  | [] => True
  | (k, s) :: r => Kept H H0 H1 u τ k s ∧ keptL H H0 H1 u τ r
theorem keptL_out {H H0 H1 : Hp} {u : Nat} {τ : Nat → Nat × Nat} : ∀ {H2 : Hp}, keptL H H0 H1 u τ H2 → ∀ k s2, look H2 k = some s2 → Kept H H0 H1 u τ k s2
  | [], _, k, s2, h => by cases h
  | (j, x) :: r, h, k, s2, hk => by
    rw [look_cons] at hk
    split at hk
    · rename_i e; injection hk with hk; subst hk; subst e; exact h.1
    · exact keptL_out h.2 k s2 hk
def sepL (τ : Nat → Nat × Nat) (i : Nat) : Hp → Prop
  | [] => True
  | (j, _) :: r => (i ≠ j → (τ i).1 ≠ (τ j).1) ∧ sepL τ i r
def liesL (u0 : Nat) (τ : Nat → Nat × Nat) (H : Hp) : Hp → Prop
  | [] => True
  | (i, so) :: r => (i < u0 ∧ so.ok u0 = true ∧ ∃ sc, Lies H (τ i) so τ sc) ∧ liesL u0 τ H r
theorem liesL_out {u0 : Nat} {τ : Nat → Nat × Nat} {H : Hp} : ∀ {H0 : Hp}, liesL u0 τ H H0 → ∀ i so, look H0 i = some so → i < u0 ∧ so.In (· < u0) ∧ ∃ sc, Lies H (τ i) so τ sc
  | [], _, i, so, h => by cases h
  | (k, x) :: r, h, i, so, hi => by
    rw [look_cons] at hi
    split at hi
    · rename_i e; injection hi with hi; subst hi; subst e; exact ⟨h.1.1, SO.In_of_ok h.1.2.1, h.1.2.2⟩
    · exact liesL_out h.2 i so hi
theorem Part.listsD {u0 : Nat} {τ : Nat → Nat × Nat} {H H0 : Hp} (h : liesL u0 τ H H0) (inj : ∀ i j, i < u0 → j < u0 → i ≠ j → (τ i).1 ≠ (τ j).1) (hd : ∀ i es c, look H0 i = some (.dict es c) → False) : Part H0 u0 τ H :=
  ⟨liesL_out h, fun i j si sj hi hj hij _ => inj i j (liesL_out h i si hi).1 (liesL_out h j sj hj).1 hij, fun i es c hi => (hd i es c hi).elim⟩
def noD : Hp → Bool
  | [] => true
  | (_, so) :: r => !so.isD && noD r
theorem noD_out : ∀ {H : Hp}, noD H = true → ∀ i es c, look H i = some (.dict es c) → False
  | [], _, i, es, c, h => by cases h
  | (k, x) :: r, h, i, es, c, hi => by
    simp only [noD, Bool.and_eq_true, Bool.not_eq_true'] at h
    rw [look_cons] at hi
    split at hi
    · injection hi with hi; subst hi; cases h.1
    · exact noD_out h.2 i es c hi
theorem Part.lists {u0 : Nat} {τ : Nat → Nat × Nat} {H H0 : Hp} (h : liesL u0 τ H H0) (inj : ∀ i j, i < u0 → j < u0 → i ≠ j → (τ i).1 ≠ (τ j).1) (hd : noD H0 = true := by rfl) : Part H0 u0 τ H := Part.listsD h inj (noD_out hd)
theorem Lies.whole {H : Hp} {k : Nat} {so : SO} {τs : Nat → Nat × Nat} {sc : SO} (h : look H k = some sc) (hv : ∀ ρ, so.vals (via ρ τs) = sc.vals ρ) (hl : so.len ≤ sc.len) (hf : ∀ ρ, (so.vals ρ).length ≤ so.len) (hw : so.wr = true → sc.wr = true) : Lies H (k, 0) so τs sc :=
  ⟨h, fun ρ j v hj => by rw [Nat.zero_add, ← hv]; exact hj, by simpa using hl, hf, hw⟩

theorem setC_oks (u : Nat) (l : List Ln) : SV.oks u (setC l) = true := by
  unfold setC
  split <;> rfl
theorem setC_length {l : List Ln} (h : l.length ≤ 2) : (setC l).length = 33 := by
  have := setVal_len h
  rwa [setVal, SV.vals_length] at this
theorem wfH_set {u i : Nat} {l : List Ln} {r : Hp} (h : Nat.blt i u = true) (hr : wfH u r = true) : wfH u ((i, .cells (setC l)) :: r) = true := by
  rw [wfH, h, hr]
  show (true && (SV.oks u (setC l) && true)) = true
  rw [setC_oks]; rfl
/-- A set laid in the place of another one, in a row of its own. -/
theorem Kept.set {H H0 H1 : Hp} {u i : Nat} {τ : Nat → Nat × Nat} {l l' : List Ln} (hl : l.length ≤ 2) (hl' : l'.length ≤ 2) (hτ : τ i = (i, 0)) (h0 : look H0 i = some (.cells (setC l))) (h1 : look H1 i = some (.cells (setC l'))) (hc : look H i = some (.cells (setC l))) : Kept H H0 H1 u τ i (.cells (setC l')) := by
  refine .laid i (.cells (setC l)) (.cells (setC l')) (.cells (setC l)) (by rw [hτ]) h0 h1 hc rfl rfl ?_ (setC_oks u l') (fun ρ => ⟨?_, ?_, ?_⟩) (fun ρ => by simp only [SO.vals, SO.len, SV.vals_length]) rfl
  · simp only [SO.len, setC_length hl, setC_length hl']
  · simp only [SO.vals, SO.len, SV.vals_length, setC_length hl, setC_length hl']
  · simp only [SO.len, setC_length hl, setC_length hl']
  · simp only [SO.vals, setC_vals, hτ, setRange, List.take_zero, List.nil_append, setVal_len hl', Nat.zero_add]
    rw [List.drop_eq_nil_of_le (by rw [setVal_len hl]; exact Nat.le_refl _), List.append_nil]
theorem IdxL.here {n : Int} {len : Nat} {Kl Kx : Nat → Prop} (j : Nat) (h : n = (j : Int)) (hl : j < len) (k : Kl j) : IdxL n len Kl Kx := ⟨j, h, hl, .inl k⟩
theorem IdxL.there {n : Int} {len : Nat} {Kl Kx : Nat → Prop} (j : Nat) (h : n = (j : Int)) (hl : j < len) (k : Kx j) : IdxL n len Kl Kx := ⟨j, h, hl, .inr k⟩

/-- A call that lays a set of a Tlb's row. -/
theorem Spec.set {P : Program} {f : FuncId} {args args0 : List SV} {H : Hp} {u u0 : Nat} {K : SV → Hp → Nat → Prop} {s : Nat → List Ln} {rest : List Value} {q t : Nat} {l' : List Ln} {caps : Hp}
    (h : Spec P f args0 ((0, .cells (setC (s q))) :: caps) u0 fun v H' _ => (∀ ρ, v.val ρ = (SV.tup []).val ρ) ∧ subH [(0, .cells (setC l'))] H') (cl : List (Nat × Nat)) (hs : okT s) (hq : q < 4) (hl' : l'.length ≤ 2) (ht : look H t = some (.row (tlbC s rest)))
    (hro : ∀ i so, look caps i = some so → so.wr = false) (ha : ∀ ρ, SV.vals ρ args = SV.vals (via ρ (nthP ((t, 33 * q) :: cl))) args0) (hin : SV.oks u0 args0 = true) (hcap : liesL u0 (nthP ((t, 33 * q) :: cl)) H caps)
    (hl : cl.length + 1 = u0) (hn : okNames u (t :: cl.map (·.1)) = true) (k : K (.tup []) ((t, .row (tlbC (fset s q l') rest)) :: H) u) : Spec P f args H u K := by
  have hlen : (t :: cl.map (·.1)).length = u0 := by simp [hl]
  refine Spec.frame (nthP ((t, 33 * q) :: cl)) (H1 := [(0, .cells (setC l'))]) (H2 := (t, .row (tlbC (fset s q l') rest)) :: H) h ha hin (Part.listsD ⟨⟨by omega, ?_, .row (tlbC s rest), ?_⟩, hcap⟩ (fun i j hi hj hij e => ?_) fun i es c hi => (by
    rw [look_cons] at hi
    split at hi
    · injection hi with hi; cases hi
    · have := hro i _ hi; cases this)) rfl (fun k s2 hk => ?_) ?_ k
  · show SV.oks u0 (setC (s q)) = true
    exact setC_oks _ _
  · refine ⟨ht, fun ρ j v hj => ?_, ?_, fun ρ => by simp only [SO.vals, SO.len, SV.vals_length]; exact Nat.le_refl _, fun _ => rfl⟩
    · simp only [SO.vals, setC_vals] at hj ⊢
      have hlt : j < 33 := by rw [← setVal_len (hs q)]; exact (List.getElem?_eq_some_iff.1 hj).1
      show (tlbC s rest)[33 * q + j]? = some v
      rw [tlbC_get hs rest hq hlt]; exact hj
    · show 33 * q + (setC (s q)).length ≤ (tlbC s rest).length
      rw [setC_length (hs q), tlbC_len hs]; omega
  · rw [nthP_fst, nthP_fst] at e
    exact hij (nthD_inj (u := u) hlen hn hi hj e)
  · rw [look_cons] at hk
    split at hk
    · rename_i e
      subst e
      injection hk with hk
      subst hk
      refine .laid 0 (.cells (setC (s q))) (.cells (setC l')) (.row (tlbC s rest)) rfl (look_same _ _ _) rfl ht rfl rfl ?_ rfl (fun ρ => ⟨?_, ?_, ?_⟩) (fun ρ => rfl) rfl
      · show (tlbC (fset s q l') rest).length = (tlbC s rest).length
        rw [tlbC_len hs, tlbC_len (okT_fset hs hl')]
      · simp only [SO.vals, SO.len, SV.vals_length, setC_length (hs q), setC_length hl']
      · simp only [SO.len, setC_length (hs q), setC_length hl']
      · show tlbC (fset s q l') rest = setRange (tlbC s rest) (33 * q) (SV.vals _ (setC l'))
        rw [setC_vals, tlbC_set hs rest hq hl']
    · rename_i e
      refine .far hk fun i so hi hw => ?_
      rw [look_cons] at hi
      split at hi
      · rename_i e'; subst e'; exact e
      · rw [hro i so hi] at hw; cases hw
  · show (Nat.blt 0 u0 && (SV.oks u0 (setC l') && true)) = true
    rw [setC_oks, Bool.true_and, Bool.and_true]
    simp; omega

theorem ha_at {ρ : Env} {t a b : Nat} {r : List Value} (e : a = b) : Value.pointer (some ⟨(ρ t).1, (ρ t).2 + a, none⟩) :: r = Value.pointer (some ⟨(ρ t).1, (ρ t).2 + b + 0, none⟩) :: r := by rw [e]; rfl
/-- A view of one cell. -/
theorem Lies.one {H : Hp} {k : Nat} {c : SV} {v : Value} {τs : Nat → Nat × Nat} (h : look H k = some (.cells [c])) (hv : ∀ ρ, c.val ρ = v) : Lies H (k, 0) (.view [v]) τs (.cells [c]) :=
  Lies.whole h (fun ρ => by simp only [SO.vals, SV.vals, hv]) (Nat.le_refl _) (fun _ => Nat.le_refl _) (fun h => by cases h)
def noWr : Hp → Bool
  | [] => true
  | (_, so) :: r => !so.wr && noWr r
theorem noWr_out : ∀ {H : Hp}, noWr H = true → ∀ i so, look H i = some so → so.wr = false
  | [], _, i, so, h => by cases h
  | (k, x) :: r, h, i, so, hi => by
    rw [noWr, Bool.and_eq_true] at h
    rw [look_cons] at hi
    split at hi
    · injection hi with hi; subst hi; simpa using h.1
    · exact noWr_out h.2 i so hi
theorem ptr_at (ρ : Env) (t q a b : Nat) (e : a = b) : Value.pointer (some ⟨(ρ t).1, (ρ t).2 + a, none⟩) = Value.pointer (some ⟨(ρ t).1, (ρ t).2 + b, none⟩) := by rw [e]

/-- A function that reads. -/
theorem Fun.read {P : Program} {f : FuncId} {args0 : List SV} {H0 : Hp} {u0 : Nat} {r : SV} (h : Spec P f args0 H0 u0 fun v _ _ => ∀ ρ, v.val ρ = r.val ρ) (hr : r.ok u0 = true) : Fun P f args0 H0 u0 0 (fun _ : Unit => True) (fun _ => r) (fun _ => []) :=
  h.mono fun v H' u' hv => ⟨(), fun i => (i, 0), trivial, fun _ _ => rfl, ⟨fun i so hi => (by cases hi), fun i j si sj hi => (by cases hi), fun i es c hi => (by cases hi)⟩, fun ρ => by rw [hv ρ]; congr 1⟩
end Go.Sh
