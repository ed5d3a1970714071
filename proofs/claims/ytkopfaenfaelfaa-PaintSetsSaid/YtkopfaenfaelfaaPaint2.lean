import Derived.Test.YtkopfaenfaelfaaPaint1
/- Spans, one behind the other: plain. -/
set_option linter.unusedVariables false
namespace Go.Sh
open Go.RowKit

def spV (s : Nat × Nat) : List Value := [.int .u64 (s.1 : Int), .int .u64 (s.2 : Int)]
def spsV : List (Nat × Nat) → List Value
  | [] => []
  | s :: r => spV s ++ spsV r
theorem spsV_len : ∀ L, (spsV L).length = L.length * 2
  | [] => rfl
  | s :: r => by rw [spsV, List.length_append, spsV_len r, List.length_cons]; show 2 + _ = _; omega
theorem spsV_get : ∀ {L : List (Nat × Nat)} {i : Nat} {s : Nat × Nat}, L[i]? = some s → ((spsV L).drop (i * 2)).take 2 = spV s
  | [], i, s, h => by simp at h
  | x :: r, 0, s, h => by
    simp only [List.getElem?_cons_zero, Option.some.injEq] at h
    subst h; rfl
  | x :: r, i + 1, s, h => by
    rw [List.getElem?_cons_succ] at h
    have : (i + 1) * 2 = (spV x).length + i * 2 := by show _ = 2 + _; omega
    rw [spsV, this, List.drop_append]
    simp only [Nat.add_sub_cancel_left]
    rw [List.drop_eq_nil_of_le (by omega), List.nil_append]
    exact spsV_get h
section
variable (op : Nat → Nat → Nat) (C : Int → Int → Nat)
def foldS (L : List (Nat × Nat)) (f : Nat → Nat) (p : Nat) : Nat := L.foldl (fun a s => op a (cov0 C s p)) (f p)
theorem foldS_nil (f : Nat → Nat) (p : Nat) : foldS op C [] f p = f p := rfl
theorem foldS_succ {L : List (Nat × Nat)} {k : Nat} {s : Nat × Nat} (h : L[k]? = some s) (f : Nat → Nat) (p : Nat) : foldS op C (L.take (k + 1)) f p = op (foldS op C (L.take k) f p) (cov0 C s p) := by
  unfold foldS
  rw [List.take_add_one, h, List.foldl_append]; rfl
/-- The part below n. -/
def covU (s : Nat × Nat) (n p : Nat) : Nat := if inB s.1 s.2 p = true ∧ p < n then covP C s.1 s.2 p else 0
theorem inB_out {b t p : Nat} (h : inB b t p = true) : mayB b t = true ∧ b / 4096 ≤ p ∧ p ≤ (t - 1) / 4096 := by simpa [inB] using h
theorem inB_of {b t p : Nat} (h : mayB b t = true) (h1 : b / 4096 ≤ p) (h2 : p ≤ (t - 1) / 4096) : inB b t p = true := by simp [inB, h, h1, h2]
theorem covU_low (s : Nat × Nat) (p : Nat) : covU C s (s.1 / 4096) p = 0 := by
  unfold covU
  rw [if_neg]
  rintro ⟨h1, h2⟩
  have := (inB_out h1).2.1; omega
theorem covU_high (s : Nat × Nat) {n : Nat} (h : (s.2 - 1) / 4096 < n) (p : Nat) : covU C s n p = cov0 C s p := by
  unfold covU cov0
  by_cases e : inB s.1 s.2 p = true
  · rw [if_pos ⟨e, by have := (inB_out e).2.2; omega⟩, if_pos e]
  · rw [if_neg (fun g => e g.1), if_neg e]
theorem covU_at (s : Nat × Nat) {n : Nat} (h : inB s.1 s.2 n = true) : covU C s (n + 1) n = covP C s.1 s.2 n ∧ covU C s n n = 0 := by
  unfold covU
  exact ⟨if_pos ⟨h, Nat.lt_succ_self n⟩, if_neg fun g => Nat.lt_irrefl _ g.2⟩
theorem covU_other (s : Nat × Nat) {n p : Nat} (h : n ≠ p) : covU C s (n + 1) p = covU C s n p := by
  unfold covU
  by_cases e : inB s.1 s.2 p = true ∧ p < n
  · rw [if_pos e, if_pos ⟨e.1, by omega⟩]
  · rw [if_neg e, if_neg fun g => e ⟨g.1, by have := g.2; omega⟩]
theorem cov0_no (s : Nat × Nat) (h : mayB s.1 s.2 = false) (p : Nat) : cov0 C s p = 0 := by
  unfold cov0
  rw [if_neg]
  intro g
  have := (inB_out g).1
  rw [h] at this; cases this
end
/-- The bitmap behind k spans. -/
structure WI (op : Nat → Nat → Nat) (C : Int → Int → Nat) (L : List (Nat × Nat)) (f : Nat → Nat) (n0 : Nat) (k : Nat) (D : PD) (c : Nat) : Prop where
  ok : PtI D c
  sem : ∀ p, getS D p = foldS op C (L.take k) f p
  len : D.length ≤ n0 + 64 * k
/-- .. and behind the pages below n of the next one. -/
structure WU (op : Nat → Nat → Nat) (C : Int → Int → Nat) (L : List (Nat × Nat)) (f : Nat → Nat) (n0 : Nat) (k : Nat) (s : Nat × Nat) (n : Nat) (D : PD) (c : Nat) : Prop where
  lo : s.1 / 4096 ≤ n
  hi : n ≤ (s.2 - 1) / 4096 + 1
  ok : PtI D c
  sem : ∀ p, getS D p = op (foldS op C (L.take k) f p) (covU C s n p)
  len : D.length ≤ n0 + 64 * k + (n - s.1 / 4096)
section
variable {op : Nat → Nat → Nat} {C : Int → Int → Nat} {L : List (Nat × Nat)} {f : Nat → Nat} {n0 k c : Nat} {s : Nat × Nat} {D : PD}
theorem WI.skip (h : WI op C L f n0 k D c) (h0 : ∀ A, op A 0 = A) (hs : L[k]? = some s) (hm : mayB s.1 s.2 = false) : WI op C L f n0 (k + 1) D c :=
  ⟨h.ok, fun p => by rw [foldS_succ op C hs, cov0_no C s hm, h0]; exact h.sem p, by have := h.len; omega⟩
theorem WI.into (h : WI op C L f n0 k D c) (h0 : ∀ A, op A 0 = A) (hm : mayB s.1 s.2 = true) : WU op C L f n0 k s (s.1 / 4096) D c := by
  obtain ⟨g1, g2, g3⟩ := mayB_out hm
  refine ⟨Nat.le_refl _, by have : s.1 / 4096 ≤ (s.2 - 1) / 4096 := Nat.div_le_div_right (by omega); omega, h.ok, fun p => by rw [covU_low, h0]; exact h.sem p, by have := h.len; omega⟩
theorem WU.out {n : Nat} (h : WU op C L f n0 k s n D c) (hs : L[k]? = some s) (hm : mayB s.1 s.2 = true) (hn : (s.2 - 1) / 4096 < n) : WI op C L f n0 (k + 1) D c := by
  obtain ⟨g1, g2, g3⟩ := mayB_out hm
  refine ⟨h.ok, fun p => by rw [foldS_succ op C hs, h.sem p, covU_high C s hn], ?_⟩
  have := h.len; have := h.hi; have := h.lo
  omega
theorem WU.at_ {n : Nat} (h : WU op C L f n0 k s n D c) (h0 : ∀ A, op A 0 = A) (hb : inB s.1 s.2 n = true) : getS D n = foldS op C (L.take k) f n := by
  rw [h.sem, (covU_at C s hb).2, h0]
theorem WU.step {n : Nat} (h : WU op C L f n0 k s n D c) (h0 : ∀ A, op A 0 = A) (hb : inB s.1 s.2 n = true) (hop : ∀ A B, A < 2 ^ 256 → B < 2 ^ 256 → op A B < 2 ^ 256) (hC : covP C s.1 s.2 n < 2 ^ 256) :
    (op (getS D n) (covP C s.1 s.2 n) ≠ 0 → WU op C L f n0 k s (n + 1) (setD (n : Int) (op (getS D n) (covP C s.1 s.2 n)) c D) (tickD D (n : Int) c)) ∧
    (op (getS D n) (covP C s.1 s.2 n) = 0 → WU op C L f n0 k s (n + 1) (delD (n : Int) (setD (n : Int) (op (getS D n) (covP C s.1 s.2 n)) c D)) (tickD D (n : Int) c)) := by
  obtain ⟨g1, g2, g3⟩ := inB_out hb
  obtain ⟨m1, m2, m3⟩ := mayB_out g1
  have hn : n < 67108864 := by omega
  have hat := h.at_ h0 hb
  have hlt := h.ok.get n
  have hv := hop _ _ hlt hC
  have hl := len_setD (n : Int) (op (getS D n) (covP C s.1 s.2 n)) c D
  have hlen := h.len
  have hlo := h.lo
  have sem : ∀ p, (if n = p then op (getS D n) (covP C s.1 s.2 n) else getS D p) = op (foldS op C (L.take k) f p) (covU C s (n + 1) p) := fun p => by
    by_cases e : n = p
    · subst e
      rw [if_pos rfl, hat, (covU_at C s hb).1]
    · rw [if_neg e, covU_other C s e]; exact h.sem p
  refine ⟨fun hne => ⟨by omega, by omega, h.ok.set hn hv hne, fun p => by rw [getS_set]; exact sem p, by omega⟩, fun he => ⟨by omega, by omega, h.ok.clr, fun p => ?_, ?_⟩⟩
  · rw [← sem p, he, getS_clr h.ok]
  · have := len_delD (n : Int) (setD (n : Int) (op (getS D n) (covP C s.1 s.2 n)) c D)
    omega
end
end Go.Sh
