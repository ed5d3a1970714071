import Derived.Test.YtkopfaenfaelfaaSh35
import Derived.Test.YtkopfaenfaelfaaSet4
/- Bitmaps of painted granules: plain. -/
set_option linter.unusedVariables false
namespace Go.Sh
open Go.RowKit

abbrev PD := List (Int × Nat × Nat)
def u64V (n : Int) : Value := .int .u64 n
def tagV (s : Nat) : Value := (setV s).val zenv
def getS (D : PD) (p : Nat) : Nat := (getD D (p : Int)).getD 0
/-- A span's granules in a page. -/
def covP (C : Int → Int → Nat) (b t p : Nat) : Nat := C ((max b (p * 4096) - p * 4096 : Nat) : Int) ((min t (p * 4096 + 4096) - max b (p * 4096) : Nat) : Int)
def mayB (b t : Nat) : Bool := decide (b < t) && (decide (t ≤ 274877906944) && decide ((t - 1) / 4096 - b / 4096 < 64))
def inB (b t p : Nat) : Bool := mayB b t && (decide (b / 4096 ≤ p) && decide (p ≤ (t - 1) / 4096))
def cov0 (C : Int → Int → Nat) (s : Nat × Nat) (p : Nat) : Nat := if inB s.1 s.2 p = true then covP C s.1 s.2 p else 0
theorem mayB_out {b t : Nat} (h : mayB b t = true) : b < t ∧ t ≤ 274877906944 ∧ (t - 1) / 4096 - b / 4096 < 64 := by
  simpa [mayB] using h
structure PtI (D : PD) (c : Nat) : Prop where
  st : StampD D c
  nd : (keysD D).Nodup
  val : ∀ x ∈ D, 0 ≤ x.1 ∧ x.1 < 67108864 ∧ x.2.1 < 2 ^ 256
  nz : ∀ x ∈ D, x.2.1 ≠ 0
theorem PtI.nil (c : Nat) : PtI [] c := ⟨StampD.nil c, .nil, fun _ h => by simp at h, fun _ h => by simp at h⟩
theorem mem_setD {κ ν : Type} [DecidableEq κ] {a : κ} {v : ν} {c : Nat} : ∀ {D : List (κ × ν × Nat)} {x : κ × ν × Nat}, x ∈ setD a v c D → x ∈ D ∨ (x.1 = a ∧ x.2.1 = v)
  | [], x, h => by simp [setD] at h; subst h; exact .inr ⟨rfl, rfl⟩
  | y :: r, x, h => by
    rw [setD] at h
    split at h
    · rcases List.mem_cons.1 h with h | h
      · subst h; exact .inr ⟨rfl, rfl⟩
      · exact .inl (List.mem_cons_of_mem _ h)
    · rcases List.mem_cons.1 h with h | h
      · subst h; exact .inl (List.mem_cons_self ..)
      · exact (mem_setD h).imp (List.mem_cons_of_mem _) id
theorem mem_delD {κ ν : Type} [DecidableEq κ] {a : κ} : ∀ {D : List (κ × ν × Nat)} {x : κ × ν × Nat}, (keysD D).Nodup → x ∈ delD a D → x ∈ D ∧ x.1 ≠ a
  | [], x, _, h => by simp [delD] at h
  | y :: r, x, hn, h => by
    obtain ⟨h1, h2⟩ := List.nodup_cons.1 hn
    rw [delD] at h
    split at h
    · rename_i e
      exact ⟨List.mem_cons_of_mem _ h, fun g => h1 (by show y.1 ∈ _; rw [e, ← g]; exact List.mem_map.2 ⟨x, h, rfl⟩)⟩
    · rename_i e
      rcases List.mem_cons.1 h with h | h
      · subst h; exact ⟨List.mem_cons_self .., e⟩
      · obtain ⟨g1, g2⟩ := mem_delD h2 h
        exact ⟨List.mem_cons_of_mem _ g1, g2⟩
theorem len_setD {κ ν : Type} [DecidableEq κ] (a : κ) (v : ν) (c : Nat) : ∀ D : List (κ × ν × Nat), (setD a v c D).length ≤ D.length + 1
  | [] => by simp [setD]
  | y :: r => by
    rw [setD]
    split
    · simp
    · have := len_setD a v c r
      simp only [List.length_cons]; omega
theorem len_delD {κ ν : Type} [DecidableEq κ] (a : κ) (D : List (κ × ν × Nat)) : (delD a D).length ≤ D.length := (sub_del a D).length_le
theorem PtI.get {D : PD} {c : Nat} (h : PtI D c) (p : Nat) : getS D p < 2 ^ 256 := by
  unfold getS
  cases hg : getD D (p : Int) with
  | none => show 0 < 2 ^ 256; decide
  | some v =>
    have : ∀ {D : PD} {a : Int} {v : Nat}, getD D a = some v → ∃ x ∈ D, x.2.1 = v := fun {D} => by
      induction D with
      | nil => intro a v h; cases h
      | cons x r ih =>
        intro a v h
        rw [getD_cons] at h
        split at h
        · injection h with h; exact ⟨x, List.mem_cons_self .., h⟩
        · obtain ⟨y, h1, h2⟩ := ih h
          exact ⟨y, List.mem_cons_of_mem _ h1, h2⟩
    obtain ⟨x, hx, e⟩ := this hg
    show v < 2 ^ 256
    rw [← e]; exact (h.val x hx).2.2
theorem getS_set {D : PD} {p q v c : Nat} : getS (setD (p : Int) v c D) q = if p = q then v else getS D q := by
  unfold getS
  rw [getD_set]
  by_cases e : p = q
  · subst e; simp
  · rw [if_neg (by omega), if_neg e]
theorem getS_del {D : PD} (h : (keysD D).Nodup) {p q : Nat} : getS (delD (p : Int) D) q = if p = q then 0 else getS D q := by
  unfold getS
  rw [getD_del h]
  by_cases e : p = q
  · subst e; simp
  · rw [if_neg (by omega), if_neg e]
/-- A page is laid. -/
theorem PtI.set {D : PD} {c p v : Nat} (h : PtI D c) (hp : p < 67108864) (hv : v < 2 ^ 256) (h0 : v ≠ 0) : PtI (setD (p : Int) v c D) (tickD D (p : Int) c) := by
  refine ⟨h.st.set _ _, nodup_set h.nd, fun x hx => ?_, fun x hx => ?_⟩
  · rcases mem_setD hx with g | ⟨g1, g2⟩
    · exact h.val x g
    · rw [g1, g2]; exact ⟨by omega, by omega, hv⟩
  · rcases mem_setD hx with g | ⟨g1, g2⟩
    · exact h.nz x g
    · rw [g2]; exact h0
theorem PtI.clr {D : PD} {c p v : Nat} (h : PtI D c) : PtI (delD (p : Int) (setD (p : Int) v c D)) (tickD D (p : Int) c) := by
  have hn : (keysD (setD (p : Int) v c D)).Nodup := nodup_set h.nd
  have key : ∀ x, x ∈ delD (p : Int) (setD (p : Int) v c D) → x ∈ D := fun x hx => by
    obtain ⟨g1, g2⟩ := mem_delD hn hx
    exact (mem_setD g1).resolve_right fun g => g2 g.1
  exact ⟨(h.st.set _ _).del _, nodup_del hn, fun x hx => h.val x (key x hx), fun x hx => h.nz x (key x hx)⟩
theorem getS_clr {D : PD} {c p q : Nat} (h : PtI D c) : getS (delD (p : Int) (setD (p : Int) 0 c D)) q = if p = q then 0 else getS D q := by
  rw [getS_del (nodup_set h.nd), getS_set]
  by_cases e : p = q <;> simp [e]

/-! ### How many -/
def sumTo (g : Nat → Nat) : Nat → Nat
  | 0 => 0
  | n + 1 => sumTo g n + g n
theorem sumTo_congr {g g' : Nat → Nat} : ∀ {n : Nat}, (∀ p, p < n → g p = g' p) → sumTo g n = sumTo g' n
  | 0, _ => rfl
  | n + 1, h => by rw [sumTo, sumTo, sumTo_congr (fun p hp => h p (Nat.lt_succ_of_lt hp)), h n (Nat.lt_succ_self n)]
theorem sumTo_zero : ∀ n : Nat, sumTo (fun _ => 0) n = 0
  | 0 => rfl
  | n + 1 => by rw [sumTo, sumTo_zero n]
theorem sumTo_add (g g' : Nat → Nat) : ∀ n : Nat, sumTo (fun p => g p + g' p) n = sumTo g n + sumTo g' n
  | 0 => rfl
  | n + 1 => by rw [sumTo, sumTo, sumTo, sumTo_add g g' n]; omega
theorem sumTo_at (g : Nat → Nat) (k a : Nat) : ∀ n : Nat, g k = 0 → sumTo (fun p => if k = p then a else g p) n = (if k < n then a else 0) + sumTo g n
  | 0, _ => rfl
  | n + 1, h => by
    rw [sumTo, sumTo, sumTo_at g k a n h]
    by_cases e : k = n
    · subst e; rw [if_pos rfl, if_neg (by omega), if_pos (by omega), h]; omega
    · rw [if_neg e]
      by_cases h1 : k < n
      · rw [if_pos h1, if_pos (by omega)]; omega
      · rw [if_neg h1, if_neg (by omega)]; omega
def cntD (D : PD) : Nat := (D.map fun x => cnt x.2.1 256).sum
theorem cnt0 : ∀ n, cnt 0 n = 0
  | 0 => rfl
  | n + 1 => by simp [cnt, cnt0 n]
theorem cntD_sum : ∀ {D : PD}, (keysD D).Nodup → (∀ x ∈ D, 0 ≤ x.1 ∧ x.1 < 67108864) → cntD D = sumTo (fun p => cnt (getS D p) 256) 67108864
  | [], _, _ => by
    have : (fun p => cnt (getS [] p) 256) = fun _ => 0 := by funext p; exact cnt0 256
    rw [this, sumTo_zero]; rfl
  | x :: r, hn, hv => by
    obtain ⟨h1, h2⟩ := List.nodup_cons.1 hn
    have ih := cntD_sum (D := r) h2 fun y hy => hv y (List.mem_cons_of_mem _ hy)
    obtain ⟨k, hk⟩ : ∃ k : Nat, x.1 = (k : Int) := ⟨x.1.toNat, (Int.toNat_of_nonneg (hv x (List.mem_cons_self ..)).1).symm⟩
    have hk2 := (hv x (List.mem_cons_self ..)).2
    have hg : ∀ p, getS (x :: r) p = if k = p then x.2.1 else getS r p := fun p => by
      unfold getS
      rw [getD_cons, hk]
      by_cases e : k = p
      · subst e; simp
      · rw [if_neg (by omega), if_neg e]
    have h0 : getS r k = 0 := by
      unfold getS
      have : getD r (k : Int) = none := getD_none.2 (by rw [← hk]; exact h1)
      rw [this]; rfl
    have hf : (fun p => cnt (getS (x :: r) p) 256) = fun p => if k = p then cnt x.2.1 256 else cnt (getS r p) 256 := by
      funext p
      rw [hg]
      split <;> rfl
    rw [hf, sumTo_at _ _ _ _ (by rw [h0]; exact cnt0 256), if_pos (by omega), ← ih]
    rfl
theorem PtI.cnt {D : PD} {c : Nat} (h : PtI D c) {f : Nat → Nat} (hf : ∀ p, getS D p = f p) : cntD D = sumTo (fun p => Go.Sh.cnt (f p) 256) 67108864 := by
  rw [cntD_sum h.nd fun x hx => ⟨(h.val x hx).1, (h.val x hx).2.1⟩]
  exact sumTo_congr fun p _ => by rw [hf]
theorem cnt_or (a b : Nat) : ∀ n, cnt (a ||| b) n = cnt b n + cnt (diffS a b) n
  | 0 => rfl
  | n + 1 => by
    have := cnt_or a b n
    simp only [cnt]
    rw [this, Nat.testBit_or, diffS_bit]
    cases a.testBit n <;> cases b.testBit n <;> simp <;> omega
theorem cntD_le : ∀ D : PD, cntD D ≤ D.length * 256
  | [] => Nat.le_refl _
  | x :: r => by
    have := cntD_le r
    have := cnt_le x.2.1 256
    simp only [cntD, List.map_cons, List.sum_cons, List.length_cons] at *
    omega
end Go.Sh
