import Derived.Test.YtkopfaenfaelfaaSh30
/- A state's rows, laid over others: apart where they are named. -/
set_option linter.unusedVariables false
namespace Go.Sh
open Go.RowKit

def freeOf (x : Nat) : List Nat → Bool
  | [] => true
  | y :: r => !Nat.beq x y && freeOf x r
def nodupB : List Nat → Bool
  | [] => true
  | x :: r => freeOf x r && nodupB r
def keysBy (τ : Nat → Nat × Nat) : Hp → List Nat
  | [] => []
  | (i, _) :: r => (τ i).1 :: keysBy τ r
theorem freeOf_out {x : Nat} : ∀ {l : List Nat}, freeOf x l = true → x ∉ l
  | [], _ => by simp
  | y :: r, h => by
    simp only [freeOf, Bool.and_eq_true, Bool.not_eq_true'] at h
    have h1 : x ≠ y := fun e => by subst e; simp at h
    have := freeOf_out h.2
    simp [h1, this]
theorem keysBy_mem {τ : Nat → Nat × Nat} : ∀ {H : Hp} {i : Nat} {so : SO}, look H i = some so → (τ i).1 ∈ keysBy τ H
  | [], i, so, h => by cases h
  | (k, x) :: r, i, so, h => by
    rw [look_cons] at h
    split at h
    · rename_i e; subst e; exact List.mem_cons_self ..
    · exact List.mem_cons_of_mem _ (keysBy_mem h)
theorem keysBy_inj {τ : Nat → Nat × Nat} : ∀ {H : Hp}, nodupB (keysBy τ H) = true → ∀ {i j : Nat} {si sj : SO}, look H i = some si → look H j = some sj → i ≠ j → (τ i).1 ≠ (τ j).1
  | [], _, i, j, si, sj, hi, _, _ => by cases hi
  | (k, x) :: r, h, i, j, si, sj, hi, hj, hij => by
    simp only [keysBy, nodupB, Bool.and_eq_true] at h
    have hf := freeOf_out h.1
    rw [look_cons] at hi hj
    split at hi
    · rename_i e
      subst e
      split at hj
      · rename_i e; exact absurd e hij
      · intro g; rw [g] at hf; exact hf (keysBy_mem hj)
    · split at hj
      · rename_i e; subst e; intro g; rw [← g] at hf; exact hf (keysBy_mem hi)
      · exact keysBy_inj h.2 hi hj hij
theorem Part.keys {u0 : Nat} {τ : Nat → Nat × Nat} {H H0 : Hp} (h : sameH u0 τ H H0) (hn : nodupB (keysBy τ H0) = true) : Part H0 u0 τ H :=
  ⟨sameH_out h, fun i j si sj hi hj hij _ => keysBy_inj hn hi hj hij, sameH_dict h⟩
/-- Names led elsewhere. -/
def toL : List (Nat × Nat) → Nat → Nat × Nat
  | [], k => (k, 0)
  | (n, t) :: r, k => match Nat.beq k n with | true => (t, 0) | false => toL r k
def overB (u : Nat) : List (Nat × Nat) → Bool
  | [] => true
  | (n, _) :: r => Nat.ble u n && overB u r
theorem toL_low {u : Nat} : ∀ {l : List (Nat × Nat)}, overB u l = true → ∀ k, k < u → toL l k = (k, 0)
  | [], _, k, _ => rfl
  | (n, t) :: r, h, k, hk => by
    simp only [overB, Bool.and_eq_true, Nat.ble_eq] at h
    have : Nat.beq k n = false := by rw [← Bool.not_eq_true, Nat.beq_eq]; omega
    rw [toL, this]
    exact toL_low h.2 k hk
end Go.Sh
