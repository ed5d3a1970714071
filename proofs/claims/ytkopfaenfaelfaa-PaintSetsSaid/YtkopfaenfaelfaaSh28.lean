import Derived.Test.YtkopfaenfaelfaaSh27
import Derived.Laws.MakeOwn
/- makeSlice; types of many cells. -/
set_option linter.unusedVariables false
namespace Go.Sh
open Go.RowKit

/-- The zero value's cells, where they are many. -/
def bigZ (P : Program) (t : TypeId) : List Value := match P.info? t with
  | some i => (match i.zero with | some z => z.cells.toList | none => [])
  | none => []
def bigB (P : Program) (t : TypeId) : Option (Nat × Nat × Bool) := match P.info? t with
  | some i => (match i.zero with | some z => some (i.size, i.bytes, Nat.beq z.cells.toList.length i.size && z.cells.toList.all Value.oneCell') | none => none)
  | none => none
theorem TIok.of_big {P : Program} {t : TypeId} {desc : TypeDesc} {size bytes : Nat} (hu : P.underlying t = some desc) (h : bigB P t = some (size, bytes, true)) : TIok P t ⟨desc, size, bytes, .row (bigZ P t)⟩ := by
  refine ⟨hu, ?_⟩
  unfold bigB at h
  unfold bigZ
  cases hi : P.info? t with
  | none => rw [hi] at h; cases h
  | some i =>
    rw [hi] at h
    simp only at h ⊢
    cases hz : i.zero with
    | none => rw [hz] at h; cases h
    | some z =>
      rw [hz] at h
      simp only [Option.some.injEq, Prod.mk.injEq, Bool.and_eq_true, Nat.beq_eq] at h ⊢
      obtain ⟨h1, h2, h3, h4⟩ := h
      exact ⟨i, z, rfl, h1, h2, hz, fun _ => rfl, trivial, by simp only [SO.len]; rw [h3, h1], fun _ => by simp only [SO.vals]; rw [h3, h1], fun _ v hv => List.all_eq_true.1 h4 v hv, rfl, rfl⟩

/-! ### makeSlice -/
/-- n: how many. cs: the new cells. -/
structure MkL (vl vc : SV) (size bytes : Nat) (z : SO) (k : Nat → List Value → Prop) : Prop where
  out : ∃ (n : Nat) (kl kc : IntKind) (cs : List Value), vl = .int kl (n : Int) ∧ vc = .int kc (n : Int) ∧ n ≤ 9223372036854775807 ∧ n * size ≤ 16777216 ∧ bytes * n ≤ 281474976710656 ∧ cs.length = n * size ∧ (∀ ρ j, j < n * size → cs[j]? = (z.vals ρ)[j % size]?) ∧ 0 < size ∧ k n cs
def mkK (tab : Tab) (o : Oper) (F : Fr) (H : Hp) (u : Nat) (K : SV → Hp → Nat → Prop) : Prop := match o.op with
  | .makeSlice t l c => tabK tab t fun ti => (match ti.desc with
    | .slice e => tabK tab e fun ei => evK F l fun vl => evK F c fun vc => MkL vl vc ei.size ei.bytes ei.zero fun n cs => K (.slice u 0 n n) ((u, .row cs) :: H) (u + 1)
    | _ => False)
  | _ => False
theorem OpL.make {P : Program} {tab : Tab} (hP : TabOk P tab) {o : Oper} {F : Fr} {H : Hp} {u : Nat} {K : SV → Hp → Nat → Prop} (h : mkK tab o F H u K) : OpL P o F H u K := by
  unfold mkK at h
  split at h
  · rename_i t l c ho
    obtain ⟨ti, ht, h1⟩ := tabK_out hP h
    have hu := ht.und
    split at h1
    · rename_i e hd
      rw [hd] at hu
      obtain ⟨ei, he, h2⟩ := tabK_out hP h1
      obtain ⟨vl, h3, hvl⟩ := evK_out h2
      obtain ⟨vc, h4, hvc⟩ := evK_out h3
      obtain ⟨n, kl, kc, cs, rfl, rfl, hn, hcells, hbytes, hlen, hcs, hpos, k⟩ := (h4 : MkL _ _ _ _ _ _).out
      obtain ⟨i, z, hi, hsz, hby, hz, hzv, hzin, hzl, hzvl, hz1, _⟩ := he.inf
      refine ⟨OpSem.turn fun w0 O ρ a w ha hs => ?_⟩
      have e1 : a.eval l = .int kl (n : Int) := (hvl _ ρ a ha).1
      have e2 : a.eval c = .int kc (n : Int) := (hvc _ ρ a ha).1
      have hrun := run_makeSlice w t e i z hu hi hz kl kc (n : Int) (n : Int) (by omega) (Int.le_refl _) (by rw [hsz, Int.toNat_natCast]; exact hcells) (by rw [hby, ← Int.natCast_mul]; exact Int.ofNat_le.2 hbytes) (by omega)
      have hzs : z.cells.toList.length = ei.size := by rw [← hzv ρ]; exact hzvl ρ
      have hmade : (madeCells z.cells ((n : Int).toNat * i.size)).toList = cs := by
        refine List.ext_getElem? fun j => ?_
        rw [Int.toNat_natCast, hsz]
        by_cases hj : j < n * ei.size
        · rw [hcs ρ j hj, hzv ρ]
          have hm : j % ei.size < z.cells.size := by rw [← Array.length_toList, hzs]; exact Nat.mod_lt _ hpos
          have hzs' : z.cells.size = ei.size := by rw [← Array.length_toList]; exact hzs
          simp [madeCells, hj, hzs', hzs' ▸ hm]
        · rw [List.getElem?_eq_none (by simp [madeCells]; omega), List.getElem?_eq_none (by omega)]
      refine ⟨.slice u 0 n n, _, u + 1, upd ρ u (w.heap.size, 0), w.alloc (.cells (madeCells z.cells ((n : Int).toNat * i.size)) e), ?_, Nat.le_succ u, agree_upd ρ u _, Nat.lt_succ_self u, ?_, k⟩
      · simp [execOp, ho, e1, e2, hrun, SV.val, upd_same]
      · refine hs.alloc (M := (· < u + 1)) (Nat.lt_irrefl u) _ e (succ_iff u) trivial (fun j v hj => ?_) (fun v hv => ?_) ?_ ?_ rfl
        · simp only [SO.vals] at hj; rw [← hmade] at hj; simpa using hj
        · simp only [SO.vals] at hv
          obtain ⟨j, hj⟩ := List.mem_iff_getElem?.1 hv
          have hlt : j < n * ei.size := by rw [← hlen]; exact (List.getElem?_eq_some_iff.1 hj).1
          rw [hcs ρ j hlt] at hj
          exact hz1 ρ v (List.mem_of_getElem? hj)
        · simp only [SO.len]; rw [← hmade]; simp
        · simp [SO.vals, SO.len]
    · exact h1.elim
  · exact h.elim
end Go.Sh
