import Derived.Test.YtkopfaenfaelfaaPbB
import Derived.Test.YtkopfaenfaelfaaPaint1
import Derived.Test.YtkopfaenfaelfaaSh31
set_option linter.unusedVariables false
namespace Go.Sh.Ytkopfaenfaelfaa
open Go.Proofs Go.Sh

def covC (off n : Int) : Nat := buildS (coverP off n) 256
theorem covC_lt (off n : Int) : covC off n < 2 ^ 256 := buildS_lt _ 256
theorem cov0_lt (s : Nat × Nat) (p : Nat) : cov0 covC s p < 2 ^ 256 := by
  unfold cov0
  split
  · exact covC_lt _ _
  · decide
theorem pcover_ok (b t p : Nat) (hb : b < 2 ^ 64) (ht : t < 2 ^ 64) (h : inB b t p = true) : Pure Try.prog 23 [.agg (spC b t), .int .u64 (p : Int)] (setV (covP covC b t p)) := by
  obtain ⟨h1, h2⟩ : mayB b t = true ∧ (b / 4096 ≤ p ∧ p ≤ (t - 1) / 4096) := by simpa [inB] using h
  obtain ⟨g1, g2, g3⟩ := mayB_out h1
  have hf : IntKind.wrap .u64 ((p : Int) * 4096) = ((p * 4096 : Nat) : Int) := by rw [show (p : Int) * 4096 = ((p * 4096 : Nat) : Int) by omega]; exact wrapn _ (by omega)
  have hf2 : IntKind.wrap .u64 (((p * 4096 : Nat) : Int) + 4096) = ((p * 4096 + 4096 : Nat) : Int) := by rw [show ((p * 4096 : Nat) : Int) + 4096 = ((p * 4096 + 4096 : Nat) : Int) by omega]; exact wrapn _ (by omega)
  have hmx : (if (b : Int) < ((p * 4096 : Nat) : Int) then ((p * 4096 : Nat) : Int) else (b : Int)) = ((max b (p * 4096) : Nat) : Int) := by split <;> omega
  have hmn : (if ((p * 4096 + 4096 : Nat) : Int) < (t : Int) then ((p * 4096 + 4096 : Nat) : Int) else (t : Int)) = ((min t (p * 4096 + 4096) : Nat) : Int) := by split <;> omega
  have hs1 : IntKind.wrap .i64 (IntKind.wrap .u64 (((max b (p * 4096) : Nat) : Int) - ((p * 4096 : Nat) : Int))) = ((max b (p * 4096) - p * 4096 : Nat) : Int) := by
    rw [show ((max b (p * 4096) : Nat) : Int) - ((p * 4096 : Nat) : Int) = ((max b (p * 4096) - p * 4096 : Nat) : Int) by omega, wrapn _ (by omega), wrap_i64 _ (by omega) (by omega)]
  have hs2 : IntKind.wrap .i64 (IntKind.wrap .u64 (((min t (p * 4096 + 4096) : Nat) : Int) - ((max b (p * 4096) : Nat) : Int))) = ((min t (p * 4096 + 4096) - max b (p * 4096) : Nat) : Int) := by
    rw [show ((min t (p * 4096 + 4096) : Nat) : Int) - ((max b (p * 4096) : Nat) : Int) = ((min t (p * 4096 + 4096) - max b (p * 4096) : Nat) : Int) by omega, wrapn _ (by omega), wrap_i64 _ (by omega) (by omega)]
  refine Spec.of_body tabOk Try.func23 rfl (ent Try.func23 rfl (by kernel_rfl)) Try.ntmps23 rfl (by kernel_rfl) (Nat.le_of_ble_eq_true rfl) ?_
  conv => whnf
  rw [hf]
  refine CodeL.any tabOk Try.checked.mixed [(0, .cells (spC b t))] (.take 0 (.take 1 (.take 2 (.take 3 (.take 4 (.take 5 (.take 6 (.take 7 (.take 8 (.take 9 (.take 10 (.fin)))))))))))) (by kernel_rfl) rfl ⟨rfl, trivial⟩ rfl ?_
  conv => whnf
  rw [hf2, hmx, hmn, hs1, hs2]
  refine Spec.pure (cover_ok _ _ ⟨by omega, by omega⟩ ⟨by omega, by omega⟩) rfl rfl (fun _ => rfl) ?_
  conv => whnf
  intro ρ
  rfl
theorem pageU : KeyT Try.prog 22 u64V := KeyT.int Try.underlying22
theorem zset (w : World) : (zeroValue 39).run Try.prog w = .ok (tagV 0) w := by
  have e : tagV 0 = .agg #[.int .u64 0, .int .u64 0, .int .u64 0, .int .u64 0] := by rw [tagV, setV, setCells_zero]; rfl
  rw [e]
  exact run_zeroV' (by kernel_rfl) w
/-- What is looked up of a page. -/
theorem LkpL_set {D : PD} {p : Nat} {vi : SV} {K : SV → Prop} (ha : ∀ ρ, vi.val ρ = u64V (p : Int)) (k : K (setV (getS D p))) : LkpL Try.prog 22 39 (ents u64V tagV D) vi false K := by
  cases hg : getD D (p : Int) with
  | none =>
    have e : getS D p = 0 := by unfold getS; rw [hg]; rfl
    rw [e] at k
    exact LkpL.no pageU (p : Int) ha hg (tagV 0) zset (setV 0) rfl rfl k
  | some v =>
    have e : getS D p = v := by unfold getS; rw [hg]; rfl
    rw [e] at k
    exact LkpL.yes pageU (p : Int) ha hg (setV v) rfl rfl k
def hasB (f : Nat → Nat) (addr : Nat) : Bool := getB (f (addr / 4096)) ((addr % 4096 / 16 : Nat) : Int)
theorem gran (addr : Nat) (h : addr < 2 ^ 64) : IntKind.wrap .i64 (IntKind.wrap .u64 (((addr : Int).tmod 4096).tdiv 16)) = ((addr % 4096 / 16 : Nat) : Int) := by
  have h1 : (addr : Int).tmod 4096 = ((addr % 4096 : Nat) : Int) := rem_nat addr 4096
  rw [h1]
  have h2 : ((addr % 4096 : Nat) : Int).tdiv 16 = ((addr % 4096 / 16 : Nat) : Int) := by
    rw [Int.tdiv_eq_ediv_of_nonneg (by omega)]; omega
  rw [h2, wrapn _ (by omega), wrap_i64 _ (by omega) (by omega)]
theorem has_ok (D : PD) (c addr : Nat) (ha : addr < 2 ^ 64) : Fun Try.prog 7 [.agg [.map 0], .int .u64 (addr : Int)] [(0, .dict (.map (ents u64V tagV D) none) c)] 1 0 (fun _ : Unit => True) (fun _ => .bool (hasB (getS D) addr)) (fun _ => [(0, .dict (.map (ents u64V tagV D) none) c)]) := by
  unfold Fun
  have hg := gran addr ha
  refine Spec.of_body tabOk Try.func7 rfl (ent Try.func7 rfl (by kernel_rfl)) Try.ntmps7 rfl (by kernel_rfl) (Nat.le_of_ble_eq_true rfl) ?_
  conv => whnf
  refine CodeL.any tabOk Try.checked.mixed [(1, .cells [.map 0])] (.take 0 (.take 1 (.take 2 (.take 5 (.take 6 (.take 7 (.take 8 (.alt 3 (.alt 4 (.alt 9 (.take 10 (.fin)) .stop) .stop) .stop)))))))) (by kernel_rfl) rfl ⟨rfl, trivial⟩ rfl ?_
  repeat' ((try (conv => whnf)); first
    | refine Needs.mk ⟨rfl, trivial⟩ ?_
    | refine And.intro ?_ ?_
    | refine Spec.pure (pnum_ok addr ha) rfl rfl (fun _ => rfl) ?_
    | refine Spec.pure (get_ok (getS D (addr / 4096)) ((addr % 4096 / 16 : Nat) : Int)) rfl rfl (fun _ => by rw [← hg]; rfl) ?_
    | (refine VL.op (VL.lkp tabOk ?_); conv => whnf
       refine LkpL_set (p := addr / 4096) (fun _ => rfl) ?_)
    | exact ⟨(), fun i => (i, 0), trivial, fun _ _ => rfl, Part.keys ⟨⟨by decide, rfl, _, rfl, fun _ _ _ h => h⟩, trivial⟩ rfl, fun ρ => rfl⟩)
theorem nhas_ok (addr : Nat) (ha : addr < 2 ^ 64) : Pure Try.prog 7 [.agg [.nilMap], .int .u64 (addr : Int)] (.bool (hasB (fun _ => 0) addr)) := by
  have hg := gran addr ha
  refine Spec.of_body tabOk Try.func7 rfl (ent Try.func7 rfl (by kernel_rfl)) Try.ntmps7 rfl (by kernel_rfl) (Nat.le_of_ble_eq_true rfl) ?_
  conv => whnf
  refine CodeL.any tabOk Try.checked.mixed [(0, .cells [.nilMap])] (.take 0 (.take 1 (.take 2 (.take 5 (.take 6 (.take 7 (.take 8 (.alt 3 (.alt 4 (.alt 9 (.take 10 (.fin)) .stop) .stop) .stop)))))))) (by kernel_rfl) rfl ⟨rfl, trivial⟩ rfl ?_
  repeat' ((try (conv => whnf)); first
    | refine Needs.mk ⟨rfl, trivial⟩ ?_
    | refine And.intro ?_ ?_
    | refine Spec.pure (pnum_ok addr ha) rfl rfl (fun _ => rfl) ?_
    | refine Spec.pure (get_ok 0 ((addr % 4096 / 16 : Nat) : Int)) rfl rfl (fun _ => by rw [← hg]; rfl) ?_
    | (refine VL.op (VL.lkp tabOk ?_); conv => whnf
       refine LkpL_set (D := []) (p := addr / 4096) (fun _ => rfl) ?_)
    | (intro ρ
       rfl))
end Go.Sh.Ytkopfaenfaelfaa
