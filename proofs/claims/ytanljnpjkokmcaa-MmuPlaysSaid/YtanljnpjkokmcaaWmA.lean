import Derived.Test.YtanljnpjkokmcaaWkA
import Derived.Test.YtanljnpjkokmcaaMB
set_option linter.unusedVariables false
namespace Go.Sh.Ytanljnpjkokmcaa
open Go.Proofs Go.Sh

def mkB (b : Nat → Nat) (a : Nat) (m : Ent) : Bool → Nat → Nat
  | true => stB b a (entW m) 8
  | false => b
theorem mark_ok (b t : Nat → Nat) (x : Ent) (a : Nat) (k : Int) (tagged : Bool) (hx : okE x) (ha : a < 8 * 4096) (hd : a % 8 = 0) : Fun Try.prog 46 [.ptr 0 0, .agg (fndC x (a : Int)), .int .i64 k, .bool tagged] [(0, .cells [.slice 1 0 8 8]), (1, .row (ramV 8 b t))] 2 0 (fun y : Bool × (Nat → Nat) => (y.1 = false ↔ markE x k tagged = x)) (fun _ => .agg (fndC (markE x k tagged) (a : Int))) (fun y => [(0, .cells [.slice 1 0 8 8]), (1, .row (ramV 8 (mkB b a (markE x k tagged) y.1) y.2))]) := by
  unfold Fun
  have c3 := marked_ok x k tagged
  have hm0 : okE (markE x k tagged) := hx
  have hw := word_ok (markE x k tagged) hm0
  have hv : (markE x k tagged).v = x.v ∧ (markE x k tagged).r = x.r ∧ (markE x k tagged).w = x.w ∧ (markE x k tagged).x = x.x ∧ (markE x k tagged).u = x.u ∧ (markE x k tagged).g = x.g ∧ (markE x k tagged).cw = x.cw ∧ (markE x k tagged).cr = x.cr ∧ (markE x k tagged).gn = x.gn ∧ (markE x k tagged).fr = x.fr := ⟨rfl, rfl, rfl, rfl, rfl, rfl, rfl, rfl, rfl, rfl⟩
  refine Spec.of_body tabOk Try.func46 rfl (ent Try.func46 rfl (by kernel_rfl)) Try.ntmps46 rfl (by kernel_rfl) (Nat.le_of_ble_eq_true rfl) ?_
  conv => whnf
  refine Spec.pure c3 rfl rfl (fun _ => rfl) ?_
  conv => whnf
  refine VL.op (VL.eq tabOk ?_)
  conv => whnf
  refine ⟨by kernel_rfl, ?_⟩
  conv => whnf
  refine ⟨⟨rfl, by kernel_rfl⟩, ?_⟩
  conv => whnf
  refine ⟨fun h => ?_, fun h => ?_⟩
  · have hne : markE x k tagged ≠ x := fun g => by rw [g] at h; simp at h
    clear h
    conv => whnf
    refine CodeL.any tabOk Try.checked.mixed [(2, .cells (fndC x (a : Int))), (4, .cells (entC (markE x k tagged)))] (.take 0 (.take 1 (.take 2 (.take 3 (.alt 4 (.alt 5 (.fin) .stop) .stop))))) (by kernel_rfl) rfl ⟨rfl, rfl, trivial⟩ rfl ?_
    conv => whnf
    refine Spec.pure hw rfl rfl (fun _ => rfl) ?_
    conv => whnf
    refine ⟨⟨rfl, rfl, trivial⟩, ?_⟩
    conv => whnf
    refine Spec.fn (store_ok 8 b t a 8 (entW (markE x k tagged)) (entW_lt _) (.inr (.inr (.inr rfl))) ha (by decide) hd) [0, 1] rfl rfl (fun _ => rfl) rfl ⟨⟨by decide, rfl, rfl, _, rfl, fun _ => rfl, Nat.le_refl _, fun _ => Nat.le_refl _, id⟩, ⟨by decide, rfl, rfl, _, rfl, fun _ => rfl, Nat.le_refl _, fun _ => Nat.le_refl _, id⟩, trivial⟩ (fun _ _ => ⟨rfl, rfl, ⟨_, rfl, rfl, rfl⟩, ⟨_, rfl, rfl, rlen _ _ _ _ _⟩, trivial⟩) (fun _ _ => ?_)
    conv => whnf
    refine ⟨⟨rfl, rfl, trivial⟩, ?_⟩
    conv => whnf
    exact ⟨(true, tagsL t a 8), fun i => (i, 0), ⟨fun h => (by cases h), fun g => absurd g hne⟩, fun _ _ => rfl, Part.same ⟨⟨by decide, rfl, rfl, _, rfl, fun _ => rfl, Nat.le_refl _, fun _ => Nat.le_refl _, id⟩, ⟨by decide, rfl, rfl, _, rfl, fun _ => rfl, Nat.le_refl _, fun _ => Nat.le_refl _, fun _ => rfl⟩, trivial⟩ (fun i j _ _ h => h), fun ρ => rfl⟩
  · have hme : markE x k tagged = x := by
      obtain ⟨v, r, w, x1, u, g, a1, d, cw, cr, cd, gn, fr⟩ := x
      simp [markE] at h ⊢
      simp_all
    conv => whnf
    exact ⟨(false, t), fun i => (i, 0), ⟨fun _ => hme, fun _ => rfl⟩, fun _ _ => rfl, Part.same ⟨⟨by decide, rfl, rfl, _, rfl, fun _ => rfl, Nat.le_refl _, fun _ => Nat.le_refl _, id⟩, ⟨by decide, rfl, rfl, _, rfl, fun _ => rfl, Nat.le_refl _, fun _ => Nat.le_refl _, fun _ => rfl⟩, trivial⟩ (fun i j _ _ h => h), fun ρ => rfl⟩
end Go.Sh.Ytanljnpjkokmcaa
