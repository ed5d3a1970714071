import Derived.Test.YtkopfaenfaelfaaSh18
import Derived.Below
import Derived.ChangeSame
/- From a contract to the row. -/
set_option linter.unusedVariables false
namespace Go.Sh
open Go.RowKit Go.WideShapes Go.ChangeShapes

theorem Sat.below {w0 w : World} {N : Nat → Prop} {ρ : Env} {H : Hp} (h : Sat w0 (fun _ _ => False) N ρ H w) : Below w0.heap.size w0 w :=
  ⟨h.os, h.tape, h.output, h.size, fun k hk => h.blk k hk (fun _ e => e)⟩

theorem Pure.calls {P : Program} {f : FuncId} {args : List SV} {r : SV} (h : Pure P f args r) (ha : SV.oks 0 args = true) (hr : r.ok 0 = true) (w : World) :
    Calls P f (SV.vals zenv args).toArray w fun e w' => e = .returned (r.val zenv) ∧ Below w.heap.size w w' := by
  refine (h.sem w _ zenv w (Sat.none w zenv) (closed_Ins ha _)).mono ?_
  rintro e w' ⟨v, H', u', ρ', rfl, h1, h2, h3, h4, hv⟩
  exact ⟨by rw [hv ρ', closed_val hr ρ'], h4.below⟩

/-- The row's last step, where the call has only made blocks of its own. -/
theorem post_below {H : Type} {enc : TypeId × Value → H} {P : Program} {f : Func} {s : ChangeSpec} {apart fresh handsOn again : Bool} {W W' : World} {args : Array Value} {v : Value} {ds gs : List (DataW H)} {ps pa pv : List MemPlace}
    (hW : DataW.Whole enc P f.params.toList s.vars apart W args.toList ds gs ps)
    (res : ∀ (b : Nat) (sp : Nat → Bool) (hd : Bool), DataW.TrodAll enc P W' b sp hd f.resultTypes.toList (v.resultList f.resultTypes.size) (s.fn H (ds ++ gs)).results [])
    (arg : ∀ sp : Nat → Bool, (∀ p ∈ ps, sp p.block = true) → DataW.TrodAll enc P W' 0 sp true f.params.toList args.toList (s.fn H (ds ++ gs)).args pa)
    (var : ∀ sp : Nat → Bool, (∀ p ∈ ps, sp p.block = true) → DataW.TrodVars enc P W' sp s.vars (s.fn H (ds ++ gs)).vars pv)
    (eps : ps = pa ++ pv) (hb : Below W.heap.size W W')
    (ok : ∀ (j : Nat) (t : TypeId) (r : Value), f.resultTypes[j]? = some t → (v.resultList f.resultTypes.size)[j]? = some r → Value.okWide P W' .any 0 t r) :
    s.post enc P f apart fresh handsOn again W args v W' := by
  have lt : ∀ p ∈ ps, p.block < W.heap.size := fun p hp => hW.lt p hp
  have here : ∀ p ∈ ps, (fun b => decide (b < W.heap.size)) p.block = true := fun p hp => decide_eq_true (lt p hp)
  have kept : W.keptBut W' (fun p => p ∈ ps ∧ (p ∈ pa ∨ p ∈ pv)) := hb.frame _
  have inps : ∀ p, p ∈ ([] ++ pa) ++ pv → p ∈ ps := fun p hp => by rw [eps]; simpa using hp
  have kept2 := World.keptBut_mono (may' := fun p => p ∈ ps ∧ (p ∈ [] ++ pa ∨ p ∈ pv)) (fun p hp => ⟨hp.1, hp.2⟩) kept
  refine ⟨ds, gs, ps, [], pa, pv, hW, res _ _ _, arg _ here, var _ here, World.keptBut_mono (fun p hp => ⟨hp.1, ?_⟩) kept, fun _ => ?_⟩
  · have := hp.1
    rw [eps, List.mem_append] at this
    exact .inr this
  · obtain ⟨_, _, _, _, _, frozen, apartW⟩ := hW
    refine ⟨ok, _, _, ([] ++ pa) ++ pv, ⟨[] ++ pa, pv, trodAll_append (arg _ (fun _ _ => rfl)) (res _ _ _), var _ (fun _ _ => rfl), rfl, fun b off hp => ?_, fun ha => ?_⟩, fun p hp _ => inps p hp⟩
    · have hin := inps _ hp
      rw [hb.frozen (lt _ hin)]
      exact frozen b off hin
    · have := apartW ha
      rw [eps] at this
      simpa using this
end Go.Sh
