import Derived.Test.YtkopfaenfaelfaaTgB
import Derived.Test.YtkopfaenfaelfaaSh36
import Derived.Test.YtkopfaenfaelfaaSh31
set_option linter.unusedVariables false
namespace Go.Sh.Ytkopfaenfaelfaa
open Go.Proofs Go.Sh

theorem eqm_run (b : Option Nat) (w : World) : (binOp .eql 25 (.map b) (.map none)).run Try.prog w = .ok (.bool b.isNone) w := by
  have gen : ∀ (d : Nat) (p : Option Nat) w, (Op.equalIn (d + 1) 25 (.map p) (.map none)).run Try.prog w = .ok p.isNone w := fun d p w => by
    cases p <;> simp [Op.equalIn, run_underlying Try.underlying25]
  simp only [binOp]
  have e : (Op.equal 25 (.map b) (.map none)).run Try.prog w = .ok b.isNone w := gen 9999 b w
  simp [e]
theorem clone_run {r : Nat} {es : Array MapEntry} {clock : Nat} (t : TypeId) (w : World) (hb : w.heap[r]? = some (.map es clock)) :
    (Extern.MapsClone.clone #[.iface t (.map (some r))]).run Try.prog w = .ok (.iface t (.map (some w.heap.size))) (w.alloc (.map es clock)) := by
  have e : Extern.MapsClone.clone #[.iface t (.map (some r))] = (getObj r >>= fun o => match o with
      | .map entries clock => (newObj (.map entries clock) >>= fun n => pure (.iface t (.map (some n))))
      | _ => stuck "maps.clone: a map expected") := rfl
  rw [e]
  simp [Go.MapKept.run_getObj_map hb, Result.andThen]
theorem assert_run (v : Value) (xT : TypeId) (w : World) : (Instr.typeAssert (.iface 25 v) xT 25 false).run Try.prog w = .ok v w := by
  simp [Instr.typeAssert, run_underlying Try.underlying25, Result.andThen]
set_option maxHeartbeats 2000000 in
theorem clone_calls (b : Nat) (es : Array MapEntry) (clock : Nat) (w : World) (hb : w.heap[b]? = some (.map es clock)) :
    Calls Try.prog 21 #[.map (some b)] w fun e w' => e = .returned (.map (some w.heap.size)) ∧ w' = w.alloc (.map es clock) := by
  go_enter Try.func21, Try.ntmps21
  go_wp2
  rw [eqm_run (some b) w]
  simp only [Result.andThen, Option.isNone]
  rw [Oper.upon_value]
  go_wp2
  rw [run_callFunc_extern Try.func31 (by kernel_rfl) (by kernel_rfl) (by kernel_rfl) (e := Extern.MapsClone.clone) (by kernel_rfl), clone_run _ w hb]
  simp only [Result.andThen]
  rw [Oper.upon_value]
  go_wp2
  rw [assert_run]
  simp only [Result.andThen]
  rw [Oper.upon_value]
  go_wp2
  go_ret
  exact ⟨rfl, rfl⟩
theorem clone_ok (es : List MapEntry) (c : Nat) : Fun Try.prog 21 [.map 0] [(0, .dict (.map es none) c)] 1 1 (fun _ : Unit => True) (fun _ => .map 1) (fun _ => [(0, .dict (.map es none) c), (1, .dict (.map es none) c)]) := by
  refine ⟨ent Try.func21 rfl (by kernel_rfl), fun w0 O ρ w hs ha => ?_⟩
  have hob : w.heap[(ρ 0).1]? = some (.map es.toArray c) := (hs.dict.at_ 0 _ c rfl).obj
  refine (clone_calls (ρ 0).1 es.toArray c w hob).mono ?_
  rintro e w' ⟨rfl, rfl⟩
  exact ⟨.map 1, _, 2, Go.Sh.upd ρ 1 (w.heap.size, 0), by simp [SV.val, upd_same], by decide, agree_upd ρ 1 _, by show 1 < 2; decide, hs.newD (.map es none) c trivial, (), fun i => (i, 0), trivial, fun _ _ => rfl, Part.keys ⟨⟨by decide, rfl, _, rfl, fun _ _ _ h => h⟩, ⟨by decide, rfl, _, rfl, fun _ _ _ h => h⟩, trivial⟩ rfl, fun ρ => rfl⟩
theorem nclone_ok : Pure Try.prog 21 [.nilMap] .nilMap := by
  refine Spec.of_body tabOk Try.func21 rfl (ent Try.func21 rfl (by kernel_rfl)) Try.ntmps21 rfl (by kernel_rfl) (Nat.le_of_ble_eq_true rfl) ?_
  conv => whnf
  refine VL.op (VL.mnl tabOk ?_)
  conv => whnf
  intro ρ
  rfl
end Go.Sh.Ytkopfaenfaelfaa
