import Derived.Test.YtkopfaenfaelfaaSh8
/- 'sop' is sound. Code: the evaluator 'swp', and that it is sound. -/
set_option linter.unusedVariables false
namespace Go.Sh
open Go.RowKit

section
variable {P : Program} {tab : Tab} {o : Oper} {F : Fr} {H : Hp} {u : Nat} {K : SV → Hp → Nat → Prop} {V : SV → Prop} {other : Prop}

theorem isStruct_out {ti : TI} {k : Array Field → Prop} (h : ti.isStruct k) : ∃ fs, ti.desc = .struct fs ∧ k fs := by
  unfold TI.isStruct at h
  split at h
  · rename_i fs hd; exact ⟨fs, hd, h⟩
  · exact h.elim
theorem elemK_out {ti : TI} {k : Option Nat → TypeId → Prop} (h : ti.elemK k) : (∃ n e, ti.desc = .array n e ∧ k (some n) e) ∨ ∃ e, ti.desc = .slice e ∧ k none e := by
  unfold TI.elemK at h
  split at h
  · rename_i n e hd; exact .inl ⟨n, e, hd, h⟩
  · rename_i e hd; exact .inr ⟨e, hd, h⟩
  · exact h.elim

theorem slzV_is (b : Bool) (ad : Addr) (l g : Nat) : ∃ b' cap, slzV b ad l g = .slice b' l cap := by
  unfold slzV
  split
  · rename_i h
    have : l = 0 := by simp at h; exact h.2
    subst this; exact ⟨_, _, rfl⟩
  · exact ⟨_, _, rfl⟩

theorem len_ok {x : Operand} {t : TypeId} {ti : TI} {v : SV} {c : Call} {n : Nat} (ho : o.op = .call c) (hc : c.callee = .builtin .len) (ha : c.args.toList = [x]) (hts : c.argTypes.toList = [t]) (ht : TIok P t ti)
    (hx : ∀ N ρ a, FOk N ρ F a → a.eval x = v.val ρ ∧ v.In N) (hn : (∃ e, ti.desc = .slice e ∧ ∀ ρ, ∃ b cap, v.val ρ = .slice b n cap) ∨ ∃ e, ti.desc = .array n e) : VSem P o F H (.int .i64 (n : Int)) := by
  refine fun w0 O N ρ a w H2 hf _ _ => ⟨?_, trivial⟩
  have e1 : c.args = #[x] := by
    cases hh : c.args with | mk l => rw [hh] at ha; simp only at ha; rw [ha]
  have e2 : c.argTypes = #[t] := by
    cases hh : c.argTypes with | mk l => rw [hh] at hts; simp only at hts; rw [hts]
  simp only [execOp, ho, resolve, hc, e1, e2, Sem.run_bind, Sem.run_pure, Result.andThen_ok, invoke, builtin, List.map_toArray, List.map_cons, List.map_nil, (hx _ ρ a hf).1]
  rcases hn with ⟨e, hd, hv⟩ | ⟨e, hd⟩
  · obtain ⟨b, cap, hv⟩ := hv ρ
    simp [Builtin.len_, ht.run_und, hd, hv, SV.val, goInt]
  · simp [Builtin.len_, ht.run_und, hd, SV.val, goInt]

theorem two_args {c : Call} {x y : Operand} (ha : c.args.toList = [x, y]) : c.args = #[x, y] := by
  cases hh : c.args with | mk l => rw [hh] at ha; simp only at ha; rw [ha]

theorem min_ok {x y : Operand} {c : Call} {k k' : IntKind} {a b : Int} (ho : o.op = .call c) (hc : c.callee = .builtin .min) (ha : c.args.toList = [x, y])
    (hx : ∀ N ρ a', FOk N ρ F a' → a'.eval x = SV.val ρ (.int k a) ∧ SV.In N (.int k a)) (hy : ∀ N ρ a', FOk N ρ F a' → a'.eval y = SV.val ρ (.int k' b) ∧ SV.In N (.int k' b)) : VSem P o F H (.int k (if b < a then b else a)) := by
  refine fun w0 O N ρ a' w H2 hf _ _ => ⟨?_, trivial⟩
  simp only [execOp, ho, resolve, hc, two_args ha, Sem.run_bind, Sem.run_pure, Result.andThen_ok, invoke, builtin, List.map_toArray, List.map_cons, List.map_nil, (hx _ ρ a' hf).1, (hy _ ρ a' hf).1, SV.val]
  simp [Builtin.min_, Builtin.min2]

theorem max_ok {x y : Operand} {c : Call} {k k' : IntKind} {a b : Int} (ho : o.op = .call c) (hc : c.callee = .builtin .max) (ha : c.args.toList = [x, y])
    (hx : ∀ N ρ a', FOk N ρ F a' → a'.eval x = SV.val ρ (.int k a) ∧ SV.In N (.int k a)) (hy : ∀ N ρ a', FOk N ρ F a' → a'.eval y = SV.val ρ (.int k' b) ∧ SV.In N (.int k' b)) : VSem P o F H (.int k (if a < b then b else a)) := by
  refine fun w0 O N ρ a' w H2 hf _ _ => ⟨?_, trivial⟩
  simp only [execOp, ho, resolve, hc, two_args ha, Sem.run_bind, Sem.run_pure, Result.andThen_ok, invoke, builtin, List.map_toArray, List.map_cons, List.map_nil, (hx _ ρ a' hf).1, (hy _ ρ a' hf).1, SV.val]
  simp [Builtin.max_, Builtin.max2]

theorem vop_sound (hP : TabOk P tab) (h : vop P tab o F H V other) : (∃ v, V v ∧ VSem P o F H v) ∨ other := by
  unfold vop at h
  split at h
  case h_1 x ho => obtain ⟨v, k, hx⟩ := evK_out h; exact .inl ⟨v, k, VSem.give (.inl ho) hx⟩
  case h_2 x ho => obtain ⟨v, k, hx⟩ := evK_out h; exact .inl ⟨v, k, VSem.give (.inr ho) hx⟩
  case h_3 c a b ho => exact .inl (VSem.pick ho h)
  case h_4 t parts ho =>
    obtain ⟨ti, ht, h1⟩ := tabK_out hP h
    split at h1
    · rename_i fs zs hd hz
      split at h1
      · rename_i hall
        obtain ⟨cs, k, hcs⟩ := fillK_out h1
        exact .inl ⟨_, k, build_struct hP ht hd hz ho hall hcs⟩
      · exact .inr h1
    · rename_i n e zs hd hz
      obtain ⟨ei, he, h2⟩ := tabK_out hP h1
      obtain ⟨cs, k, hcs⟩ := fillK_out h2
      exact .inl ⟨_, k, build_array ht he hd hz ho hcs⟩
    · exact .inr h1
  case h_5 t x ho =>
    obtain ⟨ti, ht, h1⟩ := tabK_out hP h
    obtain ⟨v, h2, hx⟩ := evK_out h1
    exact .inl (load_ok ht ho hx h2)
  case h_6 x ho =>
    obtain ⟨v, h1, hx⟩ := evK_out h
    exact .inl ⟨v, VSem.nilCheck ho hx h1⟩
  case h_7 op t x y yt ho =>
    obtain ⟨vx, h1, hx⟩ := evK_out h
    obtain ⟨vy, h2, hy, hyc⟩ := evK_out2 h1
    have oth : ∀ (g : tabK tab t fun ti => match ti.desc with | .pointer _ => eqSV op vx vy (fun v => V v) other | _ => other), (∃ v, V v ∧ VSem P o F H v) ∨ other := fun g => by
      obtain ⟨ti, ht, g1⟩ := tabK_out hP g
      split at g1
      · rename_i e hd
        exact VSem.binPtr ho hx hy (by rw [ht.und, hd]) g1
      · exact .inr g1
    cases vx with
    | int ka a =>
      cases vy with
      | int kb b => exact .inl (VSem.binInt ho hx hy (fun hc => cy_out hyc hc) h2)
      | _ => exact oth h2
    | _ => exact oth h2
  case h_8 op t x ho =>
    obtain ⟨v, h1, hx⟩ := evK_out h
    exact VSem.un ho hx h1
  case h_9 src dst x ho =>
    obtain ⟨si, hs, h1⟩ := tabK_out hP h
    obtain ⟨ti, ht, h2⟩ := tabK_out hP h1
    obtain ⟨v, h3, hx⟩ := evK_out h2
    cases v with
    | int i n =>
      simp only [TI.isInt] at h3
      split at h3
      · rename_i k hd; exact .inl ⟨_, h3, VSem.conv hs ht hd ho hx⟩
      · exact .inr h3
    | _ => exact .inr h3
  case h_10 fn first caps ho =>
    split at h
    · split at h
      · rename_i hf
        obtain ⟨l, k, hl⟩ := evsK_out h
        exact .inl ⟨_, k, VSem.mkFunc ho hf hl⟩
      · exact .inr h
    · exact .inr h
  case h_11 t x f ho =>
    obtain ⟨ti, ht, h1⟩ := tabK_out hP h
    obtain ⟨fs, hd, h2⟩ := isStruct_out h1
    split at h2
    · rename_i fd hf
      obtain ⟨fi, hfi, h3⟩ := tabK_out hP h2
      split at h3
      · exact h3.elim
      · rename_i n hn
        obtain ⟨v, h4, hx⟩ := evK_out h3
        obtain ⟨i, off, ⟨rfl, k⟩ | ⟨rfl, k⟩⟩ := ptrK_out h4
        · exact .inl ⟨_, k, VSem.fieldAddr ht hd hf hfi (by omega) ho hx (.inl ⟨rfl, rfl⟩)⟩
        · exact .inl ⟨_, k, VSem.fieldAddr ht hd hf hfi (by omega) ho hx (.inr ⟨rfl, rfl⟩)⟩
    · exact h2.elim
  case h_12 t x f ho =>
    obtain ⟨ti, ht, h1⟩ := tabK_out hP h
    obtain ⟨fs, hd, h2⟩ := isStruct_out h1
    split at h2
    · rename_i fd hf
      obtain ⟨fi, hfi, h3⟩ := tabK_out hP h2
      obtain ⟨v, h4, hx⟩ := evK_out h3
      cases v with
      | agg cs => exact .inl (VSem.field ht hd hf hfi ho hx h4)
      | _ => exact .inr h4
    · exact h2.elim
  case h_13 t x ix ho =>
    obtain ⟨ti, ht, h1⟩ := tabK_out hP h
    rcases elemK_out h1 with ⟨n, e, hd, h2⟩ | ⟨e, hd, h2⟩
    · obtain ⟨ei, he, h3⟩ := tabK_out hP h2
      obtain ⟨v, h4, hx⟩ := evK_out h3
      obtain ⟨vi, h5, hi⟩ := evK_out h4
      cases vi with
      | int kk nn =>
        cases v with
        | ptr i off =>
          obtain ⟨j, hj, hl, k⟩ := idxK_out hi h5
          rcases k with k | k
          · exact .inl ⟨_, k, VSem.idxPtr ht he hd ho hx hj hl (.inl rfl) (.inl rfl)⟩
          · exact .inl ⟨_, k, VSem.idxPtr ht he hd ho hx hj hl (.inl rfl) (.inr rfl)⟩
        | ptrx i off =>
          obtain ⟨j, hj, hl, k⟩ := idxK_out hi h5
          rcases k with k | k
          · exact .inl ⟨_, k, VSem.idxPtr ht he hd ho hx hj hl (.inr rfl) (.inr rfl)⟩
          · exact .inl ⟨_, k, VSem.idxPtr ht he hd ho hx hj hl (.inr rfl) (.inr rfl)⟩
        | slice i off l c => exact False.elim h5
        | slicen i off l g => exact False.elim h5
        | slz b i off l g => exact False.elim h5
        | _ => exact .inr h5
      | _ => exact .inr h5
    · obtain ⟨ei, he, h3⟩ := tabK_out hP h2
      obtain ⟨v, h4, hx⟩ := evK_out h3
      obtain ⟨vi, h5, hi⟩ := evK_out h4
      cases vi with
      | int kk nn =>
        cases v with
        | ptr i off => exact False.elim h5
        | ptrx i off => exact False.elim h5
        | slice i off l c =>
          obtain ⟨j, hj, hl, k⟩ := IdxL_out hi h5
          rcases k with k | k
          · exact .inl ⟨_, k, VSem.idxSlice ht he hd ho hx hj hl (.inl rfl)⟩
          · exact .inl ⟨_, k, VSem.idxSlice ht he hd ho hx hj hl (.inr rfl)⟩
        | slicen i off l g =>
          obtain ⟨j, hj, hl, k⟩ := IdxL_out hi h5
          rcases k with k | k
          · exact .inl ⟨_, k, VSem.idxSlicen ht he hd ho hx hj hl (.inl rfl)⟩
          · exact .inl ⟨_, k, VSem.idxSlicen ht he hd ho hx hj hl (.inr rfl)⟩
        | slz b i off l g =>
          obtain ⟨j, hj, hl, k⟩ := IdxL_out hi h5
          rcases k with k | k
          · exact .inl ⟨_, k, VSem.idxSlz ht he hd ho hx hj hl (.inl rfl)⟩
          · exact .inl ⟨_, k, VSem.idxSlz ht he hd ho hx hj hl (.inr rfl)⟩
        | _ => exact .inr h5
      | _ => exact .inr h5
  case h_14 t x ix ho =>
    obtain ⟨ti, ht, h1⟩ := tabK_out hP h
    split at h1
    · rename_i n e hd
      obtain ⟨ei, he, h3⟩ := tabK_out hP h1
      obtain ⟨v, h4, hx⟩ := evK_out h3
      obtain ⟨vi, h5, hi⟩ := evK_out h4
      cases v with
      | agg cs =>
        cases vi with
        | int kk nn =>
          obtain ⟨j, hj, hl, k⟩ := idxK_out hi h5
          exact .inl (VSem.idxVal ht he hd ho hx hj hl k)
        | _ => exact .inr h5
      | _ => cases vi <;> exact .inr h5
    · exact .inr h1
  case h_15 x i ho =>
    obtain ⟨v, h1, hx⟩ := evK_out h
    cases v with
    | tup l => exact .inl (VSem.extract ho hx h1)
    | _ => exact h1.elim
  case h_16 c ho =>
    split at h
    · rename_i hc
      split at h
      · rename_i x t ha hts
        obtain ⟨ti, ht, h1⟩ := tabK_out hP h
        obtain ⟨v, h2, hx⟩ := evK_out h1
        split at h2
        · rename_i e i off l cap hd
          exact .inl ⟨_, h2, len_ok ho hc ha hts ht hx (.inl ⟨e, hd, fun ρ => ⟨_, _, rfl⟩⟩)⟩
        · rename_i e i off l g hd
          exact .inl ⟨_, h2, len_ok ho hc ha hts ht hx (.inl ⟨e, hd, fun ρ => by cases l <;> exact ⟨_, _, rfl⟩⟩)⟩
        · rename_i e b i off l g hd
          exact .inl ⟨_, h2, len_ok ho hc ha hts ht hx (.inl ⟨e, hd, fun ρ => slzV_is _ _ _ _⟩)⟩
        · rename_i e hd
          exact .inl ⟨_, h2, len_ok (n := 0) ho hc ha hts ht hx (.inl ⟨e, hd, fun ρ => ⟨_, _, rfl⟩⟩)⟩
        · rename_i n e hd
          exact .inl ⟨_, h2, len_ok ho hc ha hts ht hx (.inr ⟨_, hd⟩)⟩
        · exact .inr h2
      · exact .inr h
    · rename_i hc
      split at h
      · rename_i x y ha
        obtain ⟨vx, h1, hx⟩ := evK_out h
        obtain ⟨vy, h2, hy⟩ := evK_out h1
        split at h2
        · exact .inl ⟨_, h2, min_ok ho hc ha hx hy⟩
        · exact .inr h2
      · exact .inr h
    · rename_i hc
      split at h
      · rename_i x y ha
        obtain ⟨vx, h1, hx⟩ := evK_out h
        obtain ⟨vy, h2, hy⟩ := evK_out h1
        split at h2
        · exact .inl ⟨_, h2, max_ok ho hc ha hx hy⟩
        · exact .inr h2
      · exact .inr h
    · exact .inr h
  case h_17 => exact .inr h

theorem vop_op (hP : TabOk P tab) (h : vop P tab o F H (fun v => K v H u) (OpL P o F H u K)) : OpSem P o F H u K := by
  rcases vop_sound hP h with ⟨v, k, hv⟩ | h
  · exact hv.op k
  · exact h.sem

theorem sop_sound (hP : TabOk P tab) (h : sop P tab o F H u K) : OpSem P o F H u K := by
  unfold sop at h
  split at h
  case h_1 t ho => obtain ⟨ti, ht, k⟩ := tabK_out hP h; exact OpSem.alloc ht ho k
  case h_2 t x ho =>
    obtain ⟨v, h1, hx⟩ := evK_out h
    split at h1
    · exact h1.sem
    · obtain ⟨cs, k, h3, h4, h5⟩ := cellsK_out h1
      exact OpSem.box ho hx h3 h4 h5 k
  case h_3 t x y ho =>
    obtain ⟨ti, ht, h1⟩ := tabK_out hP h
    obtain ⟨v, h2, hx⟩ := evK_out h1
    obtain ⟨vy, h3, hy⟩ := evK_out h2
    exact store_ok ht ho hx hy h3
  case h_4 c ho =>
    split at h
    · rename_i f hf
      obtain ⟨vf, h1, hx⟩ := evK_out h
      cases vf with
      | func g caps =>
        obtain ⟨l, k, hl⟩ := evsK_out h1
        exact OpSem.call ho hf hx hl k
      | _ => exact OpL.sem h1
    · exact vop_op hP h
  case h_5 => exact vop_op hP h

end
end Go.Sh
