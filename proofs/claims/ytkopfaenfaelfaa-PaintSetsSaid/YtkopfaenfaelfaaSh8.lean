import Derived.Test.YtkopfaenfaelfaaSh7
/- 'sop' is sound: the join. -/
set_option linter.unusedVariables false
namespace Go.Sh
open Go.RowKit

section
variable {P : Program} {tab : Tab} {o : Oper} {F : Fr} {H : Hp} {u : Nat} {K : SV → Hp → Nat → Prop} {V : SV → Prop}

theorem VSem.give {x : Operand} {v : SV} (ho : o.op = .move x ∨ o.op = .assign x) (hx : ∀ N ρ a, FOk N ρ F a → a.eval x = v.val ρ ∧ v.In N) : VSem P o F H v :=
  fun w0 O N ρ a w H2 ha hl hs => ⟨by rcases ho with ho | ho <;> simp [execOp, ho, (hx _ ρ a ha).1], (hx _ ρ a ha).2⟩

theorem VSem.pick {c a b : Operand} (ho : o.op = .pick c a b) (h : evK F c fun vc => pickK vc (evK F a) (evK F b) fun v => V v) : ∃ v, V v ∧ VSem P o F H v := by
  obtain ⟨vc, h1, h2⟩ := evK_out h
  cases vc with
  | tt =>
    obtain ⟨v, h3, h4⟩ := evK_out (F := F) (x := a) h1
    exact ⟨v, h3, fun w0 O N ρ a' w H2 ha hl hs => ⟨by simp [execOp, ho, (h2 _ ρ a' ha).1, (h4 _ ρ a' ha).1, SV.val, asBool], (h4 _ ρ a' ha).2⟩⟩
  | ff =>
    obtain ⟨v, h3, h4⟩ := evK_out (F := F) (x := b) h1
    exact ⟨v, h3, fun w0 O N ρ a' w H2 ha hl hs => ⟨by simp [execOp, ho, (h2 _ ρ a' ha).1, (h4 _ ρ a' ha).1, SV.val, asBool], (h4 _ ρ a' ha).2⟩⟩
  | bool t =>
    obtain ⟨va, h3, h4⟩ := evK_out (F := F) (x := a) h1
    obtain ⟨vb, h5, h6⟩ := evK_out h3
    obtain ⟨x, h7, h8⟩ := boolK_out h5
    obtain ⟨y, h9, h10⟩ := boolK_out h7
    refine ⟨_, h9, fun w0 O N ρ a' w H2 ha hl hs => ⟨?_, trivial⟩⟩
    simp only [execOp, ho, (h2 _ ρ a' ha).1, (h4 _ ρ a' ha).1, (h6 _ ρ a' ha).1, h8, h10, SV.val, asBool, Sem.run_bind, Sem.run_pure, Result.andThen_ok]
    cases t <;> rfl
  | _ => exact h1.elim

theorem VSem.nilCheck {x : Operand} {v : SV} (ho : o.op = .nilCheck x) (hx : ∀ N ρ a, FOk N ρ F a → a.eval x = v.val ρ ∧ v.In N) (h : nchK v (V v)) : V v ∧ VSem P o F H v := by
  cases v with
  | ptr i of_ => exact ⟨h, fun w0 O N ρ a w H2 ha hl hs => ⟨by simp [execOp, ho, (hx _ ρ a ha).1, SV.val], (hx _ ρ a ha).2⟩⟩
  | ptrx i of_ => exact ⟨h, fun w0 O N ρ a w H2 ha hl hs => ⟨by simp [execOp, ho, (hx _ ρ a ha).1, SV.val], (hx _ ρ a ha).2⟩⟩
  | func f c => exact ⟨h, fun w0 O N ρ a w H2 ha hl hs => ⟨by simp [execOp, ho, (hx _ ρ a ha).1, SV.val], (hx _ ρ a ha).2⟩⟩
  | slice i of_ l c => exact ⟨h, fun w0 O N ρ a w H2 ha hl hs => ⟨by simp [execOp, ho, (hx _ ρ a ha).1, SV.val], (hx _ ρ a ha).2⟩⟩
  | _ => exact h.elim

theorem run_eql_ptr (P : Program) (w : World) (t e : TypeId) (a b : Option Addr) (ht : P.underlying t = some (.pointer e)) (h : a = none ∨ b = none) :
    (binOp .eql t (.pointer a) (.pointer b)).run P w = .ok (.bool (a.isNone && b.isNone)) w ∧ (binOp .neq t (.pointer a) (.pointer b)).run P w = .ok (.bool !(a.isNone && b.isNone)) w := by
  have : (Op.equal t (.pointer a) (.pointer b)).run P w = .ok (a.isNone && b.isNone) w := by
    unfold Op.equal Op.maxDepth
    rw [Op.equalIn]
    simp only [Sem.run_bind, underlying, run_program, Result.andThen_ok, ht, Sem.run_pure]
    rcases h with rfl | rfl
    · simp
    · cases a <;> simp
  exact ⟨by simp [binOp, this], by simp [binOp, this]⟩

theorem sb_val (b : Bool) (ρ : Env) : (sb b).val ρ = .bool b := by cases b <;> rfl
theorem sb_In (b : Bool) (N : Nat → Prop) : (sb b).In N := by cases b <;> trivial
theorem nilB_out {v : SV} {b : Bool} (h : nilB v = some b) : ∃ a : Env → Option Addr, (∀ ρ, v.val ρ = .pointer (a ρ)) ∧ ∀ ρ, (a ρ).isNone = b := by
  cases v <;> simp only [nilB, Option.some.injEq, reduceCtorEq] at h
  · subst h; exact ⟨fun _ => none, fun _ => rfl, fun _ => rfl⟩
  · subst h; exact ⟨fun _ => some _, fun _ => rfl, fun _ => rfl⟩
  · subst h; exact ⟨fun _ => some _, fun _ => rfl, fun _ => rfl⟩

theorem VSem.binPtr {op : BinOp} {t yt e : TypeId} {x y : Operand} {vx vy : SV} (ho : o.op = .binOp op t x y yt) (hx : ∀ N ρ a, FOk N ρ F a → a.eval x = vx.val ρ ∧ vx.In N) (hy : ∀ N ρ a, FOk N ρ F a → a.eval y = vy.val ρ ∧ vy.In N)
    (ht : P.underlying t = some (.pointer e)) {other : Prop} (h : eqSV op vx vy (fun v => V v) other) : (∃ v, V v ∧ VSem P o F H v) ∨ other := by
  unfold eqSV at h
  cases hnx : nilB vx with
  | none => rw [hnx] at h; exact .inr h
  | some p =>
    cases hny : nilB vy with
    | none => rw [hnx, hny] at h; exact .inr h
    | some q =>
      rw [hnx, hny] at h
      cases hpq : p || q with
      | false => simp only [hpq] at h; exact .inr h
      | true =>
        simp only [hpq] at h
        obtain ⟨a, ha, ha'⟩ := nilB_out hnx
        obtain ⟨b, hb, hb'⟩ := nilB_out hny
        have hor : ∀ ρ, a ρ = none ∨ b ρ = none := fun ρ => by
          rw [← ha' ρ, ← hb' ρ] at hpq
          cases h1 : a ρ <;> cases h2 : b ρ <;> simp_all
        cases op <;> first | exact .inr h | skip
        · refine .inl ⟨_, h, fun w0 O N ρ a' w H2 hf hl hs => ⟨?_, sb_In _ _⟩⟩
          obtain ⟨e1, e2⟩ := run_eql_ptr P w t e (a ρ) (b ρ) ht (hor ρ)
          simp [execOp, ho, (hx _ ρ a' hf).1, (hy _ ρ a' hf).1, ha, hb, eqGuard, e1, sb_val, ← ha' ρ, ← hb' ρ]
        · refine .inl ⟨_, h, fun w0 O N ρ a' w H2 hf hl hs => ⟨?_, sb_In _ _⟩⟩
          obtain ⟨e1, e2⟩ := run_eql_ptr P w t e (a ρ) (b ρ) ht (hor ρ)
          simp [execOp, ho, (hx _ ρ a' hf).1, (hy _ ρ a' hf).1, ha, hb, eqGuard, e2, sb_val, ← ha' ρ, ← hb' ρ]

theorem evK_out2 {F : Fr} {x : Operand} {k : SV → Prop} (h : evK F x k) : ∃ v, k v ∧ (∀ N ρ a, FOk N ρ F a → a.eval x = v.val ρ ∧ v.In N) ∧ ∀ i n, x = .const (.int i n) → v = .int i n := by
  cases x with
  | const c => exact ⟨lit c, h, fun N ρ a _ => ⟨(lit_val ρ c).symm, lit_In N c⟩, fun i n e => by injection e with e; subst e; rfl⟩
  | tmp t => obtain ⟨v, h1, h2⟩ := evK_out h; exact ⟨v, h1, h2, fun _ _ e => by cases e⟩
  | func f => obtain ⟨v, h1, h2⟩ := evK_out h; exact ⟨v, h1, h2, fun _ _ e => by cases e⟩
  | global g => exact h.elim

theorem cy_out {op : BinOp} {y : Operand} {i : IntKind} {b : Int} (hy : ∀ k n, y = .const (.int k n) → SV.int i b = .int k n) (hc : cyOf op y = true) : ndOk op b := by
  have key : ∀ {k n}, y = .const (.int k n) → b = n := fun e => by have := hy _ _ e; injection this
  cases op <;> simp only [cyOf] at hc <;> first
    | (obtain ⟨k, n, e, hn⟩ := nn_out hc; show 0 ≤ b; rw [key e]; exact hn)
    | (obtain ⟨k, n, e, hn⟩ := nz_out hc; show b ≠ 0; rw [key e]; exact hn)

theorem eqGuard_int (op : BinOp) (t : TypeId) (x y : Operand) (k k' : IntKind) (a b : Int) : eqGuard op t x y (.int k a) (.int k' b) = pure () := by cases op <;> rfl

theorem VSem.binInt {op : BinOp} {t yt : TypeId} {x y : Operand} {ka kb : IntKind} {a b : Int} {other : Prop} (ho : o.op = .binOp op t x y yt) (hx : ∀ N ρ a', FOk N ρ F a' → a'.eval x = SV.val ρ (.int ka a) ∧ SV.In N (.int ka a))
    (hy : ∀ N ρ a', FOk N ρ F a' → a'.eval y = SV.val ρ (.int kb b) ∧ SV.In N (.int kb b)) (hc : cyOf op y = true → ndOk op b) (h : binK op (cyOf op y) (.int ka a) (.int kb b) (fun v => V v) other) : ∃ v, V v ∧ VSem P o F H v := by
  obtain ⟨v, h1, h2, h3⟩ := binK_int (P := P) (t := t) h hc
  refine ⟨v, h1, fun w0 O N ρ a' w H2 ha hl hs => ⟨?_, h3 _⟩⟩
  simp only [execOp, ho, (hx _ ρ a' ha).1, (hy _ ρ a' ha).1, SV.val, eqGuard_int, Sem.run_bind, Sem.run_pure, Result.andThen_ok, h2 w ρ]


theorem run_xor (k : IntKind) (a b : Int) : Op.intBits .xor k a b = pure (.int k (band .xor k a b)) := by simp [Op.intBits, band]
theorem VSem.un {op : UnOp} {t : TypeId} {x : Operand} {v : SV} (ho : o.op = .unOp op t x) (hx : ∀ N ρ a, FOk N ρ F a → a.eval x = v.val ρ ∧ v.In N) {other : Prop} (h : unK op v (fun v => V v) other) : (∃ v, V v ∧ VSem P o F H v) ∨ other := by
  have key : ∀ r : SV, V r → (∀ N, r.In N) → (∀ ρ w, (Op.unary op (v.val ρ)).run P w = .ok (r.val ρ) w) → (∃ v, V v ∧ VSem P o F H v) ∨ other := fun r k hin hr =>
    .inl ⟨r, k, fun w0 O N ρ a w H2 ha hl hs => ⟨by simp only [execOp, ho, (hx _ ρ a ha).1, Sem.run_bind, hr, Result.andThen_ok, Sem.run_pure], hin _⟩⟩
  cases op with
  | not => cases v <;> first | exact .inr h | exact key _ h (fun _ => trivial) (fun _ _ => rfl)
  | neg => cases v <;> first | exact .inr h | exact key _ h (fun _ => trivial) (fun _ _ => rfl)
  | xor => cases v <;> first | exact .inr h | exact key _ h (fun _ => trivial) (fun ρ w => by simp only [SV.val, Op.unary, run_xor]; rfl)
  | plus => exact .inr h

theorem VSem.conv {src dst : TypeId} {si ti : TI} {x : Operand} {i : IntKind} {n : Int} {k : IntKind} (hs : TIok P src si) (ht : TIok P dst ti) (hd : ti.desc = .int k) (ho : o.op = .convert src dst x)
    (hx : ∀ N ρ a, FOk N ρ F a → a.eval x = SV.val ρ (.int i n) ∧ SV.In N (.int i n)) : VSem P o F H (.int k (k.wrap n)) := by
  refine fun w0 O N ρ a w H2 ha _ _ => ⟨?_, trivial⟩
  simp only [execOp, ho, (hx _ ρ a ha).1, SV.val, convert, Sem.run_bind, hs.run_und, ht.run_und, Result.andThen_ok, hd]
  simp [Conv.intToInt]

theorem VSem.mkFunc {g : FuncId} {first caps : Array Operand} {l : List SV} (ho : o.op = .makeFunc (.func g) first caps) (hf : first.toList = []) (hl : ∀ N ρ a, FOk N ρ F a → caps.toList.map a.eval = SV.vals ρ l ∧ SV.Ins N l) : VSem P o F H (.func g l) := by
  refine fun w0 O N ρ a w H2 ha _ _ => ⟨?_, by rw [SV.In]; exact (hl _ ρ a ha).2⟩
  have hf' : first = #[] := by
    obtain ⟨l⟩ := first
    have hl : l = [] := hf
    rw [hl]
  have hc : caps.map a.eval = (SV.vals ρ l).toArray := by
    rw [← (hl _ ρ a ha).1]
    cases caps
    simp
  simp [execOp, ho, Instr.makeFunc, hf', hc, SV.val]

theorem VSem.fieldAddr {t : TypeId} {ti fi : TI} {fs : Array Field} {fd : Field} {x : Operand} {v : SV} {f i off : Nat} {r : SV} (ht : TIok P t ti) (hd : ti.desc = .struct fs) (hf : fs.toList[f]? = some fd) (hfi : TIok P fd.type fi) (h0 : fi.size ≠ 0)
    (ho : o.op = .fieldAddr t x f) (hx : ∀ N ρ a, FOk N ρ F a → a.eval x = v.val ρ ∧ v.In N) (hv : (v = .ptr i off ∧ r = .ptr i (off + fd.offset)) ∨ (v = .ptrx i off ∧ r = .ptrx i (off + fd.offset))) : VSem P o F H r := by
  intro w0 O N ρ a w H2 ha _ _
  obtain ⟨h1, h2⟩ := hx _ ρ a ha
  have e : a.eval x = .pointer (some ⟨(ρ i).1, (ρ i).2 + off, none⟩) ∧ r.val ρ = .pointer (some ⟨(ρ i).1, (ρ i).2 + (off + fd.offset), none⟩) ∧ r.In N := by
    rcases hv with ⟨rfl, rfl⟩ | ⟨rfl, rfl⟩ <;> exact ⟨h1, rfl, h2⟩
  refine ⟨?_, e.2.2⟩
  have hf' : fs[f]? = some fd := by simpa using hf
  simp only [execOp, ho, e.1, Instr.fieldAt, Sem.run_bind, ht.run_und, hd, Result.andThen_ok, hf', Instr.sureAddr, Sem.run_pure, fieldPlace, hfi.run_size, h0, if_false, e.2.1, add_at, Nat.add_assoc, Sem.run_ite]

theorem VSem.field {t : TypeId} {ti fi : TI} {fs : Array Field} {fd : Field} {x : Operand} {cs : List SV} {f : Nat} (ht : TIok P t ti) (hd : ti.desc = .struct fs) (hf : fs.toList[f]? = some fd) (hfi : TIok P fd.type fi)
    (ho : o.op = .field t x f) (hx : ∀ N ρ a, FOk N ρ F a → a.eval x = SV.val ρ (.agg cs) ∧ SV.In N (.agg cs)) (h : match fi.agg with | true => takeK cs fd.offset fi.size fun l => V (.agg l) | false => nthK cs fd.offset fun v => V v) : ∃ v, V v ∧ VSem P o F H v := by
  obtain ⟨r, k, h1, h2⟩ := part_ok (K' := fun v => V v) hfi h
  refine ⟨r, k, fun w0 O N ρ a w H2 ha _ _ => ?_⟩
  obtain ⟨h3, h4⟩ := hx _ ρ a ha
  rw [SV.In] at h4
  refine ⟨?_, h1 _ h4⟩
  have hf' : fs[f]? = some fd := by simpa using hf
  simp only [execOp, ho, h3, SV.val, Instr.field, Sem.run_bind, ht.run_und, hd, Result.andThen_ok, hf', asAgg, Sem.run_pure, h2]

theorem VSem.idxPtr {t e : TypeId} {ti ei : TI} {n : Nat} {x ix : Operand} {v r : SV} {i off j : Nat} {kk : IntKind} (ht : TIok P t ti) (he : TIok P e ei) (hd : ti.desc = .array n e) (ho : o.op = .indexAddr t x ix)
    (hx : ∀ N ρ a, FOk N ρ F a → a.eval x = v.val ρ ∧ v.In N) (hix : ∀ N ρ a, FOk N ρ F a → a.eval ix = .int kk (j : Int)) (hj : j < n) (hv : v = .ptr i off ∨ v = .ptrx i off) (hr : r = .ptr i (off + j * ei.size) ∨ r = .ptrx i (off + j * ei.size)) : VSem P o F H r := by
  intro w0 O N ρ a w H2 ha _ _
  obtain ⟨h1, h2⟩ := hx _ ρ a ha
  have e1 : a.eval x = .pointer (some ⟨(ρ i).1, (ρ i).2 + off, none⟩) ∧ N i := by rcases hv with rfl | rfl <;> exact ⟨h1, h2⟩
  have e2 : r.val ρ = .pointer (some ⟨(ρ i).1, (ρ i).2 + (off + j * ei.size), none⟩) ∧ r.In N := by rcases hr with rfl | rfl <;> exact ⟨rfl, e1.2⟩
  refine ⟨?_, e2.2⟩
  simp only [execOp, ho, e1.1, hix _ ρ a ha, Sem.run_bind, run_idx_array ht he hd w _ _ hj, Result.andThen_ok, Sem.run_pure, e2.1, add_at, Nat.add_assoc]

theorem VSem.idxSlice {t e : TypeId} {ti ei : TI} {x ix : Operand} {r : SV} {i off j l c : Nat} {kk : IntKind} (ht : TIok P t ti) (he : TIok P e ei) (hd : ti.desc = .slice e) (ho : o.op = .indexAddr t x ix)
    (hx : ∀ N ρ a, FOk N ρ F a → a.eval x = SV.val ρ (.slice i off l c) ∧ SV.In N (.slice i off l c)) (hix : ∀ N ρ a, FOk N ρ F a → a.eval ix = .int kk (j : Int)) (hj : j < l) (hr : r = .ptr i (off + j * ei.size) ∨ r = .ptrx i (off + j * ei.size)) : VSem P o F H r := by
  intro w0 O N ρ a w H2 ha _ _
  obtain ⟨h1, h2⟩ := hx _ ρ a ha
  have e2 : r.val ρ = .pointer (some ⟨(ρ i).1, (ρ i).2 + (off + j * ei.size), none⟩) ∧ r.In N := by rcases hr with rfl | rfl <;> exact ⟨rfl, h2⟩
  refine ⟨?_, e2.2⟩
  simp only [execOp, ho, h1, SV.val, hix _ ρ a ha, Sem.run_bind, run_idx_slice ht he hd w _ _ hj, Result.andThen_ok, Sem.run_pure, e2.1, add_at, Nat.add_assoc]

theorem VSem.idxSlicen {t e : TypeId} {ti ei : TI} {x ix : Operand} {r : SV} {i off j l g : Nat} {kk : IntKind} (ht : TIok P t ti) (he : TIok P e ei) (hd : ti.desc = .slice e) (ho : o.op = .indexAddr t x ix)
    (hx : ∀ N ρ a, FOk N ρ F a → a.eval x = SV.val ρ (.slicen i off l g) ∧ SV.In N (.slicen i off l g)) (hix : ∀ N ρ a, FOk N ρ F a → a.eval ix = .int kk (j : Int)) (hj : j < l) (hr : r = .ptr i (off + j * ei.size) ∨ r = .ptrx i (off + j * ei.size)) : VSem P o F H r := by
  intro w0 O N ρ a w H2 ha _ _
  obtain ⟨h1, h2⟩ := hx _ ρ a ha
  have e2 : r.val ρ = .pointer (some ⟨(ρ i).1, (ρ i).2 + (off + j * ei.size), none⟩) ∧ r.In N := by rcases hr with rfl | rfl <;> exact ⟨rfl, h2.1⟩
  refine ⟨?_, e2.2⟩
  cases l with
  | zero => exact absurd hj (Nat.not_lt_zero _)
  | succ l => simp only [execOp, ho, h1, SV.val, hix _ ρ a ha, Sem.run_bind, run_idx_slice ht he hd w _ _ hj, Result.andThen_ok, Sem.run_pure, e2.1, add_at, Nat.add_assoc]

theorem slzV_lt {b : Bool} {ad : Addr} {len cap j : Nat} (h : j < len) : slzV b ad len cap = .slice (some ad) len cap := by
  have : (b && Nat.beq len 0) = false := by
    cases len with
    | zero => omega
    | succ n => cases b <;> rfl
  simp only [slzV, this]
theorem VSem.idxSlz {t e : TypeId} {ti ei : TI} {x ix : Operand} {r : SV} {b : Bool} {i off j l g : Nat} {kk : IntKind} (ht : TIok P t ti) (he : TIok P e ei) (hd : ti.desc = .slice e) (ho : o.op = .indexAddr t x ix)
    (hx : ∀ N ρ a, FOk N ρ F a → a.eval x = SV.val ρ (.slz b i off l g) ∧ SV.In N (.slz b i off l g)) (hix : ∀ N ρ a, FOk N ρ F a → a.eval ix = .int kk (j : Int)) (hj : j < l) (hr : r = .ptr i (off + j * ei.size) ∨ r = .ptrx i (off + j * ei.size)) : VSem P o F H r := by
  intro w0 O N ρ a w H2 ha _ _
  obtain ⟨h1, h2⟩ := hx _ ρ a ha
  have e2 : r.val ρ = .pointer (some ⟨(ρ i).1, (ρ i).2 + (off + j * ei.size), none⟩) ∧ r.In N := by rcases hr with rfl | rfl <;> exact ⟨rfl, h2⟩
  refine ⟨?_, e2.2⟩
  simp only [execOp, ho, h1, SV.val, slzV_lt hj, hix _ ρ a ha, Sem.run_bind, run_idx_slice ht he hd w _ _ hj, Result.andThen_ok, Sem.run_pure, e2.1, add_at, Nat.add_assoc]

theorem VSem.idxVal {t e : TypeId} {ti ei : TI} {n : Nat} {x ix : Operand} {cs : List SV} {j : Nat} {kk : IntKind} (ht : TIok P t ti) (he : TIok P e ei) (hd : ti.desc = .array n e) (ho : o.op = .index t x ix)
    (hx : ∀ N ρ a, FOk N ρ F a → a.eval x = SV.val ρ (.agg cs) ∧ SV.In N (.agg cs)) (hix : ∀ N ρ a, FOk N ρ F a → a.eval ix = .int kk (j : Int)) (hj : j < n)
    (h : (match ei.agg with | true => takeK cs (j * ei.size) ei.size fun l => V (.agg l) | false => nthK cs (j * ei.size) fun v => V v) ∨ GetL cs (j * ei.size) ei.size ei.agg fun v => V v) : ∃ v, V v ∧ VSem P o F H v := by
  obtain ⟨r, k, h1, h2⟩ : ∃ r, V r ∧ (∀ N, SV.Ins N cs → r.In N) ∧ ∀ ρ w, (part e (SV.vals ρ cs).toArray (j * ei.size)).run P w = .ok (r.val ρ) w := by
    rcases h with h | h
    · exact part_ok (K' := fun v => V v) he h
    · exact part_get he h
  refine ⟨r, k, fun w0 O N ρ a w H2 ha _ _ => ?_⟩
  obtain ⟨h3, h4⟩ := hx _ ρ a ha
  rw [SV.In] at h4
  refine ⟨?_, h1 _ h4⟩
  simp only [execOp, ho, h3, SV.val, Instr.index, hix _ ρ a ha, asIntOf, Sem.run_bind, Sem.run_pure, ht.run_und, hd, Result.andThen_ok, Int.toNat_natCast]
  simp [hj, h2, he.run_size]

theorem VSem.extract {x : Operand} {l : List SV} {i : Nat} (ho : o.op = .extract x i) (hx : ∀ N ρ a, FOk N ρ F a → a.eval x = SV.val ρ (.tup l) ∧ SV.In N (.tup l)) (h : nthK l i fun v => V v) : ∃ v, V v ∧ VSem P o F H v := by
  obtain ⟨r, h1, k⟩ := nthK_out h
  refine ⟨r, k, fun w0 O N ρ a w H2 ha _ _ => ?_⟩
  obtain ⟨h3, h4⟩ := hx _ ρ a ha
  rw [SV.In] at h4
  refine ⟨?_, In_get h4 h1⟩
  simp [execOp, ho, h3, SV.val, Instr.extract, SV.vals_eq, h1]

theorem OpSem.call {c : Call} {f : Operand} {g : FuncId} {caps l : List SV} (ho : o.op = .call c) (hf : c.callee = .value f) (hx : ∀ N ρ a, FOk N ρ F a → a.eval f = SV.val ρ (.func g caps) ∧ SV.In N (.func g caps))
    (hl : ∀ N ρ a, FOk N ρ F a → c.args.toList.map a.eval = SV.vals ρ l ∧ SV.Ins N l) (h : Spec P g (l ++ caps) H u K) : OpSem P o F H u K := by
  intro w0 O ρ a w next Q ha hs hk
  obtain ⟨h1, h2⟩ := hx _ ρ a ha
  obtain ⟨h3, h4⟩ := hl _ ρ a ha
  rw [SV.In] at h2
  have hargs : (#[] ++ c.args.map a.eval ++ (SV.vals ρ caps).toArray) = (SV.vals ρ (l ++ caps)).toArray := by
    have hm : c.args.map a.eval = (SV.vals ρ l).toArray := by
      rw [← h3]
      cases c.args
      simp
    rw [hm]
    simp [SV.vals_eq]
  have hrun : (execOp a.eval o).run P w = .ok (.enter g (SV.vals ρ (l ++ caps)).toArray) w := by
    simp only [execOp, ho, resolve, hf, h1, SV.val, Deferred.ofValue, Sem.run_bind, Sem.run_pure, Result.andThen_ok, invoke]
    rw [hargs, h.ent]
  unfold Oper.wp
  rw [hrun, Oper.upon_enter]
  have hin : SV.Ins (· < u) (l ++ caps) := by
    rw [SV.Ins_iff] at *
    intro y hy
    rcases List.mem_append.1 hy with hy | hy
    · exact h4 y hy
    · exact h2 y hy
  refine (h.sem w0 O ρ w hs hin).mono ?_
  rintro e w' ⟨v, H', u', ρ', rfl, q1, q2, q3, q4, q5⟩
  exact hk v H' u' ρ' w' q1 q2 q3 q4 q5

end
end Go.Sh
