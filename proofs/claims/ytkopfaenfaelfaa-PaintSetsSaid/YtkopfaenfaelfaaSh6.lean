import Derived.Test.YtkopfaenfaelfaaSh5
/- 'sop' is sound. -/
set_option linter.unusedVariables false
namespace Go.Sh
open Go.RowKit

section
variable {P : Program} {tab : Tab} {o : Oper} {F : Fr} {H : Hp} {u : Nat} {K : SV → Hp → Nat → Prop}

/-- An operation that hands back the value v and leaves the world: in whatever heap has what it looks at. -/
def VSem (P : Program) (o : Oper) (F : Fr) (H : Hp) (v : SV) : Prop :=
  ∀ (w0 : World) (O : Nat → Nat → Prop) (N : Nat → Prop) (ρ : Env) (a : Act) (w : World) (H2 : Hp), FOk N ρ F a → (∀ i so, look H i = some so → N i → look H2 i = some so) → Sat w0 O N ρ H2 w →
    (execOp a.eval o).run P w = .ok (.value (v.val ρ)) w ∧ v.In N
theorem VSem.op {v : SV} (h : VSem P o F H v) (k : K v H u) : OpSem P o F H u K := OpSem.value k fun w0 O ρ a w ha hs => h w0 O (· < u) ρ a w H ha (fun _ _ h _ => h) hs

theorem run_newVar (P : Program) (t : TypeId) (v : Value) (w : World) : (newVar t v).run P w = .ok ⟨w.heap.size, 0, none⟩ (w.alloc (.cells v.cells t)) := by
  simp [newVar, newRow]

theorem succ_iff (u : Nat) (i : Nat) : i < u + 1 ↔ i < u ∨ i = u := by omega

/-- A new block with a value's cells. -/
theorem Sat.box {w0 w : World} {O : Nat → Nat → Prop} {ρ : Env} {H : Hp} {u : Nat} (hs : Sat w0 O (· < u) ρ H w) (arr : Array Value) (t : TypeId) {cs : List SV} (hin : SV.Ins (· < u) cs) (hone : SV.allone cs = true)
    (hv : arr.toList = SV.vals ρ cs) : Sat w0 O (· < u + 1) (upd ρ u (w.heap.size, 0)) ((u, .cells cs) :: H) (w.alloc (.cells arr t)) := by
  have hag : SV.vals (upd ρ u (w.heap.size, 0)) cs = SV.vals ρ cs := SV.vals_agree (N := (· < u)) (fun i hi => upd_other ρ _ (Nat.ne_of_lt hi)) cs hin
  refine hs.alloc (M := (· < u + 1)) (Nat.lt_irrefl u) arr t (so := .cells cs) (succ_iff u) (SV.Ins.mono (fun i hi => Nat.lt_succ_of_lt hi) cs hin) (fun j v hj => ?_) (allone_out _ hone) ?_ ?_ rfl
  · simp only [SO.vals, hag, ← hv] at hj
    simpa using hj
  · simp only [SO.len]
    have : arr.size = cs.length := by rw [← Array.length_toList, hv, SV.vals_length]
    omega
  · simp [SO.vals, SO.len, SV.vals_length]

theorem agree_upd (ρ : Env) (u : Nat) (p : Nat × Nat) : ∀ i, i < u → upd ρ u p i = ρ i := fun i hi => upd_other ρ p (Nat.ne_of_lt hi)

theorem OpSem.alloc {t : TypeId} {ti : TI} (ht : TIok P t ti) (ho : o.op = .alloc t) (k : K (.ptr u 0) ((u, ti.zero) :: H) (u + 1)) : OpSem P o F H u K := by
  refine OpSem.turn fun w0 O ρ a w ha hs => ?_
  obtain ⟨i, z, _, _, _, _, hz, hin, hlen, hvl, hone, _, hnd⟩ := ht.inf
  obtain ⟨z', hrun, hz'⟩ := ht.run_zero (w := w)
  refine ⟨.ptr u 0, (u, ti.zero) :: H, u + 1, upd ρ u (w.heap.size, 0), w.alloc (.cells z'.cells t), ?_, Nat.le_succ u, agree_upd ρ u _, Nat.lt_succ_self u, ?_, k⟩
  · simp [execOp, ho, Instr.alloc, hrun, run_newVar, SV.val, upd_same]
  · refine hs.alloc (M := (· < u + 1)) (Nat.lt_irrefl u) z'.cells t (succ_iff u) (SO.In.mono (fun i hi => hi.elim) hin) (fun j v hj => ?_) (hone _) ?_ ?_ hnd
    · rw [hz'] at hj; simpa using hj
    · rw [hlen, ← hvl zenv, hz']; simp
    · rw [hvl, hlen]; exact Nat.le_refl _

theorem OpSem.box {t : TypeId} {x : Operand} {v : SV} {cs : List SV} (ho : o.op = .box t x) (hx : ∀ N ρ a, FOk N ρ F a → a.eval x = v.val ρ ∧ v.In N) (hone : SV.allone cs = true) (hc : ∀ ρ, (v.val ρ).cells.toList = SV.vals ρ cs)
    (hin : ∀ N, v.In N → SV.Ins N cs) (k : K (.ptr u 0) ((u, .cells cs) :: H) (u + 1)) : OpSem P o F H u K := by
  refine OpSem.turn fun w0 O ρ a w ha hs => ?_
  obtain ⟨h1, h2⟩ := hx _ ρ a ha
  refine ⟨.ptr u 0, (u, .cells cs) :: H, u + 1, upd ρ u (w.heap.size, 0), w.alloc (.cells (v.val ρ).cells t), ?_, Nat.le_succ u, agree_upd ρ u _, Nat.lt_succ_self u, hs.box _ t (hin _ h2) hone (hc ρ), k⟩
  simp [execOp, ho, Instr.box, h1, run_newVar, SV.val, upd_same]

/-- What fill comes to. -/
theorem foldl_set (vs : List Value) : ∀ (off e : Nat) (arr : Array Value), off + e + vs.length ≤ arr.size →
    ((vs.zipIdx e).foldl (fun (cs : Array Value) (p : Value × Nat) => cs.setIfInBounds (off + p.2) p.1) arr).toList = setRange arr.toList (off + e) vs := by
  induction vs with
  | nil => intro off e arr _; simp [setRange_nil]
  | cons v vs ih =>
    intro off e arr h
    simp only [List.length_cons] at h
    rw [List.zipIdx_cons, List.foldl_cons, ih off (e + 1) _ (by simp; omega), setRange_cons (by simp; omega)]
    simp [Nat.add_assoc]

theorem fill_toList {place : Nat → Option (Nat × Nat)} {i : Nat} {v : Value} {r : List (Nat × Value)} {arr : Array Value} {off size : Nat} (hp : place i = some (off, size)) (hs : v.cells.size = size) (hl : off + v.cells.size ≤ arr.size) :
    ∃ arr', Instr.fill place arr ((i, v) :: r) = Instr.fill place arr' r ∧ arr'.toList = setRange arr.toList off v.cells.toList := by
  refine ⟨v.cells.zipIdx.foldl (fun cs (c, j) => cs.setIfInBounds (off + j) c) arr, ?_, ?_⟩
  · rw [Instr.fill, hp]
    simp only
    rw [if_neg (by simp [hs]; omega)]
  · rw [← Array.foldl_toList, Array.toList_zipIdx]
    exact foldl_set v.cells.toList off 0 arr (by simpa using hl)

theorem fillK_out {F : Fr} {place : Nat → Option (Nat × Nat)} : ∀ {ps : List (Nat × Operand)} {zs : List SV} {k : List SV → Prop}, fillK F place ps zs k → ∃ cs, k cs ∧ ∀ N ρ a, FOk N ρ F a → SV.Ins N zs → ∀ arr : Array Value, arr.toList = SV.vals ρ zs →
    SV.Ins N cs ∧ ∃ arr' : Array Value, Instr.fill place arr (ps.map fun (i, x) => (i, a.eval x)) = some arr' ∧ arr'.toList = SV.vals ρ cs
  | [], zs, k, h => ⟨zs, h, fun N ρ a ha hz arr harr => ⟨hz, arr, rfl, harr⟩⟩
  | (i, x) :: r, zs, k, h => by
    obtain ⟨v, h1, h2⟩ := evK_out h
    obtain ⟨vs, h3, h4, h5, h6⟩ := cellsK_out h1
    split at h3
    · rename_i off size hp
      split at h3
      · rename_i hb
        obtain ⟨h7, h8⟩ := putK_out h3
        obtain ⟨cs, h9, h10⟩ := fillK_out h8
        refine ⟨cs, h9, fun N ρ a ha hz arr harr => ?_⟩
        obtain ⟨e1, e2⟩ := h2 N ρ a ha
        have hsz : (v.val ρ).cells.size = size := by
          rw [← Array.length_toList, h5, SV.vals_length]
          exact Nat.eq_of_beq_eq_true hb
        have harrs : arr.size = zs.length := by rw [← Array.length_toList, harr, SV.vals_length]
        have hvl : vs.length = size := Nat.eq_of_beq_eq_true hb
        obtain ⟨arr', g1, g2⟩ := fill_toList (r := r.map fun (i, x) => (i, a.eval x)) (arr := arr) hp hsz (by omega)
        have hz' : SV.Ins N (setRange zs off vs) := by
          rw [SV.Ins_iff] at *
          intro y hy
          simp only [setRange, List.mem_append] at hy
          rcases hy with (hy | hy) | hy
          · exact hz y (List.mem_of_mem_take hy)
          · exact (SV.Ins_iff N vs).1 (h6 N e2) y hy
          · exact hz y (List.mem_of_mem_drop hy)
        obtain ⟨q1, arr'', q2, q3⟩ := h10 N ρ a ha hz' arr' (by rw [g2, harr, h5, SV.vals_eq, SV.vals_eq, SV.vals_eq, setRange_map])
        refine ⟨q1, arr'', ?_, q3⟩
        rw [List.map_cons]
        show Instr.fill place arr ((i, a.eval x) :: _) = _
        rw [e1, g1]
        exact q2
      · exact h3.elim
    · exact h3.elim

theorem In_agg {N : Nat → Prop} {cs : List SV} (h : SV.Ins N cs) : (SV.agg cs).In N := by rwa [SV.In]
theorem Ins_take {N : Nat → Prop} {cs : List SV} (h : SV.Ins N cs) (o n : Nat) : SV.Ins N ((cs.drop o).take n) := by
  rw [SV.Ins_iff] at *
  exact fun y hy => h y (List.mem_of_mem_drop (List.mem_of_mem_take hy))
theorem In_get {N : Nat → Prop} {cs : List SV} (h : SV.Ins N cs) {o : Nat} {v : SV} (hv : cs[o]? = some v) : v.In N := (SV.Ins_iff N cs).1 h v (List.mem_of_getElem? hv)

theorem run_mapM_places (P : Program) (w : World) (l : List Field) (f : Field → Nat) (h : ∀ x ∈ l, (sizeOf x.type).run P w = .ok (f x) w) :
    ((l.mapM fun x => do pure (x.offset, ← sizeOf x.type) : Sem (List (Nat × Nat)))).run P w = .ok (l.map fun x => (x.offset, f x)) w := by
  induction l with
  | nil => simp
  | cons x r ih =>
    rw [List.mapM_cons]
    simp only [Sem.run_bind, h x (by simp), Result.andThen_ok, Sem.run_pure, ih (fun y hy => h y (by simp [hy])), List.map_cons]


theorem build_struct {t : TypeId} {ti : TI} {fs : Array Field} {zs cs : List SV} {parts : Array (Nat × Operand)} (hP : TabOk P tab) (ht : TIok P t ti) (hd : ti.desc = .struct fs) (hz : ti.zero = .cells zs) (ho : o.op = .build t parts)
    (hall : inTab tab fs.toList = true)
    (hcs : ∀ N ρ a, FOk N ρ F a → SV.Ins N zs → ∀ arr : Array Value, arr.toList = SV.vals ρ zs → SV.Ins N cs ∧ ∃ arr' : Array Value,
      Instr.fill (structPlace tab fs.toList) arr (parts.toList.map fun (i, x) => (i, a.eval x)) = some arr' ∧ arr'.toList = SV.vals ρ cs) : VSem P o F H (.agg cs) := by
  intro w0 O N ρ a w H2 ha hl hs
  obtain ⟨i, z, _, _, _, _, hzv, hin, _⟩ := ht.inf
  obtain ⟨z', hrun, hz'⟩ := ht.run_zero (w := w)
  rw [hz] at hz' hin
  obtain ⟨q1, arr', q2, q3⟩ := hcs _ ρ a ha (SV.Ins.mono (fun i hi => hi.elim) _ hin) z'.cells (hz' ρ).symm
  refine ⟨?_, In_agg q1⟩
  have hpl : ((fs.mapM fun x => do pure (x.offset, ← sizeOf x.type) : Sem (Array (Nat × Nat)))).run P w = .ok (fs.toList.map fun x => (x.offset, ((look tab x.type).map (·.size)).getD 0)).toArray w := by
    have := run_mapM_places P w fs.toList (fun x => ((look tab x.type).map (·.size)).getD 0) (fun x hx => by
      obtain ⟨fi, hfi⟩ := inTab_out hall x hx
      simp only [hfi, Option.map_some, Option.getD_some]
      exact (hP x.type fi hfi).run_size)
    rw [← Array.toList_mapM] at this
    simp only [Sem.run_map] at this
    generalize ((fs.mapM fun x => do pure (x.offset, ← sizeOf x.type) : Sem (Array (Nat × Nat)))).run P w = r at this ⊢
    cases r with
    | ok x w' =>
      simp only [Result.andThen_ok, Result.ok.injEq] at this
      rw [← this.1, this.2]
    | halt e w' => simp at this
  have hplace : (fun i => (fs.toList.map fun x => (x.offset, ((look tab x.type).map (·.size)).getD 0)).toArray[i]?) = structPlace tab fs.toList := by
    funext i
    rw [List.getElem?_toArray, List.getElem?_map, structPlace]
    cases hi : fs.toList[i]? with
    | none => rfl
    | some f =>
      obtain ⟨fi, hfi⟩ := inTab_out hall f (List.mem_of_getElem? hi)
      simp [hfi]
  simp only [execOp, ho, Instr.build, Sem.run_bind, hrun, Result.andThen_ok, ht.run_und, hd, hpl, hplace, Array.toList_map]
  rw [q2]
  simp only [Sem.run_pure, Result.andThen_ok, SV.val]
  rw [← q3]

theorem build_array {t e : TypeId} {n : Nat} {ti ei : TI} {zs cs : List SV} {parts : Array (Nat × Operand)} (ht : TIok P t ti) (he : TIok P e ei) (hd : ti.desc = .array n e) (hz : ti.zero = .cells zs) (ho : o.op = .build t parts)
    (hcs : ∀ N ρ a, FOk N ρ F a → SV.Ins N zs → ∀ arr : Array Value, arr.toList = SV.vals ρ zs → SV.Ins N cs ∧ ∃ arr' : Array Value,
      Instr.fill (fun i => some (i * ei.size, ei.size)) arr (parts.toList.map fun (i, x) => (i, a.eval x)) = some arr' ∧ arr'.toList = SV.vals ρ cs) : VSem P o F H (.agg cs) := by
  intro w0 O N ρ a w H2 ha hl hs
  obtain ⟨i, z, _, _, _, _, hzv, hin, _⟩ := ht.inf
  obtain ⟨z', hrun, hz'⟩ := ht.run_zero (w := w)
  rw [hz] at hz' hin
  obtain ⟨q1, arr', q2, q3⟩ := hcs _ ρ a ha (SV.Ins.mono (fun i hi => hi.elim) _ hin) z'.cells (hz' ρ).symm
  refine ⟨?_, In_agg q1⟩
  simp only [execOp, ho, Instr.build, Sem.run_bind, hrun, Result.andThen_ok, ht.run_und, hd, he.run_size, Array.toList_map]
  rw [q2]
  simp only [Sem.run_pure, Result.andThen_ok, SV.val]
  rw [← q3]

/-! ### Loads and stores -/
theorem run_loadAt {t : TypeId} {ti : TI} (ht : TIok P t ti) (w : World) (ad : Addr) : (Instr.loadAt t (.pointer (some ad))).run P w = if ti.agg = true then ((loadCells ad ti.size).run P w).andThen fun cs w' => .ok (.agg cs) w' else (Go.load ad).run P w := by
  simp only [Instr.loadAt, Instr.sureAddr, loadVar, Sem.run_bind, Sem.run_pure, Result.andThen_ok, ht.run_agg]
  cases h : ti.agg
  · simp
  · simp [ht.run_size]

/-- A load, what stands there being known. -/
theorem VSem.load {t : TypeId} {ti : TI} {x : Operand} {v r : SV} {i off : Nat} {so : SO} (ht : TIok P t ti) (ho : o.op = .load t x) (hx : ∀ N ρ a, FOk N ρ F a → a.eval x = v.val ρ ∧ v.In N)
    (hv : v = .ptr i off ∨ v = .ptrx i off) (hi : look H i = some so)
    (hr : ∀ N ρ, so.In N → r.In N ∧ (match ti.agg with | true => off + ti.size ≤ (so.vals ρ).length ∧ r.val ρ = .agg (((so.vals ρ).drop off).take ti.size).toArray | false => (so.vals ρ)[off]? = some (r.val ρ))) : VSem P o F H r := by
  intro w0 O N ρ a w H2 ha hl hs
  obtain ⟨h1, h2⟩ := hx _ ρ a ha
  have hN : N i := by rcases hv with rfl | rfl <;> exact h2
  have hi2 := hl i so hi hN
  obtain ⟨h3, h4⟩ := hr N ρ (hs.dom i so hi2).2.1
  refine ⟨?_, h3⟩
  have e : a.eval x = .pointer (some ⟨(ρ i).1, (ρ i).2 + off, none⟩) := by rcases hv with rfl | rfl <;> exact h1
  simp only [execOp, ho, e, Sem.run_bind, run_loadAt ht]
  cases hag : ti.agg
  · rw [hag] at h4
    simp [hs.run_load hi2 h4]
  · rw [hag] at h4
    simp [hs.run_cells hi2 h4.1, h4.2]

/-- A store, what is behind it being known. -/
theorem OpSem.store {t : TypeId} {ti : TI} {x y : Operand} {v vy : SV} {i off : Nat} {so so' : SO} {ys : List SV} (ht : TIok P t ti) (ho : o.op = .store t x y) (hx : ∀ N ρ a, FOk N ρ F a → a.eval x = v.val ρ ∧ v.In N) (hy : ∀ N ρ a, FOk N ρ F a → a.eval y = vy.val ρ ∧ vy.In N)
    (hv : v = .ptr i off ∨ v = .ptrx i off) (hi : look H i = some so) (hys : ∀ ρ, (vy.val ρ).cells.toList = SV.vals ρ ys) (hone : SV.allone ys = true) (hl : ys.length = ti.size)
    (hin : ∀ N, vy.In N → so.In N → so'.In N) (hlen : so'.len = so.len) (hw : so.wr = true) (hw' : so'.wr = true) (hso : ∀ ρ, off + ti.size ≤ (so.vals ρ).length ∧ so'.vals ρ = setRange (so.vals ρ) off (SV.vals ρ ys)) (hnd : so'.isD = false)
    (k : K .undef ((i, so') :: H) u) : OpSem P o F H u K := by
  refine OpSem.skip fun w0 O ρ a w ha hs => ?_
  obtain ⟨h1, _⟩ := hx _ ρ a ha
  obtain ⟨h2, h3⟩ := hy _ ρ a ha
  obtain ⟨h4, h5⟩ := hso ρ
  have e : a.eval x = .pointer (some ⟨(ρ i).1, (ρ i).2 + off, none⟩) := by rcases hv with rfl | rfl <;> exact h1
  obtain ⟨w', hr, hs'⟩ := Sat.run_store (P := P) (SV.vals ρ ys) hs hi hw (d := off) (e := 0) (so' := so') (by rw [SV.vals_length]; omega) (hin _ h3 (hs.dom i so hi).2.1) hlen hw' (by simpa using h5) (allone_out ρ hone) hnd
  refine ⟨(i, so') :: H, w', ?_, hs', k⟩
  have hsz : (vy.val ρ).cells.size = ti.size := by rw [← Array.length_toList, hys, SV.vals_length, hl]
  simp only [execOp, ho, e, h2, Instr.storeAt, Instr.sureAddr, storeVar, Sem.run_bind, Sem.run_pure, Result.andThen_ok, ht.run_size, hsz, ne_eq, not_true_eq_false, if_false, Sem.run_ite, hys, hr]

end
end Go.Sh
