import Derived.Test.YtkopfaenfaelfaaSh6
/- 'sop' is sound: the join. -/
set_option linter.unusedVariables false
namespace Go.Sh
open Go.RowKit

section
variable {P : Program} {tab : Tab} {o : Oper} {F : Fr} {H : Hp} {u : Nat} {K : SV → Hp → Nat → Prop} {V : SV → Prop}

theorem ptrK_out {v : SV} {kl kx : Nat → Nat → Prop} (h : ptrK v kl kx) : ∃ i off, (v = .ptr i off ∧ kl i off) ∨ (v = .ptrx i off ∧ kx i off) := by
  cases v <;> first | exact ⟨_, _, .inl ⟨rfl, h⟩⟩ | exact ⟨_, _, .inr ⟨rfl, h⟩⟩ | exact h.elim

theorem closed_lit {v : SV} (h : v.ok 0 = true) {N : Nat → Prop} {ρ : Env} : v.In N ∧ v.val ρ = v.val zenv := ⟨closed_In h N, closed_val h ρ⟩

theorem load_row {t : TypeId} {ti : TI} {x : Operand} {v : SV} {i off : Nat} {so : SO} {cs : List Value} (ht : TIok P t ti) (ho : o.op = .load t x) (hx : ∀ N ρ a, FOk N ρ F a → a.eval x = v.val ρ ∧ v.In N)
    (hv : v = .ptr i off ∨ v = .ptrx i off) (hi : look H i = some so) (hc : ∀ ρ, so.vals ρ = cs) (h : LoadL cs off ti.size ti.agg fun v => V v) : ∃ v, V v ∧ VSem P o F H v := by
  obtain ⟨r, k, hcl, hr⟩ := h.out
  refine ⟨r, k, VSem.load ht ho hx hv hi fun N ρ hin => ⟨closed_In hcl N, ?_⟩⟩
  cases hag : ti.agg
  · rw [hag] at hr
    rw [hc, closed_val hcl ρ]; exact hr
  · rw [hag] at hr
    obtain ⟨h1, arr, h2, h3⟩ := hr
    rw [hc, closed_val hcl ρ, h2, ← h3]
    exact ⟨h1, by simp⟩

theorem load_ok {t : TypeId} {ti : TI} {x : Operand} {v : SV} (ht : TIok P t ti) (ho : o.op = .load t x) (hx : ∀ N ρ a, FOk N ρ F a → a.eval x = v.val ρ ∧ v.In N) (h : ptrK v
      (fun i off => match look H i with
        | some (.cells cs) => (match ti.agg with | true => takeK cs off ti.size fun l => V (.agg l) | false => nthK cs off fun v => V v)
        | some (.row cs) => LoadL cs off ti.size ti.agg fun v => V v
        | some (.view cs) => LoadL cs off ti.size ti.agg fun v => V v
        | some (.vec cs _) => LoadL cs off ti.size ti.agg fun v => V v
        | some (.dict _ _) => False
        | none => False)
      (fun i off => match look H i with
        | some (.cells cs) => GetL cs off ti.size ti.agg fun v => V v
        | some (.row cs) => LoadL cs off ti.size ti.agg fun v => V v
        | some (.view cs) => LoadL cs off ti.size ti.agg fun v => V v
        | some (.vec cs _) => LoadL cs off ti.size ti.agg fun v => V v
        | some (.dict _ _) => False
        | none => False)) : ∃ v, V v ∧ VSem P o F H v := by
  obtain ⟨i, off, ⟨rfl, g⟩ | ⟨rfl, g⟩⟩ := ptrK_out h
  · clear h
    cases hi : look H i with
    | none => rw [hi] at g; exact g.elim
    | some so =>
      rw [hi] at g
      cases so with
      | cells cs =>
        cases hag : ti.agg
        · simp only [hag] at g
          obtain ⟨r, h1, h2⟩ := nthK_out g
          refine ⟨_, h2, VSem.load ht ho hx (.inl rfl) hi fun N ρ hin => ⟨In_get hin h1, ?_⟩⟩
          rw [hag]
          simp [SO.vals, SV.vals_eq, h1]
        · simp only [hag] at g
          obtain ⟨h1, h2⟩ := takeK_out g
          refine ⟨_, h2, VSem.load ht ho hx (.inl rfl) hi fun N ρ hin => ⟨In_agg (Ins_take hin _ _), ?_⟩⟩
          rw [hag]
          exact ⟨by simpa [SO.vals, SV.vals_length] using h1, by simp [SV.val, SO.vals, SV.vals_eq]⟩
      | row cs => exact load_row ht ho hx (.inl rfl) hi (fun _ => rfl) g
      | view cs => exact load_row ht ho hx (.inl rfl) hi (fun _ => rfl) g
      | vec cs c => exact load_row ht ho hx (.inl rfl) hi (fun _ => rfl) g
      | dict es c => exact g.elim
  · clear h
    cases hi : look H i with
    | none => rw [hi] at g; exact g.elim
    | some so =>
      rw [hi] at g
      cases so with
      | cells cs =>
        obtain ⟨r, k, hr⟩ := (g : GetL cs off ti.size ti.agg fun v => V v).out
        cases hag : ti.agg
        · rw [hag] at hr
          refine ⟨_, k, VSem.load ht ho hx (.inr rfl) hi fun N ρ hin => ⟨In_get hin hr, ?_⟩⟩
          rw [hag]
          simp [SO.vals, SV.vals_eq, show cs[off]? = some r from hr]
        · rw [hag] at hr
          obtain ⟨h1, rfl⟩ := hr
          refine ⟨_, k, VSem.load ht ho hx (.inr rfl) hi fun N ρ hin => ⟨In_agg (Ins_take hin _ _), ?_⟩⟩
          rw [hag]
          exact ⟨by simpa [SO.vals, SV.vals_length] using h1, by simp [SV.val, SO.vals, SV.vals_eq]⟩
      | row cs => exact load_row ht ho hx (.inr rfl) hi (fun _ => rfl) g
      | view cs => exact load_row ht ho hx (.inr rfl) hi (fun _ => rfl) g
      | vec cs c => exact load_row ht ho hx (.inr rfl) hi (fun _ => rfl) g
      | dict es c => exact g.elim

theorem store_put {t : TypeId} {ti : TI} {x y : Operand} {v vy : SV} {i off : Nat} {so : SO} (ht : TIok P t ti) (ho : o.op = .store t x y) (hx : ∀ N ρ a, FOk N ρ F a → a.eval x = v.val ρ ∧ v.In N)
    (hy : ∀ N ρ a, FOk N ρ F a → a.eval y = vy.val ρ ∧ vy.In N) (hv : v = .ptr i off ∨ v = .ptrx i off) (hi : look H i = some so) (h : PutL so off ti.size vy fun so' => K .undef ((i, so') :: H) u) : OpSem P o F H u K := by
  obtain ⟨so', ys, k, h1, h2, h3, h4, h5, h6, h7, h9, h8⟩ := h.out
  exact OpSem.store ht ho hx hy hv hi h1 h2 h3 h4 h5 h6 h7 h8 h9 k

theorem Ins_setRange {N : Nat → Prop} {cs vs : List SV} (h : SV.Ins N cs) (g : SV.Ins N vs) (o : Nat) : SV.Ins N (setRange cs o vs) := by
  rw [SV.Ins_iff] at *
  intro y hy
  simp only [setRange, List.mem_append] at hy
  rcases hy with (hy | hy) | hy
  · exact h y (List.mem_of_mem_take hy)
  · exact g y hy
  · exact h y (List.mem_of_mem_drop hy)

theorem store_ok {t : TypeId} {ti : TI} {x y : Operand} {v vy : SV} (ht : TIok P t ti) (ho : o.op = .store t x y) (hx : ∀ N ρ a, FOk N ρ F a → a.eval x = v.val ρ ∧ v.In N)
    (hy : ∀ N ρ a, FOk N ρ F a → a.eval y = vy.val ρ ∧ vy.In N) (h : ptrK v
      (fun i off => match look H i with
        | some (.cells cs) => cellsK vy fun ys => (match Nat.beq ys.length ti.size with | true => putK cs off ys fun cs' => K .undef ((i, .cells cs') :: H) u | false => False)
        | some so => PutL so off ti.size vy fun so' => K .undef ((i, so') :: H) u
        | none => False)
      (fun i off => match look H i with
        | some so => PutL so off ti.size vy fun so' => K .undef ((i, so') :: H) u
        | none => False)) : OpSem P o F H u K := by
  obtain ⟨i, off, ⟨rfl, g⟩ | ⟨rfl, g⟩⟩ := ptrK_out h
  · clear h
    cases hi : look H i with
    | none => rw [hi] at g; exact g.elim
    | some so =>
      rw [hi] at g
      cases so with
      | cells cs =>
        obtain ⟨ys, h1, h2, h3, h4⟩ := cellsK_out g
        cases hb : Nat.beq ys.length ti.size with
        | false => rw [hb] at h1; exact h1.elim
        | true =>
          rw [hb] at h1
          have hb' := Nat.eq_of_beq_eq_true hb
          obtain ⟨h5, h6⟩ := putK_out h1
          refine OpSem.store ht ho hx hy (.inl rfl) hi (so' := .cells (setRange cs off ys)) h3 h2 hb' (fun N hN hs => Ins_setRange hs (h4 N hN) off) ?_ rfl rfl (fun ρ => ⟨?_, ?_⟩) rfl h6
          · exact setRange_length h5
          · simp only [SO.vals, SV.vals_length]; omega
          · simp only [SO.vals, SV.vals_eq, setRange_map]
      | row cs => exact store_put ht ho hx hy (.inl rfl) hi g
      | view cs => exact store_put ht ho hx hy (.inl rfl) hi g
      | vec cs c => exact store_put ht ho hx hy (.inl rfl) hi g
      | dict es c => exact store_put ht ho hx hy (.inl rfl) hi g
  · clear h
    cases hi : look H i with
    | none => rw [hi] at g; exact g.elim
    | some so => rw [hi] at g; exact store_put ht ho hx hy (.inr rfl) hi g

theorem idxK_out {ix : Operand} {k : IntKind} {n : Int} {len : Nat} {kl kx : Nat → Prop} (hx : ∀ N ρ a, FOk N ρ F a → a.eval ix = SV.val ρ (.int k n) ∧ SV.In N (.int k n)) (h : idxK (constIdx ix) n len kl kx) : ∃ j : Nat,
    (∀ N ρ a, FOk N ρ F a → a.eval ix = .int k (j : Int)) ∧ j < len ∧ (kl j ∨ kx j) := by
  unfold idxK at h
  split at h
  · rename_i j hj
    split at h
    · rename_i hb
      obtain ⟨k', rfl⟩ := constIdx_out hj
      have hb' : j < len := by simpa using hb
      refine ⟨j, fun N ρ a ha => ?_, hb', .inl h⟩
      have h1 := (hx N ρ a ha).1
      simp only [Act.eval, SV.val, Value.int.injEq] at h1 ⊢
      exact ⟨h1.1, trivial⟩
    · exact h.elim
  · obtain ⟨j, hj, hl, hk⟩ := h.out
    exact ⟨j, fun N ρ a ha => by rw [(hx N ρ a ha).1, SV.val, hj], hl, hk⟩

theorem IdxL_out {ix : Operand} {k : IntKind} {n : Int} {len : Nat} {kl kx : Nat → Prop} (hx : ∀ N ρ a, FOk N ρ F a → a.eval ix = SV.val ρ (.int k n) ∧ SV.In N (.int k n)) (h : IdxL n len kl kx) : ∃ j : Nat,
    (∀ N ρ a, FOk N ρ F a → a.eval ix = .int k (j : Int)) ∧ j < len ∧ (kl j ∨ kx j) := by
  obtain ⟨j, hj, hl, hk⟩ := h.out
  exact ⟨j, fun N ρ a ha => by rw [(hx N ρ a ha).1, SV.val, hj], hl, hk⟩

theorem run_part {t : TypeId} {ti : TI} (ht : TIok P t ti) (w : World) (cs : Array Value) (off : Nat) : (part t cs off).run P w = if ti.agg = true then .ok (.agg (cs.extract off (off + ti.size))) w else
    (match cs[off]? with | some v => .ok v w | none => .halt (.stuck "part: no such cell") w) := by
  simp only [part, Sem.run_bind, ht.run_agg, Result.andThen_ok]
  cases h : ti.agg
  · simp only [Bool.false_eq_true, if_false]
    cases cs[off]? <;> simp
  · simp [ht.run_size]

/-- A part of a value that is written out. -/
theorem part_ok {t : TypeId} {ti : TI} {cs : List SV} {off : Nat} {K' : SV → Prop} (ht : TIok P t ti) (h : match ti.agg with | true => takeK cs off ti.size fun l => K' (.agg l) | false => nthK cs off fun v => K' v) :
    ∃ r, K' r ∧ (∀ N, SV.Ins N cs → r.In N) ∧ ∀ ρ w, (part t (SV.vals ρ cs).toArray off).run P w = .ok (r.val ρ) w := by
  cases hag : ti.agg
  · rw [hag] at h
    obtain ⟨r, h1, h2⟩ := nthK_out h
    refine ⟨r, h2, fun N hN => In_get hN h1, fun ρ w => ?_⟩
    rw [run_part ht, hag]
    simp [SV.vals_eq, h1]
  · rw [hag] at h
    obtain ⟨h1, h2⟩ := takeK_out h
    refine ⟨.agg ((cs.drop off).take ti.size), h2, fun N hN => In_agg (Ins_take hN _ _), fun ρ w => ?_⟩
    rw [run_part ht, hag]
    simp [SV.val, SV.vals_eq, List.extract_toArray, List.take_drop]

theorem part_get {t : TypeId} {ti : TI} {cs : List SV} {off : Nat} {K' : SV → Prop} (ht : TIok P t ti) (h : GetL cs off ti.size ti.agg K') :
    ∃ r, K' r ∧ (∀ N, SV.Ins N cs → r.In N) ∧ ∀ ρ w, (part t (SV.vals ρ cs).toArray off).run P w = .ok (r.val ρ) w := by
  obtain ⟨r, k, hr⟩ := h.out
  cases hag : ti.agg
  · rw [hag] at hr
    refine ⟨r, k, fun N hN => In_get hN hr, fun ρ w => ?_⟩
    rw [run_part ht, hag]
    simp [SV.vals_eq, show cs[off]? = some r from hr]
  · rw [hag] at hr
    obtain ⟨h1, rfl⟩ := hr
    refine ⟨_, k, fun N hN => In_agg (Ins_take hN _ _), fun ρ w => ?_⟩
    rw [run_part ht, hag]
    simp [SV.val, SV.vals_eq, List.extract_toArray, List.take_drop]

theorem run_idx_array {t e : TypeId} {ti ei : TI} {n : Nat} (ht : TIok P t ti) (he : TIok P e ei) (hd : ti.desc = .array n e) (w : World) (ad : Addr) (k : IntKind) {j : Nat} (hj : j < n) :
    (Instr.indexAt t (.pointer (some ad)) (.int k (j : Int))).run P w = .ok (.pointer (some (ad.add (j * ei.size)))) w := by
  simp [Instr.indexAt, asIntOf, ht.run_und, hd, Instr.sureAddr, he.run_size, hj]

theorem run_idx_slice {t e : TypeId} {ti ei : TI} {l c : Nat} (ht : TIok P t ti) (he : TIok P e ei) (hd : ti.desc = .slice e) (w : World) (ad : Addr) (k : IntKind) {j : Nat} (hj : j < l) :
    (Instr.indexAt t (.slice (some ad) l c) (.int k (j : Int))).run P w = .ok (.pointer (some (ad.add (j * ei.size)))) w := by
  simp [Instr.indexAt, asIntOf, ht.run_und, hd, he.run_size, hj]

end
end Go.Sh
