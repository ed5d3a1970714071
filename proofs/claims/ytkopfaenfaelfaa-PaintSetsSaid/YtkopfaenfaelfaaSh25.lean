import Derived.Test.YtkopfaenfaelfaaSh24
/- Slice expressions; the empty slice literal; copy; append, whatever is appended. -/
set_option linter.unusedVariables false
namespace Go.Sh
open Go.RowKit

/-! ### Slice expressions -/
def oevK (F : Fr) (x : Option Operand) (k : Option SV → Prop) : Prop := match x with
  | none => k none
  | some x => evK F x fun v => k (some v)
theorem oevK_out {F : Fr} {x : Option Operand} {k : Option SV → Prop} (h : oevK F x k) : ∃ v, k v ∧ ∀ N ρ a, FOk N ρ F a → x.map a.eval = v.map (SV.val ρ) := by
  cases x with
  | none => exact ⟨none, h, fun _ _ _ _ => rfl⟩
  | some x =>
    obtain ⟨v, h1, h2⟩ := evK_out h
    exact ⟨some v, h1, fun N ρ a ha => by simp [(h2 N ρ a ha).1]⟩

def sbd : Option SV → Nat → Nat → Prop
  | none, d, l => l = d
  | some (.int _ z), _, l => z = (l : Int)
  | _, _, _ => False
def okmx : Option SV → Option SV → Bool
  | none, some _ => false
  | _, _ => true
/-- A slice expression: from l on, to h, room to m. -/
structure SlcL (vlo vhi vmx : Option SV) (len cap : Nat) (k : Nat → Nat → Nat → Prop) : Prop where
  out : ∃ l h m : Nat, sbd vlo 0 l ∧ sbd vhi len h ∧ sbd vmx cap m ∧ okmx vhi vmx = true ∧ l ≤ h ∧ h ≤ m ∧ m ≤ cap ∧ k l h m

def sOff (m l off size : Nat) : Nat := match Nat.beq m l with | true => off | false => off + l * size
def slcK (tab : Tab) (o : Oper) (F : Fr) (k : SV → Prop) : Prop := match o.op with
  | .slice t x lo hi mx => tabK tab t fun ti => evK F x fun v => oevK F lo fun vlo => oevK F hi fun vhi => oevK F mx fun vmx => (match ti.desc with
    | .array n e => tabK tab e fun ei => (match v with
      | .ptr i off => SlcL vlo vhi vmx n n fun l h m => k (.slice i (sOff m l off ei.size) (h - l) (m - l))
      | .ptrx i off => SlcL vlo vhi vmx n n fun l h m => k (.slice i (sOff m l off ei.size) (h - l) (m - l))
      | _ => False)
    | .slice e => tabK tab e fun ei => (match v with
      | .slice i off len cap => SlcL vlo vhi vmx len cap fun l h m => k (.slice i (sOff m l off ei.size) (h - l) (m - l))
      | .slz b i off len cap => Needs (b = true → cap = 0) (SlcL vlo vhi vmx len cap fun l h m => k (.slz (b && Nat.beq len 0) i (sOff m l off ei.size) (h - l) (m - l)))
      | .nilSlice => SlcL vlo vhi vmx 0 0 fun l h m => k .nilSlice
      | _ => False)
    | _ => False)
  | _ => False

theorem run_bound {P : Program} {w : World} {v : Value} {k : IntKind} {l y : Nat} (hv : v = .int k (l : Int)) (h : l ≤ y) (c : BoundsCode) : (Instr.sliceBound v y c).run P w = .ok l w := by
  subst hv
  simp [Instr.sliceBound, asIntOf, h]

theorem run_bounds {P : Program} {w : World} {sl : Bool} {len cap : Nat} {vlo vhi vmx : Option SV} {ρ : Env} {l h m : Nat} (h1 : sbd vlo 0 l) (h2 : sbd vhi len h) (h3 : sbd vmx cap m) (hm : okmx vhi vmx = true) (h4 : l ≤ h) (h5 : h ≤ m) (h6 : m ≤ cap) :
    (Instr.sliceBounds sl len cap (vlo.map (SV.val ρ)) (vhi.map (SV.val ρ)) (vmx.map (SV.val ρ))).run P w = .ok (l, h, m) w := by
  have key : ∀ {v : Option SV} {d l : Nat}, sbd v d l → (v = none ∧ l = d) ∨ ∃ k, v = some (.int k (l : Int)) := fun {v d l} h => by
    unfold sbd at h
    split at h
    · exact .inl ⟨rfl, h⟩
    · rename_i k z; subst h; exact .inr ⟨k, rfl⟩
    · exact h.elim
  rcases key h1 with ⟨rfl, rfl⟩ | ⟨k1, rfl⟩ <;> rcases key h2 with ⟨rfl, rfl⟩ | ⟨k2, rfl⟩ <;> rcases key h3 with ⟨rfl, rfl⟩ | ⟨k3, rfl⟩ <;> first
    | (simp [okmx] at hm; done)
    | (simp only [Instr.sliceBounds, Option.map_none, Option.map_some, SV.val, Sem.run_bind, Sem.run_pure, Result.andThen_ok, Option.isSome, run_bound (P := P) (w := w) rfl h4, run_bound (P := P) (w := w) rfl h5, run_bound (P := P) (w := w) rfl h6])

theorem VL.slice {P : Program} {tab : Tab} (hP : TabOk P tab) {o : Oper} {F : Fr} {H : Hp} {K : SV → Prop} (h : slcK tab o F K) : VL P o F H K := by
  unfold slcK at h
  split at h
  · rename_i t x lo hi mx ho
    obtain ⟨ti, ht, h1⟩ := tabK_out hP h
    clear h
    obtain ⟨v, h2, hx⟩ := evK_out h1
    obtain ⟨vlo, h3, hlo⟩ := oevK_out h2
    obtain ⟨vhi, h4, hhi⟩ := oevK_out h3
    obtain ⟨vmx, h5, hmx⟩ := oevK_out h4
    clear h1 h2 h3 h4
    have hu := ht.und
    have run : ∀ a : Act, (execOp a.eval o) = (do pure (.value (← Instr.sliceAt t (a.eval x) (lo.map a.eval) (hi.map a.eval) (mx.map a.eval)))) := fun a => by simp only [execOp, ho]
    have ad : ∀ (b off m l size : Nat), (if m = l then (⟨b, off, none⟩ : Addr) else (⟨b, off, none⟩ : Addr).add (l * size)) = ⟨b, sOff m l off size, none⟩ := fun b off m l size => by
      unfold sOff
      by_cases e : m = l
      · subst e; rw [if_pos rfl, Nat.beq_refl]
      · rw [if_neg e]
        have : Nat.beq m l = false := by rw [← Bool.not_eq_true, Nat.beq_eq]; exact e
        rw [this, add_at]
    have adr : ∀ (p : Nat × Nat) (off m l size : Nat), p.2 + sOff m l off size = sOff m l (p.2 + off) size := fun p off m l size => by
      unfold sOff; split <;> omega
    split at h5
    · rename_i n e hd
      rw [hd] at hu
      obtain ⟨ei, he, h6⟩ := tabK_out hP h5
      clear h5
      have fin : ∀ i off (hv : ∀ N ρ a, FOk N ρ F a → a.eval x = .pointer (some ⟨(ρ i).1, (ρ i).2 + off, none⟩) ∧ N i) (g : SlcL vlo vhi vmx n n fun l h m => K (.slice i (sOff m l off ei.size) (h - l) (m - l))), VL P o F H K := fun i off hv g => by
        obtain ⟨l, h, m, e1, e2, e3, e4, e5, e6, e7, k⟩ := g.out
        refine ⟨_, k, fun w0 O N ρ a w H2 ha _ _ => ⟨?_, (hv _ ρ a ha).2⟩⟩
        rw [run a, (hv _ ρ a ha).1, hlo _ ρ a ha, hhi _ ρ a ha, hmx _ ρ a ha]
        simp only [Instr.sliceAt, Sem.run_bind, run_underlying hu, Result.andThen_ok, Instr.sureAddr, Sem.run_pure, run_bounds (P := P) (w := w) (ρ := ρ) (sl := false) e1 e2 e3 e4 e5 e6 e7, he.run_size, SV.val, adr, ad]
      split at h6
      · exact fin _ _ (fun N ρ a ha => hx N ρ a ha) h6
      · exact fin _ _ (fun N ρ a ha => hx N ρ a ha) h6
      · exact h6.elim
    · rename_i e hd
      rw [hd] at hu
      obtain ⟨ei, he, h6⟩ := tabK_out hP h5
      clear h5
      have go : ∀ (a : Act) (w : World) (v : Value), (Instr.slice t (a.eval x) (lo.map a.eval) (hi.map a.eval) (mx.map a.eval)).run P w = .ok v w → (execOp a.eval o).run P w = .ok (.value v) w := fun a w v hr => by
        rw [run a]
        simp only [Instr.sliceAt, Sem.run_bind, run_underlying hu, Result.andThen_ok, hr, Sem.run_pure]
      split at h6
      · rename_i i off len cap
        obtain ⟨l, h, m, e1, e2, e3, e4, e5, e6, e7, k⟩ := (h6 : SlcL _ _ _ _ _ _).out
        refine ⟨_, k, fun w0 O N ρ a w H2 ha _ _ => ⟨go a w _ ?_, (hx _ ρ a ha).2⟩⟩
        rw [(hx _ ρ a ha).1, hlo _ ρ a ha, hhi _ ρ a ha, hmx _ ρ a ha]
        simp only [Instr.slice, Sem.run_bind, run_underlying hu, Result.andThen_ok, SV.val, run_bounds (P := P) (w := w) (ρ := ρ) (sl := true) e1 e2 e3 e4 e5 e6 e7, he.run_size, Sem.run_pure]
        by_cases hml : m = l
        · simp [hml, sOff]
        · have : Nat.beq m l = false := by rw [← Bool.not_eq_true, Nat.beq_eq]; exact hml
          simp [hml, sOff, this, add_at, Nat.add_assoc]
      · rename_i b i off len cap
        obtain ⟨hb, h7⟩ := (h6 : Needs _ _)
        obtain ⟨l, h, m, e1, e2, e3, e4, e5, e6, e7, k⟩ := (h7 : SlcL _ _ _ _ _ _).out
        refine ⟨_, k, fun w0 O N ρ a w H2 ha _ _ => ⟨go a w _ ?_, (hx _ ρ a ha).2⟩⟩
        rw [(hx _ ρ a ha).1, hlo _ ρ a ha, hhi _ ρ a ha, hmx _ ρ a ha]
        cases hz : b && Nat.beq len 0 with
        | true =>
          simp only [Bool.and_eq_true, Nat.beq_eq] at hz
          obtain ⟨rfl, rfl⟩ := hz
          have hc : cap = 0 := hb rfl
          subst hc
          have hm0 : m = 0 := by omega
          have hh0 : h = 0 := by omega
          have hl0 : l = 0 := by omega
          subst hm0 hh0 hl0
          simp only [Instr.slice, Sem.run_bind, run_underlying hu, Result.andThen_ok, SV.val, slzV, Bool.true_and, Nat.beq_refl, run_bounds (P := P) (w := w) (ρ := ρ) (sl := true) e1 e2 e3 e4 e5 e6 e7, he.run_size, Sem.run_pure]
          simp
        | false =>
          simp only [Instr.slice, Sem.run_bind, run_underlying hu, Result.andThen_ok, SV.val, slzV, hz, Bool.false_and, run_bounds (P := P) (w := w) (ρ := ρ) (sl := true) e1 e2 e3 e4 e5 e6 e7, he.run_size, Sem.run_pure]
          by_cases hml : m = l
          · simp [hml, sOff]
          · have : Nat.beq m l = false := by rw [← Bool.not_eq_true, Nat.beq_eq]; exact hml
            simp [hml, sOff, this, add_at, Nat.add_assoc]
      · obtain ⟨l, h, m, e1, e2, e3, e4, e5, e6, e7, k⟩ := (h6 : SlcL _ _ _ _ _ _).out
        refine ⟨_, k, fun w0 O N ρ a w H2 ha _ _ => ⟨go a w _ ?_, trivial⟩⟩
        have hm0 : m = 0 := by omega
        have hh0 : h = 0 := by omega
        have hl0 : l = 0 := by omega
        subst hm0 hh0 hl0
        rw [(hx _ ρ a ha).1, hlo _ ρ a ha, hhi _ ρ a ha, hmx _ ρ a ha]
        simp only [Instr.slice, Sem.run_bind, run_underlying hu, Result.andThen_ok, SV.val, run_bounds (P := P) (w := w) (ρ := ρ) (sl := true) e1 e2 e3 e4 e5 e6 e7, he.run_size, Sem.run_pure]
        simp
      · exact h6.elim
    · exact h5.elim
  · exact h.elim

/-! ### The empty literal -/
def bsl0K (tab : Tab) (o : Oper) (k : Prop) : Prop := match o.op with
  | .buildSlice t n parts => tabK tab t fun ti => (match ti.desc with
    | .slice e => tabK tab e fun ei => (match n, parts.toList with | 0, [] => k | _, _ => False)
    | _ => False)
  | _ => False
theorem OpL.bsl0 {P : Program} {tab : Tab} (hP : TabOk P tab) {o : Oper} {F : Fr} {H : Hp} {u : Nat} {K : SV → Hp → Nat → Prop} (h : bsl0K tab o (K (.slice u 0 0 0) ((u, .vec [] 0) :: H) (u + 1))) : OpL P o F H u K := by
  unfold bsl0K at h
  split at h
  · rename_i t n parts ho
    obtain ⟨ti, ht, h1⟩ := tabK_out hP h
    have hu := ht.und
    split at h1
    · rename_i e hd
      rw [hd] at hu
      obtain ⟨ei, he, h2⟩ := tabK_out hP h1
      split at h2
      · rename_i hp
        have hp' : parts = #[] := by
          cases parts; simpa using hp
        refine ⟨OpSem.turn fun w0 O ρ a w ha hs => ?_⟩
        refine ⟨.slice u 0 0 0, _, u + 1, upd ρ u (w.heap.size, 0), w.alloc (.cells #[] e), ?_, Nat.le_succ u, agree_upd ρ u _, Nat.lt_succ_self u, ?_, h2⟩
        · have e0 : Array.range 0 = #[] := rfl
          simp [execOp, ho, hp', Instr.buildSlice, run_underlying hu, he.run_size, Instr.fill, newRow, SV.val, upd_same, e0]
        · exact hs.alloc (M := (· < u + 1)) (Nat.lt_irrefl u) #[] e (succ_iff u) trivial (fun j v hj => by simp [SO.vals] at hj) (by simp [SO.vals]) (by simp [SO.len]) (by simp [SO.vals]) rfl
      · exact h2.elim
    · exact h1.elim
  · exact h.elim

/-! ### Slices as sources and destinations -/
def srcK (vx : SV) (H : Hp) (u : Nat) (k : SO → Nat → Nat → Nat → Prop) : Prop := match vx with
  | .nilSlice => k (.cells []) (u + 1) 0 0
  | .slice j oj m _ => (match look H j with | some so => k so j oj m | none => False)
  | .slz _ j oj m _ => (match look H j with | some so => k so j oj m | none => False)
  | .slicen j oj m _ => (match look H j with | some so => k so j oj m | none => False)
  | _ => False
theorem srcK_out {vx : SV} {H : Hp} {u : Nat} {k : SO → Nat → Nat → Nat → Prop} (h : srcK vx H u k) : ∃ so j oj m, k so j oj m ∧ (look H j = some so ∨ (j = u + 1 ∧ so = .cells [] ∧ m = 0)) ∧
    ∀ ρ, ∃ base cap, vx.val ρ = .slice base m cap ∧ ((base = some ⟨(ρ j).1, (ρ j).2 + oj, none⟩ ∧ look H j = some so) ∨ (base = none ∧ m = 0)) := by
  unfold srcK at h
  split at h
  · exact ⟨_, _, _, _, h, .inr ⟨rfl, rfl, rfl⟩, fun ρ => ⟨none, 0, rfl, .inr ⟨rfl, rfl⟩⟩⟩
  · split at h
    · rename_i hl; exact ⟨_, _, _, _, h, .inl hl, fun ρ => ⟨_, _, rfl, .inl ⟨rfl, hl⟩⟩⟩
    · exact h.elim
  · rename_i b j oj m c
    split at h
    · rename_i hl
      refine ⟨_, _, _, _, h, .inl hl, fun ρ => ?_⟩
      simp only [SV.val]
      cases hz : b && Nat.beq m 0 with
      | true =>
        have : m = 0 := by simp at hz; exact hz.2
        subst this
        exact ⟨none, 0, by simp only [slzV, hz], .inr ⟨rfl, rfl⟩⟩
      | false => exact ⟨_, c, by simp only [slzV, hz], .inl ⟨rfl, hl⟩⟩
    · exact h.elim
  · rename_i j oj m c
    split at h
    · rename_i hl
      refine ⟨_, _, _, _, h, .inl hl, fun ρ => ?_⟩
      cases m with
      | zero => exact ⟨none, 0, rfl, .inr ⟨rfl, rfl⟩⟩
      | succ n => exact ⟨_, _, rfl, .inl ⟨rfl, hl⟩⟩
    · exact h.elim
  · exact h.elim

theorem run_first {P : Program} {w0 w : World} {O : Nat → Nat → Prop} {N : Nat → Prop} {ρ : Env} {H : Hp} (hs : Sat w0 O N ρ H w) {so : SO} {j oj m size cap : Nat} {base : Option Addr} {news : List Value}
    (hb : (base = some ⟨(ρ j).1, (ρ j).2 + oj, none⟩ ∧ look H j = some so) ∨ (base = none ∧ m = 0)) (hn : ((so.vals ρ).drop oj).take (m * size) = news) (hl : news.length = m * size) :
    (Builtin.firstCells size m (.slice base m cap)).run P w = .ok news.toArray w := by
  rcases hb with ⟨rfl, hj⟩ | ⟨rfl, rfl⟩
  · simp only [Builtin.firstCells]
    by_cases h0 : m * size = 0
    · rw [h0] at hl ⊢
      have : news = [] := List.length_eq_zero_iff.1 hl
      subst this
      exact run_loadCells_list (P := P) (w := w) ⟨(ρ j).1, (ρ j).2 + oj, none⟩ [] (fun _ _ h => by simp at h)
    · rw [← hn]
      refine hs.run_cells hj ?_
      have : (((so.vals ρ).drop oj).take (m * size)).length = m * size := by rw [hn, hl]
      simp at this; omega
  · have : news = [] := List.length_eq_zero_iff.1 (by rw [hl, Nat.zero_mul])
    subst this
    simp [Builtin.firstCells]

/-! ### copy -/
structure CpyL (so sj : SO) (oi oj n size : Nat) (k : SO → Prop) : Prop where
  out : ∃ (so' : SO) (news : Env → List Value), k so' ∧ (∀ ρ, ((sj.vals ρ).drop oj).take (n * size) = news ρ ∧ (news ρ).length = n * size) ∧ (∀ N, so.In N → sj.In N → so'.In N) ∧ so'.len = so.len ∧ so.wr = true ∧ so'.wr = true ∧ so'.isD = false ∧
    ∀ ρ, oi + n * size ≤ (so.vals ρ).length ∧ so'.vals ρ = setRange (so.vals ρ) oi (news ρ)
def cpyK (tab : Tab) (o : Oper) (F : Fr) (H : Hp) (u : Nat) (K : SV → Hp → Nat → Prop) : Prop := match o.op with
  | .call c => (match c.callee with
    | .builtin .copy => (match c.args.toList, c.argTypes.toList with
      | [d, s], [t, t'] => tabK tab t fun ti => (match ti.desc with
        | .slice e => tabK tab e fun ei => evK F d fun vd => evK F s fun vs => srcK vs H u fun sj j oj sl => (match vd with
          | .slice i oi dl _ => (match look H i with
            | some so => CpyL so sj oi oj (Nat.min sl dl) ei.size fun so' => K (.int .i64 (Nat.min sl dl : Nat)) ((i, so') :: H) u
            | none => False)
          | _ => False)
        | _ => False)
      | _, _ => False)
    | _ => False)
  | _ => False

theorem OpL.copy {P : Program} {tab : Tab} (hP : TabOk P tab) {o : Oper} {F : Fr} {H : Hp} {u : Nat} {K : SV → Hp → Nat → Prop} (h : cpyK tab o F H u K) : OpL P o F H u K := by
  unfold cpyK at h
  split at h
  · rename_i c ho
    split at h
    · rename_i hcal
      split at h
      · rename_i d s t t' hargs htys
        obtain ⟨ti, ht, h1⟩ := tabK_out hP h
        clear h
        have hu := ht.und
        split at h1
        · rename_i e hd
          rw [hd] at hu
          obtain ⟨ei, he, h2⟩ := tabK_out hP h1
          clear h1
          obtain ⟨vd, h3, hvd⟩ := evK_out h2
          obtain ⟨vs, h4, hvs⟩ := evK_out h3
          clear h2 h3
          obtain ⟨sj, j, oj, sl, h5, hj, hsrc⟩ := srcK_out h4
          clear h4
          split at h5
          · rename_i i oi dl dc
            split at h5
            · rename_i so hi
              obtain ⟨so', news, k, hn, hin, hlen, hw, hw', hnd, hv⟩ := (h5 : CpyL _ _ _ _ _ _ _).out
              refine ⟨OpSem.turn fun w0 O ρ a w ha hs => ?_⟩
              obtain ⟨base, cap, e1, e2⟩ := hsrc ρ
              have ex : a.eval s = .slice base sl cap := ((hvs _ ρ a ha).1).trans e1
              have ed : a.eval d = .slice (some ⟨(ρ i).1, (ρ i).2 + oi, none⟩) dl dc := (hvd _ ρ a ha).1
              have hfirst : (Builtin.firstCells ei.size (Nat.min sl dl) (a.eval s)).run P w = .ok (news ρ).toArray w := by
                rw [ex]
                rcases e2 with ⟨rfl, hj'⟩ | ⟨rfl, rfl⟩
                · exact run_first (cap := cap) (m := Nat.min sl dl) hs (.inl ⟨rfl, hj'⟩) (hn ρ).1 (hn ρ).2
                · have h0 : Nat.min 0 dl = 0 := Nat.zero_min dl
                  have := run_first (P := P) (w := w) (cap := cap) (m := Nat.min 0 dl) (size := ei.size) (j := j) (oj := oj) hs (.inr ⟨rfl, h0⟩) (hn ρ).1 (hn ρ).2
                  exact this
              have hsj : sj.In (· < u) := by
                rcases hj with hj | ⟨_, rfl, _⟩
                · exact (hs.dom j sj hj).2.1
                · exact trivial
              obtain ⟨w', hr, hs'⟩ := Sat.run_store (P := P) (news ρ) hs hi hw (d := oi) (e := 0) (so' := so') (by rw [(hn ρ).2]; exact (hv ρ).1) (hin _ (hs.dom i so hi).2.1 hsj) hlen hw' (by simpa using (hv ρ).2) (fun x hx => by
                rw [← (hn ρ).1] at hx
                rcases hj with hj | ⟨_, rfl, _⟩
                · exact (hs.dom j sj hj).2.2.cell.2 x (List.mem_of_mem_drop (List.mem_of_mem_take hx))
                · simp [SO.vals, SV.vals] at hx) hnd
              refine ⟨.int .i64 (Nat.min sl dl : Nat), (i, so') :: H, u, ρ, w', ?_, Nat.le_refl _, fun _ _ => rfl, trivial, hs', k⟩
              have a1 : c.args = #[d, s] := by apply Array.ext'; simpa using hargs
              have a2 : c.argTypes = #[t, t'] := by apply Array.ext'; simpa using htys
              have hlen : (Builtin.lenOf (a.eval s)).run P w = .ok sl w := by rw [ex]; simp [Builtin.lenOf]
              simp only [execOp, ho, resolve, hcal, invoke, builtin, Sem.run_bind, Sem.run_pure, Result.andThen_ok, a1, a2, List.map_toArray, List.map_cons, List.map_nil, Builtin.copy_, List.getElem?_toArray, List.getElem?_cons_zero, List.getElem?_cons_succ, run_underlying hu, ed, hlen, he.run_size, hfirst, hr, goInt, SV.val]
            · exact h5.elim
          · exact h5.elim
        · exact h1.elim
      · exact h.elim
    · exact h.elim
  · exact h.elim

/-! ### append -/
theorem Sat.emptyRow {w0 w : World} {O : Nat → Nat → Prop} {ρ : Env} {H : Hp} {u : Nat} (h : Sat w0 O (· < u) ρ H w) (p : Nat × Nat) : Sat w0 O (· < u + 1) (upd ρ u p) ((u, .vec [] 0) :: H) w := by
  have hρ : ∀ i, i < u → upd ρ u p i = ρ i := fun i hi => upd_other ρ _ (Nat.ne_of_lt hi)
  have row : ∀ k s2, look ((u, SO.vec [] 0) :: H) k = some s2 → (k = u ∧ s2 = .vec [] 0) ∨ (k < u ∧ look H k = some s2) := fun k s2 hk => by
    rw [look_cons] at hk
    split at hk
    · rename_i e; subst e; injection hk with hk; exact .inl ⟨rfl, hk.symm⟩
    · exact .inr ⟨(h.dom k s2 hk).1, hk⟩
  refine ⟨h.os, h.tape, h.output, h.size, fun k s2 hk => ?_, fun i j si sj hi hj hij hw => ?_, h.blk, h.cell, h.frz, fun k s2 hk hw j hj => ?_, h.dict.of fun k es c hk => (by
    rcases row k _ hk with ⟨_, h⟩ | ⟨q1, q2⟩
    · cases h
    · exact ⟨q2, hρ k q1⟩)⟩
  · rcases row k s2 hk with ⟨rfl, rfl⟩ | ⟨q1, q2⟩
    · exact ⟨Nat.lt_succ_self _, trivial, ⟨⟨fun j v hv => by simp [SO.vals] at hv, by simp [SO.vals]⟩, fun _ j hj => by simp [SO.len] at hj, fun j hj => by simp [SO.len] at hj, by simp [SO.vals]⟩⟩
    · obtain ⟨a1, a2, a3⟩ := h.dom k s2 q2
      refine ⟨Nat.lt_succ_of_lt q1, SO.In.mono (fun i hi => Nat.lt_succ_of_lt hi) a2, ?_⟩
      rw [hρ k q1]; exact is_agree hρ a2 a3
  · rcases row i si hi with ⟨rfl, rfl⟩ | ⟨q1, q2⟩
    · intro k l hk; simp [SO.len] at hk
    · rcases row j sj hj with ⟨rfl, rfl⟩ | ⟨r1, r2⟩
      · intro k l hk hl; simp [SO.len] at hl
      · rw [hρ i q1, hρ j r1]; exact h.sep i j si sj q2 r2 hij hw
  · rcases row k s2 hk with ⟨rfl, rfl⟩ | ⟨q1, q2⟩
    · simp [SO.len] at hj
    · rw [hρ k q1]; exact h.fresh k s2 q2 hw j hj

/-- A row under another name. -/
theorem Sat.rename {w0 w : World} {O : Nat → Nat → Prop} {ρ : Env} {H : Hp} {u i : Nat} {cs : List Value} {cap : Nat} (h : Sat w0 O (· < u) ρ ((i, .vec cs cap) :: H) w) : Sat w0 O (· < u + 1) (upd ρ u (ρ i)) ((u, .vec cs cap) :: dropH i H) w := by
  have hρ : ∀ k, k < u → upd ρ u (ρ i) k = ρ k := fun k hk => upd_other ρ _ (Nat.ne_of_lt hk)
  have me : look ((i, SO.vec cs cap) :: H) i = some (.vec cs cap) := look_same _ _ _
  have row : ∀ k s2, look ((u, SO.vec cs cap) :: dropH i H) k = some s2 → (k = u ∧ s2 = .vec cs cap) ∨ (k ≠ i ∧ k < u ∧ look ((i, SO.vec cs cap) :: H) k = some s2) := fun k s2 hk => by
    rw [look_cons] at hk
    split at hk
    · rename_i e; subst e; injection hk with hk; exact .inl ⟨rfl, hk.symm⟩
    · obtain ⟨q1, q2⟩ := look_dropH i H k s2 hk
      have q3 : look ((i, SO.vec cs cap) :: H) k = some s2 := by rw [look_cons, if_neg (Ne.symm q1)]; exact q2
      exact .inr ⟨q1, (h.dom k s2 q3).1, q3⟩
  refine ⟨h.os, h.tape, h.output, h.size, fun k s2 hk => ?_, fun k k' s2 s3 hk hk' hkk hw => ?_, h.blk, h.cell, h.frz, fun k s2 hk hw q hq => ?_, h.dict.of fun k es c hk => (by
    rcases row k _ hk with ⟨_, h⟩ | ⟨q1, q2, q3⟩
    · cases h
    · exact ⟨q3, hρ k q2⟩)⟩
  · rcases row k s2 hk with ⟨rfl, rfl⟩ | ⟨q1, q2, q3⟩
    · refine ⟨Nat.lt_succ_self _, trivial, ?_⟩
      rw [upd_same]
      have g := (h.dom i _ me).2.2
      exact ⟨g.cell, g.free, g.room, g.fits⟩
    · obtain ⟨q4, q5, q6⟩ := h.dom k s2 q3
      refine ⟨Nat.lt_succ_of_lt q2, SO.In.mono (fun i hi => Nat.lt_succ_of_lt hi) q5, ?_⟩
      rw [hρ k q2]
      exact is_agree hρ q5 q6
  · rcases row k s2 hk with ⟨rfl, rfl⟩ | ⟨q1, q2, q3⟩
    · rcases row k' s3 hk' with ⟨rfl, rfl⟩ | ⟨r1, r2, r3⟩
      · exact absurd rfl hkk
      · rw [upd_same, hρ k' r2]
        exact h.sep i k' _ s3 me r3 (Ne.symm r1) rfl
    · rcases row k' s3 hk' with ⟨rfl, rfl⟩ | ⟨r1, r2, r3⟩
      · rw [upd_same, hρ k q2]
        exact h.sep k i s2 _ q3 me q1 hw
      · rw [hρ k q2, hρ k' r2]
        exact h.sep k k' s2 s3 q3 r3 hkk hw
  · rcases row k s2 hk with ⟨rfl, rfl⟩ | ⟨q1, q2, q3⟩
    · rw [upd_same]; exact h.fresh i _ me rfl q hq
    · rw [hρ k q2]; exact h.fresh k s2 q3 hw q hq

structure AppM (so : SO) (oj m l c size bytes cap : Nat) (cs : List Value) (K : List Value → Nat → Bool → Prop) : Prop where
  out : ∃ news : List Value, (∀ ρ, ((so.vals ρ).drop oj).take (m * size) = news) ∧ news.length = m * size ∧ cs.length = l * size ∧ cap = c * size ∧ l ≤ c ∧ l + m ≤ 9223372036854775807 ∧ (l + m) * bytes ≤ 140737488355328 ∧ ∀ b c', l + m ≤ c' → (b = true → l + m = 0 ∧ c' = 0) → K news c' b

def dstK (vs : SV) (H : Hp) (u : Nat) (k : Nat → List Value → Nat → Nat → Nat → Prop) : Prop := match vs with
  | .nilSlice => k u [] 0 0 0
  | .slice i oi l cp => (match oi, look H i with | 0, some (.vec cs cap) => k i cs cap l cp | _, _ => False)
  | .slz _ i oi l cp => (match oi, look H i with | 0, some (.vec cs cap) => k i cs cap l cp | _, _ => False)
  | _ => False
theorem dstK_out {vs : SV} {H : Hp} {u : Nat} {k : Nat → List Value → Nat → Nat → Nat → Prop} (h : dstK vs H u k) : ∃ i cs cap l cp, k i cs cap l cp ∧
    ∀ ρ, (vs.val ρ = .slice none 0 0 ∧ l = 0) ∨ (vs.val ρ = .slice (some ⟨(ρ i).1, (ρ i).2, none⟩) l cp ∧ look H i = some (.vec cs cap)) := by
  unfold dstK at h
  split at h
  · exact ⟨_, _, _, _, _, h, fun ρ => .inl ⟨rfl, rfl⟩⟩
  · split at h
    · rename_i hl; exact ⟨_, _, _, _, _, h, fun ρ => .inr ⟨rfl, hl⟩⟩
    · exact h.elim
  · rename_i b i oi l cp
    split at h
    · rename_i hl
      refine ⟨_, _, _, _, _, h, fun ρ => ?_⟩
      simp only [SV.val, slzV]
      cases hz : b && Nat.beq l 0 with
      | true => exact .inl ⟨rfl, by simp at hz; exact hz.2⟩
      | false => exact .inr ⟨rfl, hl⟩
    · exact h.elim
  · exact h.elim

def appMK (tab : Tab) (o : Oper) (F : Fr) (H : Hp) (u : Nat) (K : SV → Hp → Nat → Prop) : Prop :=
  match o.op with
  | .call c => (match c.callee with
    | .builtin .append => (match c.args.toList, c.argTypes.toList with
      | [s, x], [t, t'] => (match Nat.beq t t' with
        | true => tabK tab t fun ti => (match ti.desc with
          | .slice e => tabK tab e fun ei => evK F s fun vs => evK F x fun vx => srcK vx H u fun so j oj m => dstK vs H u fun i cs cap l cp => (match Nat.beq i j with
            | false => AppM so oj m l cp ei.size ei.bytes cap cs fun news c' b => K (.slz b u 0 (l + m) c') ((u, .vec (cs ++ news) (c' * ei.size)) :: dropH i H) (u + 1)
            | true => False)
          | _ => False)
        | false => False)
      | _, _ => False)
    | _ => False)
  | _ => False

theorem OpL.app {P : Program} {tab : Tab} (hP : TabOk P tab) {o : Oper} {F : Fr} {H : Hp} {u : Nat} {K : SV → Hp → Nat → Prop} (h : appMK tab o F H u K) : OpL P o F H u K := by
  unfold appMK at h
  split at h
  · rename_i c ho
    split at h
    · rename_i hcal
      split at h
      · rename_i s x t t' hargs htys
        split at h
        · rename_i htt
          have htt : t = t' := by simpa using htt
          subst htt
          obtain ⟨ti, ht, h1⟩ := tabK_out hP h
          clear h
          have hu := ht.und
          split at h1
          · rename_i e hd
            rw [hd] at hu
            obtain ⟨ei, he, h2⟩ := tabK_out hP h1
            clear h1
            obtain ⟨vs, h3, hs⟩ := evK_out h2
            obtain ⟨vx, h4, hx⟩ := evK_out h3
            clear h2 h3
            obtain ⟨so, j, oj, m, h5, hj, hsrc⟩ := srcK_out h4
            clear h4
            obtain ⟨i', cs, cap, l, cp, h6, hdst⟩ := dstK_out h5
            clear h5
            split at h6
            · rename_i hij
              have hij : i' ≠ j := by intro e; subst e; rw [Nat.beq_refl] at hij; cases hij
              obtain ⟨news, hn, hnl, hcl, hcap, hlc, hmax, hbytes, hK⟩ := (h6 : AppM _ _ _ _ _ _ _ _ _ _).out
              obtain ⟨i, z, hi, hsz, hby, hz, hzv, _, hzl, hzvl, hz1, _⟩ := he.inf
              have hzsz : z.cells.size = ei.size := by rw [← Array.length_toList, ← hzv zenv]; exact hzvl zenv
              have hrunop : ∀ (a : Act) (w w' : World) (v : Value), (Builtin.append_ #[t, t] o.type #[a.eval s, a.eval x]).run P w = .ok v w' → (execOp a.eval o).run P w = .ok (.value v) w' := fun a w w' v h => by
                have e1 : c.args = #[s, x] := by apply Array.ext'; simpa using hargs
                have e2 : c.argTypes = #[t, t] := by apply Array.ext'; simpa using htys
                simp only [execOp, ho, resolve, hcal, invoke, builtin, Sem.run_bind, Sem.run_pure, Result.andThen_ok, e1, e2, List.map_toArray, List.map_cons, List.map_nil, h]
              -- a new block for old and new cells
              have grow : ∀ (w0 : World) (O : Nat → Nat → Prop) (ρ : Env) (w : World) (H' : Hp) (cs news : List Value) (need old : Nat), Sat w0 O (· < u) ρ H w → (∀ k so, look H' k = some so → look H k = some so) → (cs ++ news).length = need * ei.size → (∀ v ∈ cs ++ news, v.oneCell' = true) →
                  Sat w0 O (· < u + 1) (upd ρ u (w.heap.size, 0)) ((u, .vec (cs ++ news) (grownCap w need old e * ei.size)) :: H') (w.drew.alloc (.cells (cs.toArray ++ news.toArray ++ Builtin.zeroCells z.cells (grownCap w need old e - need)) e)) := by
                intro w0 O ρ w H' cs news need old hsat hsub hlen hone
                have hge := grownCap_ge w need old e
                have h5 : Sat w0 O (· < u) ρ H' w.drew := hsat.drew.weaken hsub fun k so hk => ⟨(hsat.dom k so (hsub k so hk)).1, (hsat.dom k so (hsub k so hk)).2.1⟩
                have hsize : (cs.toArray ++ news.toArray ++ Builtin.zeroCells z.cells (grownCap w need old e - need)).size = grownCap w need old e * ei.size := by
                  have hl2 : cs.length + news.length = need * ei.size := by simpa using hlen
                  simp only [Array.size_append, List.size_toArray, size_zeroCells, hzsz, hl2]
                  rw [← Nat.add_mul]
                  congr 1; omega
                refine h5.alloc (M := (· < u + 1)) (Nat.lt_irrefl u) _ e (so := .vec (cs ++ news) (grownCap w need old e * ei.size)) (succ_iff u) trivial (fun j v hj => ?_) (fun v hv => hone v hv) (by simp only [SO.len]; omega) ?_ rfl
                · simp only [SO.vals] at hj
                  have hj' := (List.getElem?_eq_some_iff.1 hj).1
                  have : (cs.toArray ++ news.toArray) = (cs ++ news).toArray := by simp
                  rw [this, Array.getElem?_append_left (by simpa using hj')]
                  simpa using hj
                · simp only [SO.vals, SO.len, hlen]
                  exact Nat.mul_le_mul_right _ hge
              refine ⟨OpSem.turn fun w0 O ρ a w ha hsat => ?_⟩
              obtain ⟨base, cj, e1, e2⟩ := hsrc ρ
              have ex : a.eval x = .slice base m cj := ((hx _ ρ a ha).1).trans e1
              have hf := run_first (P := P) (cap := cj) hsat e2 (hn ρ) hnl
              have hone : ∀ v ∈ news, v.oneCell' = true := fun v hv => by
                rw [← hn ρ] at hv
                rcases hj with hj | ⟨_, rfl, _⟩
                · exact (hsat.dom j so hj).2.2.cell.2 v (List.mem_of_mem_drop (List.mem_of_mem_take hv))
                · simp [SO.vals, SV.vals] at hv
              have hcells : ∀ b, base = some b → ∀ k v, news[k]? = some v → w.cell? (b.add k) = some v := fun b hb k v hk => by
                rcases e2 with ⟨rfl, hl⟩ | ⟨rfl, _⟩
                · injection hb with hb; subst hb
                  rw [add_at, Nat.add_assoc]
                  refine hsat.read hl ?_
                  have hk' := hk
                  rw [← hn ρ, List.getElem?_take] at hk'
                  split at hk'
                  · rw [List.getElem?_drop] at hk'; exact hk'
                  · cases hk'
                · cases hb
              have somebase : 0 < m → ∃ b, base = some b := fun hm => by
                rcases e2 with ⟨rfl, _⟩ | ⟨_, rfl⟩
                · exact ⟨_, rfl⟩
                · omega
              rcases hdst ρ with ⟨hv, hl0⟩ | ⟨hv, hlook⟩
              · have es : a.eval s = .slice none 0 0 := ((hs _ ρ a ha).1).trans hv
                subst hl0
                have hcs : cs = [] := List.length_eq_zero_iff.1 (by rw [hcl, Nat.zero_mul])
                subst hcs
                by_cases hm : m = 0
                · subst hm
                  have hn0 : news = [] := List.length_eq_zero_iff.1 (by rw [hnl, Nat.zero_mul])
                  subst hn0
                  have hr : (Builtin.append_ #[t, t] o.type #[.slice none 0 0, .slice base 0 cj]).run P w = .ok (.slice none 0 0) w := by
                    simp [Builtin.append_, run_underlying hu, sizeOf, typeInfo, hi, hsz, Builtin.lenOf, hf]
                  refine ⟨.slz true u 0 (0 + 0) 0, _, u + 1, upd ρ u (0, 0), w, hrunop a w _ _ (by rw [es, ex, hr]; rfl), Nat.le_succ u, agree_upd ρ u _, Nat.lt_succ_self u, ?_, hK true 0 (Nat.le_refl _) (fun _ => ⟨rfl, rfl⟩)⟩
                  have := (hsat.weaken (H1 := dropH i' H) (M := (· < u)) (fun k so hk => (look_dropH i' H k so hk).2) fun k so hk => ⟨(hsat.dom k so (look_dropH i' H k so hk).2).1, (hsat.dom k so (look_dropH i' H k so hk).2).2.1⟩).emptyRow (0, 0)
                  simpa using this
                · obtain ⟨b, hb⟩ := somebase (by omega)
                  subst hb
                  have hr := run_append_nil (P := P) w t o.type e i z hu hi hz b m cj news (by rw [hsz]; exact hnl) (hcells b rfl) (by omega) (by omega) (by rw [hby]; rw [Nat.zero_add] at hbytes; omega)
                  have hg := grow w0 O ρ w (dropH i' H) [] news m 0 hsat (fun k so hk => (look_dropH i' H k so hk).2) (by simpa using hnl) (by simpa using hone)
                  have hge := grownCap_ge w m 0 e
                  refine ⟨.slz false u 0 (0 + m) (grownCap w m 0 e), _, u + 1, upd ρ u (w.heap.size, 0), _, hrunop a w _ _ (by rw [es, ex, hr]; simp only [SV.val, slzV, Bool.false_and, upd_same, Nat.zero_add]; rfl), Nat.le_succ u, agree_upd ρ u _, Nat.lt_succ_self u, ?_, hK false _ (by omega) (fun h => by cases h)⟩
                  simpa using hg
              · have es : a.eval s = .slice (some ⟨(ρ i').1, (ρ i').2, none⟩) l cp := ((hs _ ρ a ha).1).trans hv
                have hd := hsat.dom i' _ hlook
                by_cases hroom : l + m ≤ cp
                · obtain ⟨w', hst, hs'⟩ := hsat.run_extend (P := P) news hlook (d := l * ei.size) (e := 0) (by omega) (by rw [hcap, hcl, hnl, ← Nat.add_mul]; exact Nat.mul_le_mul_right _ hroom) hone
                  have hr : (Builtin.append_ #[t, t] o.type #[.slice (some ⟨(ρ i').1, (ρ i').2, none⟩) l cp, .slice base m cj]).run P w = .ok (.slice (some ⟨(ρ i').1, (ρ i').2, none⟩) (l + m) cp) w' := by
                    have hst' : (storeCells ((⟨(ρ i').1, (ρ i').2, none⟩ : Addr).add (l * ei.size)) news).run P w = .ok () w' := by rw [add_at]; exact hst
                    simp [Builtin.append_, run_underlying hu, sizeOf, typeInfo, hi, hsz, Builtin.lenOf, hroom, hf, hst']
                  refine ⟨.slz false u 0 (l + m) cp, _, u + 1, upd ρ u (ρ i'), w', hrunop a w _ _ (by rw [es, ex, hr]; simp only [SV.val, slzV, Bool.false_and, upd_same, Nat.add_zero]), Nat.le_succ u, agree_upd ρ u _, Nat.lt_succ_self u, ?_, hK false cp hroom (fun h => by cases h)⟩
                  rw [← hcap]
                  exact hs'.rename
                · have holds : ∀ k v, cs[k]? = some v → w.cell? ((⟨(ρ i').1, (ρ i').2, none⟩ : Addr).add k) = some v := fun k v hk => by
                    rw [add_at]
                    exact hsat.read hlook hk
                  obtain ⟨b, hb⟩ := somebase (by omega)
                  subst hb
                  have hr := run_append_grow (P := P) w t o.type e i z hu hi hz ⟨(ρ i').1, (ρ i').2, none⟩ l cp cs (by rw [hsz]; exact hcl) holds b m cj news (by rw [hsz]; exact hnl) (hcells b rfl) (by omega) (by omega) (growslice_fits (by omega) (by rw [hby]; exact hbytes))
                  have hg := grow w0 O ρ w (dropH i' H) cs news (l + m) cp hsat (fun k so hk => (look_dropH i' H k so hk).2) (by rw [List.length_append, hcl, hnl, Nat.add_mul]) (fun v hv => (List.mem_append.1 hv).elim (fun h => hd.2.2.cell.2 v h) (hone v))
                  have hge := grownCap_ge w (l + m) cp e
                  exact ⟨.slz false u 0 (l + m) (grownCap w (l + m) cp e), _, u + 1, upd ρ u (w.heap.size, 0), _, hrunop a w _ _ (by rw [es, ex, hr]; simp only [SV.val, slzV, Bool.false_and, upd_same]), Nat.le_succ u, agree_upd ρ u _, Nat.lt_succ_self u, hg, hK false _ hge (fun h => by cases h)⟩
            · exact h6.elim
          · exact h1.elim
        · exact h.elim
      · exact h.elim
    · exact h.elim
  · exact h.elim
end Go.Sh
