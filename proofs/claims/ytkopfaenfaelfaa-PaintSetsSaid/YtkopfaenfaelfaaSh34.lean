import Derived.Test.YtkopfaenfaelfaaSh33
/- Maps: what the operations do to a heap. -/
set_option linter.unusedVariables false
namespace Go.Sh
open Go.RowKit Go.MapKept

section
variable {w0 w : World} {O : Nat → Nat → Prop} {ρ : Env} {H : Hp} {u : Nat}
theorem cell_obj {w : World} {r c c' : Nat} {k k' : DK} (h : w.heap[r]? = some (k.obj c)) (b o : Nat) : World.cell? { w with heap := w.heap.setIfInBounds r (k'.obj c') } ⟨b, o, none⟩ = w.cell? ⟨b, o, none⟩ := by
  have hlt := obj_lt h
  by_cases e : b = r
  · subst e
    have hg : w.heap[b] = k.obj c := by rw [Array.getElem?_eq_getElem hlt] at h; injection h
    cases k <;> cases k' <;> simp [World.cell?, hlt, hg, DK.obj]
  · exact World.cell?_of_block (w := w) (by simp [Ne.symm e])
theorem frz_obj {w : World} {r c c' : Nat} {k k' : DK} (h : w.heap[r]? = some (k.obj c)) (b o : Nat) : World.frozen? { w with heap := w.heap.setIfInBounds r (k'.obj c') } ⟨b, o, none⟩ = w.frozen? ⟨b, o, none⟩ := by
  have hlt := obj_lt h
  by_cases e : b = r
  · subst e
    have hg : w.heap[b] = k.obj c := by rw [Array.getElem?_eq_getElem hlt] at h; injection h
    cases k <;> cases k' <;> simp [World.frozen?, hlt, hg, DK.obj]
  · exact World.frozen?_of_block (w := w) (by simp [Ne.symm e])
/-- A map laid anew. -/
theorem Sat.setD {N : Nat → Prop} (h : Sat w0 O N ρ H w) {i c : Nat} {k : DK} (hi : look H i = some (.dict k c)) (k' : DK) (c' : Nat) (hk : k'.sits (ρ i)) : Sat w0 O N ρ ((i, .dict k' c') :: H) { w with heap := w.heap.setIfInBounds (ρ i).1 (k'.obj c') } := by
  have ha := (h.dict.at_ i k c hi).obj
  have hb : ∀ k, k ≠ (ρ i).1 → (w.heap.setIfInBounds (ρ i).1 (k'.obj c'))[k]? = w.heap[k]? := fun k hk => by simp [Ne.symm hk]
  have row : ∀ j so, look ((i, SO.dict k' c') :: H) j = some so → (j = i ∧ so = .dict k' c') ∨ (j ≠ i ∧ look H j = some so) := fun j so hk => by
    rw [look_cons] at hk
    split at hk
    · rename_i e; injection hk with hk; exact .inl ⟨e.symm, hk.symm⟩
    · rename_i e; exact .inr ⟨fun g => e g.symm, hk⟩
  refine ⟨h.os, h.tape, h.output, by simpa using h.size, fun k so hk => ?_, fun k j si sj hk hj hkj hw => ?_, fun k hk hO => ?_, fun k off hk hO => ?_, fun k off hk => ?_, fun k so hk hw j hj => ?_, ?_⟩
  · rcases row k so hk with ⟨rfl, rfl⟩ | ⟨_, h1⟩
    · exact ⟨(h.dom k _ hi).1, trivial, ⟨⟨fun j v hv => by simp [SO.vals] at hv, by simp [SO.vals]⟩, fun _ j hj => by simp [SO.len] at hj, fun j hj => by simp [SO.len] at hj, by simp [SO.vals]⟩⟩
    · obtain ⟨g1, g2, g3⟩ := h.dom k so h1
      refine ⟨g1, g2, ⟨⟨fun j v hv => ?_, g3.cell.2⟩, fun hw j hj => ?_, fun j hj => ?_, g3.fits⟩⟩
      · rw [cell_obj ha]; exact g3.cell.1 j v hv
      · rw [frz_obj ha]; exact g3.free hw j hj
      · rw [cell_obj ha]; exact g3.room j hj
  · rcases row k si hk with ⟨rfl, rfl⟩ | ⟨_, h1⟩
    · intro x y hx; simp [SO.len] at hx
    · rcases row j sj hj with ⟨rfl, rfl⟩ | ⟨_, h2⟩
      · intro x y hx hy; simp [SO.len] at hy
      · exact h.sep k j si sj h1 h2 hkj hw
  · show (w.heap.setIfInBounds _ _)[k]? = _
    rw [hb k, h.blk k hk hO]
    intro e
    subst e
    rcases h.dict.own i _ c hi with g | g
    · exact hO 0 (g 0)
    · omega
  · rw [cell_obj ha]; exact h.cell k off hk hO
  · rw [frz_obj ha]; exact h.frz k off hk
  · rcases row k so hk with ⟨rfl, rfl⟩ | ⟨_, h1⟩
    · simp [SO.len] at hj
    · exact h.fresh k so h1 hw j hj
  · refine ⟨fun k es2 c2 hk2 => ?_, fun k es2 c2 hk => ?_, fun k j ei ci ej cj hk hj hkj => ?_⟩
    · rcases row k _ hk2 with ⟨rfl, e⟩ | ⟨hne, h1⟩
      · cases e
        refine ⟨?_, hk⟩
        show (w.heap.setIfInBounds _ _)[(ρ k).1]? = _
        simp [obj_lt ha]
      · refine ⟨?_, (h.dict.at_ k es2 c2 h1).sits⟩
        show (w.heap.setIfInBounds _ _)[(ρ k).1]? = _
        rw [hb _ (h.dict.sep k i es2 c2 _ c h1 hi hne)]
        exact (h.dict.at_ k es2 c2 h1).obj
    · rcases row k _ hk with ⟨rfl, e⟩ | ⟨hne, h1⟩
      · exact h.dict.own k _ c hi
      · exact h.dict.own k es2 c2 h1
    · rcases row k _ hk with ⟨rfl, e⟩ | ⟨hne, h1⟩
      · rcases row j _ hj with ⟨rfl, e'⟩ | ⟨hne', h2⟩
        · exact absurd rfl hkj
        · exact h.dict.sep k j _ c ej cj hi h2 hkj
      · rcases row j _ hj with ⟨rfl, e'⟩ | ⟨hne', h2⟩
        · exact h.dict.sep k j ei ci _ c h1 hi hkj
        · exact h.dict.sep k j ei ci ej cj h1 h2 hkj
/-- A new map. -/
theorem Sat.newD (h : Sat w0 O (· < u) ρ H w) (dk : DK) (c : Nat) (hd : dk.sits (w.heap.size, 0)) : Sat w0 O (· < u + 1) (upd ρ u (w.heap.size, 0)) ((u, .dict dk c) :: H) (w.alloc (dk.obj c)) := by
  have hρ : ∀ i, i < u → upd ρ u (w.heap.size, 0) i = ρ i := fun i hi => upd_other ρ _ (Nat.ne_of_lt hi)
  have row : ∀ k so, look ((u, SO.dict dk c) :: H) k = some so → (k = u ∧ so = .dict dk c) ∨ (k < u ∧ look H k = some so) := fun k so hk => by
    rw [look_cons] at hk
    split at hk
    · rename_i e; injection hk with hk; exact .inl ⟨e.symm, hk.symm⟩
    · exact .inr ⟨(h.dom k so hk).1, hk⟩
  have hold : ∀ k, k < w.heap.size → (w.alloc (dk.obj c)).heap[k]? = w.heap[k]? := fun k hk => Below.heap_alloc w _ k hk
  refine ⟨h.os, h.tape, h.output, Nat.le_trans h.size (by simp), fun k so hk => ?_, fun k j si sj hk hj hkj hw => ?_, fun k hk hO => ?_, fun k off hk hO => ?_, fun k off hk => ?_, fun k so hk hw j hj => ?_, ?_⟩
  · rcases row k so hk with ⟨rfl, rfl⟩ | ⟨hlt, h1⟩
    · exact ⟨Nat.lt_succ_self _, trivial, ⟨⟨fun j v hv => by simp [SO.vals] at hv, by simp [SO.vals]⟩, fun _ j hj => by simp [SO.len] at hj, fun j hj => by simp [SO.len] at hj, by simp [SO.vals]⟩⟩
    · obtain ⟨g1, g2, g3⟩ := h.dom k so h1
      rw [hρ k hlt]
      exact ⟨Nat.lt_succ_of_lt hlt, SO.In.mono (fun i hi => Nat.lt_succ_of_lt hi) g2, is_agree hρ g2 (is_alloc g3 _)⟩
  · rcases row k si hk with ⟨rfl, rfl⟩ | ⟨hlt, h1⟩
    · intro x y hx; simp [SO.len] at hx
    · rcases row j sj hj with ⟨rfl, rfl⟩ | ⟨hlt', h2⟩
      · intro x y hx hy; simp [SO.len] at hy
      · rw [hρ k hlt, hρ j hlt']; exact h.sep k j si sj h1 h2 hkj hw
  · rw [hold k (Nat.lt_of_lt_of_le hk h.size)]; exact h.blk k hk hO
  · rw [cell_alloc w _ (Nat.ne_of_lt (Nat.lt_of_lt_of_le hk h.size))]; exact h.cell k off hk hO
  · rw [frz_alloc w _ (Nat.ne_of_lt (Nat.lt_of_lt_of_le hk h.size))]; exact h.frz k off hk
  · rcases row k so hk with ⟨rfl, rfl⟩ | ⟨hlt, h1⟩
    · simp [SO.len] at hj
    · rw [hρ k hlt]; exact h.fresh k so h1 hw j hj
  · refine ⟨fun k es2 c2 hk => ?_, fun k es2 c2 hk => ?_, fun k j ei ci ej cj hk hj hkj => ?_⟩
    · rcases row k _ hk with ⟨rfl, e⟩ | ⟨hlt, h1⟩
      · cases e
        rw [upd_same]
        refine ⟨?_, hd⟩
        show (w.heap.push _)[w.heap.size]? = _
        exact Array.getElem?_push_size
      · rw [hρ k hlt]
        exact ⟨(hold _ (dict_lt (h.dict.at_ k es2 c2 h1))).trans (h.dict.at_ k es2 c2 h1).obj, (h.dict.at_ k es2 c2 h1).sits⟩
    · rcases row k _ hk with ⟨rfl, e⟩ | ⟨hlt, h1⟩
      · rw [upd_same]; exact .inr h.size
      · rw [hρ k hlt]; exact h.dict.own k es2 c2 h1
    · rcases row k _ hk with ⟨rfl, e⟩ | ⟨hlt, h1⟩
      · rcases row j _ hj with ⟨rfl, e'⟩ | ⟨hlt', h2⟩
        · exact absurd rfl hkj
        · rw [upd_same, hρ j hlt']
          exact Nat.ne_of_gt (dict_lt (h.dict.at_ j ej cj h2))
      · rcases row j _ hj with ⟨rfl, e'⟩ | ⟨hlt', h2⟩
        · rw [upd_same, hρ k hlt]
          exact Nat.ne_of_lt (dict_lt (h.dict.at_ k ei ci h1))
        · rw [hρ k hlt, hρ j hlt']; exact h.dict.sep k j ei ci ej cj h1 h2 hkj
end

/-! ### The operations -/
def mkmK (o : Oper) (K : Prop) : Prop := match o.op with
  | .makeMap t none => K
  | _ => False
theorem OpL.mkm {P : Program} {o : Oper} {F : Fr} {H : Hp} {u : Nat} {K : SV → Hp → Nat → Prop} (h : mkmK o (K (.map u) ((u, .dict (.map [] none) 0) :: H) (u + 1))) : OpL P o F H u K := by
  unfold mkmK at h
  split at h
  · rename_i t ho
    refine ⟨OpSem.turn fun w0 O ρ a w ha hs => ?_⟩
    exact ⟨.map u, (u, .dict (.map [] none) 0) :: H, u + 1, upd ρ u (w.heap.size, 0), w.alloc (.map #[] 0), by simp [execOp, ho, Instr.makeMap, SV.val, upd_same], Nat.le_succ u, agree_upd ρ u _, Nat.lt_succ_self u, hs.newD (.map [] none) 0 trivial, h⟩
  · exact h.elim

/-- A map, and what it holds. -/
def mapK (v : SV) (H : Hp) (k : Nat → List MapEntry → Option Nat → Nat → Prop) : Prop := match v with
  | .map i => (match look H i with | some (.dict (.map es b) c) => k i es b c | _ => False)
  | _ => False
theorem mapK_out {v : SV} {H : Hp} {k : Nat → List MapEntry → Option Nat → Nat → Prop} (h : mapK v H k) : ∃ i es b c, v = .map i ∧ look H i = some (.dict (.map es b) c) ∧ k i es b c := by
  unfold mapK at h
  split at h
  · split at h
    · exact ⟨_, _, _, _, rfl, by assumption, h⟩
    · exact h.elim
  · exact h.elim
theorem sits_map {p : Nat × Nat} {es es' : List MapEntry} {b : Option Nat} (h : (DK.map es b).sits p) : (DK.map es' b).sits p := by cases b <;> exact h

/-! #### A look-up -/
structure LkpL (P : Program) (kt vt : TypeId) (es : List MapEntry) (vi : SV) (ok : Bool) (K : SV → Prop) : Prop where
  out : ∃ (r : SV) (f : Option (Nat × Value)), K r ∧ r.ok 0 = true ∧ (∀ ρ w, (Instr.checkKey es.isEmpty 10000 kt (vi.val ρ)).run P w = .ok () w ∧ (Instr.findKey kt (vi.val ρ) es).run P w = .ok f w) ∧
    (match f with | some (_, v) => r.val zenv = (match ok with | true => .tuple #[v, .bool true] | false => v) | none => ∃ z, (∀ w, (zeroValue vt).run P w = .ok z w) ∧ r.val zenv = (match ok with | true => .tuple #[z, .bool false] | false => z))
def lkpK (P : Program) (tab : Tab) (o : Oper) (F : Fr) (H : Hp) (K : SV → Prop) : Prop := match o.op with
  | .lookup t x ix ok => tabK tab t fun ti => (match ti.desc with
    | .map kt vt => evK F x fun vx => evK F ix fun vi => (match vx with
      | .nilMap => LkpL P kt vt [] vi ok K
      | vx => mapK vx H fun _ es _ _ => LkpL P kt vt es vi ok K)
    | _ => False)
  | _ => False
theorem VL.lkp {P : Program} {tab : Tab} (hP : TabOk P tab) {o : Oper} {F : Fr} {H : Hp} {K : SV → Prop} (h : lkpK P tab o F H K) : VL P o F H K := by
  unfold lkpK at h
  split at h
  · rename_i t x ix ok ho
    obtain ⟨ti, ht, h1⟩ := tabK_out hP h
    have hu := ht.und
    split at h1
    · rename_i kt vt hd
      rw [hd] at hu
      obtain ⟨vx, h2, hx⟩ := evK_out h1
      obtain ⟨vi, h3, hi⟩ := evK_out h2
      split at h3
      · obtain ⟨r, f, k, hr, hk, hf⟩ := (h3 : LkpL _ _ _ _ _ _ _).out
        refine ⟨r, k, fun w0 O N ρ a w H2 ha hsub hs => ⟨?_, closed_In hr _⟩⟩
        have e1 : a.eval x = .map none := (hx N ρ a ha).1
        have e3 := (hi N ρ a ha).1
        obtain ⟨g1, g2⟩ := hk ρ w
        have g1 : (Instr.checkKey true 10000 kt (vi.val ρ)).run P w = .ok () w := g1
        rw [closed_val hr ρ]
        simp only [execOp, ho, Instr.lookup, Sem.run_bind, run_underlying hu, Result.andThen_ok, e1, e3, Sem.run_pure, Array.isEmpty_empty, g1, g2]
        cases f with
        | some p => obtain ⟨i, v⟩ := p; cases ok <;> simp_all
        | none => obtain ⟨z, hz, hrz⟩ := hf; cases ok <;> simp_all
      · obtain ⟨i, es, b, c, rfl, hlk, h4⟩ := mapK_out h3
        obtain ⟨r, f, k, hr, hk, hf⟩ := (h4 : LkpL _ _ _ _ _ _ _).out
        refine ⟨r, k, fun w0 O N ρ a w H2 ha hsub hs => ⟨?_, closed_In hr _⟩⟩
        obtain ⟨e1, hN⟩ := hx N ρ a ha
        have e1 : a.eval x = .map (some (ρ i).1) := e1
        have e3 := (hi N ρ a ha).1
        have hobj : w.heap[(ρ i).1]? = some (.map es.toArray c) := (hs.dict.at_ i _ c (hsub i _ hlk hN)).obj
        obtain ⟨g1, g2⟩ := hk ρ w
        have hemp : es.toArray.isEmpty = es.isEmpty := by simp
        rw [closed_val hr ρ]
        simp only [execOp, ho, Instr.lookup, Sem.run_bind, run_underlying hu, Result.andThen_ok, e1, e3, Go.MapKept.run_getObj_map hobj, Sem.run_pure, hemp, g1, g2]
        cases f with
        | some p => obtain ⟨i, v⟩ := p; cases ok <;> simp_all
        | none => obtain ⟨z, hz, hrz⟩ := hf; cases ok <;> simp_all
    · exact h1.elim
  · exact h.elim
section
variable {κ : Type} [DecidableEq κ] {ν : Type} {P : Program} {kt vt : TypeId} {kv : κ → Value} {vv : ν → Value} {D : List (κ × ν × Nat)} {vi : SV} {ok : Bool} {K : SV → Prop}
/-- It is there. -/
theorem LkpL.yes (T : KeyT P kt kv) (a : κ) (ha : ∀ ρ, vi.val ρ = kv a) {v : ν} (h : getD D a = some v) (r : SV) (hc : r.ok 0 = true) (hr : r.val zenv = (match ok with | true => .tuple #[vv v, .bool true] | false => vv v)) (k : K r) : LkpL P kt vt (ents kv vv D) vi ok K := by
  unfold getD at h
  obtain ⟨p, hp, rfl⟩ := Option.map_eq_some_iff.1 h
  exact ⟨r, some (p.1, vv p.2), k, hc, fun ρ w => by rw [ha]; exact ⟨T.chk _ a w, by rw [T.find vv a D w, hp]; rfl⟩, hr⟩
/-- It is not. -/
theorem LkpL.no (T : KeyT P kt kv) (a : κ) (ha : ∀ ρ, vi.val ρ = kv a) (h : getD D a = none) (z : Value) (hz : ∀ w, (zeroValue vt).run P w = .ok z w) (r : SV) (hc : r.ok 0 = true) (hr : r.val zenv = (match ok with | true => .tuple #[z, .bool false] | false => z)) (k : K r) : LkpL P kt vt (ents kv vv D) vi ok K := by
  have hp := findD_none.2 h
  exact ⟨r, Option.none, k, hc, fun ρ w => by rw [ha]; exact ⟨T.chk _ a w, by rw [T.find vv a D w, hp]; rfl⟩, z, hz, hr⟩
end

/-! #### An entry laid -/
structure UpdL (P : Program) (kt : TypeId) (es : List MapEntry) (c : Nat) (vk vx : SV) (K : List MapEntry → Nat → Prop) : Prop where
  out : ∃ (es' : List MapEntry) (c' : Nat) (f : Option (Nat × Value)), K es' c' ∧ ∀ ρ, Instr.sameBits 10000 (vk.val ρ) (vk.val ρ) = true ∧ (∀ w, (Instr.checkKey false 10000 kt (vk.val ρ)).run P w = .ok () w ∧ (Instr.findKey kt (vk.val ρ) es).run P w = .ok f w) ∧
    (match f with | some (i, _) => (es[i]?).map (·.key) = some (vk.val ρ) ∧ es' = es.modify i (fun e => { e with key := vk.val ρ, val := vx.val ρ }) ∧ c' = c | none => es' = es ++ [⟨vk.val ρ, vx.val ρ, c⟩] ∧ c' = c + 1)
def updK (P : Program) (tab : Tab) (o : Oper) (F : Fr) (H : Hp) (u : Nat) (K : SV → Hp → Nat → Prop) : Prop := match o.op with
  | .mapUpdate t m k x => tabK tab t fun ti => (match ti.desc with
    | .map kt vt => evK F m fun vm => evK F k fun vk => evK F x fun vx => mapK vm H fun i es b c => UpdL P kt es c vk vx fun es' c' => K .undef ((i, .dict (.map es' b) c') :: H) u
    | _ => False)
  | _ => False
theorem OpL.upd {P : Program} {tab : Tab} (hP : TabOk P tab) {o : Oper} {F : Fr} {H : Hp} {u : Nat} {K : SV → Hp → Nat → Prop} (h : updK P tab o F H u K) : OpL P o F H u K := by
  unfold updK at h
  split at h
  · rename_i t m k x ho
    obtain ⟨ti, ht, h1⟩ := tabK_out hP h
    have hu := ht.und
    split at h1
    · rename_i kt vt hd
      rw [hd] at hu
      obtain ⟨vm, h2, hm⟩ := evK_out h1
      obtain ⟨vk, h3, hk⟩ := evK_out h2
      obtain ⟨vx, h4, hx⟩ := evK_out h3
      obtain ⟨i, es, b, c, rfl, hlk, h5⟩ := mapK_out h4
      obtain ⟨es', c', f, kk, hf⟩ := (h5 : UpdL _ _ _ _ _ _ _).out
      refine ⟨OpSem.skip fun w0 O ρ a w ha hs => ⟨(i, .dict (.map es' b) c') :: H, _, ?_, hs.setD hlk (.map es' b) c' (sits_map (hs.dict.at_ i _ c hlk).sits), kk⟩⟩
      have e1 : a.eval m = .map (some (ρ i).1) := (hm _ ρ a ha).1
      have e2 := (hk _ ρ a ha).1
      have e3 := (hx _ ρ a ha).1
      have hobj : w.heap[(ρ i).1]? = some (.map es.toArray c) := (hs.dict.at_ i _ c hlk).obj
      obtain ⟨hsame, g, hfe⟩ := hf ρ
      obtain ⟨g1, g2⟩ := g w
      simp only [execOp, ho, Instr.mapUpdate, Sem.run_bind, run_underlying hu, Result.andThen_ok, e1, e2, e3, Go.MapKept.run_getObj_map hobj, g1, g2]
      rcases f with _ | ⟨j, y⟩
      · obtain ⟨rfl, rfl⟩ := hfe
        simp only [Go.MapKept.run_setObj_map _ hobj, List.push_toArray]
        rfl
      · obtain ⟨hj, rfl, rfl⟩ := hfe
        have hj' : ((es.toArray[j]?).map (·.key)).getD (vk.val ρ) = vk.val ρ := by simp [hj]
        simp only [hj', Instr.keyThatStays, hsame, if_true, Sem.run_bind, Sem.run_pure, Result.andThen_ok, Go.MapKept.run_setObj_map _ hobj]
        simp [DK.obj]
    · exact h1.elim
  · exact h.elim
section
variable {κ : Type} [DecidableEq κ] {ν : Type} {P : Program} {kt vt : TypeId} {kv : κ → Value} {vv : ν → Value} {D : List (κ × ν × Nat)}
theorem UpdL.set (T : KeyT P kt kv) {c : Nat} {vk vx : SV} {K : List MapEntry → Nat → Prop} (a : κ) (ha : ∀ ρ, vk.val ρ = kv a) (v : ν) (hv : ∀ ρ, vx.val ρ = vv v) (k : K (ents kv vv (setD a v c D)) (tickD D a c)) : UpdL P kt (ents kv vv D) c vk vx K := by
  refine ⟨_, _, (findD a D 0).map fun p => (p.1, vv p.2), k, fun ρ => ⟨by rw [ha]; exact T.same a, fun w => by rw [ha]; exact ⟨T.chk _ a w, T.find vv a D w⟩, ?_⟩⟩
  unfold tickD
  cases hf : findD a D 0 with
  | none =>
    rw [ha, hv]
    exact ⟨set_new v c hf, rfl⟩
  | some p =>
    obtain ⟨i, y⟩ := p
    obtain ⟨h1, h2⟩ := set_old (kv := kv) (vv := vv) v c hf
    rw [ha, hv]
    exact ⟨h2, h1, rfl⟩
end

/-! #### An entry taken out -/
structure DelL (P : Program) (kt : TypeId) (es : List MapEntry) (vk : SV) (K : List MapEntry → Prop) : Prop where
  out : ∃ (es' : List MapEntry) (f : Option (Nat × Value)), K es' ∧ (∀ ρ w, (Instr.checkKey es.isEmpty 10000 kt (vk.val ρ)).run P w = .ok () w ∧ (Instr.findKey kt (vk.val ρ) es).run P w = .ok f w) ∧
    (match f with | some (i, _) => es' = es.eraseIdx i | none => es' = es)
def dltK (P : Program) (tab : Tab) (o : Oper) (F : Fr) (H : Hp) (u : Nat) (K : SV → Hp → Nat → Prop) : Prop := match o.op with
  | .call c => (match c.callee with
    | .builtin .delete => (match c.args.toList, c.argTypes.toList with
      | [m, k], [t, _] => tabK tab t fun ti => (match ti.desc with
        | .map kt vt => evK F m fun vm => evK F k fun vk => mapK vm H fun i es b c => DelL P kt es vk fun es' => K (.tup []) ((i, .dict (.map es' b) c) :: H) u
        | _ => False)
      | _, _ => False)
    | _ => False)
  | _ => False
theorem OpL.dlt {P : Program} {tab : Tab} (hP : TabOk P tab) {o : Oper} {F : Fr} {H : Hp} {u : Nat} {K : SV → Hp → Nat → Prop} (h : dltK P tab o F H u K) : OpL P o F H u K := by
  unfold dltK at h
  split at h
  · rename_i cl ho
    split at h
    · rename_i hcal
      split at h
      · rename_i m k t t' hargs htys
        obtain ⟨ti, ht, h1⟩ := tabK_out hP h
        have hu := ht.und
        split at h1
        · rename_i kt vt hd
          rw [hd] at hu
          obtain ⟨vm, h2, hm⟩ := evK_out h1
          obtain ⟨vk, h3, hk⟩ := evK_out h2
          obtain ⟨i, es, b, c, rfl, hlk, h5⟩ := mapK_out h3
          obtain ⟨es', f, kk, hf, hfe⟩ := (h5 : DelL _ _ _ _ _).out
          refine ⟨OpSem.turn fun w0 O ρ a w ha hs => ⟨.tup [], (i, .dict (.map es' b) c) :: H, u, ρ, _, ?_, Nat.le_refl _, fun _ _ => rfl, trivial, hs.setD hlk (.map es' b) c (sits_map (hs.dict.at_ i _ c hlk).sits), kk⟩⟩
          have a1 : cl.args = #[m, k] := by apply Array.ext'; simpa using hargs
          have a2 : cl.argTypes = #[t, t'] := by apply Array.ext'; simpa using htys
          have e1 : a.eval m = .map (some (ρ i).1) := (hm _ ρ a ha).1
          have e2 := (hk _ ρ a ha).1
          have hobj : w.heap[(ρ i).1]? = some (.map es.toArray c) := (hs.dict.at_ i _ c hlk).obj
          obtain ⟨g1, g2⟩ := hf ρ w
          have hemp : es.toArray.isEmpty = es.isEmpty := by simp
          have hdel : (Builtin.delete_ #[t, t'] o.type #[a.eval m, a.eval k]).run P w = .ok (.tuple #[]) { w with heap := w.heap.setIfInBounds (ρ i).1 (.map es'.toArray c) } := by
            unfold Builtin.delete_
            simp only [e1, e2, List.getElem?_toArray, List.getElem?_cons_zero, List.getElem?_cons_succ, Sem.run_bind, run_underlying hu, Result.andThen_ok, Go.MapKept.run_getObj_map hobj, hemp, g1, g2]
            rcases f with _ | ⟨j, y⟩
            · subst hfe
              simp only [Sem.run_bind, Go.MapKept.run_setObj_map _ hobj, Result.andThen_ok, Sem.run_pure]
            · subst hfe
              have he : es.toArray.eraseIdxIfInBounds j = (es.eraseIdx j).toArray := by simp
              simp only [he, Sem.run_bind, Go.MapKept.run_setObj_map _ hobj, Result.andThen_ok, Sem.run_pure]
          simp only [execOp, ho, resolve, hcal, invoke, builtin, Sem.run_bind, Sem.run_pure, Result.andThen_ok, a1, a2, List.map_toArray, List.map_cons, List.map_nil, hdel]
          rfl
        · exact h1.elim
      · exact h.elim
    · exact h.elim
  · exact h.elim
section
variable {κ : Type} [DecidableEq κ] {ν : Type} {P : Program} {kt vt : TypeId} {kv : κ → Value} {vv : ν → Value} {D : List (κ × ν × Nat)}
theorem DelL.del (T : KeyT P kt kv) {vk : SV} {K : List MapEntry → Prop} (a : κ) (ha : ∀ ρ, vk.val ρ = kv a) (k : K (ents kv vv (delD a D))) : DelL P kt (ents kv vv D) vk K := by
  refine ⟨_, (findD a D 0).map fun p => (p.1, vv p.2), k, fun ρ w => by rw [ha]; exact ⟨T.chk _ a w, T.find vv a D w⟩, ?_⟩
  cases hf : findD a D 0 with
  | none => rw [del_new (kv := kv) (vv := vv) hf]; rfl
  | some p => exact del_old hf
end

/-! #### How many -/
def lenK (tab : Tab) (o : Oper) (F : Fr) (H : Hp) (K : SV → Prop) : Prop := match o.op with
  | .call c => (match c.callee with
    | .builtin .len => (match c.args.toList, c.argTypes.toList with
      | [m], [t] => tabK tab t fun ti => (match ti.desc with
        | .map kt vt => evK F m fun vm => (match vm with | .nilMap => K (.int .i64 0) | vm => mapK vm H fun i es b c => K (.int .i64 (es.length : Nat)))
        | _ => False)
      | _, _ => False)
    | _ => False)
  | _ => False
end Go.Sh
