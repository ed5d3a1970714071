import Derived.Test.YtkopfaenfaelfaaSh34
import Derived.Maps.RangeRun
/- Going over a map, in whatever order. -/
set_option linter.unusedVariables false
namespace Go.Sh
open Go.RowKit Go.ChangeMaps

/-! ### Plain -/
section
variable {α : Type}
def remB (bo : α → Nat) (D : List α) (seen : List Nat) : List α := D.filter fun x => !seen.contains (bo x)
theorem remB_nil (bo : α → Nat) (D : List α) : remB bo D [] = D := by simp [remB]
theorem remB_snoc (bo : α → Nat) (seen : List Nat) {e : α} (hs : bo e ∉ seen) (g : α → Nat) : ∀ {D : List α}, (D.map bo).Nodup → e ∈ D →
    ((remB bo D seen).map g).sum = g e + ((remB bo D (seen ++ [bo e])).map g).sum ∧ (remB bo D seen).length = (remB bo D (seen ++ [bo e])).length + 1
  | x :: r, hn, he => by
    obtain ⟨h1, h2⟩ := List.nodup_cons.1 hn
    by_cases ex : x = e
    · subst ex
      have hx : (!seen.contains (bo x)) = true := by simpa using hs
      have hx2 : (!(seen ++ [bo x]).contains (bo x)) = false := by simp
      have hr : remB bo r (seen ++ [bo x]) = remB bo r seen := by
        unfold remB
        refine List.filter_congr fun y hy => ?_
        have : bo y ≠ bo x := fun g => h1 (by rw [← g]; exact List.mem_map.2 ⟨y, hy, rfl⟩)
        simp [this]
      have e1 : remB bo (x :: r) seen = x :: remB bo r seen := by unfold remB; rw [List.filter_cons, if_pos hx]
      have e2 : remB bo (x :: r) (seen ++ [bo x]) = remB bo r seen := by rw [← hr]; unfold remB; rw [List.filter_cons, if_neg (by rw [hx2]; decide)]
      rw [e1, e2]; simp
    · have he' : e ∈ r := by
        rcases List.mem_cons.1 he with h | h
        · exact absurd h.symm ex
        · exact h
      have hne : bo x ≠ bo e := fun g => h1 (by rw [g]; exact List.mem_map.2 ⟨e, he', rfl⟩)
      obtain ⟨g1, g2⟩ := remB_snoc bo seen hs g h2 he'
      have hb : (!(seen ++ [bo e]).contains (bo x)) = (!seen.contains (bo x)) := by simp [hne]
      by_cases hx : (!seen.contains (bo x)) = true
      · have e1 : remB bo (x :: r) seen = x :: remB bo r seen := by unfold remB; rw [List.filter_cons, if_pos hx]
        have e2 : remB bo (x :: r) (seen ++ [bo e]) = x :: remB bo r (seen ++ [bo e]) := by unfold remB; rw [List.filter_cons, if_pos (by rw [hb]; exact hx)]
        rw [e1, e2]
        simp only [List.map_cons, List.sum_cons, List.length_cons]
        omega
      · have e1 : remB bo (x :: r) seen = remB bo r seen := by unfold remB; rw [List.filter_cons, if_neg hx]
        have e2 : remB bo (x :: r) (seen ++ [bo e]) = remB bo r (seen ++ [bo e]) := by unfold remB; rw [List.filter_cons, if_neg (by rw [hb]; exact hx)]
        rw [e1, e2]
        exact ⟨g1, g2⟩
end
/-- The stamps: distinct, and below the clock. -/
structure StampD {κ ν : Type} (D : List (κ × ν × Nat)) (c : Nat) : Prop where
  lt : ∀ x ∈ D, x.2.2 < c
  nd : (D.map (·.2.2)).Nodup
section
variable {κ : Type} [DecidableEq κ] {ν : Type}
omit [DecidableEq κ] in
theorem StampD.nil (c : Nat) : StampD ([] : List (κ × ν × Nat)) c := ⟨fun _ h => by simp at h, .nil⟩
theorem map_set (a : κ) (v : ν) (c : Nat) : ∀ D : List (κ × ν × Nat), (setD a v c D).map (·.2.2) = if findD a D 0 = none then D.map (·.2.2) ++ [c] else D.map (·.2.2)
  | [] => by simp [setD, findD]
  | x :: r => by
    rw [setD, findD_cons]
    split
    · simp
    · have := map_set a v c r
      rw [List.map_cons, this]
      by_cases h : findD a r 0 = none
      · rw [if_pos h, if_pos (by rw [h]; rfl)]; rfl
      · rw [if_neg h, if_neg (by simpa using h)]; rfl
theorem StampD.set {D : List (κ × ν × Nat)} {c : Nat} (h : StampD D c) (a : κ) (v : ν) : StampD (setD a v c D) (tickD D a c) := by
  have hm := map_set a v c D
  have hl : ∀ b ∈ D.map (·.2.2), b < c := fun b hb => by
    obtain ⟨x, hx, rfl⟩ := List.mem_map.1 hb
    exact h.lt x hx
  unfold tickD
  cases hf : findD a D 0 with
  | none =>
    rw [if_pos hf] at hm
    refine ⟨fun x hx => ?_, ?_⟩
    · have : x.2.2 ∈ (setD a v c D).map (·.2.2) := List.mem_map.2 ⟨x, hx, rfl⟩
      rw [hm] at this
      rcases List.mem_append.1 this with g | g
      · have := hl _ g; show x.2.2 < c + 1; omega
      · simp at g; show x.2.2 < c + 1; omega
    · rw [hm]
      refine List.nodup_append.2 ⟨h.nd, List.nodup_cons.2 ⟨by simp, .nil⟩, fun x hx y hy => ?_⟩
      simp at hy; subst hy
      exact Nat.ne_of_lt (hl x hx)
  | some p =>
    rw [if_neg (by rw [hf]; simp)] at hm
    refine ⟨fun x hx => ?_, by rw [hm]; exact h.nd⟩
    have : x.2.2 ∈ (setD a v c D).map (·.2.2) := List.mem_map.2 ⟨x, hx, rfl⟩
    rw [hm] at this
    exact hl _ this
theorem sub_del (a : κ) : ∀ D : List (κ × ν × Nat), (delD a D).Sublist D
  | [] => .refl _
  | x :: r => by
    rw [delD]
    split
    · exact .cons _ (.refl _)
    · exact .cons_cons _ (sub_del a r)
theorem StampD.del {D : List (κ × ν × Nat)} {c : Nat} (h : StampD D c) (a : κ) : StampD (delD a D) c :=
  ⟨fun x hx => h.lt x ((sub_del a D).mem hx), h.nd.sublist ((sub_del a D).map _)⟩
end

/-! ### The operations -/
def rgeK (tab : Tab) (o : Oper) (F : Fr) (H : Hp) (u : Nat) (K : SV → Hp → Nat → Prop) : Prop := match o.op with
  | .range t x => tabK tab t fun ti => (match ti.desc with
    | .map kt vt => evK F x fun vx => (match vx with
      | .nilMap => K (.ptr u 0) ((u, .dict .over 0) :: H) (u + 1)
      | vx => mapK vx H fun i es b c => ∀ B, K (.ptr u 0) ((u, .dict (.iter B c []) c) :: (i, .dict (.map es (some B)) c) :: H) (u + 1))
    | _ => False)
  | _ => False
theorem OpL.rng {P : Program} {tab : Tab} (hP : TabOk P tab) {o : Oper} {F : Fr} {H : Hp} {u : Nat} {K : SV → Hp → Nat → Prop} (h : rgeK tab o F H u K) : OpL P o F H u K := by
  unfold rgeK at h
  split at h
  · rename_i t x ho
    obtain ⟨ti, ht, h1⟩ := tabK_out hP h
    have hu := ht.und
    split at h1
    · rename_i kt vt hd
      rw [hd] at hu
      obtain ⟨vx, h2, hx⟩ := evK_out h1
      split at h2
      · refine ⟨OpSem.turn fun w0 O ρ a w ha hs => ?_⟩
        have e1 : a.eval x = .map none := (hx _ ρ a ha).1
        exact ⟨.ptr u 0, _, u + 1, Go.Sh.upd ρ u (w.heap.size, 0), w.alloc (.mapIter none 0 #[] 0), by simp [execOp, ho, e1, run_range_nilMap w t kt vt hu, SV.val, upd_same], Nat.le_succ u, agree_upd ρ u _, Nat.lt_succ_self u, hs.newD .over 0 rfl, h2⟩
      · obtain ⟨i, es, b, c, rfl, hlk, h3⟩ := mapK_out h2
        refine ⟨OpSem.turn fun w0 O ρ a w ha hs => ?_⟩
        have e1 : a.eval x = .map (some (ρ i).1) := (hx _ ρ a ha).1
        have hobj : w.heap[(ρ i).1]? = some (.map es.toArray c) := (hs.dict.at_ i _ c hlk).obj
        have hs1 : Sat w0 O (· < u) ρ ((i, .dict (.map es (some (ρ i).1)) c) :: H) w := by
          have := hs.setD hlk (.map es (some (ρ i).1)) c rfl
          rw [show ({ w with heap := w.heap.setIfInBounds (ρ i).1 ((DK.map es (some (ρ i).1)).obj c) } : World) = w from by
            have : w.heap.setIfInBounds (ρ i).1 ((DK.map es (some (ρ i).1)).obj c) = w.heap := by
              have hlt := obj_lt hobj
              have hg : w.heap[(ρ i).1] = .map es.toArray c := by rw [Array.getElem?_eq_getElem hlt] at hobj; injection hobj
              apply Array.ext_getElem?
              intro j
              by_cases e : (ρ i).1 = j
              · subst e; simp [hlt, hg, DK.obj]
              · simp [e]
            rw [this]] at this
          exact this
        exact ⟨.ptr u 0, _, u + 1, Go.Sh.upd ρ u (w.heap.size, 0), w.alloc (.mapIter (some (ρ i).1) c #[] c), by simp [execOp, ho, e1, run_range_map w t kt vt _ _ _ hu hobj, SV.val, upd_same], Nat.le_succ u, agree_upd ρ u _, Nat.lt_succ_self u, hs1.newD (.iter (ρ i).1 c []) c rfl, h3 _⟩
    · exact h1.elim
  · exact h.elim

/-- The step: r: the name of what goes over the map. -/
structure NxtL (H : Hp) (B since last : Nat) (seen : List Nat) (Kend : Prop) (K : MapEntry → Nat → Prop) : Prop where
  out : ∃ i es c, look H i = some (.dict (.map es (some B)) c) ∧ (∀ x ∈ es, x.born < since) ∧ since ≤ last ∧ ((∀ x ∈ es, x.born ∈ seen) → Kend) ∧ ∀ e ∈ es, e.born ∉ seen → K e c
def nxtK (o : Oper) (F : Fr) (H : Hp) (u : Nat) (K : SV → Hp → Nat → Prop) : Prop := match o.op with
  | .next it false => evK F it fun v => (match v with
    | .ptr r 0 => (match look H r with
      | some (.dict .over _) => K (.tup [.ff]) H u
      | some (.dict (.iter B since seen) last) => NxtL H B since last seen (K (.tup [.ff]) H u) fun e c => K (.tup [.tt, .raw e.key, .raw e.val]) ((r, .dict (.iter B since (seen ++ [e.born])) c) :: H) u
      | _ => False)
    | _ => False)
  | _ => False
theorem OpL.nxt {P : Program} {o : Oper} {F : Fr} {H : Hp} {u : Nat} {K : SV → Hp → Nat → Prop} (h : nxtK o F H u K) : OpL P o F H u K := by
  unfold nxtK at h
  split at h
  · rename_i it ho
    obtain ⟨v, h1, hv⟩ := evK_out h
    split at h1
    · rename_i r
      split at h1
      · rename_i c hlk
        refine ⟨OpSem.turn fun w0 O ρ a w ha hs => ⟨.tup [.ff], H, u, ρ, w, ?_, Nat.le_refl _, fun _ _ => rfl, ⟨trivial, trivial⟩, hs, h1⟩⟩
        have hd := hs.dict.at_ r _ c hlk
        have e1 : a.eval it = .pointer (some ⟨(ρ r).1, 0, none⟩) := by
          have := (hv _ ρ a ha).1
          rw [this, SV.val, show (ρ r).2 = 0 from hd.sits]
        have ho2 : w.heap[(ρ r).1]? = some (.mapIter none 0 #[] 0) := hd.obj
        simp [execOp, ho, e1, Instr.next, getObj, Sem.run, ho2, SV.val, SV.vals]
      · rename_i B since seen last hlk
        obtain ⟨i, es, c, hm, hlt, hsl, hend, hgo⟩ := (h1 : NxtL _ _ _ _ _ _ _).out
        refine ⟨OpSem.turn fun w0 O ρ a w ha hs => ?_⟩
        have hd := hs.dict.at_ r _ last hlk
        have hdm := hs.dict.at_ i _ c hm
        have e1 : a.eval it = .pointer (some ⟨(ρ r).1, 0, none⟩) := by
          have := (hv _ ρ a ha).1
          rw [this, SV.val, show (ρ r).2 = 0 from hd.sits]
        have hob : w.heap[(ρ r).1]? = some (.mapIter (some B) since seen.toArray last) := hd.obj
        have hom : w.heap[B]? = some (.map es.toArray c) := by
          have := hdm.obj
          rw [← show B = (ρ i).1 from hdm.sits] at this
          exact this
        rcases run_next_at (P := P) w o.type (ρ r).1 B since last seen.toArray es.toArray c hob hom (fun x hx => hlt x (by simpa using hx)) hsl with ⟨h0, hrun⟩ | ⟨e, he, w1, hw1, hrun⟩
        · refine ⟨.tup [.ff], H, u, ρ, w, by simp [execOp, ho, e1, hrun, SV.val, SV.vals], Nat.le_refl _, fun _ _ => rfl, ⟨trivial, trivial⟩, hs, hend fun x hx => ?_⟩
          have : leftOf es.toArray seen.toArray = #[] := Array.eq_empty_of_size_eq_zero h0
          unfold leftOf at this
          rw [Array.filter_eq_empty_iff] at this
          have := this x (by simpa using hx)
          simpa using this
        · have hmem : e ∈ es ∧ e.born ∉ seen := by
            unfold leftOf at he
            simp at he
            exact he
          have hs1 : Sat w0 O (· < u) ρ H w1 := by
            rcases hw1 with rfl | rfl
            · exact hs
            · exact hs.drew
          refine ⟨.tup [.tt, .raw e.key, .raw e.val], _, u, ρ, setBlock w1 (ρ r).1 (.mapIter (some B) since (seen.toArray.push e.born) c), by simp [execOp, ho, e1, hrun, SV.val, SV.vals], Nat.le_refl _, fun _ _ => rfl, ⟨trivial, trivial, trivial, trivial⟩, ?_, hgo e hmem.1 hmem.2⟩
          have := hs1.setD hlk (.iter B since (seen ++ [e.born])) c hd.sits
          simpa [setBlock, DK.obj] using this
      · exact h1.elim
    · exact h1.elim
  · exact h.elim

/-- The entry of the last step. -/
structure EntL (H : Hp) (B last : Nat) (seen : List Nat) (K : SV → Prop) : Prop where
  out : ∃ i es s' e, ∃ ks vs : SV, look H i = some (.dict (.map es (some B)) last) ∧ seen = s' ++ [e.born] ∧ e ∈ es ∧ (es.map (·.born)).Nodup ∧ ks.ok 0 = true ∧ vs.ok 0 = true ∧ ks.val zenv = e.key ∧ vs.val zenv = e.val ∧ K (.tup [ks, vs])
def entK (o : Oper) (F : Fr) (H : Hp) (K : SV → Prop) : Prop := match o.op with
  | .entry it => evK F it fun v => (match v with
    | .ptr r 0 => (match look H r with
      | some (.dict (.iter B since seen) last) => EntL H B last seen K
      | _ => False)
    | _ => False)
  | _ => False
theorem OpL.ent {P : Program} {o : Oper} {F : Fr} {H : Hp} {u : Nat} {K : SV → Hp → Nat → Prop} (h : entK o F H fun v => K v H u) : OpL P o F H u K := by
  unfold entK at h
  split at h
  · rename_i it ho
    obtain ⟨v, h1, hv⟩ := evK_out h
    split at h1
    · rename_i r
      split at h1
      · rename_i B since seen last hlk
        obtain ⟨i, es, s', e, ks, vs, hm, rfl, he, hn, hk0, hv0, hks, hvs, k⟩ := (h1 : EntL _ _ _ _ _).out
        refine ⟨OpSem.turn fun w0 O ρ a w ha hs => ⟨.tup [ks, vs], H, u, ρ, w, ?_, Nat.le_refl _, fun _ _ => rfl, ⟨closed_In hk0 _, closed_In hv0 _, trivial⟩, hs, k⟩⟩
        have hd := hs.dict.at_ r _ last hlk
        have hdm := hs.dict.at_ i _ last hm
        have e1 : a.eval it = .pointer (some ⟨(ρ r).1, 0, none⟩) := by
          have := (hv _ ρ a ha).1
          rw [this, SV.val, show (ρ r).2 = 0 from hd.sits]
        have hob : w.heap[(ρ r).1]? = some (.mapIter (some B) since (s'.toArray.push e.born) last) := by
          have := hd.obj
          simpa [DK.obj] using this
        have hom : w.heap[B]? = some (.map es.toArray last) := by
          have := hdm.obj
          rw [← show B = (ρ i).1 from hdm.sits] at this
          exact this
        have hrun := run_entry_at (P := P) w (ρ r).1 B since s'.toArray es.toArray last e hob hom (by simpa using he) (by simpa using hn)
        simp [execOp, ho, e1, hrun, SV.val, SV.vals, closed_val hk0 ρ, closed_val hv0 ρ, hks, hvs]
      · exact h1.elim
    · exact h1.elim
  · exact h.elim
theorem run_zeroV' {P : Program} {t : TypeId} {z : Value} (h : (P.info? t).bind (·.zero) = some z) (w : World) : (zeroValue t).run P w = .ok z w := by
  cases hi : P.info? t with
  | none => rw [hi] at h; cases h
  | some i =>
    rw [hi] at h
    have h : i.zero = some z := h
    simp [zeroValue, typeInfo, hi, h]
end Go.Sh
