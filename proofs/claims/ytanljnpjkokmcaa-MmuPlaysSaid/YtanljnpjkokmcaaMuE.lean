import Derived.Test.YtanljnpjkokmcaaMuD
set_option linter.unusedVariables false
namespace Go.Sh.Ytanljnpjkokmcaa
open Go.Proofs Go.Sh

structure MInv (va : Nat) (ni : Int) (a : Nat) (s : Nat → List Ln) (b : Nat → Nat) (X : Ent) : Prop where
  okS : okT s
  okb : okB b
  ent : entOf (rdN b a 8) = X
  walk : walkF b 8 0 va = if badS 8 X 0 = true then none else some (X, a)
  find : ∀ l, (s (q4 ni)).find? (isP 0 ni) = some l → l.e = X
  okx : okE X
  small : X.fr < 64
theorem find_drop (ni : Int) (L : List Ln) : (L.filter fun x => !isP 0 ni x).find? (isP 0 ni) = none := by
  rw [List.find?_eq_none]
  intro x hx
  have := (List.mem_filter.1 hx).2
  simpa using this
theorem find_put (ni : Int) (L : List Ln) (e : Ent) (a : Int) (x : Ln) (h : (putL (L.filter fun x => !isP 0 ni x) ⟨0, ni, e, a⟩).find? (isP 0 ni) = some x) : x.e = e := by
  have hp := List.find?_some h
  have hm := List.mem_of_find?_eq_some h
  unfold putL at hm
  rcases List.mem_append.1 hm with g | g
  · have g2 : x ∈ L.filter fun x => !isP 0 ni x := by
      split at g
      · exact List.mem_of_mem_drop g
      · exact g
    have := (List.mem_filter.1 g2).2
    rw [hp] at this; simp at this
  · simp only [List.mem_singleton] at g
    rw [g]
def nextE (X : Ent) (k : Int) (tg : Bool) : Except Int Ent → Ent
  | .ok _ => markE X k tg
  | .error _ => X
theorem wk_inv {va : Nat} {ni : Int} {a : Nat} {s : Nat → List Ln} {b : Nat → Nat} {X : Ent} {k : Int} {tg gen : Bool} {y : TrY} (hni : ((va / 4096 : Nat) : Int) = ni) (h : MInv va ni a s b X) (ok : okT y.1) (hw : WkR s b 0 0 gen va k tg y) : MInv va ni a y.1 y.2.1 (nextE X k tg y.2.2) ∧ (∀ n, y.2.2 = .error n → n ≠ 0) := by
  unfold WkR at hw
  rw [h.walk, hni] at hw
  by_cases hb : badS 8 X 0 = true
  · rw [if_pos hb] at hw
    obtain ⟨s', b', r⟩ := y
    simp only [Prod.mk.injEq] at hw
    obtain ⟨h1, h2, h3⟩ := hw
    subst h1 h2 h3
    refine ⟨⟨ok, h.okb, h.ent, h.walk, fun l hl => ?_, h.okx, h.small⟩, fun n hn => by cases hn; decide⟩
    have hl : (fset s (q4 ni) ((s (q4 ni)).filter fun x => !isP 0 ni x) (q4 ni)).find? (isP 0 ni) = some l := hl
    rw [fset_same, find_drop] at hl
    cases hl
  · rw [if_neg hb] at hw
    have hb' : badS 8 X 0 = false := by simpa using hb
    obtain ⟨hlf, hrt, hfr, hxv⟩ := good_of hb'
    by_cases hc : chkE X k tg gen = 0
    · obtain ⟨fl, hf, hy⟩ := hw.2 hc
      have hmr : rightB (markE X k tg) = rightB X := mark_right k tg hlf
      have hcut : cutE (markE X k tg) = markE X k tg := cut_small h.okx.1 h.small
      have hbm : badS 8 (markE X k tg) 0 = badS 8 X 0 := badS_same (x := X) (e := markE X k tg) rfl rfl hmr rfl 0
      have hwk := h.walk
      rw [if_neg hb] at hwk
      obtain ⟨s', b', r⟩ := y
      simp only [Prod.mk.injEq] at hy
      obtain ⟨h1, h2, h3⟩ := hy
      subst h1 h2 h3
      refine ⟨⟨ok, ?_, ?_, ?_, fun l hl => ?_, h.okx, h.small⟩, fun n hn => by cases hn⟩
      · cases fl
        · exact h.okb
        · exact stB_ok h.okb _ _ _
      · cases fl
        · show entOf (rdN b a 8) = markE X k tg
          rw [hf.1 rfl]; exact h.ent
        · show entOf (rdN (stB b a (entW (markE X k tg)) 8) a 8) = markE X k tg
          rw [rd_st _ _ _ (Nat.le_refl 8), Nat.mod_eq_of_lt (entW_lt _), entOf_entW]; exact hcut
      · show walkF (mkB b a (markE X k tg) fl) 8 0 va = if badS 8 (markE X k tg) 0 = true then none else some (markE X k tg, a)
        rw [hbm, if_neg hb]
        cases fl
        · show walkF b 8 0 va = _
          rw [hf.1 rfl]; exact hwk
        · exact walk_mark (x := X) (e := markE X k tg) rfl rfl hmr rfl hcut hwk
      · have hl : (fset s (q4 ni) (putL ((s (q4 ni)).filter fun x => !isP 0 ni x) ⟨0, ni, markE X k tg, (a : Int)⟩) (q4 ni)).find? (isP 0 ni) = some l := hl
        rw [fset_same] at hl
        exact find_put _ _ _ _ _ hl
    · have hy := hw.1 hc
      obtain ⟨s', b', r⟩ := y
      simp only [Prod.mk.injEq] at hy
      obtain ⟨h1, h2, h3⟩ := hy
      subst h1 h2 h3
      exact ⟨⟨ok, h.okb, h.ent, h.walk, h.find, h.okx, h.small⟩, fun n hn => by cases hn; exact hc⟩
theorem tr_inv {va : Nat} {ni : Int} {a : Nat} {s : Nat → List Ln} {b : Nat → Nat} {X : Ent} {k : Int} {tg gen : Bool} {y : TrY} (hva : va < 274877906944) (hni : ((va / 4096 : Nat) : Int) = ni) (h : MInv va ni a s b X) (ok : okT y.1) (ht : TrR s b 0 0 gen va k tg y) : MInv va ni a y.1 y.2.1 (nextE X k tg y.2.2) ∧ (∀ n, y.2.2 = .error n → n ≠ 0) := by
  have h1 := ht.2 hva
  rw [hni] at h1
  have hfi := h.find
  change (match (s (q4 ni)).find? (isP 0 ni) with
    | none => WkR s b 0 0 gen va k tg y
    | some l => (chkE l.e k tg gen ≠ 0 → y = (s, b, .error (chkE l.e k tg gen))) ∧ (chkE l.e k tg gen = 0 → (markE l.e k tg = l.e → y = (s, b, .ok l.e)) ∧ (markE l.e k tg ≠ l.e → WkR s b 0 0 gen va k tg y))) at h1
  generalize (s (q4 ni)).find? (isP 0 ni) = o at h1 hfi
  rcases o with _ | l
  · exact wk_inv hni h ok h1
  · have hx : l.e = X := hfi l rfl
    obtain ⟨h2, h3⟩ := h1
    rw [hx] at h2 h3
    by_cases hc : chkE X k tg gen = 0
    · by_cases hm : markE X k tg = X
      · have hy := (h3 hc).1 hm
        obtain ⟨s', b', r⟩ := y
        simp only [Prod.mk.injEq] at hy
        obtain ⟨e1, e2, e3⟩ := hy
        subst e1 e2 e3
        refine ⟨?_, fun n hn => by cases hn⟩
        show MInv va ni a _ _ (markE X k tg)
        rw [hm]; exact h
      · exact wk_inv hni h ok ((h3 hc).2 hm)
    · have hy := h2 hc
      obtain ⟨s', b', r⟩ := y
      simp only [Prod.mk.injEq] at hy
      obtain ⟨e1, e2, e3⟩ := hy
      subst e1 e2 e3
      exact ⟨h, fun n hn => by cases hn; exact hc⟩
end Go.Sh.Ytanljnpjkokmcaa
