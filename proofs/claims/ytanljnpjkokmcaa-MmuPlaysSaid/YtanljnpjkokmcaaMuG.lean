import Derived.Test.YtanljnpjkokmcaaMuE
import Derived.Test.YtanljnpjkokmcaaMB
set_option linter.unusedVariables false
namespace Go.Sh.Ytanljnpjkokmcaa
open Go.Proofs Go.Sh

theorem tr_hit {s : Nat → List Ln} {b : Nat → Nat} {root asid va : Nat} {gen tg : Bool} {k ni : Int} {y : TrY} {l : Ln} (hva : va < 274877906944) (hni : ((va / 4096 : Nat) : Int) = ni) (hf : (s (q4 ni)).find? (isP (asid : Int) ni) = some l) (hc : chkE l.e k tg gen = 0) (hm : markE l.e k tg = l.e) (h : TrR s b root asid gen va k tg y) : y = (s, b, .ok l.e) := by
  have h1 := h.2 hva
  rw [hni] at h1
  change (match (s (q4 ni)).find? (isP (asid : Int) ni) with
    | none => WkR s b root asid gen va k tg y
    | some l => (chkE l.e k tg gen ≠ 0 → y = (s, b, .error (chkE l.e k tg gen))) ∧ (chkE l.e k tg gen = 0 → (markE l.e k tg = l.e → y = (s, b, .ok l.e)) ∧ (markE l.e k tg ≠ l.e → WkR s b root asid gen va k tg y))) at h1
  rw [hf] at h1
  exact (h1.2 hc).1 hm
theorem tr_miss {s : Nat → List Ln} {b : Nat → Nat} {root asid va a : Nat} {gen tg : Bool} {k ni : Int} {y : TrY} {x : Ent} (hva : va < 274877906944) (hni : ((va / 4096 : Nat) : Int) = ni) (hf : (s (q4 ni)).find? (isP (asid : Int) ni) = none) (hw : walkF b 8 root va = some (x, a)) (hc : chkE x k tg gen = 0) (h : TrR s b root asid gen va k tg y) : ∃ fl, (fl = false ↔ markE x k tg = x) ∧ y = (putS s ⟨(asid : Int), ni, markE x k tg, (a : Int)⟩, mkB b a (markE x k tg) fl, .ok (markE x k tg)) := by
  have h1 := h.2 hva
  rw [hni] at h1
  change (match (s (q4 ni)).find? (isP (asid : Int) ni) with
    | none => WkR s b root asid gen va k tg y
    | some l => (chkE l.e k tg gen ≠ 0 → y = (s, b, .error (chkE l.e k tg gen))) ∧ (chkE l.e k tg gen = 0 → (markE l.e k tg = l.e → y = (s, b, .ok l.e)) ∧ (markE l.e k tg ≠ l.e → WkR s b root asid gen va k tg y))) at h1
  rw [hf] at h1
  have h2 : WkR s b root asid gen va k tg y := h1
  unfold WkR at h2
  rw [hw, hni] at h2
  exact h2.2 hc
def E6 : Ent := ⟨true, true, false, false, true, false, false, false, false, false, false, false, 6⟩
def M6 : Ent := markE E6 1 false
theorem om6 : M6 ≠ E6 := fun h => by have := congrArg Ent.a h; cases this
/-- The tables lead to the lowest one. -/
def lowT (b : Nat → Nat) : Prop := okB b ∧ entOf (rdN b 0 8) = eT 1 ∧ entOf (rdN b 4096 8) = eT 2
theorem lowT_base : lowT (memL baseL) := ⟨memL_ok _, by
  have := base_ents []
  rw [List.nil_append] at this
  exact this⟩
theorem lowT_st {b : Nat → Nat} (h : lowT b) (n v : Nat) : lowT (stB b (8192 + n * 8) v 8) := ⟨stB_ok h.1 _ _ _, st_ents h.2.1 h.2.2⟩
theorem lowT_walk {b : Nat → Nat} (h : lowT b) {n : Nat} (hn : n < 512) (e : Ent) (he : cutE e = e) (hb : badS 8 e 0 = false) : walkF (stB b (8192 + n * 8) (entW e) 8) 8 0 (n * 4096) = some (e, 8192 + n * 8) := by
  rw [walk_low (lowT_st h n _).2.1 (lowT_st h n _).2.2 hn, leaf_own, he, hb]
  rfl
end Go.Sh.Ytanljnpjkokmcaa
