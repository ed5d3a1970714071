import Derived.Test.YtmfpndffepjcpaaSh1
/- What a world that satisfies a heap satisfies behind a read, a store, a new block, a draw; and forgetting. -/
namespace Go.Sh
open Go.RowKit

def upd (ρ : Env) (n : Nat) (p : Nat × Nat) : Env := fun i => if i = n then p else ρ i
theorem upd_same (ρ : Env) (n : Nat) (p : Nat × Nat) : upd ρ n p n = p := by simp [upd]
theorem upd_other (ρ : Env) {n i : Nat} (p : Nat × Nat) (h : i ≠ n) : upd ρ n p i = ρ i := by simp [upd, h]

section
variable {w0 w : World} {O : Nat → Nat → Prop} {N M : Nat → Prop} {ρ : Env} {H : Hp}

theorem Sat.read (h : Sat w0 O N ρ H w) {i : Nat} {so : SO} (hi : look H i = some so) {j : Nat} {v : Value} (hv : (so.vals ρ)[j]? = some v) :
    w.cell? ⟨(ρ i).1, (ρ i).2 + j, none⟩ = some v := (h.dom i so hi).2.2.cell.1 j v hv

theorem Sat.drew (h : Sat w0 O N ρ H w) : Sat w0 O N ρ H w.drew :=
  ⟨h.os, h.tape, h.output, h.size, fun i so hi => ⟨(h.dom i so hi).1, (h.dom i so hi).2.1, (h.dom i so hi).2.2.1, (h.dom i so hi).2.2.2, (h.dom i so hi).2.2.3, (h.dom i so hi).2.2.4⟩, h.sep, h.blk, h.cell, h.frz, h.fresh, h.dict.mono fun _ _ _ _ => rfl⟩

theorem block_lt {w : World} {b o : Nat} {v : Value} (h : w.cell? ⟨b, o, none⟩ = some v) : b < w.heap.size := World.block_lt_of_cell? w ⟨b, o, none⟩ h

theorem cell_alloc (w : World) (o : Obj) {b k : Nat} (h : b ≠ w.heap.size) : (w.alloc o).cell? ⟨b, k, none⟩ = w.cell? ⟨b, k, none⟩ := World.cell?_alloc_old w o ⟨b, k, none⟩ h
theorem frz_alloc (w : World) (o : Obj) {b k : Nat} (h : b ≠ w.heap.size) : (w.alloc o).frozen? ⟨b, k, none⟩ = w.frozen? ⟨b, k, none⟩ := World.frozen?_alloc_old w o ⟨b, k, none⟩ h

theorem is_alloc {so : SO} {p : Nat × Nat} (h : so.is ρ w p) (o : Obj) : so.is ρ (w.alloc o) p := by
  have hlt : ∀ j, j < so.len → p.1 ≠ w.heap.size := fun j hj => by
    obtain ⟨v, hv⟩ := h.room j hj
    exact Nat.ne_of_lt (block_lt hv)
  refine ⟨⟨fun j v hv => ?_, h.cell.2⟩, fun hw j hj => ?_, fun j hj => ?_, h.fits⟩
  · rw [cell_alloc w o (hlt j (Nat.lt_of_lt_of_le (List.getElem?_eq_some_iff.1 hv).1 h.fits))]; exact h.cell.1 j v hv
  · rw [frz_alloc w o (hlt j hj)]; exact h.free hw j hj
  · rw [cell_alloc w o (hlt j hj)]; exact h.room j hj

theorem SO.vals_agree {ρ' : Env} (hρ : ∀ i, N i → ρ' i = ρ i) {so : SO} (h : so.In N) : so.vals ρ' = so.vals ρ := by
  cases so with
  | cells cs => exact SV.vals_agree hρ cs h
  | row cs => rfl
  | view cs => rfl
  | vec cs c => rfl
  | dict es c => rfl

theorem is_agree {ρ' : Env} (hρ : ∀ i, N i → ρ' i = ρ i) {so : SO} (hn : so.In N) {p : Nat × Nat} (h : so.is ρ w p) : so.is ρ' w p :=
  ⟨by rw [SO.vals_agree hρ hn]; exact h.cell, h.free, h.room, by rw [SO.vals_agree hρ hn]; exact h.fits⟩

theorem SO.In.mono {so : SO} (h : ∀ i, N i → M i) (g : so.In N) : so.In M := by
  cases so <;> first | trivial | exact SV.Ins.mono h _ g

/-- A new block of cells, under a new name. -/
theorem Sat.alloc (h : Sat w0 O N ρ H w) {n : Nat} (hn : ¬ N n) (arr : Array Value) (t : TypeId) {so : SO} (hM : ∀ i, M i ↔ N i ∨ i = n) (hin : so.In M)
    (hv : ∀ (j : Nat) (v : Value), (so.vals (upd ρ n (w.heap.size, 0)))[j]? = some v → arr[j]? = some v) (hone : ∀ v ∈ so.vals (upd ρ n (w.heap.size, 0)), v.oneCell' = true) (hl : so.len ≤ arr.size)
    (hf : (so.vals (upd ρ n (w.heap.size, 0))).length ≤ so.len) (hnd : so.isD = false) :
    Sat w0 O M (upd ρ n (w.heap.size, 0)) ((n, so) :: H) (w.alloc (.cells arr t)) := by
  have hρ : ∀ i, N i → upd ρ n (w.heap.size, 0) i = ρ i := fun i hi => upd_other ρ _ (fun e => hn (e ▸ hi))
  have hNM : ∀ i, N i → M i := fun i hi => (hM i).2 (.inl hi)
  have hdom : ∀ i si, look H i = some si → i ≠ n := fun i si hi e => hn (e ▸ (h.dom i si hi).1)
  have hsz : ∀ i si, look H i = some si → ∀ j, j < si.len → (ρ i).1 < w.heap.size := fun i si hi j hj => by
    obtain ⟨v, hv⟩ := (h.dom i si hi).2.2.room j hj
    exact block_lt hv
  refine ⟨h.os, h.tape, h.output, Nat.le_trans h.size (by simp), fun i si hi => ?_, fun i j si sj hi hj hij hw => ?_, fun k hk hO => ?_, fun k off hk hO => ?_, fun k off hk => ?_, fun i si hi hw j hj => ?_, (h.dict.mono fun i es c hi => Below.heap_alloc w _ _ (dict_lt (h.dict.at_ i es c hi))).cons hnd fun i es c hi hne => upd_other ρ _ hne⟩
  · rw [look_cons] at hi
    by_cases e : n = i
    · rw [if_pos e] at hi
      injection hi with hi
      subst hi
      subst e
      refine ⟨(hM n).2 (.inr rfl), hin, ⟨⟨fun j v hv' => ?_, hone⟩, fun _ j _ => ?_, fun j hj => ?_, hf⟩⟩
      · rw [upd_same]; simp only [Nat.zero_add]; rw [World.cell?_alloc_new]; exact hv j v hv'
      · rw [upd_same]; exact World.frozen?_alloc_new w arr t _
      · rw [upd_same]; simp only [Nat.zero_add]; rw [World.cell?_alloc_new]; exact ⟨_, Array.getElem?_eq_getElem (Nat.lt_of_lt_of_le hj hl)⟩
    · rw [if_neg e] at hi
      obtain ⟨h1, h2, h3⟩ := h.dom i si hi
      refine ⟨hNM i h1, SO.In.mono hNM h2, ?_⟩
      rw [hρ i h1]
      exact is_agree hρ h2 (is_alloc h3 _)
  · rw [look_cons] at hi hj
    by_cases e : n = i
    · rw [if_pos e] at hi
      subst e
      rw [if_neg hij] at hj
      rw [upd_same, hρ j (h.dom j sj hj).1]
      intro k l hk hl g
      have := hsz j sj hj l hl
      simp only at g
      omega
    · rw [if_neg e] at hi
      rw [hρ i (h.dom i si hi).1]
      by_cases e' : n = j
      · rw [if_pos e'] at hj
        subst e'
        rw [upd_same]
        intro k l hk hl g
        have := hsz i si hi k hk
        simp only at g
        omega
      · rw [if_neg e'] at hj
        rw [hρ j (h.dom j sj hj).1]
        exact h.sep i j si sj hi hj hij hw
  · rw [← h.blk k hk hO]
    exact Below.heap_alloc w _ k (Nat.lt_of_lt_of_le hk h.size)
  · rw [cell_alloc w _ (Nat.ne_of_lt (Nat.lt_of_lt_of_le hk h.size))]; exact h.cell k off hk hO
  · rw [frz_alloc w _ (Nat.ne_of_lt (Nat.lt_of_lt_of_le hk h.size))]; exact h.frz k off hk
  · rw [look_cons] at hi
    by_cases e : n = i
    · subst e
      rw [upd_same]
      exact .inr h.size
    · rw [if_neg e] at hi
      rw [hρ i (h.dom i si hi).1]
      exact h.fresh i si hi hw j hj

/-- A store into a cell that may be written. -/
theorem Sat.set1 (h : Sat w0 O N ρ H w) {i : Nat} {so so' : SO} (hi : look H i = some so) (hw : so.wr = true) {d : Nat} (hd : d < so.len) {v : Value}
    (hin : so'.In N) (hl : so'.len = so.len)
    (hv : ∀ (j : Nat) (x : Value), (so'.vals ρ)[j]? = some x → if j = d then x = v else (so.vals ρ)[j]? = some x) (hone : ∀ x ∈ so'.vals ρ, x.oneCell' = true)
    (hf : (so'.vals ρ).length ≤ so'.len) (hnd : so'.isD = false) :
    Sat w0 O N ρ ((i, so') :: H) (w.setCell ⟨(ρ i).1, (ρ i).2 + d, none⟩ v) := by
  have hi' := (h.dom i so hi).2.2
  obtain ⟨u, hu⟩ := hi'.room d hd
  have hother : ∀ b o, (b ≠ (ρ i).1 ∨ o ≠ (ρ i).2 + d) → (w.setCell ⟨(ρ i).1, (ρ i).2 + d, none⟩ v).cell? ⟨b, o, none⟩ = w.cell? ⟨b, o, none⟩ := fun b o hne =>
    World.cell?_setCell_other w ⟨(ρ i).1, (ρ i).2 + d, none⟩ ⟨b, o, none⟩ v (fun e => by
      injection e with e1 e2
      rcases hne with hne | hne
      · exact hne e1.symm
      · exact hne e2.symm)
  have hsame : (w.setCell ⟨(ρ i).1, (ρ i).2 + d, none⟩ v).cell? ⟨(ρ i).1, (ρ i).2 + d, none⟩ = some v := World.cell?_setCell_same w _ v hu
  have hO := h.fresh i so hi hw d hd
  refine ⟨h.os, h.tape, h.output, by simpa using h.size, fun j sj hj => ?_, fun j k sj sk hj hk hjk hwj => ?_, fun k hk hOk => ?_, fun k off hk hOk => ?_, fun k off hk => ?_, fun j sj hj hwj l hl' => ?_, (h.dict.mono fun j es c hj => Below.heap_setCell w _ v _ fun e => (by have e : (ρ j).1 = (ρ i).1 := e; exact dict_cell (e ▸ h.dict.at_ j es c hj) hu)).cons hnd fun _ _ _ _ _ => rfl⟩
  · rw [look_cons] at hj
    by_cases e : i = j
    · rw [if_pos e] at hj
      injection hj with hj
      subst hj; subst e
      refine ⟨(h.dom i so hi).1, hin, ⟨⟨fun j x hx => ?_, hone⟩, fun _ j hj => ?_, fun j hj => ?_, hf⟩⟩
      · have := hv j x hx
        by_cases e : j = d
        · rw [if_pos e] at this
          rw [this, e]; exact hsame
        · rw [if_neg e] at this
          rw [hother _ _ (.inr (by omega))]
          exact hi'.cell.1 j x this
      · rw [World.frozen?_setCell]; exact hi'.free hw j (hl ▸ hj)
      · by_cases e : j = d
        · rw [e]; exact ⟨v, hsame⟩
        · rw [hother _ _ (.inr (by omega))]; exact hi'.room j (hl ▸ hj)
    · rw [if_neg e] at hj
      obtain ⟨h1, h2, h3⟩ := h.dom j sj hj
      have hap := h.sep i j so sj hi hj e hw
      have hne : ∀ l, l < sj.len → ((ρ j).1 ≠ (ρ i).1 ∨ (ρ j).2 + l ≠ (ρ i).2 + d) := fun l hl' => by
        by_cases eb : (ρ i).1 = (ρ j).1
        · exact .inr (fun e => hap d l hd hl' eb e.symm)
        · exact .inl (fun e => eb e.symm)
      refine ⟨h1, h2, ⟨⟨fun l x hx => ?_, h3.cell.2⟩, fun hwj l hl' => ?_, fun l hl' => ?_, h3.fits⟩⟩
      · rw [hother _ _ (hne l (Nat.lt_of_lt_of_le (List.getElem?_eq_some_iff.1 hx).1 h3.fits))]; exact h3.cell.1 l x hx
      · rw [World.frozen?_setCell]; exact h3.free hwj l hl'
      · rw [hother _ _ (hne l hl')]; exact h3.room l hl'
  · rw [look_cons] at hj hk
    by_cases e : i = j
    · rw [if_pos e] at hj
      injection hj with hj
      subst hj; subst e
      rw [if_neg hjk] at hk
      rw [hl]
      exact h.sep i k so sk hi hk hjk hw
    · rw [if_neg e] at hj
      by_cases e' : i = k
      · rw [if_pos e'] at hk
        injection hk with hk
        subst hk; subst e'
        rw [hl]
        exact h.sep j i sj so hj hi hjk hwj
      · rw [if_neg e'] at hk
        exact h.sep j k sj sk hj hk hjk hwj
  · rw [← h.blk k hk hOk]
    refine Below.heap_setCell w _ v k (fun e => ?_)
    subst e
    rcases hO with hO | hO
    · exact hOk _ hO
    · simp only at hk; omega
  · rw [← h.cell k off hk hOk]
    refine hother _ _ ?_
    rcases hO with hO | hO
    · by_cases e : k = (ρ i).1
      · subst e
        exact .inr (fun e => hOk (e ▸ hO))
      · exact .inl e
    · exact .inl (by omega)
  · rw [World.frozen?_setCell]; exact h.frz k off hk
  · rw [look_cons] at hj
    by_cases e : i = j
    · rw [if_pos e] at hj
      injection hj with hj
      subst hj; subst e
      exact h.fresh i so hi hw l (hl ▸ hl')
    · rw [if_neg e] at hj
      exact h.fresh j sj hj hwj l hl'

/-- Forgetting. -/
theorem Sat.weaken (h : Sat w0 O N ρ H w) {H1 : Hp} (hs : ∀ i so, look H1 i = some so → look H i = some so) (hM : ∀ i so, look H1 i = some so → M i ∧ so.In M) : Sat w0 O M ρ H1 w :=
  ⟨h.os, h.tape, h.output, h.size, fun i so hi => ⟨(hM i so hi).1, (hM i so hi).2, (h.dom i so (hs i so hi)).2.2⟩,
    fun i j si sj hi hj hij hw => h.sep i j si sj (hs i si hi) (hs j sj hj) hij hw, h.blk, h.cell, h.frz, fun i so hi hw => h.fresh i so (hs i so hi) hw, h.dict.sub hs⟩

end
end Go.Sh
