import Derived.Test.YtkopfaenfaelfaaSh20
/- Functions that hand back blocks of their own. -/
set_option linter.unusedVariables false
namespace Go.Sh
open Go.RowKit

/-- Names of numbers (a slice's room). -/
def ghost (g : Nat → Option Nat) (ρ : Env) : Env := fun i => match g i with | some c => (0, c) | none => ρ i

def closedH : Hp → Bool
  | [] => true
  | (_, so) :: r => so.ok 0 && (so.wr && closedH r)
theorem closedH_out : ∀ {H : Hp}, closedH H = true → ∀ i so, look H i = some so → so.ok 0 = true ∧ so.wr = true
  | [], _, i, so, h => by cases h
  | (k, x) :: r, h, i, so, hi => by
    rw [closedH, Bool.and_eq_true, Bool.and_eq_true] at h
    rw [look_cons] at hi
    split at hi
    · injection hi with hi; subst hi; exact ⟨h.1, h.2.1⟩
    · exact closedH_out h.2.2 i so hi
theorem SO.closed_vals {so : SO} (h : so.ok 0 = true) (ρ ρ' : Env) : so.vals ρ = so.vals ρ' := by
  cases so <;> first | rfl | exact (Go.Sh.closed_vals h ρ).trans (Go.Sh.closed_vals h ρ').symm

/-- The contract: the objects 'objs' (names below m) are new; r: what is handed back. -/
def Makes (P : Program) (f : FuncId) (args : List SV) (r : SV) (objs : Hp) (m : Nat) : Prop :=
  Spec P f args [] 0 fun v H' u' => ∃ (τ : Nat → Nat × Nat) (g : Nat → Option Nat), (∀ i so, look objs i = some so → g i = none) ∧ Part objs m τ H' ∧ ∀ ρ, v.val ρ = r.val (ghost g (via ρ τ))

/-- Two heaps, the second's rows all new. -/
theorem Sat.merge {w0 w w' : World} {O : Nat → Nat → Prop} {N : Nat → Prop} {ρ ρo ρ2 : Env} {H objs : Hp} {u m : Nat} (h0 : Sat w0 O N ρ H w) (h : Sat w0 O N ρ H w') (ho : Sat w (fun _ _ => False) (· < m) ρo objs w') (hc : closedH objs = true)
    (hn : ∀ i, u ≤ i → i < u + m → ¬ N i) (e1 : ∀ i, N i → ρ2 i = ρ i) (e2 : ∀ i so, look objs i = some so → ρ2 (u + i) = ρo i) : Sat w0 O (Ext N u m) ρ2 (shH u objs ++ H) w' := by
  have row : ∀ i so, look (shH u objs ++ H) i = some so → (∃ k s, i = u + k ∧ k < m ∧ look objs k = some s ∧ so = s.sh u ∧ so.len = s.len ∧ so.wr = true ∧ s.wr = true ∧ so.vals ρ2 = s.vals ρo ∧ ρ2 i = ρo k) ∨ (N i ∧ look H i = some so ∧ ρ2 i = ρ i) := fun i so hi => by
    rw [look_append, look_shH] at hi
    by_cases hu : u ≤ i
    · rw [if_pos hu] at hi
      cases hk : look objs (i - u) with
      | some s =>
        rw [hk] at hi
        injection hi with hi
        obtain ⟨q1, q2⟩ := closedH_out hc _ _ hk
        have e : u + (i - u) = i := by omega
        refine .inl ⟨i - u, s, by omega, (ho.dom _ _ hk).1, hk, hi.symm, ?_, ?_, q2, ?_, ?_⟩
        · rw [← hi, SO.sh_len]
        · rw [← hi, SO.sh_wr]; exact q2
        · rw [← hi, SO.sh_vals]; exact SO.closed_vals q1 _ _
        · have := e2 _ _ hk; rw [e] at this; exact this
      | none =>
        rw [hk] at hi
        have hi' : look H i = some so := by simpa using hi
        exact .inr ⟨(h.dom i so hi').1, hi', e1 i (h.dom i so hi').1⟩
    · rw [if_neg hu] at hi
      have hi' : look H i = some so := by simpa using hi
      exact .inr ⟨(h.dom i so hi').1, hi', e1 i (h.dom i so hi').1⟩
  have old : ∀ i so, look H i = some so → ∀ j, j < so.len → (ρ i).1 < w.heap.size := fun i so hi j hj => by
    obtain ⟨v, hv⟩ := (h0.dom i so hi).2.2.room j hj
    exact block_lt hv
  have new : ∀ k s, look objs k = some s → s.wr = true → ∀ j, j < s.len → w.heap.size ≤ (ρo k).1 := fun k s hk hw j hj => (ho.fresh k s hk hw j hj).resolve_left (fun e => e)
  refine ⟨h.os, h.tape, h.output, h.size, fun i so hi => ?_, fun i j si sj hi hj hij hw => ?_, h.blk, h.cell, h.frz, fun i so hi hw j hj => ?_, ?_⟩
  rotate_right
  · have drow : ∀ i es c, look (shH u objs ++ H) i = some (.dict es c) → (∃ k, i = u + k ∧ look objs k = some (.dict es c) ∧ ρ2 i = ρo k) ∨ (look H i = some (.dict es c) ∧ ρ2 i = ρ i) := fun i es c hi => by
      rcases row i _ hi with ⟨k, s, h1, hk, hl, h2, hlen, hw, hw', hv, he⟩ | ⟨hN, hl, he⟩
      · refine .inl ⟨k, h1, ?_, he⟩
        cases s <;> cases h2
        exact hl
      · exact .inr ⟨hl, he⟩
    have hnew : ∀ k es c, look objs k = some (.dict es c) → w.heap.size ≤ (ρo k).1 := fun k es c hk => (ho.dict.own k es c hk).resolve_left fun g => g 0
    refine ⟨fun i es c hi => ?_, fun i es c hi => ?_, fun i j ei ci ej cj hi hj hij => ?_⟩
    · rcases drow i es c hi with ⟨k, _, hk, he⟩ | ⟨hk, he⟩
      · rw [he]; exact ho.dict.at_ k es c hk
      · rw [he]; exact h.dict.at_ i es c hk
    · rcases drow i es c hi with ⟨k, _, hk, he⟩ | ⟨hk, he⟩
      · rw [he]; exact .inr (Nat.le_trans h0.size (hnew k es c hk))
      · rw [he]; exact h.dict.own i es c hk
    · rcases drow i ei ci hi with ⟨k, e1, hk, he⟩ | ⟨hk, he⟩
      · rcases drow j ej cj hj with ⟨k', e2, hk', he'⟩ | ⟨hk', he'⟩
        · rw [he, he']; exact ho.dict.sep k k' ei ci ej cj hk hk' (by omega)
        · rw [he, he']
          have := hnew k ei ci hk
          have := dict_lt (h0.dict.at_ j ej cj hk')
          omega
      · rcases drow j ej cj hj with ⟨k', e2, hk', he'⟩ | ⟨hk', he'⟩
        · rw [he, he']
          have := hnew k' ej cj hk'
          have := dict_lt (h0.dict.at_ i ei ci hk)
          omega
        · rw [he, he']; exact h.dict.sep i j ei ci ej cj hk hk' hij
  · rcases row i so hi with ⟨k, s, rfl, hk, hl, rfl, hlen, hw, hw', hv, he⟩ | ⟨hN, hl, he⟩
    · have q := (ho.dom k s hl).2.2
      refine ⟨.inr ⟨by omega, by omega⟩, ?_, ⟨?_, fun _ j hj => ?_, fun j hj => ?_, ?_⟩⟩
      · refine (SO.sh_In u _ s).2 ?_
        exact SO.In.mono (fun i hi => .inr ⟨by omega, by have : i < 0 := hi; omega⟩) (SO.In_of_ok (closedH_out hc k s hl).1)
      · rw [hv, he]; exact q.cell
      · rw [he]; exact q.free hw' j (hlen ▸ hj)
      · rw [he]; exact q.room j (hlen ▸ hj)
      · rw [hv, hlen]; exact q.fits
    · obtain ⟨q1, q2, q3⟩ := h.dom i so hl
      refine ⟨.inl hN, SO.In.mono (fun i hi => .inl hi) q2, ?_⟩
      rw [he]
      exact is_agree e1 q2 q3
  · rcases row i si hi with ⟨k, s, rfl, hk, hl, rfl, hlen, hwi, hw', hv, he⟩ | ⟨hN, hl, he⟩
    · rcases row j sj hj with ⟨k', s', rfl, hk', hl', rfl, hlen', hwj, hw'', hv', he'⟩ | ⟨hN', hl', he'⟩
      · rw [he, he', hlen, hlen']
        exact ho.sep k k' s s' hl hl' (fun e => hij (by rw [e])) hw'
      · rw [he, he', hlen]
        intro p q hp hq e
        have a := new k s hl hw' p hp
        have b := old j sj hl' q hq
        omega
    · rcases row j sj hj with ⟨k', s', rfl, hk', hl', rfl, hlen', hwj, hw'', hv', he'⟩ | ⟨hN', hl', he'⟩
      · rw [he, he', hlen']
        intro p q hp hq e
        have a := new k' s' hl' hw'' q hq
        have b := old i si hl p hp
        omega
      · rw [he, he']
        exact h.sep i j si sj hl hl' hij hw
  · rcases row i so hi with ⟨k, s, rfl, hk, hl, rfl, hlen, hwi, hw', hv, he⟩ | ⟨hN, hl, he⟩
    · rw [he]
      exact .inr (Nat.le_trans h0.size (new k s hl hw' j (hlen ▸ hj)))
    · rw [he]
      exact h.fresh i so hl hw j hj

theorem Makes.qspec {P : Program} {f : FuncId} {args args0 : List SV} {r : SV} {objs : Hp} {m : Nat} {H : Hp} {u0 u : Nat} (h : Makes P f args0 r objs m) (ha : SV.oks 0 args0 = true) (hr : r.ok m = true) (hc : closedH objs = true) (hm : ∀ i so, look objs i = some so → i < m) (he : ∀ ρ, SV.vals ρ args = SV.vals ρ args0) :
    QSpec P f args H u0 u (.fresh r objs m) := by
  refine ⟨by simp, fun i so hi => ?_, h.ent, fun w0 O N ρ w H2 hb hl hs hin hn => ?_⟩
  · simp only [Out.H, look_shH] at hi
    split at hi
    · rename_i hu
      cases hk : look objs (i - u) with
      | some s => exact ⟨hu, by have := hm _ _ hk; simp only [Out.m]; omega⟩
      | none => rw [hk] at hi; cases hi
    · cases hi
  · rw [he]
    refine (h.sem w _ ρ w (Sat.none w ρ) (closed_Ins ha _)).mono ?_
    rintro e w' ⟨v, H', u', ρ', rfl, h1, h2, h3, h4, τ, g, hg, hp, hv⟩
    have hn' : ∀ i, u ≤ i → i < u + m → ¬ N i := hn
    have ho : Sat w (fun _ _ => False) (· < m) (via ρ' τ) objs w' := hp.sat0 h4
    have hN : ∀ i, N i → ¬ (u ≤ i ∧ i < u + m) := fun i hi hh => hn' i hh.1 hh.2 hi
    let ρ2 : Env := fun k => if u ≤ k ∧ k < u + m then ghost g (via ρ' τ) (k - u) else ρ k
    have e1 : ∀ i, N i → ρ2 i = ρ i := fun i hi => if_neg (hN i hi)
    have e2 : ∀ i, i < m → ρ2 (u + i) = ghost g (via ρ' τ) i := fun i hi => by
      show (if _ then _ else _) = _
      rw [if_pos ⟨by omega, by omega⟩, Nat.add_sub_cancel_left]
    refine ⟨ρ2, e1, ?_, ?_, hs.merge (hs.later h4) ho hc hn' e1 fun i so hi => ?_⟩
    · simp only [Out.v]
      rw [hv ρ', SV.sh_val]
      congr 1
      exact SV.val_agree (N := (· < m)) (fun i hi => (e2 i hi).symm) r (SV.In_of_ok r hr)
    · simp only [Out.v]
      exact (SV.sh_In u _ r).2 (SV.In.mono (fun i hi => .inr ⟨by omega, by have : i < m := hi; simp only [Out.m]; omega⟩) r (SV.In_of_ok r hr))
    · rw [e2 i (hm i so hi)]
      simp only [ghost, hg i so hi]

theorem QCallL.makes {P : Program} {f : FuncId} {args args0 : List SV} {r : SV} {objs : Hp} {m : Nat} {H : Hp} {u0 u : Nat} {K : Out → Prop} (h : Makes P f args0 r objs m) (ha : SV.oks 0 args0 = true) (hr : r.ok m = true) (hc : closedH objs = true) (hm : ∀ i so, look objs i = some so → i < m) (he : ∀ ρ, SV.vals ρ args = SV.vals ρ args0)
    (k : K (.fresh r objs m)) : QCallL P f args H u0 u K := ⟨_, k, h.qspec ha hr hc hm he⟩

theorem Ext_lt (u m : Nat) : Ext (· < u) u m = (· < u + m) := by
  funext i
  exact propext ⟨fun h => h.elim (fun h => Nat.lt_of_lt_of_le h (Nat.le_add_right u m)) (fun h => h.2), fun h => (Nat.lt_or_ge i u).elim .inl (fun g => .inr ⟨g, h⟩)⟩

theorem Spec.makes {P : Program} {f : FuncId} {args args0 : List SV} {r : SV} {objs : Hp} {m : Nat} {H : Hp} {u : Nat} {K : SV → Hp → Nat → Prop} (h : Makes P f args0 r objs m) (ha : SV.oks 0 args0 = true) (hr : r.ok m = true) (hc : closedH objs = true) (hm : ∀ i so, look objs i = some so → i < m) (he : ∀ ρ, SV.vals ρ args = SV.vals ρ args0)
    (k : K (r.sh u) (shH u objs ++ H) (u + m)) : Spec P f args H u K := by
  have q := h.qspec (H := H) (u0 := u) (u := u) ha hr hc hm he
  refine ⟨h.ent, fun w0 O ρ w hs hin => ?_⟩
  refine (q.sem w0 O (· < u) ρ w H (fun i hi => hi) (fun i so hi _ => hi) hs hin (fun i h1 h2 => by omega)).mono ?_
  rintro e w' ⟨ρ', h1, rfl, h2, h3⟩
  simp only [Out.m, Ext_lt] at h2 h3
  exact ⟨r.sh u, shH u objs ++ H, u + m, ρ', rfl, Nat.le_add_right _ _, h1, h2, h3, k⟩

/-! ### A heap, row by row the same under other names -/
def rowH (u0 : Nat) (τ : Nat → Nat × Nat) (H : Hp) (i : Nat) (so : SO) : Prop := match so with
  | .dict es c => i < u0 ∧ (τ i).2 = 0 ∧ ∃ k', look H (τ i).1 = some (.dict k' c) ∧ k'.cov es
  | so => i < u0 ∧ so.ok u0 = true ∧ (τ i).2 = 0 ∧ ∃ sc, look H (τ i).1 = some sc ∧ (∀ ρ, so.vals (via ρ τ) = sc.vals ρ) ∧ so.len ≤ sc.len ∧ (∀ ρ, (so.vals ρ).length ≤ so.len) ∧ (so.wr = true → sc.wr = true)
def sameH (u0 : Nat) (τ : Nat → Nat × Nat) (H : Hp) : Hp → Prop
  | [] => True
  | (i, so) :: r => rowH u0 τ H i so ∧ sameH u0 τ H r
theorem rowH_out {u0 : Nat} {τ : Nat → Nat × Nat} {H : Hp} {i : Nat} {so : SO} (h : rowH u0 τ H i so) : (i < u0 ∧ so.In (· < u0) ∧ ∃ sc, Lies H (τ i) so τ sc) ∧ ∀ es c, so = .dict es c → (τ i).2 = 0 ∧ ∃ k', look H (τ i).1 = some (.dict k' c) ∧ k'.cov es := by
  have key : so.isD = false → (i < u0 ∧ so.ok u0 = true ∧ (τ i).2 = 0 ∧ ∃ sc, look H (τ i).1 = some sc ∧ (∀ ρ, so.vals (via ρ τ) = sc.vals ρ) ∧ so.len ≤ sc.len ∧ (∀ ρ, (so.vals ρ).length ≤ so.len) ∧ (so.wr = true → sc.wr = true)) := fun hd => by
    cases so with
    | dict es c => cases hd
    | cells cs => exact h
    | row cs => exact h
    | view cs => exact h
    | vec cs c => exact h
  cases hd : so.isD with
  | false =>
    obtain ⟨h1, h2, h3, sc, h4, h5, h6, h7, h8⟩ := key hd
    exact ⟨⟨h1, SO.In_of_ok h2, sc, h4, fun ρ j v hv => by rw [h3, Nat.zero_add, ← h5]; exact hv, by rw [h3]; omega, h7, h8⟩, fun es c e => by subst e; cases hd⟩
  | true =>
    cases so with
    | dict es c =>
      obtain ⟨h1, h3, k', h2, h4⟩ := (h : i < u0 ∧ (τ i).2 = 0 ∧ ∃ k', look H (τ i).1 = some (.dict k' c) ∧ k'.cov es)
      exact ⟨⟨h1, trivial, _, h2, fun ρ j v hv => by simp [SO.vals] at hv, by rw [h3]; exact Nat.le_refl _, fun ρ => Nat.le_refl _, fun _ => rfl⟩, fun es' c' e => by injection e with e1 e2; subst e1; subst e2; exact ⟨h3, k', h2, h4⟩⟩
    | _ => cases hd
theorem sameH_all {u0 : Nat} {τ : Nat → Nat × Nat} {H : Hp} : ∀ {H0 : Hp}, sameH u0 τ H H0 → ∀ i so, look H0 i = some so → rowH u0 τ H i so
  | [], _, i, so, h => by cases h
  | (k, x) :: r, h, i, so, hi => by
    rw [look_cons] at hi
    split at hi
    · rename_i e
      injection hi with hi
      subst hi; subst e
      exact h.1
    · exact sameH_all h.2 i so hi
theorem sameH_out {u0 : Nat} {τ : Nat → Nat × Nat} {H H0 : Hp} (h : sameH u0 τ H H0) (i : Nat) (so : SO) (hi : look H0 i = some so) : i < u0 ∧ so.In (· < u0) ∧ ∃ sc, Lies H (τ i) so τ sc := (rowH_out (sameH_all h i so hi)).1
theorem sameH_dict {u0 : Nat} {τ : Nat → Nat × Nat} {H H0 : Hp} (h : sameH u0 τ H H0) (i : Nat) (es : DK) (c : Nat) (hi : look H0 i = some (.dict es c)) : (τ i).2 = 0 ∧ ∃ k', look H (τ i).1 = some (.dict k' c) ∧ k'.cov es := (rowH_out (sameH_all h i _ hi)).2 es c rfl
theorem Part.same {u0 : Nat} {τ : Nat → Nat × Nat} {H H0 : Hp} (h : sameH u0 τ H H0) (inj : ∀ i j, i < u0 → j < u0 → i ≠ j → (τ i).1 ≠ (τ j).1) : Part H0 u0 τ H :=
  ⟨sameH_out h, fun i j si sj hi hj hij _ => inj i j (sameH_out h i si hi).1 (sameH_out h j sj hj).1 hij, sameH_dict h⟩
/-- One name led elsewhere. -/
def to1 (n t : Nat) : Nat → Nat × Nat := fun k => if k = n then (t, 0) else (k, 0)
theorem to1_low {n t u : Nat} (h : u ≤ n) : ∀ k, k < u → to1 n t k = (k, 0) := fun k hk => if_neg (by omega)
theorem to1_inj {n t u0 : Nat} (h : t = n ∨ u0 ≤ t) : ∀ i j, i < u0 → j < u0 → i ≠ j → (to1 n t i).1 ≠ (to1 n t j).1 := fun i j hi hj hij => by
  unfold to1
  split <;> split <;> simp only <;> omega
end Go.Sh
