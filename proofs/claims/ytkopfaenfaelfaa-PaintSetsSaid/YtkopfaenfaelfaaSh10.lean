import Derived.Test.YtkopfaenfaelfaaSh9
import Derived.Scope
/- Code: the evaluator 'swp', and that it is sound. -/
set_option linter.unusedVariables false
namespace Go.Sh
open Go.RowKit

inductive SE where
  | normal
  | exit (id : Nat)
  | ret

/-- What is known of a frame and a world. -/
structure St (n : Nat) (w0 : World) (O : Nat → Nat → Prop) (u : Nat) (ρ : Env) (F : Fr) (H : Hp) (a : Act) (w : World) : Prop where
  size : a.tmps.size = n
  defers : a.defers = []
  fr : FOk (· < u) ρ F a
  sat : Sat w0 O (· < u) ρ H w

def SE.of : Exit → Option SE
  | .normal => some .normal
  | .exit id => some (.exit id)
  | .ret => some .ret
  | _ => none

/-- The Lean side of a post: where a piece of code leaves, something is known of frame and heap. -/
def Post (n : Nat) (w0 : World) (O : Nat → Nat → Prop) (u0 : Nat) (ρ0 : Env) (Q : SE → Fr → Hp → Nat → Prop) (e : Exit) (a : Act) (w : World) : Prop :=
  ∃ se F H u ρ, SE.of e = some se ∧ u0 ≤ u ∧ (∀ i, i < u0 → ρ i = ρ0 i) ∧ St n w0 O u ρ F H a w ∧ Q se F H u

def CodeSem (P : Program) (n : Nat) (c : Code) (F : Fr) (H : Hp) (u : Nat) (Q : SE → Fr → Hp → Nat → Prop) : Prop :=
  ∀ w0 O ρ a w, St n w0 O u ρ F H a w → Code.wp P c (Post n w0 O u ρ Q) a w

/-- What is left to the prover, where the evaluator stops at a piece of code: a loop, a region that draws its order. -/
structure CodeL (P : Program) (n : Nat) (c : Code) (F : Fr) (H : Hp) (u : Nat) (Q : SE → Fr → Hp → Nat → Prop) : Prop where
  sem : CodeSem P n c F H u Q

theorem Post.base {n : Nat} {w0 : World} {O : Nat → Nat → Prop} {u0 u1 : Nat} {ρ0 ρ1 : Env} {Q : SE → Fr → Hp → Nat → Prop} (h : u0 ≤ u1) (hρ : ∀ i, i < u0 → ρ1 i = ρ0 i) {e : Exit} {a : Act} {w : World}
    (p : Post n w0 O u1 ρ1 Q e a w) : Post n w0 O u0 ρ0 Q e a w := by
  obtain ⟨se, F, H, u, ρ, h1, h2, h3, h4, h5⟩ := p
  exact ⟨se, F, H, u, ρ, h1, Nat.le_trans h h2, fun i hi => (h3 i (Nat.lt_of_lt_of_le hi h)).trans (hρ i hi), h4, h5⟩

theorem Post.mono {n : Nat} {w0 : World} {O : Nat → Nat → Prop} {u0 : Nat} {ρ0 : Env} {Q Q' : SE → Fr → Hp → Nat → Prop} (h : ∀ e F H u, Q e F H u → Q' e F H u) {e : Exit} {a : Act} {w : World} (p : Post n w0 O u0 ρ0 Q e a w) : Post n w0 O u0 ρ0 Q' e a w := by
  obtain ⟨se, F, H, u, ρ, h1, h2, h3, h4, h5⟩ := p
  exact ⟨se, F, H, u, ρ, h1, h2, h3, h4, h _ _ _ _ h5⟩

theorem FOk.know {N : Nat → Prop} {ρ : Env} {F : Fr} {a : Act} (h : FOk N ρ F a) {d : Nat} {b : Bool} (hd : look F d = some (.bool b)) : FOk N ρ ((d, sb b) :: F) a := by
  intro t v hv
  rw [look_cons] at hv
  split at hv
  · rename_i e
    injection hv with hv
    subst hv; subst e
    exact ⟨by rw [(h _ _ hd).1, sb_val]; rfl, sb_In _ _⟩
  · exact h t v hv

/-! ### Guards, regions -/
def nthOp : List Oper → Nat → Option Oper
  | [], _ => none
  | o :: r, j => match j with | 0 => some o | j + 1 => nthOp r j
theorem nthOp_eq : ∀ (l : List Oper) (j : Nat), nthOp l j = l[j]?
  | [], j => by simp [nthOp]
  | o :: r, 0 => rfl
  | o :: r, j + 1 => by simp [nthOp, nthOp_eq r j]

def guardK (all : List Oper) (o : Oper) (F : Fr) (run skip : Fr → Prop) : Prop :=
  match o.guard with
  | none => run F
  | some (j, want) =>
    (match nthOp all j with
     | some oj => (match oj.dst with
       | some d => (match look F d with
         | some .tt => (match want with | true => run F | false => skip F)
         | some .ff => (match want with | true => skip F | false => run F)
         | some (.bool b) => IfL b (match want with | true => run ((d, .tt) :: F) | false => skip ((d, .tt) :: F)) (match want with | true => skip ((d, .ff) :: F) | false => run ((d, .ff) :: F))
         | some .undef => skip F
         | _ => False)
       | none => False)
     | none => False)

def putF (d : Option Tmp) (v : SV) (F : Fr) : Fr := match d with | some d => (d, v) :: F | none => F

/-- The rest of a region's operations: frame, heap, names, what must hold behind. (The recursors stand written out: the kernel and the elaborator then unfold alike.) -/
abbrev OpsT := Fr → Hp → Nat → (Fr → Hp → Nat → Prop) → Prop
def sopC (P : Program) (tab : Tab) (all : List Oper) (o : Oper) (ih : OpsT) : OpsT := fun F H u Q =>
  guardK all o F (fun F => sop P tab o F H u fun v H' u' => ih (putF o.dst v F) H' u' Q) (fun F => ih (putF o.dst .undef F) H u Q)
def sops (P : Program) (tab : Tab) (all : List Oper) (l : List Oper) : OpsT :=
  List.rec (motive := fun _ => OpsT) (fun F H u Q => Q F H u) (fun o _ ih => sopC P tab all o ih) l

theorem sops_cons (P : Program) (tab : Tab) (all : List Oper) (o : Oper) (r : List Oper) (F : Fr) (H : Hp) (u : Nat) (Q : Fr → Hp → Nat → Prop) : sops P tab all (o :: r) F H u Q =
  guardK all o F (fun F => sop P tab o F H u fun v H' u' => sops P tab all r (putF o.dst v F) H' u' Q) (fun F => sops P tab all r (putF o.dst .undef F) H u Q) := rfl

def dstOk (n : Nat) (o : Oper) : Bool := match o.dst with | some d => Nat.blt d n | none => true

theorem St.put {n : Nat} {w0 : World} {O : Nat → Nat → Prop} {u u' : Nat} {ρ ρ' : Env} {F : Fr} {H H' : Hp} {a : Act} {w w' : World} (h : St n w0 O u ρ F H a w) {o : Oper} (hd : dstOk n o = true) (hu : u ≤ u') (hρ : ∀ i, i < u → ρ' i = ρ i) {v : SV}
    (hv : v.In (· < u')) (hs : Sat w0 O (· < u') ρ' H' w') : St n w0 O u' ρ' (putF o.dst v F) H' (a.put o.dst (v.val ρ')) w' := by
  unfold dstOk at hd
  cases hdst : o.dst with
  | none => exact ⟨by simpa [Act.put] using h.size, by simpa [Act.put] using h.defers, h.fr.move (fun i hi => Nat.lt_of_lt_of_le hi hu) hρ, hs⟩
  | some d =>
    rw [hdst] at hd
    exact ⟨by simpa [Act.put] using h.size, by simpa [Act.put] using h.defers, h.fr.put (fun i hi => Nat.lt_of_lt_of_le hi hu) hρ (by rw [h.size]; simpa using hd) hv, hs⟩

theorem guardK_out {all : List Oper} {o : Oper} {F : Fr} {run skip : Fr → Prop} (h : guardK all o F run skip) {N : Nat → Prop} {ρ : Env} {a : Act} (ha : FOk N ρ F a) :
    ∃ F', FOk N ρ F' a ∧ ((Region.wanted o (yielded all.toArray a.tmps) = true ∧ run F') ∨ (Region.wanted o (yielded all.toArray a.tmps) = false ∧ skip F')) := by
  unfold guardK at h
  split at h
  · rename_i hg
    exact ⟨F, ha, .inl ⟨by simp [Region.wanted, hg], h⟩⟩
  · rename_i j want hg
    split at h
    · rename_i oj hj
      rw [nthOp_eq] at hj
      split at h
      · rename_i d hd
        have hy : ∀ v, look F d = some v → yielded all.toArray a.tmps j = match v.val ρ with | .bool b => some b | _ => none := fun v hv => by
          simp only [yielded, List.getElem?_toArray, hj, Option.bind_some, hd, (ha d v hv).1]
          cases SV.val ρ v <;> rfl
        split at h
        · rename_i hl
          have := hy _ hl
          cases want
          · exact ⟨F, ha, .inr ⟨by simp [Region.wanted, hg, this, SV.val], h⟩⟩
          · exact ⟨F, ha, .inl ⟨by simp [Region.wanted, hg, this, SV.val], h⟩⟩
        · rename_i hl
          have := hy _ hl
          cases want
          · exact ⟨F, ha, .inl ⟨by simp [Region.wanted, hg, this, SV.val], h⟩⟩
          · exact ⟨F, ha, .inr ⟨by simp [Region.wanted, hg, this, SV.val], h⟩⟩
        · rename_i b hl
          have hb := hy _ hl
          have hk := ha.know hl
          cases b
          · have := h.no rfl
            cases want
            · exact ⟨_, hk, .inl ⟨by simp [Region.wanted, hg, hb, SV.val], this⟩⟩
            · exact ⟨_, hk, .inr ⟨by simp [Region.wanted, hg, hb, SV.val], this⟩⟩
          · have := h.yes rfl
            cases want
            · exact ⟨_, hk, .inr ⟨by simp [Region.wanted, hg, hb, SV.val], this⟩⟩
            · exact ⟨_, hk, .inl ⟨by simp [Region.wanted, hg, hb, SV.val], this⟩⟩
        · rename_i hl
          have := hy _ hl
          exact ⟨F, ha, .inr ⟨by simp [Region.wanted, hg, this, SV.val, Go.undef], h⟩⟩
        · exact h.elim
      · exact h.elim
    · exact h.elim

theorem sops_sound {P : Program} {tab : Tab} (hP : TabOk P tab) {all : List Oper} {n : Nat} {w0 : World} {O : Nat → Nat → Prop} {Q : Exit → Act → World → Prop} : ∀ (l : List Oper) {F : Fr} {H : Hp} {u : Nat} {Q' : Fr → Hp → Nat → Prop} (h : sops P tab all l F H u Q')
    (hd : l.all (dstOk n) = true) {ρ : Env} {a : Act} {w : World} (hs : St n w0 O u ρ F H a w)
    (hQ : ∀ F' H' u' ρ' a' w', u ≤ u' → (∀ i, i < u → ρ' i = ρ i) → St n w0 O u' ρ' F' H' a' w' → Q' F' H' u' → Q .normal a' w'), wpList P all.toArray Q l a w
  | [], F, H, u, Q', h, hd, ρ, a, w, hs, hQ => hQ F H u ρ a w (Nat.le_refl _) (fun _ _ => rfl) hs h
  | o :: r, F, H, u, Q', h, hd, ρ, a, w, hs, hQ => by
    rw [List.all_cons, Bool.and_eq_true] at hd
    rw [sops_cons] at h
    obtain ⟨F', hF, ⟨hw, h1⟩ | ⟨hw, h1⟩⟩ := guardK_out h hs.fr
    · rw [wpList, if_pos hw]
      refine .inl (sop_sound hP h1 w0 O ρ a w _ _ hF hs.sat fun v H' u' ρ' w' q1 q2 q3 q4 q5 => ?_)
      have hs' : St n w0 O u ρ F' H a w := ⟨hs.size, hs.defers, hF, hs.sat⟩
      exact sops_sound hP r q5 hd.2 (hs'.put hd.1 q1 q2 q3 q4) fun F2 H2 u2 ρ2 a2 w2 g1 g2 g3 g4 => hQ F2 H2 u2 ρ2 a2 w2 (Nat.le_trans q1 g1) (fun i hi => (g2 i (Nat.lt_of_lt_of_le hi q1)).trans (q2 i hi)) g3 g4
    · rw [wpList, hw]
      have hs' : St n w0 O u ρ F' H a w := ⟨hs.size, hs.defers, hF, hs.sat⟩
      exact sops_sound hP r h1 hd.2 (hs'.put (v := .undef) hd.1 (Nat.le_refl _) (fun _ _ => rfl) trivial hs.sat) hQ

/-! ### Code -/
def thenK (Q : SE → Fr → Hp → Nat → Prop) (k : Fr → Hp → Nat → Prop) : SE → Fr → Hp → Nat → Prop
  | .normal, F, H, u => k F H u
  | e, F, H, u => Q e F H u
def blockK (id : Nat) (Q : SE → Fr → Hp → Nat → Prop) : SE → Fr → Hp → Nat → Prop
  | .exit j, F, H, u => (match Nat.beq j id with | true => Q .normal F H u | false => Q (.exit j) F H u)
  | e, F, H, u => Q e F H u

abbrev CodeT := Fr → Hp → Nat → (SE → Fr → Hp → Nat → Prop) → Prop
def regionC (P : Program) (tab : Tab) (n : Nat) (id : Nat) (ops : Array Oper) (draw : Bool) : CodeT := fun F H u Q => match draw with
  | false => sops P tab ops.toList ops.toList F H u (Q .normal)
  | true => CodeL P n (.region id ops true) F H u Q
def condC (c : Operand) (x y : CodeT) : CodeT := fun F H u Q => match c with
  | .tmp t => (match look F t with
    | some .tt => x F H u Q
    | some .ff => y F H u Q
    | some (.bool b) => IfL b (x ((t, .tt) :: F) H u Q) (y ((t, .ff) :: F) H u Q)
    | _ => False)
  | .const (.bool true) => x F H u Q
  | .const (.bool false) => y F H u Q
  | _ => False
def swp (P : Program) (tab : Tab) (n : Nat) (c : Code) : CodeT :=
  Code.rec (motive := fun _ => CodeT)
    (fun F H u Q => Q .normal F H u)
    (fun id ops draw => regionC P tab n id ops draw)
    (fun _ _ x y F H u Q => x F H u (thenK Q fun F H u => y F H u Q))
    (fun c _ _ x y => condC c x y)
    (fun id _ x F H u Q => x F H u (blockK id Q))
    (fun body _ F H u Q => CodeL P n (.loop body) F H u Q)
    (fun _ _ _ _ _ _ _ _ _ _ => False)
    (fun id F H u Q => Q (.exit id) F H u)
    (fun _ x F H u Q => x F H u Q)
    (fun _ F H u Q => Q .normal F H u)
    (fun _ _ _ _ _ => False)
    (fun F H u Q => Q .ret F H u)
    (fun _ _ _ _ _ => False)
    c

def okd (n : Nat) : Code → Bool
  | .region _ ops _ => ops.toList.all (dstOk n)
  | .seq x y => okd n x && okd n y
  | .cond _ x y => okd n x && okd n y
  | .block _ x => okd n x
  | .loop x => okd n x
  | .scope x => okd n x
  | _ => true

theorem swp_sound {P : Program} {tab : Tab} (hP : TabOk P tab) {n : Nat} : ∀ (c : Code) {F : Fr} {H : Hp} {u : Nat} {Q : SE → Fr → Hp → Nat → Prop}, swp P tab n c F H u Q → okd n c = true → CodeSem P n c F H u Q
  | .skip, F, H, u, Q, h, hd => fun w0 O ρ a w hs => wp_skip ⟨.normal, F, H, u, ρ, rfl, Nat.le_refl _, fun _ _ => rfl, hs, h⟩
  | .label l, F, H, u, Q, h, hd => fun w0 O ρ a w hs => wp_label ⟨.normal, F, H, u, ρ, rfl, Nat.le_refl _, fun _ _ => rfl, hs, h⟩
  | .region id ops true, F, H, u, Q, h, hd => CodeL.sem h
  | .region id ops false, F, H, u, Q, h, hd => fun w0 O ρ a w hs => by
    refine wp_region_list ?_
    have : ops = ops.toList.toArray := by simp
    rw [this]
    exact sops_sound hP ops.toList h hd hs fun F' H' u' ρ' a' w' h1 h2 h3 h4 => ⟨.normal, F', H', u', ρ', rfl, h1, h2, h3, h4⟩
  | .seq x y, F, H, u, Q, h, hd => fun w0 O ρ a w hs => by
    rw [okd, Bool.and_eq_true] at hd
    refine wp_seq (wp_mono (swp_sound hP x h hd.1 w0 O ρ a w hs) ?_)
    rintro e a' w' ⟨se, F', H', u', ρ', h1, h2, h3, h4, h5⟩
    cases e with
    | normal =>
      injection h1 with h1; subst h1
      exact wp_mono (swp_sound hP y h5 hd.2 w0 O ρ' a' w' h4) fun e a w p => p.base h2 h3
    | exit id => injection h1 with h1; subst h1; exact ⟨_, F', H', u', ρ', rfl, h2, h3, h4, h5⟩
    | ret => injection h1 with h1; subst h1; exact ⟨_, F', H', u', ρ', rfl, h2, h3, h4, h5⟩
    | goto l => cases h1
    | panic c => cases h1
    | outgrown => cases h1
  | .cond c x y, F, H, u, Q, h, hd => fun w0 O ρ a w hs => by
    rw [okd, Bool.and_eq_true] at hd
    cases c with
    | tmp t =>
      have g : (match look F t with
        | some .tt => swp P tab n x F H u Q
        | some .ff => swp P tab n y F H u Q
        | some (.bool b) => IfL b (swp P tab n x ((t, .tt) :: F) H u Q) (swp P tab n y ((t, .ff) :: F) H u Q)
        | _ => False) := h
      cases hl : look F t with
      | none => rw [hl] at g; exact g.elim
      | some v =>
        rw [hl] at g
        cases v with
        | tt => exact wp_cond_true (hs.fr.at hl) (swp_sound hP x g hd.1 w0 O ρ a w hs)
        | ff => exact wp_cond_false (hs.fr.at hl) (swp_sound hP y g hd.2 w0 O ρ a w hs)
        | bool b =>
          have hv : a.eval (.tmp t) = .bool b := hs.fr.at hl
          have hk := hs.fr.know hl
          have g' : IfL b (swp P tab n x ((t, .tt) :: F) H u Q) (swp P tab n y ((t, .ff) :: F) H u Q) := g
          cases b
          · exact wp_cond_false hv (swp_sound hP y (g'.no rfl) hd.2 w0 O ρ a w ⟨hs.size, hs.defers, hk, hs.sat⟩)
          · exact wp_cond_true hv (swp_sound hP x (g'.yes rfl) hd.1 w0 O ρ a w ⟨hs.size, hs.defers, hk, hs.sat⟩)
        | _ => exact g.elim
    | const v =>
      cases v with
      | bool b =>
        cases b
        · exact wp_cond_false rfl (swp_sound hP y h hd.2 w0 O ρ a w hs)
        · exact wp_cond_true rfl (swp_sound hP x h hd.1 w0 O ρ a w hs)
      | _ => exact False.elim h
    | _ => exact False.elim h
  | .block id x, F, H, u, Q, h, hd => fun w0 O ρ a w hs => by
    refine wp_block (wp_mono (swp_sound hP x h hd w0 O ρ a w hs) ?_)
    rintro e a' w' ⟨se, F', H', u', ρ', h1, h2, h3, h4, h5⟩
    cases e with
    | normal => injection h1 with h1; subst h1; exact ⟨_, F', H', u', ρ', rfl, h2, h3, h4, h5⟩
    | exit j =>
      injection h1 with h1; subst h1
      show (if j = id then _ else _)
      by_cases e : j = id
      · subst e
        rw [if_pos rfl]
        refine ⟨.normal, F', H', u', ρ', rfl, h2, h3, h4, ?_⟩
        have h5' : blockK j Q (.exit j) F' H' u' := h5
        rw [blockK, Nat.beq_refl] at h5'
        exact h5'
      · rw [if_neg e]
        refine ⟨.exit j, F', H', u', ρ', rfl, h2, h3, h4, ?_⟩
        have h5' : blockK id Q (.exit j) F' H' u' := h5
        have hb : Nat.beq j id = false := by rw [← Bool.not_eq_true, Nat.beq_eq]; exact e
        rw [blockK, hb] at h5'
        exact h5'
    | ret => injection h1 with h1; subst h1; exact ⟨_, F', H', u', ρ', rfl, h2, h3, h4, h5⟩
    | goto l => cases h1
    | panic c => cases h1
    | outgrown => cases h1
  | .loop x, F, H, u, Q, h, hd => CodeL.sem h
  | .exit id, F, H, u, Q, h, hd => fun w0 O ρ a w hs => wp_exit ⟨.exit id, F, H, u, ρ, rfl, Nat.le_refl _, fun _ _ => rfl, hs, h⟩
  | .scope x, F, H, u, Q, h, hd => fun w0 O ρ a w hs => by
    refine wp_scope_straight (wp_mono (swp_sound hP x h hd w0 O ρ a w hs) ?_)
    rintro e a' w' ⟨se, F', H', u', ρ', h1, h2, h3, h4, h5⟩
    cases e with
    | goto l => cases h1
    | _ => exact ⟨se, F', H', u', ρ', h1, h2, h3, h4, h5⟩
  | .ret, F, H, u, Q, h, hd => fun w0 O ρ a w hs => wp_ret ⟨.ret, F, H, u, ρ, rfl, Nat.le_refl _, fun _ _ => rfl, hs, h⟩
  | .rangeFunc _ _ _ _, F, H, u, Q, h, hd => h.elim
  | .goto _, F, H, u, Q, h, hd => h.elim
  | .refuse _, F, H, u, Q, h, hd => h.elim

end Go.Sh
