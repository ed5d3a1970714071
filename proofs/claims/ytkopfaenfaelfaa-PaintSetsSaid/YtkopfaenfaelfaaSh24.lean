import Derived.Test.YtkopfaenfaelfaaSh23
import Derived.OrdersHeld
/- Regions that draw their order, where appends, stores and calls stand: the small operations are taken first; of the others each order is walked. -/
set_option linter.unusedVariables false
namespace Go.Sh
open Go.RowKit

/-- The order in which a region is walked. -/
inductive Sched where
  | fin
  | take (i : Nat) (s : Sched)
  | alt (i : Nat) (s r : Sched)
  | stop

def altIdx : Sched → List Nat
  | .alt i _ r => i :: altIdx r
  | _ => []
def chk (ops : Array Oper) : Bool → Nat → Sched → Array Bool → Bool
  | true, _, .fin, l => (Region.ready .any ops l) == []
  | true, n + 1, .take i s, l => Region.free .any ops l i && ((Region.ready .any ops l).contains i && chk ops true n s (l.setIfInBounds i true))
  | true, n + 1, .alt i s r, l => (Region.ready .any ops l) == (i :: altIdx r) && (chk ops true n s (l.setIfInBounds i true) && chk ops false (n + 1) r l)
  | false, n + 1, .alt i s r, l => chk ops true n s (l.setIfInBounds i true) && chk ops false (n + 1) r l
  | false, _, .stop, _ => true
  | _, _, _, _ => false

def lightC (P : Program) (tab : Tab) (HS : Hp) (all : List Oper) (i : Nat) (ih : OpsT) : OpsT := fun F H u K => match nthOp all i with
  | none => False
  | some o => guardK all o F (fun F' => vop P tab o F' HS (fun v => ih (putF o.dst v F') H u K) (VL P o F' HS fun v => ih (putF o.dst v F') H u K)) (fun F' => ih (putF o.dst .undef F') H u K)
def heavyC (P : Program) (tab : Tab) (HS : Hp) (all : List Oper) (i : Nat) (ih : OpsT) : OpsT := fun F H u K => match nthOp all i with
  | none => False
  | some o => guardK all o F (fun F' => sop P tab o F' H u fun v H' u' => Needs (subH HS H') (ih (putF o.dst v F') H' u' K)) (fun F' => ih (putF o.dst .undef F') H u K)
def qrun (P : Program) (tab : Tab) (HS : Hp) (all : List Oper) (s : Sched) : OpsT :=
  Sched.rec (motive := fun _ => OpsT) (fun F H u K => K F H u) (fun i _ ih => lightC P tab HS all i ih)
    (fun i _ r ihs ihr F H u K => match r with | .stop => heavyC P tab HS all i ihs F H u K | _ => heavyC P tab HS all i ihs F H u K ∧ ihr F H u K) (fun _ _ _ _ => True) s

theorem Sat.base {w0 w : World} {O : Nat → Nat → Prop} {N : Nat → Prop} {ρ : Env} {H : Hp} (h : Sat w0 O N ρ H w) : Sat w (fun _ _ => True) N ρ H w :=
  ⟨rfl, rfl, rfl, Nat.le_refl _, h.dom, h.sep, fun _ _ h => (h 0 trivial).elim, fun _ _ _ _ => rfl, fun _ _ _ => rfl, fun _ _ _ _ _ _ => .inl trivial, h.dict.at_, fun _ _ _ _ => .inl fun _ => trivial, h.dict.sep⟩
theorem Sat.agree {w0 w : World} {O : Nat → Nat → Prop} {N : Nat → Prop} {ρ ρ' : Env} {H : Hp} (h : Sat w0 O N ρ H w) (e : ∀ i, N i → ρ' i = ρ i) : Sat w0 O N ρ' H w := by
  refine ⟨h.os, h.tape, h.output, h.size, fun i so hi => ?_, fun i j si sj hi hj hij hw => ?_, h.blk, h.cell, h.frz, fun i so hi hw j hj => ?_, h.dict.of fun i es c hi => ⟨hi, e i (h.dom i _ hi).1⟩⟩
  · obtain ⟨h1, h2, h3⟩ := h.dom i so hi
    exact ⟨h1, h2, by rw [e i h1]; exact is_agree e h2 h3⟩
  · rw [e i (h.dom i si hi).1, e j (h.dom j sj hj).1]; exact h.sep i j si sj hi hj hij hw
  · rw [e i (h.dom i so hi).1]; exact h.fresh i so hi hw j hj

section
variable {P : Program} {tab : Tab} {all : List Oper} {n : Nat} {w0 : World} {O : Nat → Nat → Prop} {Q : Exit → Act → World → Prop} {HS : Hp} {u0 : Nat} {ρ0 : Env}

def Held (HS : Hp) (u0 : Nat) (ρ0 : Env) (w : World) : Prop := Sat w (fun _ _ => True) (· < u0) ρ0 HS w

theorem St.held {u : Nat} {ρ : Env} {F : Fr} {H : Hp} {a : Act} {w : World} (hs : St n w0 O u ρ F H a w) (hsub : subH HS H) (hwf : wfH u0 HS = true) (hρ : ∀ i, i < u0 → ρ i = ρ0 i) : Held HS u0 ρ0 w :=
  ((hs.sat.base).weaken (M := (· < u0)) (subH_out hsub) (wfH_out hwf)).agree fun i hi => (hρ i hi).symm

theorem qrun_sound (hP : TabOk P tab) (hsel : Region.noSelect all.toArray = true) (hd : all.all (dstOk n) = true) (hp : ∀ c a w, ¬ Q (.panic c) a w) (hwf : wfH u0 HS = true) : ∀ (s : Sched),
    (∀ {fuel : Nat} {listed : Array Bool} {F : Fr} {H : Hp} {u : Nat} {Q' : Fr → Hp → Nat → Prop} (h : qrun P tab HS all s F H u Q') (hc : chk all.toArray true fuel s listed = true) {ρ : Env} {a : Act} {w : World} (hs : St n w0 O u ρ F H a w) (hsub : subH HS H) (hu : u0 ≤ u) (hρ : ∀ i, i < u0 → ρ i = ρ0 i)
      (hQ : ∀ F' H' u' ρ' a' w', u ≤ u' → (∀ i, i < u → ρ' i = ρ i) → St n w0 O u' ρ' F' H' a' w' → Q' F' H' u' → Q .normal a' w'), wpAnyH P .any all.toArray Q (Held HS u0 ρ0) fuel listed a w) ∧
    (∀ {fuel : Nat} {listed : Array Bool} {F : Fr} {H : Hp} {u : Nat} {Q' : Fr → Hp → Nat → Prop} (h : qrun P tab HS all s F H u Q') (hc : chk all.toArray false (fuel + 1) s listed = true) {ρ : Env} {a : Act} {w : World} (hs : St n w0 O u ρ F H a w) (hsub : subH HS H) (hu : u0 ≤ u) (hρ : ∀ i, i < u0 → ρ i = ρ0 i)
      (hQ : ∀ F' H' u' ρ' a' w', u ≤ u' → (∀ i, i < u → ρ' i = ρ i) → St n w0 O u' ρ' F' H' a' w' → Q' F' H' u' → Q .normal a' w'), ∀ i ∈ altIdx s, wpOp P all.toArray Q i (fun a' w' => Held HS u0 ρ0 w' ∧ wpAnyH P .any all.toArray Q (Held HS u0 ρ0) fuel (listed.setIfInBounds i true) a' w') a w)
  | .fin => ⟨fun {fuel listed F H u Q'} h hc {ρ a w} hs hsub hu hρ hQ => by
      have : Region.ready .any all.toArray listed = [] := by
        cases fuel <;> simpa [chk] using hc
      exact wpAnyH_done this (hQ F H u ρ a w (Nat.le_refl _) (fun _ _ => rfl) hs h) fuel, fun {fuel listed F H u Q'} h hc {ρ a w} hs hsub hu hρ hQ i hi => by cases hi⟩
  | .stop => ⟨fun {fuel listed F H u Q'} h hc {ρ a w} hs hsub hu hρ hQ => by cases fuel <;> simp [chk] at hc, fun {fuel listed F H u Q'} h hc {ρ a w} hs hsub hu hρ hQ i hi => by cases hi⟩
  | .take i s => ⟨fun {fuel listed F H u Q'} h hc {ρ a w} hs hsub hu hρ hQ => by
      cases fuel with
      | zero => simp [chk] at hc
      | succ fuel =>
        simp only [chk, Bool.and_eq_true] at hc
        obtain ⟨hf, hr, hc⟩ := hc
        have h : lightC P tab HS all i (qrun P tab HS all s) F H u Q' := h
        unfold lightC at h
        cases ho : nthOp all i with
        | none => rw [ho] at h; exact h.elim
        | some o =>
          rw [ho] at h
          rw [nthOp_eq] at ho
          have hi : all.toArray[i]? = some o := by simpa using ho
          have hdo : dstOk n o = true := List.all_eq_true.1 hd o (List.mem_of_getElem? ho)
          have hS := hs.held hsub hwf hρ
          have hQp : ∀ v c a w, Q (.panic c) (a.put o.dst v) w → Q (.panic c) a w := fun v c a w h => (hp _ _ _ h).elim
          obtain ⟨F', hF, ⟨hw, h1⟩ | ⟨hw, h1⟩⟩ := guardK_out h hs.fr
          · have hs' : St n w0 O u ρ F' H a w := ⟨hs.size, hs.defers, hF, hs.sat⟩
            have fin : ∀ v, VSem P o F' HS v → qrun P tab HS all s (putF o.dst v F') H u Q' → wpAnyH P .any all.toArray Q (Held HS u0 ρ0) (fuel + 1) listed a w := fun v hv k => by
              have yv : ∀ w', Held HS u0 ρ0 w' → (execOp a.eval o).run P w' = .ok (.value (v.val ρ)) w' ∧ v.In (· < u) := fun w' hw' =>
                hv w' _ (· < u) ρ a w' HS hF (fun _ _ h _ => h) ((Sat.agree hw' hρ).weaken (M := (· < u)) (fun _ _ h => h) fun i so hi => ⟨Nat.lt_of_lt_of_le (wfH_out hwf i so hi).1 hu, SO.In.mono (fun j hj => Nat.lt_of_lt_of_le hj hu) (wfH_out hwf i so hi).2⟩)
              exact wpAnyH_take hi hsel hf (by simpa using hr) (hQp _) (.inl ⟨hw, fun w' hw' => (yv w' hw').1⟩) hS
                ((qrun_sound hP hsel hd hp hwf s).1 k hc (hs'.put hdo (Nat.le_refl _) (fun _ _ => rfl) (yv w hS).2 hs.sat) hsub hu hρ hQ)
            rcases vop_sound hP h1 with ⟨v, k, hv⟩ | g
            · exact fin v hv k
            · obtain ⟨v, k, hv⟩ := g.out
              exact fin v hv k
          · have hs' : St n w0 O u ρ F' H a w := ⟨hs.size, hs.defers, hF, hs.sat⟩
            exact wpAnyH_take hi hsel hf (by simpa using hr) (hQp _) (.inr ⟨hw, rfl⟩) hS
              ((qrun_sound hP hsel hd hp hwf s).1 h1 hc (hs'.put (v := .undef) hdo (Nat.le_refl _) (fun _ _ => rfl) trivial hs.sat) hsub hu hρ hQ), fun {fuel listed F H u Q'} h hc {ρ a w} hs hsub hu hρ hQ i hi => by simp [chk] at hc⟩
  | .alt i s r => by
      have one : ∀ {fuel : Nat} {listed : Array Bool} {F : Fr} {H : Hp} {u : Nat} {Q' : Fr → Hp → Nat → Prop} (h : heavyC P tab HS all i (qrun P tab HS all s) F H u Q') (hc : chk all.toArray true fuel s (listed.setIfInBounds i true) = true) {ρ : Env} {a : Act} {w : World} (hs : St n w0 O u ρ F H a w) (hsub : subH HS H) (hu : u0 ≤ u) (hρ : ∀ i, i < u0 → ρ i = ρ0 i)
          (hQ : ∀ F' H' u' ρ' a' w', u ≤ u' → (∀ i, i < u → ρ' i = ρ i) → St n w0 O u' ρ' F' H' a' w' → Q' F' H' u' → Q .normal a' w'), wpOp P all.toArray Q i (fun a' w' => Held HS u0 ρ0 w' ∧ wpAnyH P .any all.toArray Q (Held HS u0 ρ0) fuel (listed.setIfInBounds i true) a' w') a w := by
        intro fuel listed F H u Q' h hc ρ a w hs hsub hu hρ hQ
        unfold heavyC at h
        cases ho : nthOp all i with
        | none => rw [ho] at h; exact h.elim
        | some o =>
          rw [ho] at h
          rw [nthOp_eq] at ho
          have hi : all.toArray[i]? = some o := by simpa using ho
          have hdo : dstOk n o = true := List.all_eq_true.1 hd o (List.mem_of_getElem? ho)
          have hS := hs.held hsub hwf hρ
          unfold wpOp
          rw [hi]
          obtain ⟨F', hF, ⟨hw, h1⟩ | ⟨hw, h1⟩⟩ := guardK_out h hs.fr
          · simp only [hw, if_true]
            refine .inl (sop_sound hP h1 w0 O ρ a w _ _ hF hs.sat fun v H' u' ρ' w' q1 q2 q3 q4 q5 => ?_)
            have hs' : St n w0 O u ρ F' H a w := ⟨hs.size, hs.defers, hF, hs.sat⟩
            have hs2 := hs'.put hdo q1 q2 q3 q4
            have hρ2 : ∀ i, i < u0 → ρ' i = ρ0 i := fun i hi => (q2 i (Nat.lt_of_lt_of_le hi hu)).trans (hρ i hi)
            exact ⟨hs2.held q5.has hwf hρ2, (qrun_sound hP hsel hd hp hwf s).1 q5.go hc hs2 q5.has (Nat.le_trans hu q1) hρ2 fun F2 H2 u2 ρ2 a2 w2 g1 g2 g3 g4 => hQ F2 H2 u2 ρ2 a2 w2 (Nat.le_trans q1 g1) (fun i hi => (g2 i (Nat.lt_of_lt_of_le hi q1)).trans (q2 i hi)) g3 g4⟩
          · simp only [hw, Bool.false_eq_true, if_false]
            have hs' : St n w0 O u ρ F' H a w := ⟨hs.size, hs.defers, hF, hs.sat⟩
            exact ⟨hS, (qrun_sound hP hsel hd hp hwf s).1 h1 hc (hs'.put (v := .undef) hdo (Nat.le_refl _) (fun _ _ => rfl) trivial hs.sat) hsub hu hρ hQ⟩
      have two : ∀ {F : Fr} {H : Hp} {u : Nat} {Q' : Fr → Hp → Nat → Prop}, qrun P tab HS all (.alt i s r) F H u Q' → heavyC P tab HS all i (qrun P tab HS all s) F H u Q' ∧ qrun P tab HS all r F H u Q' := by
        intro F H u Q' h
        cases r with
        | stop => exact ⟨h, trivial⟩
        | fin => exact h
        | take => exact h
        | alt => exact h
      have many : ∀ {fuel : Nat} {listed : Array Bool} {F : Fr} {H : Hp} {u : Nat} {Q' : Fr → Hp → Nat → Prop} (h : qrun P tab HS all (.alt i s r) F H u Q') (hc : (chk all.toArray true fuel s (listed.setIfInBounds i true) && chk all.toArray false (fuel + 1) r listed) = true) {ρ : Env} {a : Act} {w : World} (hs : St n w0 O u ρ F H a w) (hsub : subH HS H) (hu : u0 ≤ u) (hρ : ∀ i, i < u0 → ρ i = ρ0 i)
          (hQ : ∀ F' H' u' ρ' a' w', u ≤ u' → (∀ i, i < u → ρ' i = ρ i) → St n w0 O u' ρ' F' H' a' w' → Q' F' H' u' → Q .normal a' w'), ∀ j ∈ i :: altIdx r, wpOp P all.toArray Q j (fun a' w' => Held HS u0 ρ0 w' ∧ wpAnyH P .any all.toArray Q (Held HS u0 ρ0) fuel (listed.setIfInBounds j true) a' w') a w := by
        intro fuel listed F H u Q' h hc ρ a w hs hsub hu hρ hQ j hj
        rw [Bool.and_eq_true] at hc
        obtain ⟨k1, k2⟩ := two h
        rcases List.mem_cons.1 hj with rfl | hj
        · exact one k1 hc.1 hs hsub hu hρ hQ
        · exact (qrun_sound hP hsel hd hp hwf r).2 k2 hc.2 hs hsub hu hρ hQ j hj
      refine ⟨fun {fuel listed F H u Q'} h hc {ρ a w} hs hsub hu hρ hQ => ?_, fun {fuel listed F H u Q'} h hc {ρ a w} hs hsub hu hρ hQ => ?_⟩
      · cases fuel with
        | zero => simp [chk] at hc
        | succ fuel =>
          simp only [chk, Bool.and_eq_true, beq_iff_eq] at hc
          exact wpAnyH_all hc.1 (by simp) (many h (by rw [Bool.and_eq_true]; exact hc.2) hs hsub hu hρ hQ)
      · rw [chk] at hc
        exact many h hc hs hsub hu hρ hQ
end

/-- A region that draws its order. HS: the rows that the small operations read, which no operation lays. -/
theorem CodeL.any {P : Program} {tab : Tab} (hP : TabOk P tab) (hm : P.follows .mixedOrders = true) {n id : Nat} {ops : Array Oper} {F : Fr} {H : Hp} {u : Nat} {Q : SE → Fr → Hp → Nat → Prop} (HS : Hp) (s : Sched)
    (hB : (Region.noSelect ops && chk ops true ops.size s (Array.replicate ops.size false)) = true) (hd : ops.toList.all (dstOk n) = true) (hsub : subH HS H) (hwf : wfH u HS = true)
    (h : qrun P tab HS ops.toList s F H u (Q .normal)) : CodeL P n (.region id ops true) F H u Q := by
  refine ⟨fun w0 O ρ a w hs => ?_⟩
  rw [Bool.and_eq_true] at hB
  have e : ops.toList.toArray = ops := by simp
  refine wp_region_held (S := Held HS u ρ) hm ?_
  have := (qrun_sound (n := n) (w0 := w0) (O := O) (Q := Post n w0 O u ρ Q) (ρ0 := ρ) hP (by rw [e]; exact hB.1) hd (fun c a w h => by
    obtain ⟨se, F, H, u, ρ, h1, _⟩ := h; cases h1) hwf s).1 h (by rw [e]; exact hB.2) (w := { w with drawn := w.drawn + 1 }) ⟨hs.size, hs.defers, hs.fr, hs.sat.drew⟩ hsub (Nat.le_refl _) (fun _ _ => rfl)
    fun F' H' u' ρ' a' w' h1 h2 h3 h4 => ⟨.normal, F', H', u', ρ', rfl, h1, h2, h3, h4⟩
  rwa [e] at this

end Go.Sh
