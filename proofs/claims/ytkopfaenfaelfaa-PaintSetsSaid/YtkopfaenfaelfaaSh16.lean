import Derived.Test.YtkopfaenfaelfaaSh15
/- Regions that draw their order: the text's order serves all. -/
set_option linter.unusedVariables false
namespace Go.Sh
open Go.RowKit

section
variable {P : Program} {ops : List Oper} {u0 : Nat} {X : Nat → Out} {U : Nat → Nat} {Hf : Nat → Hp} {Of : Nat → Nat → Option SV}

/-- The slots, by the last writer listed. -/
def cur (ops : List Oper) (X : Nat → Out) (U : Nat → Nat) (L : Nat → Bool) (f : Nat → Option SV) : Nat → Nat → Option SV
  | 0, t => f t
  | k + 1, t => match L k with
    | true => (match ops[k]? with | some o => setO o.dst ((X k).v (U k)) (cur ops X U L f k) t | none => cur ops X U L f k t)
    | false => cur ops X U L f k t

theorem setO_ne {d : Option Tmp} {v : SV} {f : Nat → Option SV} {t : Nat} (h : d ≠ some t) : setO d v f t = f t := by
  cases d with
  | none => rfl
  | some d => rw [setO]; exact if_neg (fun e => h (by rw [e]))

theorem cur_skip {L : Nat → Bool} {f : Nat → Option SV} {t : Nat} : ∀ {k j : Nat}, j ≤ k → (∀ i o, j ≤ i → i < k → L i = true → ops[i]? = some o → o.dst ≠ some t) → cur ops X U L f k t = cur ops X U L f j t
  | 0, j, hj, h => by rw [Nat.le_zero.1 hj]
  | k + 1, j, hj, h => by
    by_cases e : j = k + 1
    · rw [e]
    · have hk := cur_skip (f := f) (k := k) (j := j) (by omega) fun i o h1 h2 => h i o h1 (by omega)
      rw [← hk, cur]
      cases hL : L k with
      | false => rfl
      | true =>
        cases ho : ops[k]? with
        | none => rfl
        | some o => exact setO_ne (h k o (by omega) (by omega) hL ho)

theorem cur_ext {L L' : Nat → Bool} {f : Nat → Option SV} {t : Nat} : ∀ {k : Nat}, (∀ i, i < k → L i = L' i ∨ ∀ o, ops[i]? = some o → o.dst ≠ some t) → cur ops X U L f k t = cur ops X U L' f k t
  | 0, h => rfl
  | k + 1, h => by
    have hk := cur_ext (f := f) (k := k) fun i hi => h i (by omega)
    rw [cur, cur]
    rcases h k (by omega) with e | e
    · rw [e]
      cases L' k with
      | false => exact hk
      | true =>
        cases ho : ops[k]? with
        | none => exact hk
        | some o =>
          show setO _ _ _ _ = setO _ _ _ _
          cases o.dst with
          | none => exact hk
          | some d => rw [setO, setO]; dsimp only; split <;> first | rfl | exact hk
    · cases ho : ops[k]? with
      | none => cases L k <;> cases L' k <;> exact hk
      | some o =>
        have := e o ho
        cases L k <;> cases L' k <;> simp only [setO_ne this] <;> exact hk

theorem Trace.cur_of {l : List Oper} {m : Nat} (T : Trace P ops u0 l X U Hf Of) (hl : ∀ i, i < m → l[i]? = ops[i]?) (hm : l.length = m) : ∀ {k : Nat}, k ≤ m → ∀ t, cur ops X U (fun _ => true) (Of 0) k t = Of k t
  | 0, hk, t => rfl
  | k + 1, hk, t => by
    rw [cur]
    have ho : ∃ o, l[k]? = some o := ⟨l[k]'(by omega), by simp⟩
    obtain ⟨o, ho⟩ := ho
    have ho' := ho
    rw [hl k (by omega)] at ho'
    rw [ho', T.sO k o ho]
    have := T.cur_of hl hm (k := k) (by omega)
    show setO _ _ _ _ = _
    cases o.dst with
    | none => exact this t
    | some d => rw [setO, setO]; dsimp only; split <;> first | rfl | exact this t

theorem Trace.mono {l : List Oper} (T : Trace P ops u0 l X U Hf Of) : ∀ {k j : Nat}, j ≤ k → k ≤ l.length → U j ≤ U k
  | 0, j, hj, hk => by rw [Nat.le_zero.1 hj]; exact Nat.le_refl _
  | k + 1, j, hj, hk => by
    by_cases e : j = k + 1
    · rw [e]; exact Nat.le_refl _
    · have := T.mono (k := k) (j := j) (by omega) (by omega)
      rw [T.su k (by omega)]; omega

theorem Trace.bound {l : List Oper} (T : Trace P ops u0 l X U Hf Of) (h0 : ∀ i so, look (Hf 0) i = some so → i < U 0) : ∀ {k : Nat}, k ≤ l.length → ∀ i so, look (Hf k) i = some so → i < U k
  | 0, hk, i, so, h => h0 i so h
  | k + 1, hk, i, so, h => by
    rw [T.sH k (by omega), look_append] at h
    rw [T.su k (by omega)]
    cases hx : look ((X k).H (U k)) i with
    | some s => exact (T.wf k (by omega) i s hx).2
    | none =>
      rw [hx, Option.none_or] at h
      have := T.bound h0 (k := k) (by omega) i so h
      omega

theorem Trace.own {l : List Oper} (T : Trace P ops u0 l X U Hf Of) (h0 : ∀ i so, look (Hf 0) i = some so → i < U 0) {j i : Nat} {so : SO} (hj : U j ≤ i) (hi : i < U j + (X j).m) : ∀ {k : Nat}, j < k → k ≤ l.length → look (Hf k) i = some so → look ((X j).H (U j)) i = some so
  | 0, hk, _, h => absurd hk (by omega)
  | k + 1, hk, hkl, h => by
    rw [T.sH k (by omega), look_append] at h
    by_cases e : j = k
    · subst e
      cases hx : look ((X j).H (U j)) i with
      | some s => rw [hx] at h; exact h
      | none =>
        rw [hx, Option.none_or] at h
        have := T.bound h0 (k := j) (by omega) i so h
        omega
    · have hjk : j < k := by omega
      have hu := T.mono (k := k) (j := j + 1) (by omega) (by omega)
      rw [T.su j (by omega)] at hu
      cases hx : look ((X k).H (U k)) i with
      | some s =>
        have := (T.wf k (by omega) i s hx).1
        omega
      | none =>
        rw [hx, Option.none_or] at h
        exact T.own h0 hj hi hjk (by omega) h

/-- What holds while the head's operations come, in whatever order. -/
structure Head (P : Program) (ops : List Oper) (m u0 : Nat) (X : Nat → Out) (U : Nat → Nat) (Hf : Nat → Hp) (f : Nat → Option SV) (n : Nat) (w0 : World) (O : Nat → Nat → Prop) (ρ : Env) (listed : Array Bool) (a : Act) (w : World) (N : Nat → Prop) (ρ' : Env) (Hc : Hp) : Prop where
  hi : HeadInv .any ops.toArray m listed
  old : ∀ i, i < u0 → ρ' i = ρ i
  names : ∀ i, N i ↔ i < u0 ∨ ∃ k, k < m ∧ listed.getD k false = true ∧ U k ≤ i ∧ i < U k + (X k).m
  sat : Sat w0 O N ρ' Hc w
  heap : ∀ j, j ≤ m → ∀ i so, look (Hf j) i = some so → N i → look Hc i = some so
  size : a.tmps.size = n
  defers : a.defers = []
  slots : ∀ t z, cur ops X U (fun k => listed.getD k false) f m t = some z → a.tmps[t]? = some (z.val ρ') ∧ z.In N

theorem getD_set_self {listed : Array Bool} {i : Nat} (h : i < listed.size) : (listed.setIfInBounds i true).getD i false = true := by simp [h]

variable {m n : Nat} {w0 : World} {O : Nat → Nat → Prop} {ρ : Env} {l : List Oper}

/-- One of the head's operations comes. -/
theorem Head.step (D : DrawOk ops m) (T : Trace P ops u0 (ops.take m) X U Hf Of) (hU : U 0 = u0) (h0 : ∀ i so, look (Hf 0) i = some so → i < U 0) (hd : ops.all (dstOk n) = true) {listed : Array Bool} {a : Act} {w : World} {N : Nat → Prop} {ρ' : Env} {Hc : Hp}
    (h : Head P ops m u0 X U Hf (Of 0) n w0 O ρ listed a w N ρ' Hc) {j : Nat} (hj : j ∈ Region.ready .any ops.toArray listed) (hjm : j < m) {K : Act → World → Prop} {Q : Exit → Act → World → Prop}
    (hK : ∀ a w N ρ' Hc, Head P ops m u0 X U Hf (Of 0) n w0 O ρ (listed.setIfInBounds j true) a w N ρ' Hc → K a w) : wpOp P ops.toArray Q j K a w := by
  have hlen : (ops.take m).length = m := by rw [List.length_take]; have := D.le; omega
  have htake : ∀ i, i < m → (ops.take m)[i]? = ops[i]? := fun i hi => by rw [List.getElem?_take, if_pos hi]
  have hlsz : listed.size = ops.length := by have := h.hi.size; simpa using this
  obtain ⟨hun, o, hoA, hall⟩ := mem_ready.1 hj
  have ho : ops[j]? = some o := by simpa using hoA
  have hjl : j < ops.length := (List.getElem?_eq_some_iff.1 ho).1
  have hunf : listed.getD j false = false := getD_both hun
  -- an operation that waits for j is not listed
  have hnot : ∀ k x, j < k → k < m → ops[k]? = some x → listed.getD k false = true → o.apart ops.toArray x = true := fun k x hk hkm hx hL => by
    rcases D.pair j k x hk hkm hx with hw | ⟨y, hy, hap⟩
    · obtain ⟨e, he, hb, hon⟩ := waitsB_out hw
      have := h.hi.closed k x (by simpa using hx) hL e he hb
      rw [hon, hunf] at this; cases this
    · rw [ho] at hy; injection hy with hy; subst hy; exact hap
  have hback : ∀ k x, k < j → ops[k]? = some x → listed.getD k false = false → x.apart ops.toArray o = true := fun k x hk hx hL => by
    rcases D.pair k j o hk hjm ho with hw | ⟨y, hy, hap⟩
    · obtain ⟨e, he, hb, hon⟩ := waitsB_out hw
      have := hall e he hb
      rw [hon, hL] at this; cases this
    · rw [hx] at hy; injection hy with hy; subst hy; exact hap
  -- what it looks at
  have hsl : Slots ops o (Of j) N ρ' a := fun t ht z hz => by
    refine h.slots t z ?_
    rw [cur_skip (k := m) (j := j) (Nat.le_of_lt hjm) fun i x h1 h2 h3 hx hdst => ?_]
    · rw [← T.cur_of htake hlen (k := j) (by omega)] at hz
      rw [← hz]
      refine cur_ext fun i hi => ?_
      cases hL : listed.getD i false with
      | true => exact .inl rfl
      | false => exact .inr fun x hx hdst => (Oper.apart_spec (hback i x hi hx hL)).1 t hdst ht
    · have hij : i ≠ j := fun e => by subst e; rw [hunf] at h3; cases h3
      exact (Oper.apart_spec (hnot i x (by omega) h2 hx h3)).2.2 t hdst ht
  have hstep := T.step j o (by rw [htake j hjm]; exact ho)
  have hsu := T.su j (by omega)
  have hu0 : u0 ≤ U j := hU ▸ T.mono (k := j) (j := 0) (by omega) (by omega)
  have hfree : ∀ i, U j ≤ i → i < U j + (X j).m → ¬ N i := fun i h1 h2 hN => by
    rcases (h.names i).1 hN with h3 | ⟨k, hk, hL, h4, h5⟩
    · omega
    · have hkj : k ≠ j := fun e => by subst e; rw [hunf] at hL; cases hL
      rcases Nat.lt_or_ge k j with h6 | h6
      · have := T.mono (k := j) (j := k + 1) (by omega) (by omega)
        rw [T.su k (by omega)] at this; omega
      · have := T.mono (k := k) (j := j + 1) (by omega) (by omega)
        omega
  have hsetj : (listed.setIfInBounds j true).getD j false = true := getD_set_self (by omega)
  have hdj : ∀ d, o.dst = some d → d < a.tmps.size := fun d hd' => by
    have := List.all_eq_true.1 hd o (List.mem_of_getElem? ho)
    rw [dstOk, hd'] at this
    rw [h.size]; simpa using this
  have next : ∀ ρ'' w', (∀ i, N i → ρ'' i = ρ' i) → Sat w0 O (Ext N (U j) (X j).m) ρ'' ((X j).H (U j) ++ Hc) w' → ((X j).v (U j)).In (Ext N (U j) (X j).m) → K (a.put o.dst (((X j).v (U j)).val ρ'')) w' := fun ρ'' w' hρ hs hv => by
    refine hK _ w' (Ext N (U j) (X j).m) ρ'' ((X j).H (U j) ++ Hc) ⟨h.hi.set hj hjm, fun i hi => (hρ i ((h.names i).2 (.inl hi))).trans (h.old i hi), fun i => ?_, hs, fun j' hj' i so hi hN => ?_, by cases o.dst <;> simpa [Act.put] using h.size, by cases o.dst <;> exact h.defers, fun t z hz => ?_⟩
    · simp only [Ext, h.names i]
      constructor
      · rintro ((h1 | ⟨k, h1, h2, h3⟩) | h1)
        · exact .inl h1
        · refine .inr ⟨k, h1, ?_, h3⟩
          rw [getD_set_ne false (fun e => by subst e; rw [hunf] at h2; cases h2)]; exact h2
        · exact .inr ⟨j, hjm, hsetj, h1⟩
      · rintro (h1 | ⟨k, h1, h2, h3⟩)
        · exact .inl (.inl h1)
        · by_cases e : j = k
          · subst e; exact .inr h3
          · rw [getD_set_ne false e] at h2; exact .inl (.inr ⟨k, h1, h2, h3⟩)
    · rw [look_append]
      by_cases hin : U j ≤ i ∧ i < U j + (X j).m
      · have hjj : j < j' := by
          rcases Nat.lt_or_ge j j' with h1 | h1
          · exact h1
          · have h2 := T.bound h0 (k := j') (by omega) i so hi
            have h3 := T.mono (k := j) (j := j') h1 (by omega)
            omega
        rw [T.own h0 hin.1 hin.2 hjj (by omega) hi]; rfl
      · have hNi : N i := hN.resolve_right hin
        cases hx : look ((X j).H (U j)) i with
        | some s => exact absurd (T.wf j (by omega) i s hx) hin
        | none => rw [Option.none_or]; exact h.heap j' hj' i so hi hNi
    · -- the slots
      have keep : ∀ z : SV, a.tmps[t]? = some (z.val ρ') ∧ z.In N → o.dst ≠ some t → (a.put o.dst (((X j).v (U j)).val ρ'')).tmps[t]? = some (z.val ρ'') ∧ z.In (Ext N (U j) (X j).m) := by
        intro z hz hne
        have hv : z.val ρ'' = z.val ρ' := SV.val_agree (fun i hi => hρ i hi) z hz.2
        refine ⟨?_, SV.In.mono (fun i hi => Or.inl hi) z hz.2⟩
        rw [hv, ← hz.1]
        cases hdst : o.dst with
        | none => rfl
        | some d =>
          rw [hdst] at hne
          have hdt : d ≠ t := fun e => hne (by rw [e])
          simp [Act.put, Array.getElem?_setIfInBounds_ne hdt]
      by_cases hdst : o.dst = some t
      · have hz' : z = (X j).v (U j) := by
          rw [cur_skip (k := m) (j := j + 1) (by omega) fun i x h1 h2 h3 hx hx' => ?_, cur] at hz
          · simp only [hsetj, ho, hdst, setO, if_pos] at hz
            injection hz with hz; exact hz.symm
          · rw [getD_set_ne false (by omega)] at h3
            exact (Oper.apart_spec (hnot i x (by omega) h2 hx h3)).2.1 t hdst hx'
        subst hz'
        refine ⟨?_, hv⟩
        have := hdj t hdst
        simp [hdst, Act.put, this]
      · rw [cur_ext (L' := fun k => listed.getD k false) fun i hi => ?_] at hz
        · exact keep z (h.slots t z hz) hdst
        · by_cases e : j = i
          · subst e; exact .inr fun x hx => by rw [ho] at hx; injection hx with hx; subst hx; exact hdst
          · exact .inl (getD_set_ne false e)
  unfold wpOp
  rw [hoA]
  rcases hstep with ⟨hx, hw⟩ | ⟨hw, F, hF, hq⟩
  · have := hw N ρ' a hsl
    simp only [this]
    have hn := next ρ' w (fun _ _ => rfl)
    rw [hx] at hn
    simp only [Out.m, Out.H, Out.v, Ext_zero, List.nil_append] at hn
    exact hn h.sat trivial
  · have := hw N ρ' a hsl
    simp only [this, if_true]
    refine .inl (hq.sem w0 O N ρ' a w Hc _ _ (fun i hi => (h.names i).2 (.inl hi)) (fun t ht y hy => ?_) (fun i so hi hN => h.heap j (by omega) i so hi hN) h.sat hfree next)
    obtain ⟨z, h1, h2, h3⟩ := hF t y hy
    have := hsl t (List.mem_append.2 (.inl ht)) z h1
    exact ⟨by rw [h2]; exact this.1, h3 N this.2⟩

/-- The whole head, then the tail. -/
theorem Head.run (D : DrawOk ops m) (T : Trace P ops u0 (ops.take m) X U Hf Of) (hU : U 0 = u0) (h0 : ∀ i so, look (Hf 0) i = some so → i < U 0) (hd : ops.all (dstOk n) = true) {Q : Exit → Act → World → Prop}
    (hQ : ∀ a w ρ', (∀ i, i < u0 → ρ' i = ρ i) → a.tmps.size = n → a.defers = [] → Sat w0 O (· < U m) ρ' (Hf m) w → (∀ t z, Of m t = some z → a.tmps[t]? = some (z.val ρ') ∧ z.In (· < U m)) → wpList P ops.toArray Q (ops.drop m) a w) :
    ∀ (d : Nat) {listed : Array Bool} {a : Act} {w : World} {N : Nat → Prop} {ρ' : Env} {Hc : Hp}, ((List.range m).filter fun i => !listed.getD i false).length = d → Head P ops m u0 X U Hf (Of 0) n w0 O ρ listed a w N ρ' Hc → wpAny P .any ops.toArray Q (d + (ops.length - m)) listed a w := by
  have hlen : (ops.take m).length = m := by rw [List.length_take]; have := D.le; omega
  have htake : ∀ i, i < m → (ops.take m)[i]? = ops[i]? := fun i hi => by rw [List.getElem?_take, if_pos hi]
  intro d
  induction d with
  | zero =>
    intro listed a w N ρ' Hc hc h
    have hall : ∀ i, i < m → listed.getD i false = true := fun i hi => by
      have := List.length_eq_zero_iff.1 hc
      have := List.filter_eq_nil_iff.1 this i (List.mem_range.2 hi)
      simpa using this
    have hN : ∀ i, N i ↔ i < U m := fun i => by
      rw [h.names i]
      constructor
      · rintro (h1 | ⟨k, h1, _, h2, h3⟩)
        · have := T.mono (k := m) (j := 0) (by omega) (by omega); omega
        · have := T.mono (k := m) (j := k + 1) (by omega) (by omega)
          rw [T.su k (by omega)] at this; omega
      · intro h1
        by_cases h2 : i < u0
        · exact .inl h2
        · refine .inr ?_
          have : ∀ k, k ≤ m → i < U k → ∃ k, k < m ∧ listed.getD k false = true ∧ U k ≤ i ∧ i < U k + (X k).m := by
            intro k
            induction k with
            | zero => intro _ h3; omega
            | succ k ih =>
              intro hk h3
              by_cases h4 : i < U k
              · exact ih (by omega) h4
              · exact ⟨k, by omega, hall k (by omega), by omega, by rw [← T.su k (by omega)]; exact h3⟩
          exact this m (Nat.le_refl _) h1
    have hN' : N = (· < U m) := funext fun i => propext (hN i)
    subst hN'
    have hcur : ∀ t, cur ops X U (fun k => listed.getD k false) (Of 0) m t = Of m t := fun t => by
      rw [← T.cur_of htake hlen (k := m) (Nat.le_refl _)]
      exact cur_ext fun i hi => .inl (hall i hi)
    have hs : Sat w0 O (· < U m) ρ' (Hf m) w := by
      have hb := T.bound h0 (k := m) (by omega)
      refine h.sat.weaken (fun i so hi => h.heap m (Nat.le_refl _) i so hi (hb i so hi)) fun i so hi => ⟨hb i so hi, (h.sat.dom i so (h.heap m (Nat.le_refl _) i so hi (hb i so hi))).2.1⟩
    have := hQ a w ρ' h.old h.size h.defers hs fun t z hz => h.slots t z (by rw [hcur]; exact hz)
    rw [Nat.zero_add]
    have hlsz : listed.size = ops.length := by have := h.hi.size; simpa using this
    rcases D.tail with ht | ⟨ht, h1, h2, h3⟩
    · rw [ht, Nat.sub_self]
      rw [ht, List.drop_length] at this
      refine ⟨?_, this⟩
      refine List.eq_nil_iff_forall_not_mem.2 fun i hi => ?_
      obtain ⟨g1, o, g2, _⟩ := mem_ready.1 hi
      have : i < ops.length := by have := (Array.getElem?_eq_some_iff.1 g2).1; simpa using this
      have := getD_both g1
      rw [hall i (by omega)] at this; cases this
    · have hl : listed = ⟨List.replicate m true ++ List.replicate (ops.length - m) false⟩ := by
        refine Array.ext (by simp; omega) fun i g1 g2 => ?_
        by_cases hi : i < m
        · have := hall i hi
          simp [Array.getD, g1] at this
          simp [this, hi]
        · have := h.hi.tail i (by omega) (by simp; omega)
          simp [Array.getD, g1] at this
          simp [this, List.getElem_append, hi]
      have := wpAny_of_seq (md := .any) (Q' := Q) (ops.drop m) m listed a w (fun j => by simp [List.getElem?_drop]) (by rw [hl, List.length_drop]; exact h3) this
      rwa [List.length_drop] at this
  | succ d ih =>
    intro listed a w N ρ' Hc hc h
    have hlsz : listed.size = ops.length := by have := h.hi.size; simpa using this
    rw [show d + 1 + (ops.length - m) = (d + (ops.length - m)) + 1 by omega]
    -- some operation of the head is not listed
    have hex : ∃ i, i < m ∧ listed.getD i false = false := by
      refine Classical.byContradiction fun hno => ?_
      have : ((List.range m).filter fun i => !listed.getD i false) = [] := List.filter_eq_nil_iff.2 fun i hi => by
        have := List.mem_range.1 hi
        cases hL : listed.getD i false with
        | true => simp
        | false => exact absurd ⟨i, this, hL⟩ hno
      rw [this] at hc; cases hc
    obtain ⟨i, him, hiL⟩ := hex
    have hin : ∀ j ∈ Region.ready .any ops.toArray listed, j < m := fun j hj => by
      rcases Nat.lt_or_ge j m with h1 | h1
      · exact h1
      · rcases D.tail with ht | ⟨ht, g1, g2, g3⟩
        · obtain ⟨_, o, g2, _⟩ := mem_ready.1 hj
          have : j < ops.length := by have := (Array.getElem?_eq_some_iff.1 g2).1; simpa using this
          omega
        · exact absurd hj (tail_waits g1 g2 (by simpa using ht) h.hi _ i rfl him (getD_in (by have := D.le; omega) hiL) j h1)
    refine ⟨fun hnil => ?_, fun j hj => ?_⟩
    · -- the least that is not listed is ready
      exfalso
      have least : ∀ k, k < m → listed.getD k false = false → ∃ j, j ∈ Region.ready .any ops.toArray listed := by
        intro k
        induction k using Nat.strongRecOn with
        | _ k ihk =>
          intro hk hkL
          have hkl : k < ops.length := by have := D.le; omega
          by_cases hr : k ∈ Region.ready .any ops.toArray listed
          · exact ⟨k, hr⟩
          · have : ¬ ∀ e ∈ (ops[k]'hkl).after, Region.binds .any e = true → listed.getD e.on false = true := fun hh => hr (mem_ready.2 ⟨getD_in (by omega) hkL, ops[k], by simp, hh⟩)
            obtain ⟨e, he⟩ := Classical.not_forall.1 this
            obtain ⟨hea, he⟩ := Classical.not_imp.1 he
            obtain ⟨heb, he⟩ := Classical.not_imp.1 he
            have hlt := D.back k ops[k] (by simp) e hea heb
            exact ihk e.on hlt (by omega) (by simpa using he)
      obtain ⟨j, hj⟩ := least i him hiL
      rw [hnil] at hj; cases hj
    · have hjm := hin j hj
      refine h.step D T hU h0 hd hj hjm fun a' w' N' ρ'' Hc' h' => ih ?_ h'
      have hun := getD_both (mem_ready.1 hj).1
      have hcount : ∀ (r : List Nat), r.Nodup → j ∈ r → (r.filter fun i => !(listed.setIfInBounds j true).getD i false).length + 1 = (r.filter fun i => !listed.getD i false).length := by
        intro r
        induction r with
        | nil => intro _ h; cases h
        | cons x r ihr =>
          intro hnd hmem
          rw [List.nodup_cons] at hnd
          by_cases e : j = x
          · subst e
            have : (r.filter fun i => !(listed.setIfInBounds j true).getD i false) = (r.filter fun i => !listed.getD i false) := List.filter_congr fun y hy => by
              rw [getD_set_ne false (fun e : j = y => hnd.1 (by rw [e]; exact hy))]
            rw [List.filter_cons, List.filter_cons, this, getD_set_self (by have := D.le; omega), hun]
            simp
          · have := ihr hnd.2 ((List.mem_cons.1 hmem).resolve_left e)
            rw [List.filter_cons, List.filter_cons, getD_set_ne false e]
            cases listed.getD x false <;> simp <;> simpa using this
      have := hcount (List.range m) List.nodup_range (List.mem_range.2 hjm)
      omega
end

/-- A region that draws its order: the text's order will do. m: how many operations come ahead of the tail. -/
theorem CodeL.draw {P : Program} {tab : Tab} (hP : TabOk P tab) (hm : P.follows .mixedOrders = true) {n id : Nat} {ops : Array Oper} {F : Fr} {H : Hp} {u : Nat} {Q : SE → Fr → Hp → Nat → Prop} (m : Nat) (hB : drawB ops.toList m = true) (hd : ops.toList.all (dstOk n) = true)
    (h : qops P tab ops.toList u (ops.toList.take m) F H u fun F' H' u' => sops P tab ops.toList (ops.toList.drop m) F' H' u' (Q .normal)) : CodeL P n (.region id ops true) F H u Q := by
  refine ⟨fun w0 O ρ a w hs => ?_⟩
  have D := drawB_out hB
  have hlen : (ops.toList.take m).length = m := by rw [List.length_take]; have := D.le; omega
  obtain ⟨X, U, Hf, Of, F', hU, hH, hO, T, hF', hK⟩ := qops_out hP h (f := look F) fun t y hy => ⟨y, hy, fun _ => rfl, fun _ h => h⟩
  rw [hlen] at hF' hK
  refine wp_region_any hm ?_
  have h0 : ∀ i so, look (Hf 0) i = some so → i < U 0 := fun i so hi => by rw [hU]; rw [hH] at hi; exact (hs.sat.dom i so hi).1
  have := Head.run (ρ := ρ) (Q := Post n w0 O u ρ Q) D T hU h0 hd (fun a' w' ρ' h1 h2 h3 h4 h5 => ?_) m (listed := Array.replicate ops.toList.length false) (a := a) (w := { w with drawn := w.drawn + 1 }) (N := (· < u)) (ρ' := ρ) (Hc := H) ?_ ⟨⟨by simp, fun j oj _ hl => (by rw [getD_replicate_false] at hl; cases hl), fun t _ ht => getD_in (by simpa using ht) (getD_replicate_false _ _)⟩, fun _ _ => rfl, fun i => ⟨.inl, fun hi => hi.elim (fun h => h) fun ⟨k, _, hk, _⟩ => (by rw [getD_replicate_false] at hk; cases hk)⟩, hs.sat.drew, fun j hj i so hi hN => ?_, hs.size, hs.defers, fun t z hz => ?_⟩
  · have e : m + (ops.toList.length - m) = ops.size := by have := D.le; simp only [Array.length_toList] at *; omega
    rw [e] at this
    simpa using this
  · have hu : u ≤ U m := by rw [← hU]; exact T.mono (k := m) (j := 0) (by omega) (by omega)
    refine sops_sound hP _ hK ?_ (w := w') ⟨h2, h3, fun t y hy => ?_, h4⟩ fun F2 H2 u2 ρ2 a2 w2 g1 g2 g3 g4 => ⟨.normal, F2, H2, u2, ρ2, rfl, Nat.le_trans hu g1, fun i hi => (g2 i (by omega)).trans (h1 i hi), g3, g4⟩
    · exact List.all_eq_true.2 fun x hx => List.all_eq_true.1 hd x (List.mem_of_mem_drop hx)
    · obtain ⟨z, g1, g2, g3⟩ := hF' t y hy
      obtain ⟨q1, q2⟩ := h5 t z g1
      exact ⟨by rw [g2]; exact q1, g3 _ q2⟩
  · have : ((List.range m).filter fun i => !(Array.replicate ops.toList.length false).getD i false) = List.range m := List.filter_eq_self.2 fun i _ => by rw [getD_replicate_false]; rfl
    rw [this, List.length_range]
  · -- the heap at the start
    have : ∀ j, j ≤ m → look (Hf j) i = some so → look H i = some so := by
      intro j
      induction j with
      | zero => intro _ h1; rw [hH] at h1; exact h1
      | succ j ih =>
        intro hj h1
        rw [T.sH j (by omega), look_append] at h1
        cases hx : look ((X j).H (U j)) i with
        | some s =>
          have g1 := (T.wf j (by omega) i s hx).1
          have g2 := T.mono (k := j) (j := 0) (by omega) (by omega)
          rw [hU] at g2
          have : i < u := hN
          omega
        | none => rw [hx, Option.none_or] at h1; exact ih (by omega) h1
    exact this j hj hi
  · rw [cur_ext (L' := fun _ => false) fun i hi => .inl (getD_replicate_false _ _)] at hz
    have : ∀ k, cur ops.toList X U (fun _ => false) (Of 0) k t = Of 0 t := by
      intro k; induction k with
      | zero => rfl
      | succ k ih => rw [cur]; exact ih
    rw [this, hO] at hz
    exact hs.fr t z hz
end Go.Sh
