import Derived.Test.YtkopfaenfaelfaaSh14
/- Regions that draw their order: the theorem. -/
set_option linter.unusedVariables false
namespace Go.Sh
open Go.RowKit

/-! ### The static look -/
def waitsB (o : Oper) (k : Nat) : Bool := o.after.any fun e => Region.binds .any e && e.on == k
def selB (o : Oper) : Bool := match o.op with | .select .. => false | _ => true

def pairB (ops : List Oper) (m : Nat) : Nat → Nat → List Oper → Bool
  | _, _, [] => true
  | k, j, o :: r => (waitsB o k || ((decide (j < m)) && (match ops[k]? with | some x => x.apart ops.toArray o | none => false))) && pairB ops m k (j + 1) r
def pairsB (ops : List Oper) (m : Nat) : Nat → List Oper → Bool
  | _, [] => true
  | k, _ :: r => pairB ops m k (k + 1) r && pairsB ops m (k + 1) r
def backB : Nat → List Oper → Bool
  | _, [] => true
  | j, o :: r => (o.after.all fun e => !Region.binds .any e || decide (e.on < j)) && backB (j + 1) r

/-- The look at a region: m: how many operations may come in any order; those behind come one by one. -/
def drawB (ops : List Oper) (m : Nat) : Bool := pairsB ops m 0 (ops.take m) && (backB 0 ops && (decide (m ≤ ops.length) && (Nat.beq m ops.length || (Nat.blt m ops.length && (Region.sinkB .any ops.toArray m && (Region.chainB .any ops.toArray m &&
  Region.seqB .any ops.toArray (ops.length - m) m ⟨List.replicate m true ++ List.replicate (ops.length - m) false⟩))))))

theorem pairB_out {ops : List Oper} {m k : Nat} : ∀ {r : List Oper} {j : Nat}, pairB ops m k j r = true → ∀ i o, r[i]? = some o → waitsB o k = true ∨ (j + i < m ∧ ∃ x, ops[k]? = some x ∧ x.apart ops.toArray o = true)
  | [], j, _, i, o, h => by simp at h
  | x :: r, j, hB, i, o, h => by
    rw [pairB, Bool.and_eq_true] at hB
    cases i with
    | zero =>
      simp only [List.getElem?_cons_zero, Option.some.injEq] at h
      subst h
      rcases Bool.or_eq_true _ _ ▸ hB.1 with h1 | h1
      · exact .inl h1
      · rw [Bool.and_eq_true] at h1
        refine .inr ⟨by simpa using h1.1, ?_⟩
        have h2 := h1.2
        split at h2
        · rename_i y hy; exact ⟨y, hy, h2⟩
        · cases h2
    | succ i =>
      rcases pairB_out hB.2 i o (by simpa using h) with h1 | ⟨h1, h2⟩
      · exact .inl h1
      · exact .inr ⟨by omega, h2⟩
theorem pairsB_out {ops : List Oper} {m : Nat} : ∀ {r : List Oper} {k : Nat}, pairsB ops m k r = true → ∀ i, i < r.length → ∀ j o, i < j → r[j]? = some o → waitsB o (k + i) = true ∨ (k + j < m ∧ ∃ x, ops[k + i]? = some x ∧ x.apart ops.toArray o = true)
  | [], k, _, i, hi, j, o, hj, h => by simp at hi
  | x :: r, k, hB, i, hi, j, o, hj, h => by
    rw [pairsB, Bool.and_eq_true] at hB
    obtain ⟨j, rfl⟩ : ∃ n, j = n + 1 := ⟨j - 1, by omega⟩
    rw [List.getElem?_cons_succ] at h
    cases i with
    | zero =>
      rcases pairB_out hB.1 j o h with h1 | ⟨h1, h2⟩
      · exact .inl h1
      · exact .inr ⟨by omega, h2⟩
    | succ i =>
      rcases pairsB_out hB.2 i (by simpa using hi) j o (by omega) h with h1 | ⟨h1, h2⟩
      · exact .inl (by rw [show k + (i + 1) = k + 1 + i from by omega]; exact h1)
      · exact .inr ⟨by omega, by rw [show k + (i + 1) = k + 1 + i from by omega]; exact h2⟩
theorem backB_out : ∀ {r : List Oper} {k : Nat}, backB k r = true → ∀ i o, r[i]? = some o → ∀ e ∈ o.after, Region.binds .any e = true → e.on < k + i
  | [], k, _, i, o, h, e, he, hb => by simp at h
  | x :: r, k, hB, i, o, h, e, he, hb => by
    rw [backB, Bool.and_eq_true] at hB
    cases i with
    | zero =>
      simp only [List.getElem?_cons_zero, Option.some.injEq] at h
      subst h
      have := Array.all_eq_true_iff_forall_mem.1 hB.1 e he
      simpa [hb] using this
    | succ i =>
      have := backB_out hB.2 i o (by simpa using h) e he hb
      omega

structure DrawOk (ops : List Oper) (m : Nat) : Prop where
  pair : ∀ k j o, k < j → j < m → ops[j]? = some o → waitsB o k = true ∨ (∃ x, ops[k]? = some x ∧ x.apart ops.toArray o = true)
  back : ∀ j o, ops[j]? = some o → ∀ e ∈ o.after, Region.binds .any e = true → e.on < j
  le : m ≤ ops.length
  tail : m = ops.length ∨ (m < ops.length ∧ Region.sinkB .any ops.toArray m = true ∧ Region.chainB .any ops.toArray m = true ∧ Region.seqB .any ops.toArray (ops.length - m) m ⟨List.replicate m true ++ List.replicate (ops.length - m) false⟩ = true)
theorem drawB_out {ops : List Oper} {m : Nat} (h : drawB ops m = true) : DrawOk ops m := by
  simp only [drawB, Bool.and_eq_true, Bool.or_eq_true, decide_eq_true_eq, Nat.beq_eq, Nat.blt_eq] at h
  obtain ⟨h1, h2, h3, h4⟩ := h
  refine ⟨fun k j o hkj hjm hj => ?_, fun j o hj e he hb => by simpa using backB_out h2 j o hj e he hb, h3, h4⟩
  have hjt : (ops.take m)[j]? = some o := by rw [List.getElem?_take, if_pos hjm]; exact hj
  have := pairsB_out h1 k (Nat.lt_trans hkj (List.getElem?_eq_some_iff.1 hjt).1) j o hkj hjt
  simp only [Nat.zero_add] at this
  exact this.imp id (fun h => h.2)

theorem waitsB_out {o : Oper} {k : Nat} (h : waitsB o k = true) : ∃ e ∈ o.after, Region.binds .any e = true ∧ e.on = k := by
  obtain ⟨e, he, hb⟩ := Array.any_eq_true'.1 h
  simp only [Bool.and_eq_true, beq_iff_eq] at hb
  exact ⟨e, he, hb⟩

/-! ### The trace -/
def setO (d : Option Tmp) (v : SV) (f : Nat → Option SV) : Nat → Option SV := match d with | some d => fun t => if t = d then some v else f t | none => f

def RelF (F : Fr) (f : Nat → Option SV) : Prop := ∀ t y, look F t = some y → ∃ z, f t = some z ∧ (∀ ρ, y.val ρ = z.val ρ) ∧ ∀ N, z.In N → y.In N

theorem RelF.put {F : Fr} {f : Nat → Option SV} (h : RelF F f) (d : Option Tmp) (v : SV) : RelF (putF d v F) (setO d v f) := by
  cases d with
  | none => exact h
  | some d =>
    intro t y hy
    rw [putF, look_cons] at hy
    split at hy
    · rename_i e; subst e; injection hy with hy; subst hy; exact ⟨v, by simp [setO], fun _ => rfl, fun _ => id⟩
    · rename_i e
      obtain ⟨z, h1, h2⟩ := h t y hy
      exact ⟨z, by simp [setO, Ne.symm e, h1], h2⟩

def Slots (all : List Oper) (o : Oper) (f : Nat → Option SV) (N : Nat → Prop) (ρ : Env) (a : Act) : Prop := ∀ t, t ∈ o.looksAt all.toArray → ∀ z, f t = some z → a.tmps[t]? = some (z.val ρ) ∧ z.In N

theorem guard_static {all : List Oper} {o : Oper} {F : Fr} {run skip : Fr → Prop} {f : Nat → Option SV} (h : guardK all o F run skip) (hF : RelF F f) :
    ∃ F', RelF F' f ∧ (((∀ N ρ a, Slots all o f N ρ a → Region.wanted o (yielded all.toArray a.tmps) = true) ∧ run F') ∨ ((∀ N ρ a, Slots all o f N ρ a → Region.wanted o (yielded all.toArray a.tmps) = false) ∧ skip F')) := by
  unfold guardK at h
  split at h
  · rename_i hg
    exact ⟨F, hF, .inl ⟨fun _ _ _ _ => by simp [Region.wanted, hg], h⟩⟩
  · rename_i j want hg
    split at h
    · rename_i oj hj
      rw [nthOp_eq] at hj
      split at h
      · rename_i d hd
        have hlook : d ∈ o.looksAt all.toArray := by simp [Oper.looksAt, hg, hj, hd]
        have hy : ∀ v, look F d = some v → ∀ N ρ a, Slots all o f N ρ a → yielded all.toArray a.tmps j = match v.val ρ with | .bool b => some b | _ => none := fun v hv N ρ a ha => by
          obtain ⟨z, h1, h2, _⟩ := hF d v hv
          simp only [yielded, List.getElem?_toArray, hj, Option.bind_some, hd, (ha d hlook z h1).1, ← h2]
          cases SV.val ρ v <;> rfl
        have know : ∀ b, look F d = some (.bool b) → RelF ((d, sb b) :: F) f := fun b hb t y hy => by
          rw [look_cons] at hy
          split at hy
          · rename_i e; subst e; injection hy with hy; subst hy
            obtain ⟨z, h1, h2, h3⟩ := hF d _ hb
            exact ⟨z, h1, fun ρ => by rw [sb_val, ← h2]; rfl, fun N _ => sb_In _ _⟩
          · exact hF t y hy
        split at h
        · rename_i hl
          cases want
          · exact ⟨F, hF, .inr ⟨fun N ρ a ha => by simp [Region.wanted, hg, hy _ hl N ρ a ha, SV.val], h⟩⟩
          · exact ⟨F, hF, .inl ⟨fun N ρ a ha => by simp [Region.wanted, hg, hy _ hl N ρ a ha, SV.val], h⟩⟩
        · rename_i hl
          cases want
          · exact ⟨F, hF, .inl ⟨fun N ρ a ha => by simp [Region.wanted, hg, hy _ hl N ρ a ha, SV.val], h⟩⟩
          · exact ⟨F, hF, .inr ⟨fun N ρ a ha => by simp [Region.wanted, hg, hy _ hl N ρ a ha, SV.val], h⟩⟩
        · rename_i b hl
          have hk := know b hl
          cases b
          · have := h.no rfl
            cases want
            · exact ⟨_, hk, .inl ⟨fun N ρ a ha => by simp [Region.wanted, hg, hy _ hl N ρ a ha, SV.val], this⟩⟩
            · exact ⟨_, hk, .inr ⟨fun N ρ a ha => by simp [Region.wanted, hg, hy _ hl N ρ a ha, SV.val], this⟩⟩
          · have := h.yes rfl
            cases want
            · exact ⟨_, hk, .inr ⟨fun N ρ a ha => by simp [Region.wanted, hg, hy _ hl N ρ a ha, SV.val], this⟩⟩
            · exact ⟨_, hk, .inl ⟨fun N ρ a ha => by simp [Region.wanted, hg, hy _ hl N ρ a ha, SV.val], this⟩⟩
        · rename_i hl
          exact ⟨F, hF, .inr ⟨fun N ρ a ha => by simp [Region.wanted, hg, hy _ hl N ρ a ha, SV.val, Go.undef], h⟩⟩
        · exact h.elim
      · exact h.elim
    · exact h.elim

def StepOk (P : Program) (all : List Oper) (o : Oper) (f : Nat → Option SV) (H : Hp) (u0 u : Nat) (x : Out) : Prop :=
  (x = .skip ∧ ∀ N ρ a, Slots all o f N ρ a → Region.wanted o (yielded all.toArray a.tmps) = false) ∨
  ((∀ N ρ a, Slots all o f N ρ a → Region.wanted o (yielded all.toArray a.tmps) = true) ∧ ∃ F, RelF F f ∧ QSem P o F H u0 u x)

def outK (x : Out) (u : Nat) (H : Hp) (k : SV → Hp → Nat → Prop) : Prop :=
  match x with
  | .skip => False
  | .old v => k v H u
  | .fresh r objs m => k (r.sh u) (shH u objs ++ H) (u + m)
theorem outK_out {x : Out} {u : Nat} {H : Hp} {k : SV → Hp → Nat → Prop} (h : outK x u H k) : k (x.v u) (x.H u ++ H) (u + x.m) := by
  cases x with
  | skip => exact h.elim
  | old v => exact h
  | fresh r objs m => exact h

def qopC (P : Program) (tab : Tab) (all : List Oper) (u0 : Nat) (o : Oper) (ih : OpsT) : OpsT := fun F H u K =>
  guardK all o F (fun F' => qop P tab o (resF F' (tmpsOf o)) H u0 u fun x => outK x u H fun v H' u' => ih (putF o.dst v F') H' u' K) (fun F' => ih (putF o.dst .undef F') H u K)
def qops (P : Program) (tab : Tab) (all : List Oper) (u0 : Nat) (l : List Oper) : OpsT :=
  List.rec (motive := fun _ => OpsT) (fun F H u K => K F H u) (fun o _ ih => qopC P tab all u0 o ih) l

theorem qops_cons (P : Program) (tab : Tab) (all : List Oper) (u0 : Nat) (o : Oper) (r : List Oper) (F : Fr) (H : Hp) (u : Nat) (K : Fr → Hp → Nat → Prop) : qops P tab all u0 (o :: r) F H u K =
  guardK all o F (fun F' => qop P tab o (resF F' (tmpsOf o)) H u0 u fun x => outK x u H fun v H' u' => qops P tab all u0 r (putF o.dst v F') H' u' K) (fun F' => qops P tab all u0 r (putF o.dst .undef F') H u K) := rfl

structure Trace (P : Program) (all : List Oper) (u0 : Nat) (l : List Oper) (X : Nat → Out) (U : Nat → Nat) (Hf : Nat → Hp) (Of : Nat → Nat → Option SV) : Prop where
  step : ∀ i o, l[i]? = some o → StepOk P all o (Of i) (Hf i) u0 (U i) (X i)
  su : ∀ i, i < l.length → U (i + 1) = U i + (X i).m
  sH : ∀ i, i < l.length → Hf (i + 1) = (X i).H (U i) ++ Hf i
  sO : ∀ i o, l[i]? = some o → Of (i + 1) = setO o.dst ((X i).v (U i)) (Of i)
  wf : ∀ i, i < l.length → ∀ k so, look ((X i).H (U i)) k = some so → U i ≤ k ∧ k < U i + (X i).m

theorem qops_out {P : Program} {tab : Tab} (hP : TabOk P tab) {all : List Oper} {u0 : Nat} : ∀ {l : List Oper} {F : Fr} {H : Hp} {u : Nat} {K : Fr → Hp → Nat → Prop} {f : Nat → Option SV}, qops P tab all u0 l F H u K → RelF F f →
    ∃ X U Hf Of F', U 0 = u ∧ Hf 0 = H ∧ Of 0 = f ∧ Trace P all u0 l X U Hf Of ∧ RelF F' (Of l.length) ∧ K F' (Hf l.length) (U l.length)
  | [], F, H, u, K, f, h, hF => ⟨fun _ => .skip, fun _ => u, fun _ => H, fun _ => f, F, rfl, rfl, rfl, ⟨fun i o hi => by simp at hi, fun i hi => by simp at hi, fun i hi => by simp at hi, fun i o hi => by simp at hi, fun i hi => by simp at hi⟩, hF, h⟩
  | o :: r, F, H, u, K, f, h, hF => by
    rw [qops_cons] at h
    obtain ⟨F1, hF1, hrs⟩ := guard_static h hF
    have main : ∀ (x : Out) (hx : StepOk P all o f H u0 u x) (hwf : ∀ k so, look (x.H u) k = some so → u ≤ k ∧ k < u + x.m) (g : qops P tab all u0 r (putF o.dst (x.v u) F1) (x.H u ++ H) (u + x.m) K), ∃ X U Hf Of F', U 0 = u ∧ Hf 0 = H ∧ Of 0 = f ∧ Trace P all u0 (o :: r) X U Hf Of ∧ RelF F' (Of (o :: r).length) ∧ K F' (Hf (o :: r).length) (U (o :: r).length) := by
      intro x hx hwf g
      obtain ⟨X, U, Hf, Of, F', h1, h2, h3, h4, h5, h6⟩ := qops_out hP g (hF1.put o.dst (x.v u))
      refine ⟨fun i => match i with | 0 => x | i + 1 => X i, fun i => match i with | 0 => u | i + 1 => U i, fun i => match i with | 0 => H | i + 1 => Hf i, fun i => match i with | 0 => f | i + 1 => Of i, F', rfl, rfl, rfl, ⟨fun i o' hi => ?_, fun i hi => ?_, fun i hi => ?_, fun i o' hi => ?_, fun i hi => ?_⟩, h5, h6⟩
      · cases i with
        | zero => simp only [List.getElem?_cons_zero, Option.some.injEq] at hi; subst hi; exact hx
        | succ i => exact h4.step i o' (by simpa using hi)
      · cases i with
        | zero => exact h1
        | succ i => exact h4.su i (by simpa using hi)
      · cases i with
        | zero => exact h2
        | succ i => exact h4.sH i (by simpa using hi)
      · cases i with
        | zero => simp only [List.getElem?_cons_zero, Option.some.injEq] at hi; subst hi; exact h3
        | succ i => exact h4.sO i o' (by simpa using hi)
      · cases i with
        | zero => exact hwf
        | succ i => exact h4.wf i (by simpa using hi)
    rcases hrs with ⟨hw, g⟩ | ⟨hw, g⟩
    · obtain ⟨x, g1, g2⟩ := qop_out hP g
      exact main x (.inr ⟨hw, F1, hF1, g2⟩) g2.wf (outK_out g1)
    · exact main .skip (.inl ⟨rfl, hw⟩) (fun k so hk => by cases hk) g

end Go.Sh
