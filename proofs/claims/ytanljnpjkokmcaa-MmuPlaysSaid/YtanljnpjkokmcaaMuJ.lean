import Derived.Test.YtanljnpjkokmcaaMuG
import Derived.Test.YtanljnpjkokmcaaMH
import Derived.Test.YtanljnpjkokmcaaMW
import Derived.Test.YtanljnpjkokmcaaMG
set_option linter.unusedVariables false
namespace Go.Sh.Ytanljnpjkokmcaa
open Go.Proofs Go.Sh

theorem refplace_ok (e : Ent) (va : Nat) (k : Int) : Pure Try.prog 54 [.agg (entC e), .int .u64 (va : Int), .int .i64 k] (.agg [.int .u64 (plA e va), .bool (stripB e k)]) := by
  refine Spec.of_body tabOk Try.func54 rfl (ent Try.func54 rfl (by kernel_rfl)) Try.ntmps54 rfl (by kernel_rfl) (Nat.le_of_ble_eq_true rfl) ?_
  conv => whnf
  refine ⟨fun h => ?_, fun h => ?_⟩
  all_goals
    conv => whnf
    intro ρ
    simp only [stripB]
    rw [h]
    rfl
def plO (k : Int) (tg gen : Bool) : Option (Ent × Nat) → Except Int Ent
  | none => .error 1
  | some (x, a) => if chkE x k tg gen = 0 then .ok x else .error (chkE x k tg gen)
theorem plainG_ok (s : Nat → List Ln) (root asid : Nat) (gen : Bool) (b t : Nat → Nat) (va : Nat) (k : Int) (tg : Bool) (hs : okT s) (hb : okB b) (hr : root < 2 ^ 64) (hva : va < 2 ^ 64) : Fun Try.prog 15 [.ptr 0 0, .ptr 1 0, .int .u64 (va : Int), .int .i64 k, .bool tg] [(0, .view (tlbC s (uR root asid gen))), (1, .cells [.slice 2 0 8 8]), (2, .view (ramV 8 b t))] 3 0 (fun _ : Unit => True) (fun _ => trV va k (plO k tg gen (walkF b 8 root va))) (fun _ => [(1, .cells [.slice 2 0 8 8])]) := by
  unfold Fun
  have hlo := looked_ok s root asid gen b t va k tg hs hb hr hva
  generalize walkF b 8 root va = o at hlo ⊢
  refine Spec.of_body tabOk Try.func15 rfl (ent Try.func15 rfl (by kernel_rfl)) Try.ntmps15 rfl (by kernel_rfl) (Nat.le_of_ble_eq_true rfl) ?_
  conv => whnf
  rcases o with _ | ⟨x, a⟩
  all_goals
    refine Spec.fn hlo [0, 1, 2] rfl rfl (fun _ => rfl) rfl ⟨⟨by decide, rfl, rfl, _, rfl, fun _ => rfl, Nat.le_refl _, fun _ => Nat.le_refl _, fun h => (by cases h)⟩, ⟨by decide, rfl, rfl, _, rfl, fun _ => rfl, Nat.le_refl _, fun _ => Nat.le_refl _, id⟩, ⟨by decide, rfl, rfl, _, rfl, fun _ => rfl, Nat.le_refl _, fun _ => Nat.le_refl _, fun h => (by cases h)⟩, trivial⟩ (fun _ _ => ⟨rfl, rfl, rfl, ⟨_, rfl, rfl, rfl⟩, rfl, trivial⟩) (fun _ _ => ?_)
    conv => whnf
  · refine .t rfl ?_
    conv => whnf
    exact ⟨(), fun i => (i, 0), trivial, fun _ _ => rfl, Part.keys ⟨⟨by decide, rfl, rfl, _, rfl, fun _ => rfl, Nat.le_refl _, fun _ => Nat.le_refl _, id⟩, trivial⟩ rfl, fun ρ => rfl⟩
  · refine ⟨fun hc => ?_, fun hc => ?_⟩
    · have hc : chkE x k tg gen ≠ 0 := by simpa using hc
      have hz : plO k tg gen (some (x, a)) = .error (chkE x k tg gen) := if_neg hc
      rw [hz]
      conv => whnf
      exact ⟨(), fun i => (i, 0), trivial, fun _ _ => rfl, Part.keys ⟨⟨by decide, rfl, rfl, _, rfl, fun _ => rfl, Nat.le_refl _, fun _ => Nat.le_refl _, id⟩, trivial⟩ rfl, fun ρ => rfl⟩
    · have hc : chkE x k tg gen = 0 := by simpa using hc
      have hz : plO k tg gen (some (x, a)) = .ok x := if_pos hc
      rw [hz]
      conv => whnf
      refine Spec.pure (place_ok x va k) rfl rfl (fun _ => rfl) ?_
      conv => whnf
      exact ⟨(), fun i => (i, 0), trivial, fun _ _ => rfl, Part.keys ⟨⟨by decide, rfl, rfl, _, rfl, fun _ => rfl, Nat.le_refl _, fun _ => Nat.le_refl _, id⟩, trivial⟩ rfl, fun ρ => rfl⟩
theorem refplain_ok (l : List (Nat × Nat)) (n0 n1 : Nat) (b0 b1 b2 b3 : Bool) (c0 c1 c2 c3 : Nat) (root asid va : Nat) (k : Int) (tg gen : Bool) (hl : l.length ≤ 100000) (hok : okL l) (h2 : okS l.length (b2, c2)) (h3 : okS l.length (b3, c3)) (hr : root < 2 ^ 64) (hva : va < 2 ^ 64) :
    Spec Try.prog 16 [.agg [.slz b0 0 0 n0 c0, .slz b1 1 0 n1 c1, .int .u64 (root : Int), .int .u64 (asid : Int), .bool gen], .agg [.int .i64 8, .slz b2 2 0 l.length c2, .slz b3 3 0 l.length c3, .nilSlice], .int .u64 (va : Int), .int .i64 k, .bool tg] [(2, .view (atV l)), (3, .view (byV l))] 4 fun v _ _ => ∀ ρ, v.val ρ = (trV va k (plO k tg gen (walkF (bL l) 8 root va))).val ρ := by
  have hw := refwalk_ok 8 l b2 b3 c2 c3 root va (by decide) (by decide) hl hok h2 h3 hr hva
  generalize walkF (bL l) 8 root va = o at hw ⊢
  refine Spec.of_body tabOk Try.func16 rfl (ent Try.func16 rfl (by kernel_rfl)) Try.ntmps16 rfl (by kernel_rfl) (Nat.le_of_ble_eq_true rfl) ?_
  conv => whnf
  rcases o with _ | ⟨x, a⟩
  all_goals
    refine Spec.fn (Fun.read hw rfl) [2, 3] rfl rfl (fun _ => rfl) rfl ⟨⟨by decide, rfl, rfl, _, rfl, fun _ => rfl, Nat.le_refl _, fun _ => Nat.le_refl _, id⟩, ⟨by decide, rfl, rfl, _, rfl, fun _ => rfl, Nat.le_refl _, fun _ => Nat.le_refl _, id⟩, trivial⟩ (fun _ _ => ⟨rfl, rfl, rfl, rfl, trivial⟩) (fun _ _ => ?_)
    conv => whnf
  · refine .t rfl ?_
    conv => whnf
    intro ρ
    rfl
  · refine .f rfl ?_
    conv => whnf
    refine Spec.pure (refcheck_ok x k tg gen) rfl rfl (fun _ => rfl) ?_
    conv => whnf
    refine ⟨fun hc => ?_, fun hc => ?_⟩
    · have hc : chkE x k tg gen ≠ 0 := by simpa using hc
      have hz : plO k tg gen (some (x, a)) = .error (chkE x k tg gen) := if_neg hc
      rw [hz]
      conv => whnf
      intro ρ
      rfl
    · have hc : chkE x k tg gen = 0 := by simpa using hc
      have hz : plO k tg gen (some (x, a)) = .ok x := if_pos hc
      rw [hz]
      conv => whnf
      refine Spec.pure (refplace_ok x va k) rfl rfl (fun _ => rfl) ?_
      conv => whnf
      intro ρ
      rfl
end Go.Sh.Ytanljnpjkokmcaa

set_option linter.unusedVariables false
namespace Go.Sh.Ytanljnpjkokmcaa
open Go.Proofs Go.Sh

/-- What a step does. -/
inductive Tro
  | err (n : Int)
  | hit (e : Ent)
  | drop
  | fill (m : Ent) (a : Nat)
  | fills (m : Ent) (a : Nat)
open Classical in
noncomputable def wkO (w : Option (Ent × Nat)) (k : Int) (tg gen : Bool) : Tro := match w with
  | none => .drop
  | some (x, a) => if chkE x k tg gen = 0 then (if markE x k tg = x then .fill (markE x k tg) a else .fills (markE x k tg) a) else .err (chkE x k tg gen)
open Classical in
noncomputable def outO (va : Nat) (o : Option Ent) (w : Option (Ent × Nat)) (k : Int) (tg gen : Bool) : Tro :=
  if va < 274877906944 then (match o with
    | none => wkO w k tg gen
    | some e => if chkE e k tg gen = 0 then (if markE e k tg = e then .hit e else wkO w k tg gen) else .err (chkE e k tg gen)) else .err 1
def applyO (s : Nat → List Ln) (b : Nat → Nat) (a n : Int) : Tro → TrY
  | .err m => (s, b, .error m)
  | .hit e => (s, b, .ok e)
  | .drop => (dropS s a n, b, .error 1)
  | .fill m p => (putS s ⟨a, n, m, (p : Int)⟩, b, .ok m)
  | .fills m p => (putS s ⟨a, n, m, (p : Int)⟩, stB b p (entW m) 8, .ok m)
theorem wkR_out {s : Nat → List Ln} {b : Nat → Nat} {root asid va : Nat} {gen tg : Bool} {k : Int} {y : TrY} (h : WkR s b root asid gen va k tg y) : y = applyO s b (asid : Int) ((va / 4096 : Nat) : Int) (wkO (walkF b 8 root va) k tg gen) := by
  unfold WkR at h
  unfold wkO
  generalize walkF b 8 root va = w at h ⊢
  rcases w with _ | ⟨x, a⟩
  · exact h
  · obtain ⟨h1, h2⟩ := h
    dsimp only
    by_cases hc : chkE x k tg gen = 0
    · rw [if_pos hc]
      obtain ⟨fl, hf, hy⟩ := h2 hc
      cases fl
      · rw [if_pos (hf.1 rfl)]; exact hy
      · rw [if_neg (fun g => by have := hf.2 g; cases this)]; exact hy
    · rw [if_neg hc]; exact h1 hc
open Classical in
theorem trR_out {s : Nat → List Ln} {b : Nat → Nat} {root asid va : Nat} {gen tg : Bool} {k : Int} {y : TrY} (h : TrR s b root asid gen va k tg y) : y = applyO s b (asid : Int) ((va / 4096 : Nat) : Int) (outO va (((s (q4 ((va / 4096 : Nat) : Int))).find? (isP (asid : Int) ((va / 4096 : Nat) : Int))).map Ln.e) (walkF b 8 root va) k tg gen) := by
  obtain ⟨h1, h2⟩ := h
  unfold outO
  by_cases hv : va < 274877906944
  · rw [if_pos hv]
    have h2 := h2 hv
    generalize (s (q4 ((va / 4096 : Nat) : Int))).find? (isP (asid : Int) ((va / 4096 : Nat) : Int)) = o at h2 ⊢
    rcases o with _ | l
    · exact wkR_out h2
    · obtain ⟨h3, h4⟩ := h2
      show y = applyO s b _ _ (if chkE l.e k tg gen = 0 then (if markE l.e k tg = l.e then .hit l.e else wkO _ k tg gen) else .err (chkE l.e k tg gen))
      by_cases hc : chkE l.e k tg gen = 0
      · rw [if_pos hc]
        by_cases hm : markE l.e k tg = l.e
        · rw [if_pos hm]; exact (h4 hc).1 hm
        · rw [if_neg hm]; exact wkR_out ((h4 hc).2 hm)
      · rw [if_neg hc]; exact h3 hc
  · rw [if_neg hv]; exact h1 hv

abbrev Cp := Bool × Nat
/-- What the document's step made. -/
inductive TrX
  | err (n : Int)
  | hit (e : Ent)
  | drop (r : Cp)
  | fill (m : Ent) (a : Nat) (r t : Cp)
  | fills (m : Ent) (a : Nat) (r t at_ by_ : Cp)
def TrX.out : TrX → Tro
  | .err n => .err n
  | .hit e => .hit e
  | .drop _ => .drop
  | .fill m a _ _ => .fill m a
  | .fills m a _ _ _ _ => .fills m a
section
variable (R : List RL) (T : List Ent) (l : List (Nat × Nat)) (c0 c1 c2 c3 : Cp) (root asid va : Nat) (gen : Bool) (k : Int)
def dropR : List RL := R.filter (keepP (asid : Int) ((va / 4096 : Nat) : Int))
def fillR : List RL := putR R ⟨(asid : Int), ((va / 4096 : Nat) : Int), (T.length : Nat)⟩
def stoL (m : Ent) (a : Nat) : List (Nat × Nat) := l ++ stL a (entW m) 8
def TrX.good : TrX → Prop
  | .err _ => True
  | .hit _ => True
  | .drop r => okS (dropR R asid va).length r
  | .fill m a r t => okS (fillR R T asid va).length r ∧ okS (T.length + 1) t
  | .fills m a r t p q => okS (fillR R T asid va).length r ∧ okS (T.length + 1) t ∧ okS (l.length + 8) p ∧ okS (l.length + 8) q
/-- The document's unit, and memory, its slices under names. -/
def unV (i0 n0 : Nat) (c0 : Cp) (i1 n1 : Nat) (c1 : Cp) : SV := .agg [.slz c0.1 i0 0 n0 c0.2, .slz c1.1 i1 0 n1 c1.2, .int .u64 (root : Int), .int .u64 (asid : Int), .bool gen]
def meV (i2 n2 : Nat) (c2 : Cp) (i3 : Nat) (c3 : Cp) : SV := .agg [.int .i64 8, .slz c2.1 i2 0 n2 c2.2, .slz c3.1 i3 0 n2 c3.2, .nilSlice]
def plV (e : Ent) : SV := .agg [.int .u64 (plA e va), .bool (stripB e k)]
def TrX.res : TrX → SV
  | .err n => .tup [unV root asid gen 0 R.length c0 1 T.length c1, meV 2 l.length c2 3 c3, .agg [.int .u64 0, .ff], .int .i64 n]
  | .hit e => .tup [unV root asid gen 0 R.length c0 1 T.length c1, meV 2 l.length c2 3 c3, plV va k e, .int .i64 0]
  | .drop r => .tup [unV root asid gen 4 (dropR R asid va).length r 1 T.length c1, meV 2 l.length c2 3 c3, .agg [.int .u64 0, .ff], .int .i64 1]
  | .fill m a r t => .tup [unV root asid gen 4 (fillR R T asid va).length r 5 (T.length + 1) t, meV 2 l.length c2 3 c3, plV va k m, .int .i64 0]
  | .fills m a r t p q => .tup [unV root asid gen 4 (fillR R T asid va).length r 5 (T.length + 1) t, meV 6 (l.length + 8) p 7 q, plV va k m, .int .i64 0]
def TrX.rows : TrX → Hp
  | .err n => []
  | .hit e => []
  | .drop r => [(4, .row (refV (dropR R asid va)))]
  | .fill m a r t => [(4, .row (refV (fillR R T asid va))), (5, .row (entsV (T ++ [m])))]
  | .fills m a r t p q => [(4, .row (refV (fillR R T asid va))), (5, .row (entsV (T ++ [m]))), (6, .row (atV (stoL l m a))), (7, .row (byV (stoL l m a)))]
end
/-- What the document keeps of a page. -/
def LookT (R : List RL) (T : List Ent) (a n : Int) (o : Option Ent) : Prop := match R.find? (atP a n) with
  | none => o = none
  | some r => ∃ (i : Nat) (e : Ent), r.w = (i : Int) ∧ T[i]? = some e ∧ o = some e
end Go.Sh.Ytanljnpjkokmcaa
