import Derived.Test.YtmfpndffepjcpaaSh3
/- The evaluator at one operation, and that it is sound. -/
set_option linter.unusedVariables false
namespace Go.Sh
open Go.RowKit

/-! ### Small words -/
def boolK (v : SV) (k : Bool → Prop) : Prop :=
  match v with
  | .tt => k true
  | .ff => k false
  | .bool b => k b
  | _ => False
theorem boolK_out {v : SV} {k : Bool → Prop} (h : boolK v k) : ∃ b, k b ∧ ∀ ρ, v.val ρ = .bool b := by
  cases v <;> first | exact ⟨_, h, fun _ => rfl⟩ | exact h.elim

def SV.allone : List SV → Bool
  | [] => true
  | v :: r => v.one && SV.allone r
theorem allone_out (ρ : Env) : ∀ {l : List SV}, SV.allone l = true → ∀ v ∈ SV.vals ρ l, v.oneCell' = true
  | [], _ => by simp [SV.vals]
  | v :: r, h => by
    simp only [SV.allone, Bool.and_eq_true] at h
    intro x hx
    rw [SV.vals] at hx
    rcases List.mem_cons.1 hx with hx | hx
    · rw [hx]; exact SV.one_val ρ h.1
    · exact allone_out ρ h.2 x hx

/-- The cells of a value, written out. -/
def cellsK (v : SV) (k : List SV → Prop) : Prop :=
  match v with
  | .agg cs => (match SV.allone cs with | true => k cs | false => False)
  | v => (match v.one with | true => k [v] | false => False)
theorem cellsK_out {v : SV} {k : List SV → Prop} (h : cellsK v k) : ∃ l, k l ∧ SV.allone l = true ∧ (∀ ρ, (v.val ρ).cells.toList = SV.vals ρ l) ∧ ∀ N, v.In N → SV.Ins N l := by
  unfold cellsK at h
  split at h
  · rename_i cs
    split at h
    · rename_i ho
      exact ⟨cs, h, ho, fun ρ => by simp [SV.val, Value.cells], fun N hN => by rwa [SV.In] at hN⟩
    · exact h.elim
  · rename_i hne
    split at h
    · rename_i ho
      refine ⟨[v], h, by simp [SV.allone, ho], fun ρ => ?_, fun N hN => ⟨hN, trivial⟩⟩
      cases v <;> first | rfl | (rename_i l _; cases l <;> rfl) | (simp only [SV.val, slzV, SV.vals]; split <;> rfl) | (simp [SV.one] at ho; done)
    · exact h.elim

/-- The environment of what has no names. -/
def zenv : Env := fun _ => (0, 0)
theorem closed_val {v : SV} (h : v.ok 0 = true) (ρ : Env) : v.val ρ = v.val zenv := SV.val_agree (N := (· < 0)) (fun i hi => absurd hi (Nat.not_lt_zero i)) v (SV.In_of_ok v h)
theorem closed_vals {l : List SV} (h : SV.oks 0 l = true) (ρ : Env) : SV.vals ρ l = SV.vals zenv l := SV.vals_agree (N := (· < 0)) (fun i hi => absurd hi (Nat.not_lt_zero i)) l (SV.Ins_of_oks l h)
theorem closed_In {v : SV} (h : v.ok 0 = true) (N : Nat → Prop) : v.In N := SV.In.mono (fun i hi => absurd hi (Nat.not_lt_zero i)) v (SV.In_of_ok v h)
theorem closed_Ins {l : List SV} (h : SV.oks 0 l = true) (N : Nat → Prop) : SV.Ins N l := SV.Ins.mono (fun i hi => absurd hi (Nat.not_lt_zero i)) l (SV.Ins_of_oks l h)

/-! ### What is left to the prover -/
/-- A load out of cells that are not written out. -/
structure LoadL (cs : List Value) (o n : Nat) (agg : Bool) (K : SV → Prop) : Prop where
  out : ∃ v : SV, K v ∧ v.ok 0 = true ∧ (match agg with | true => o + n ≤ cs.length ∧ ∃ arr : Array Value, v.val zenv = .agg arr ∧ arr.toList = (cs.drop o).take n | false => cs[o]? = some (v.val zenv))
/-- A load at a place that is not written out. -/
structure GetL (cs : List SV) (o n : Nat) (agg : Bool) (K : SV → Prop) : Prop where
  out : ∃ v : SV, K v ∧ (match agg with | true => o + n ≤ cs.length ∧ v = .agg ((cs.drop o).take n) | false => cs[o]? = some v)
/-- A store of such a kind. -/
structure PutL (so : SO) (o n : Nat) (y : SV) (K : SO → Prop) : Prop where
  out : ∃ (so' : SO) (ys : List SV), K so' ∧ (∀ ρ, (y.val ρ).cells.toList = SV.vals ρ ys) ∧ SV.allone ys = true ∧ ys.length = n ∧ (∀ N, y.In N → so.In N → so'.In N) ∧ so'.len = so.len ∧ so.wr = true ∧ so'.wr = true ∧ so'.isD = false ∧
    ∀ ρ, o + n ≤ (so.vals ρ).length ∧ so'.vals ρ = setRange (so.vals ρ) o (SV.vals ρ ys)
/-- A test. -/
structure IfL (b : Bool) (A B : Prop) : Prop where
  yes : b = true → A
  no : b = false → B
/-- An index: the element's number, as it stands written out (Kl), or not (Kx). -/
structure IdxL (n : Int) (len : Nat) (Kl Kx : Nat → Prop) : Prop where
  out : ∃ j : Nat, n = (j : Int) ∧ j < len ∧ (Kl j ∨ Kx j)
/-- A condition to be shown. -/
structure Needs (p : Prop) (K : Prop) : Prop where
  has : p
  go : K

/-! ### Operations on numbers -/
def band (op : BinOp) (k : IntKind) (x y : Int) : Int :=
  match op with
  | .and => k.wrap ((BitVec.ofInt k.bits x &&& BitVec.ofInt k.bits y).toNat : Int)
  | .or => k.wrap ((BitVec.ofInt k.bits x ||| BitVec.ofInt k.bits y).toNat : Int)
  | .xor => k.wrap ((BitVec.ofInt k.bits x ^^^ BitVec.ofInt k.bits y).toNat : Int)
  | _ => k.wrap ((BitVec.ofInt k.bits x &&& ~~~BitVec.ofInt k.bits y).toNat : Int)
def shlI (k : IntKind) (x y : Int) : Int := k.wrap (x * 2 ^ min y.toNat k.bits)
def shrI (k : IntKind) (x y : Int) : Int := x / 2 ^ min y.toNat k.bits

/-- Is it a number that is not 0, written out? -/
def nz : Operand → Bool
  | .const (.int _ (.ofNat (_ + 1))) => true
  | .const (.int _ (.negSucc _)) => true
  | _ => false
def needK (b : Bool) (p K : Prop) : Prop := match b with | true => K | false => Needs p K

def binK (op : BinOp) (cy : Bool) (va vb : SV) (k : SV → Prop) (other : Prop) : Prop :=
  match va, vb with
  | .int ka a, .int kb b =>
    (match op with
     | .shl => needK cy (0 ≤ b) (k (.int ka (shlI ka a b)))
     | .shr => needK cy (0 ≤ b) (k (.int ka (shrI ka a b)))
     | .add => (match ka == kb with | true => k (.int ka (ka.wrap (a + b))) | false => False)
     | .sub => (match ka == kb with | true => k (.int ka (ka.wrap (a - b))) | false => False)
     | .mul => (match ka == kb with | true => k (.int ka (ka.wrap (a * b))) | false => False)
     | .quo => (match ka == kb with | true => needK cy (b ≠ 0) (k (.int ka (ka.wrap (a.tdiv b)))) | false => False)
     | .rem => (match ka == kb with | true => needK cy (b ≠ 0) (k (.int ka (a.tmod b))) | false => False)
     | .and => (match ka == kb with | true => k (.int ka (band .and ka a b)) | false => False)
     | .or => (match ka == kb with | true => k (.int ka (band .or ka a b)) | false => False)
     | .xor => (match ka == kb with | true => k (.int ka (band .xor ka a b)) | false => False)
     | .andNot => (match ka == kb with | true => k (.int ka (band .andNot ka a b)) | false => False)
     | .eql => (match ka == kb with | true => k (.bool (decide (a = b))) | false => False)
     | .neq => (match ka == kb with | true => k (.bool (!decide (a = b))) | false => False)
     | .lss => (match ka == kb with | true => k (.bool (decide (a < b))) | false => False)
     | .leq => (match ka == kb with | true => k (.bool (decide (a ≤ b))) | false => False)
     | .gtr => (match ka == kb with | true => k (.bool (decide (b < a))) | false => False)
     | .geq => (match ka == kb with | true => k (.bool (decide (b ≤ a))) | false => False))
  | _, _ => other

theorem nz_out {x : Operand} (h : nz x = true) : ∃ k n, x = .const (.int k n) ∧ n ≠ 0 := by
  unfold nz at h
  split at h
  · exact ⟨_, _, rfl, by simp; omega⟩
  · exact ⟨_, _, rfl, by simp⟩
  · cases h

/-- Is it a count that is not below 0, written out? -/
def nn : Operand → Bool
  | .const (.int _ (.ofNat _)) => true
  | _ => false
theorem nn_out {x : Operand} (h : nn x = true) : ∃ k n, x = .const (.int k n) ∧ 0 ≤ n := by
  unfold nn at h
  split at h
  · exact ⟨_, _, rfl, by simp⟩
  · cases h

def cyOf (op : BinOp) (y : Operand) : Bool := match op with | .shl | .shr => nn y | _ => nz y

theorem needK_out {b : Bool} {p K : Prop} (h : needK b p K) (hb : b = true → p) : p ∧ K := by
  cases b
  · exact ⟨h.has, h.go⟩
  · exact ⟨hb rfl, h⟩

theorem beqK {k k' : IntKind} {A : Prop} (h : match k == k' with | true => A | false => False) : k = k' ∧ A := by
  split at h
  · rename_i e; exact ⟨by simpa using e, h⟩
  · exact h.elim

def ndOk (op : BinOp) (b : Int) : Prop := match op with | .shl | .shr => 0 ≤ b | _ => b ≠ 0
/-- Two numbers. -/
theorem binK_int {P : Program} {op : BinOp} {t : TypeId} {cy : Bool} {ka kb : IntKind} {a b : Int} {k : SV → Prop} {other : Prop} (h : binK op cy (.int ka a) (.int kb b) k other)
    (hc : cy = true → ndOk op b) : ∃ v, k v ∧ (∀ w ρ, (binOp op t (.int ka a) (.int kb b)).run P w = .ok (v.val ρ) w) ∧ ∀ N, v.In N := by
  cases op
  case add => obtain ⟨rfl, g⟩ := beqK h; exact ⟨_, g, fun _ _ => by simp [binOp, Op.intArith]; rfl, fun _ => trivial⟩
  case sub => obtain ⟨rfl, g⟩ := beqK h; exact ⟨_, g, fun _ _ => by simp [binOp, Op.intArith]; rfl, fun _ => trivial⟩
  case mul => obtain ⟨rfl, g⟩ := beqK h; exact ⟨_, g, fun _ _ => by simp [binOp, Op.intArith]; rfl, fun _ => trivial⟩
  case quo =>
    obtain ⟨rfl, g⟩ := beqK h
    obtain ⟨hb, g'⟩ := needK_out g hc
    exact ⟨_, g', fun _ _ => by have hb : b ≠ 0 := hb; simp [binOp, Op.intDiv, hb]; rfl, fun _ => trivial⟩
  case rem =>
    obtain ⟨rfl, g⟩ := beqK h
    obtain ⟨hb, g'⟩ := needK_out g hc
    exact ⟨_, g', fun _ _ => by have hb : b ≠ 0 := hb; simp [binOp, Op.intDiv, hb]; rfl, fun _ => trivial⟩
  case and => obtain ⟨rfl, g⟩ := beqK h; exact ⟨_, g, fun _ _ => by simp [binOp, Op.intBits]; rfl, fun _ => trivial⟩
  case or => obtain ⟨rfl, g⟩ := beqK h; exact ⟨_, g, fun _ _ => by simp [binOp, Op.intBits]; rfl, fun _ => trivial⟩
  case xor => obtain ⟨rfl, g⟩ := beqK h; exact ⟨_, g, fun _ _ => by simp [binOp, Op.intBits]; rfl, fun _ => trivial⟩
  case andNot => obtain ⟨rfl, g⟩ := beqK h; exact ⟨_, g, fun _ _ => by simp [binOp, Op.intBits, SV.val, band], fun _ => trivial⟩
  case shl =>
    obtain ⟨hb, g⟩ := needK_out h hc
    exact ⟨_, g, fun _ _ => by simp only [binOp, shift_shl_any _ _ _ _ hb]; rfl, fun _ => trivial⟩
  case shr =>
    obtain ⟨hb, g⟩ := needK_out h hc
    exact ⟨_, g, fun _ _ => by simp only [binOp, shift_shr_any _ _ _ _ hb]; rfl, fun _ => trivial⟩
  case eql => obtain ⟨rfl, g⟩ := beqK h; exact ⟨_, g, fun _ _ => by simp [binOp, Op.intCmp, SV.val]; by_cases e : a = b <;> simp [e], fun _ => trivial⟩
  case neq => obtain ⟨rfl, g⟩ := beqK h; exact ⟨_, g, fun _ _ => by simp [binOp, Op.intCmp, SV.val]; by_cases e : a = b <;> simp [e, bne], fun _ => trivial⟩
  case lss => obtain ⟨rfl, g⟩ := beqK h; exact ⟨_, g, fun _ _ => by simp [binOp, Op.intCmp, SV.val], fun _ => trivial⟩
  case leq => obtain ⟨rfl, g⟩ := beqK h; exact ⟨_, g, fun _ _ => by simp [binOp, Op.intCmp, SV.val], fun _ => trivial⟩
  case gtr => obtain ⟨rfl, g⟩ := beqK h; exact ⟨_, g, fun _ _ => by simp [binOp, Op.intCmp, SV.val], fun _ => trivial⟩
  case geq => obtain ⟨rfl, g⟩ := beqK h; exact ⟨_, g, fun _ _ => by simp [binOp, Op.intCmp, SV.val], fun _ => trivial⟩

end Go.Sh
