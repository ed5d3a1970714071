import Derived.Test.YtkopfaenfaelfaaG1
/- The evaluator at one operation ('sop'), and that it is sound. -/
set_option linter.unusedVariables false
namespace Go.Sh
open Go.RowKit

/-! ### A call -/
structure Spec (P : Program) (g : FuncId) (args : List SV) (H : Hp) (u : Nat) (K : SV → Hp → Nat → Prop) : Prop where
  ent : ∀ args w, (callFunc g args).run P w = .ok (.enter g args) w
  sem : ∀ w0 O ρ w, Sat w0 O (· < u) ρ H w → SV.Ins (· < u) args → Calls P g (SV.vals ρ args).toArray w fun e w' => ∃ v H' u' ρ', e = .returned (v.val ρ') ∧ u ≤ u' ∧ (∀ i, i < u → ρ' i = ρ i) ∧
    v.In (· < u') ∧ Sat w0 O (· < u') ρ' H' w' ∧ K v H' u'

theorem Spec.mono {P : Program} {g : FuncId} {args : List SV} {H : Hp} {u : Nat} {K K' : SV → Hp → Nat → Prop} (h : Spec P g args H u K) (hk : ∀ v H' u', K v H' u' → K' v H' u') : Spec P g args H u K' :=
  ⟨h.ent, fun w0 O ρ w hs ha => (h.sem w0 O ρ w hs ha).mono fun _ _ ⟨v, H', u', ρ', h1, h2, h3, h4, h5, h6⟩ => ⟨v, H', u', ρ', h1, h2, h3, h4, h5, hk _ _ _ h6⟩⟩

/-! ### Operands, in a row -/
def evsK (F : Fr) : List Operand → (List SV → Prop) → Prop
  | [], k => k []
  | x :: r, k => evK F x fun v => evsK F r fun l => k (v :: l)
theorem evsK_out {F : Fr} : ∀ {xs : List Operand} {k : List SV → Prop}, evsK F xs k → ∃ l, k l ∧ ∀ N ρ a, FOk N ρ F a → xs.map a.eval = SV.vals ρ l ∧ SV.Ins N l
  | [], k, h => ⟨[], h, fun _ _ _ _ => ⟨rfl, trivial⟩⟩
  | x :: r, k, h => by
    obtain ⟨v, h1, h2⟩ := evK_out h
    obtain ⟨l, h3, h4⟩ := evsK_out h1
    exact ⟨v :: l, h3, fun N ρ a ha => ⟨by rw [List.map_cons, SV.vals, (h2 N ρ a ha).1, (h4 N ρ a ha).1], (h2 N ρ a ha).2, (h4 N ρ a ha).2⟩⟩

/-- Parts, laid into cells that are written out. -/
def fillK (F : Fr) (place : Nat → Option (Nat × Nat)) : List (Nat × Operand) → List SV → (List SV → Prop) → Prop
  | [], zs, k => k zs
  | (i, x) :: r, zs, k => evK F x fun v => cellsK v fun vs =>
    match place i with
    | some (off, size) => (match Nat.beq vs.length size with | true => putK zs off vs fun zs' => fillK F place r zs' k | false => False)
    | none => False

/-! ### Words of the table -/
def TI.isStruct (ti : TI) (k : Array Field → Prop) : Prop := match ti.desc with | .struct fs => k fs | _ => False
/-- What an index goes into: how many elements (none: the slice tells), and the elements' type. -/
def TI.elemK (ti : TI) (k : Option Nat → TypeId → Prop) : Prop := match ti.desc with | .array n e => k (some n) e | .slice e => k none e | _ => False
def TI.isInt (ti : TI) (k : IntKind → Prop) (other : Prop) : Prop := match ti.desc with | .int i => k i | _ => other
def tabK (tab : Tab) (t : TypeId) (k : TI → Prop) : Prop := match look tab t with | some ti => k ti | none => False
theorem tabK_out {P : Program} {tab : Tab} (hP : TabOk P tab) {t : TypeId} {k : TI → Prop} (h : tabK tab t k) : ∃ ti, TIok P t ti ∧ k ti := by
  unfold tabK at h
  split at h
  · rename_i ti hti; exact ⟨ti, hP t ti hti, h⟩
  · exact h.elim

/-- A place in memory. -/
def ptrK (v : SV) (kl kx : Nat → Nat → Prop) : Prop := match v with | .ptr i o => kl i o | .ptrx i o => kx i o | _ => False

/-- A number that is written out in the code. -/
def constIdx : Operand → Option Nat
  | .const (.int _ (.ofNat n)) => some n
  | _ => none
theorem constIdx_out {x : Operand} {n : Nat} (h : constIdx x = some n) : ∃ k, x = .const (.int k n) := by
  unfold constIdx at h
  split at h
  · injection h with h; subst h; exact ⟨_, rfl⟩
  · cases h

/-- An index: known at once, or left. -/
def idxK (cx : Option Nat) (n : Int) (len : Nat) (kl kx : Nat → Prop) : Prop :=
  match cx with
  | some j => (match Nat.blt j len with | true => kl j | false => False)
  | none => IdxL n len kl kx

def nilB : SV → Option Bool
  | .nil => some true
  | .ptr _ _ => some false
  | .ptrx _ _ => some false
  | _ => none
def sb : Bool → SV
  | true => .tt
  | false => .ff
def eqSV (op : BinOp) (va vb : SV) (k : SV → Prop) (other : Prop) : Prop :=
  match nilB va, nilB vb with
  | some a, some b =>
    (match a || b with
     | true => (match op with | .eql => k (sb (a && b)) | .neq => k (sb !(a && b)) | _ => other)
     | false => other)
  | _, _ => other

def unK (op : UnOp) (v : SV) (k : SV → Prop) (other : Prop) : Prop :=
  match op, v with
  | .not, .tt => k .ff
  | .not, .ff => k .tt
  | .not, .bool b => k (.bool !b)
  | .neg, .int i n => k (.int i (i.wrap (0 - n)))
  | .xor, .int i n => k (.int i (band .xor i (if i.signed then -1 else i.max) n))
  | _, _ => other

def pickK (vc : SV) (ea eb : (SV → Prop) → Prop) (k : SV → Prop) : Prop :=
  match vc with
  | .tt => ea k
  | .ff => eb k
  | .bool c => ea fun va => eb fun vb => boolK va fun x => boolK vb fun y => k (.bool (cond c x y))
  | _ => False

def structPlace (tab : Tab) (fs : List Field) (i : Nat) : Option (Nat × Nat) :=
  match fs[i]? with
  | some f => (match look tab f.type with | some fi => some (f.offset, fi.size) | none => none)
  | none => none
def inTab (tab : Tab) : List Field → Bool
  | [] => true
  | f :: r => (look tab f.type).isSome && inTab tab r
theorem inTab_out {tab : Tab} : ∀ {l : List Field}, inTab tab l = true → ∀ f ∈ l, ∃ fi, look tab f.type = some fi
  | [], _, f, hf => by cases hf
  | x :: r, h, f, hf => by
    simp only [inTab, Bool.and_eq_true] at h
    rcases List.mem_cons.1 hf with hf | hf
    · subst hf; exact Option.isSome_iff_exists.1 h.1
    · exact inTab_out h.2 f hf

def nchK (v : SV) (k : Prop) : Prop := match v with | .ptr _ _ => k | .ptrx _ _ => k | .func _ _ => k | .slice _ _ _ _ => k | _ => False

/-- One operation that hands back a value and leaves the world. -/
def vop (P : Program) (tab : Tab) (o : Oper) (F : Fr) (H : Hp) (K : SV → Prop) (other : Prop) : Prop :=
  match o.op with
  | .move x => evK F x fun v => K v
  | .assign x => evK F x fun v => K v
  | .pick c a b => evK F c fun vc => pickK vc (evK F a) (evK F b) fun v => K v
  | .build t parts => tabK tab t fun ti => (match ti.desc, ti.zero with
    | .struct fs, .cells zs => (match inTab tab fs.toList with
      | true => fillK F (structPlace tab fs.toList) parts.toList zs fun cs => K (.agg cs)
      | false => other)
    | .array _ e, .cells zs => tabK tab e fun ei => fillK F (fun i => some (i * ei.size, ei.size)) parts.toList zs fun cs => K (.agg cs)
    | _, _ => other)
  | .load t x => tabK tab t fun ti => evK F x fun v => ptrK v
      (fun i off => match look H i with
        | some (.cells cs) => (match ti.agg with | true => takeK cs off ti.size fun l => K (.agg l) | false => nthK cs off fun v => K v)
        | some (.row cs) => LoadL cs off ti.size ti.agg fun v => K v
        | some (.view cs) => LoadL cs off ti.size ti.agg fun v => K v
        | some (.vec cs _) => LoadL cs off ti.size ti.agg fun v => K v
        | some (.dict _ _) => False
        | none => False)
      (fun i off => match look H i with
        | some (.cells cs) => GetL cs off ti.size ti.agg fun v => K v
        | some (.row cs) => LoadL cs off ti.size ti.agg fun v => K v
        | some (.view cs) => LoadL cs off ti.size ti.agg fun v => K v
        | some (.vec cs _) => LoadL cs off ti.size ti.agg fun v => K v
        | some (.dict _ _) => False
        | none => False)
  | .nilCheck x => evK F x fun v => nchK v (K v)
  | .binOp op t x y _ => evK F x fun vx => evK F y fun vy => binK op (cyOf op y) vx vy (fun v => K v) (tabK tab t fun ti => match ti.desc with
      | .pointer _ => eqSV op vx vy (fun v => K v) other
      | _ => other)
  | .unOp op _ x => evK F x fun v => unK op v (fun v => K v) other
  | .convert src dst x => tabK tab src fun _ => tabK tab dst fun ti => evK F x fun v => (match v with | .int _ n => ti.isInt (fun k => K (.int k (k.wrap n))) other | _ => other)
  | .makeFunc fn first caps => (match fn with | .func g => (match first.toList with | [] => evsK F caps.toList fun l => K (.func g l) | _ => other) | _ => other)
  | .fieldAddr t x f => tabK tab t fun ti => ti.isStruct fun fs => (match fs.toList[f]? with
      | some fd => tabK tab fd.type fun fi => (match fi.size with
        | 0 => False
        | _ + 1 => evK F x fun v => ptrK v (fun i o => K (.ptr i (o + fd.offset))) (fun i o => K (.ptrx i (o + fd.offset))))
      | none => False)
  | .field t x f => tabK tab t fun ti => ti.isStruct fun fs => (match fs.toList[f]? with
      | some fd => tabK tab fd.type fun fi => evK F x fun v => (match v with
        | .agg cs => (match fi.agg with | true => takeK cs fd.offset fi.size fun l => K (.agg l) | false => nthK cs fd.offset fun v => K v)
        | _ => other)
      | none => False)
  | .indexAddr t x ix => tabK tab t fun ti => ti.elemK fun len e => tabK tab e fun ei => evK F x fun v => evK F ix fun vi => (match vi with
      | .int _ n => (match v with
        | .ptr i o => (match len with | some l => idxK (constIdx ix) n l (fun j => K (.ptr i (o + j * ei.size))) (fun j => K (.ptrx i (o + j * ei.size))) | none => False)
        | .ptrx i o => (match len with | some l => idxK (constIdx ix) n l (fun j => K (.ptrx i (o + j * ei.size))) (fun j => K (.ptrx i (o + j * ei.size))) | none => False)
        | .slice i o l _ => (match len with | none => IdxL n l (fun j => K (.ptr i (o + j * ei.size))) (fun j => K (.ptrx i (o + j * ei.size))) | some _ => False)
        | .slicen i o l _ => (match len with | none => IdxL n l (fun j => K (.ptr i (o + j * ei.size))) (fun j => K (.ptrx i (o + j * ei.size))) | some _ => False)
        | .slz _ i o l _ => (match len with | none => IdxL n l (fun j => K (.ptr i (o + j * ei.size))) (fun j => K (.ptrx i (o + j * ei.size))) | some _ => False)
        | _ => other)
      | _ => other)
  | .index t x ix => tabK tab t fun ti => (match ti.desc with
      | .array len e => tabK tab e fun ei => evK F x fun v => evK F ix fun vi => (match v, vi with
        | .agg cs, .int _ n => idxK (constIdx ix) n len
            (fun j => match ei.agg with | true => takeK cs (j * ei.size) ei.size fun l => K (.agg l) | false => nthK cs (j * ei.size) fun v => K v)
            (fun j => GetL cs (j * ei.size) ei.size ei.agg fun v => K v)
        | _, _ => other)
      | _ => other)
  | .extract x i => evK F x fun v => (match v with | .tup l => nthK l i fun v => K v | _ => False)
  | .call c => (match c.callee with
      | .builtin .len => (match c.args.toList, c.argTypes.toList with
        | [x], [t] => tabK tab t fun ti => evK F x fun v => (match ti.desc, v with
          | .slice _, .slice _ _ l _ => K (.int .i64 (l : Int))
          | .slice _, .slicen _ _ l _ => K (.int .i64 (l : Int))
          | .slice _, .slz _ _ _ l _ => K (.int .i64 (l : Int))
          | .slice _, .nilSlice => K (.int .i64 0)
          | .array n _, _ => K (.int .i64 (n : Int))
          | _, _ => other)
        | _, _ => other)
      | .builtin .min => (match c.args.toList with
        | [x, y] => evK F x fun vx => evK F y fun vy => (match vx, vy with
          | .int k a, .int _ b => K (.int k (if b < a then b else a))
          | _, _ => other)
        | _ => other)
      | .builtin .max => (match c.args.toList with
        | [x, y] => evK F x fun vx => evK F y fun vy => (match vx, vy with
          | .int k a, .int _ b => K (.int k (if a < b then b else a))
          | _, _ => other)
        | _ => other)
      | _ => other)
  | _ => other

/-- A slice's parts, laid out. -/
def zerosK (zs : List SV) : Nat → (List SV → Prop) → Prop
  | 0, k => k []
  | n + 1, k => zerosK zs n fun l => k (zs ++ l)

/-- One operation. -/
def sop (P : Program) (tab : Tab) (o : Oper) (F : Fr) (H : Hp) (u : Nat) (K : SV → Hp → Nat → Prop) : Prop :=
  match o.op with
  | .alloc t => tabK tab t fun ti => K (.ptr u 0) ((u, ti.zero) :: H) (u + 1)
  | .box t x => evK F x fun v => (match v with | .raw _ => OpL P o F H u K | v => cellsK v fun cs => K (.ptr u 0) ((u, .cells cs) :: H) (u + 1))
  | .store t x y => tabK tab t fun ti => evK F x fun v => evK F y fun vy => ptrK v
      (fun i off => match look H i with
        | some (.cells cs) => cellsK vy fun ys => (match Nat.beq ys.length ti.size with | true => putK cs off ys fun cs' => K .undef ((i, .cells cs') :: H) u | false => False)
        | some so => PutL so off ti.size vy fun so' => K .undef ((i, so') :: H) u
        | none => False)
      (fun i off => match look H i with
        | some so => PutL so off ti.size vy fun so' => K .undef ((i, so') :: H) u
        | none => False)
  | .call c => (match c.callee with
      | .value f => evK F f fun vf => (match vf with
        | .func g caps => evsK F c.args.toList fun l => Spec P g (l ++ caps) H u K
        | _ => OpL P o F H u K)
      | _ => vop P tab o F H (fun v => K v H u) (OpL P o F H u K))
  | _ => vop P tab o F H (fun v => K v H u) (OpL P o F H u K)

end Go.Sh
