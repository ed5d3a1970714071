import Derived.WalkKit
/- The symbolic heap: values with block names, objects, and what a world must satisfy. Plain lemmas on reading, writing, making and forgetting. -/
namespace Go.Sh
open Go.RowKit

/-- A value, its addresses by name. -/
inductive SV where
  | tt | ff
  | bool (b : Bool)
  | int (k : IntKind) (n : Int)
  | nil
  | ptr (i o : Nat)
  | ptrx (i o : Nat)
  | nilSlice
  | slice (i o len cap : Nat)
  | slicen (i o len j : Nat)
  | slz (b : Bool) (i o len cap : Nat)
  | nilMap
  | map (i : Nat)
  | nilFunc
  | func (f : FuncId) (caps : List SV)
  | agg (cs : List SV)
  | tup (cs : List SV)
  | raw (v : Value)
  | undef

/-- A name's block and base. -/
abbrev Env := Nat → Nat × Nat

/-- A slice; b: nil where it is empty. -/
def slzV (b : Bool) (ad : Addr) (len cap : Nat) : Value := match b && Nat.beq len 0 with | true => .slice none 0 0 | false => .slice (some ad) len cap

mutual
def SV.val (ρ : Env) : SV → Value
  | .tt => .bool true
  | .ff => .bool false
  | .bool b => .bool b
  | .int k n => .int k n
  | .nil => .pointer none
  | .ptr i o => .pointer (some ⟨(ρ i).1, (ρ i).2 + o, none⟩)
  | .ptrx i o => .pointer (some ⟨(ρ i).1, (ρ i).2 + o, none⟩)
  | .nilSlice => .slice none 0 0
  | .slice i o len cap => .slice (some ⟨(ρ i).1, (ρ i).2 + o, none⟩) len cap
  | .slicen i o len j => match len with | 0 => .slice none 0 0 | n + 1 => .slice (some ⟨(ρ i).1, (ρ i).2 + o, none⟩) (n + 1) (ρ j).2
  | .slz b i o len cap => slzV b ⟨(ρ i).1, (ρ i).2 + o, none⟩ len cap
  | .nilMap => .map none
  | .map i => .map (some (ρ i).1)
  | .nilFunc => .nilFunc
  | .func f caps => .func (.func f) #[] (SV.vals ρ caps).toArray
  | .agg cs => .agg (SV.vals ρ cs).toArray
  | .tup cs => .tuple (SV.vals ρ cs).toArray
  | .raw v => v
  | .undef => Go.undef
def SV.vals (ρ : Env) : List SV → List Value
  | [] => []
  | v :: r => SV.val ρ v :: SV.vals ρ r
end

mutual
def SV.ok (u : Nat) : SV → Bool
  | .ptr i _ => Nat.blt i u
  | .ptrx i _ => Nat.blt i u
  | .slice i _ _ _ => Nat.blt i u
  | .slicen i _ _ j => Nat.blt i u && Nat.blt j u
  | .slz _ i _ _ _ => Nat.blt i u
  | .map i => Nat.blt i u
  | .func _ caps => SV.oks u caps
  | .agg cs => SV.oks u cs
  | .tup cs => SV.oks u cs
  | _ => true
def SV.oks (u : Nat) : List SV → Bool
  | [] => true
  | v :: r => SV.ok u v && SV.oks u r
end

-- The same, of a set of names.
mutual
def SV.In (N : Nat → Prop) : SV → Prop
  | .ptr i _ => N i
  | .ptrx i _ => N i
  | .slice i _ _ _ => N i
  | .slicen i _ _ j => N i ∧ N j
  | .slz _ i _ _ _ => N i
  | .map i => N i
  | .func _ caps => SV.Ins N caps
  | .agg cs => SV.Ins N cs
  | .tup cs => SV.Ins N cs
  | _ => True
def SV.Ins (N : Nat → Prop) : List SV → Prop
  | [] => True
  | v :: r => SV.In N v ∧ SV.Ins N r
end

/-- One cell holds it. ('slicen': nil where it is empty; its room stands under the name j.) -/
def SV.one : SV → Bool
  | .agg _ | .tup _ | .raw _ | .undef => false
  | _ => true

theorem SV.vals_eq (ρ : Env) : ∀ l, SV.vals ρ l = l.map (SV.val ρ)
  | [] => rfl
  | v :: r => by simp [SV.vals, SV.vals_eq ρ r]

theorem SV.vals_length (ρ : Env) (l : List SV) : (SV.vals ρ l).length = l.length := by simp [SV.vals_eq]

theorem SV.Ins_iff (N : Nat → Prop) : ∀ l, SV.Ins N l ↔ ∀ v ∈ l, SV.In N v
  | [] => by simp [SV.Ins]
  | v :: r => by simp [SV.Ins, SV.Ins_iff N r]

mutual
theorem SV.In_of_ok {u : Nat} : ∀ v : SV, v.ok u = true → v.In (· < u)
  | .ptr i _ => by simp [SV.ok, SV.In]
  | .ptrx i _ => by simp [SV.ok, SV.In]
  | .slice i _ _ _ => by simp [SV.ok, SV.In]
  | .slicen i _ _ j => by simp [SV.ok, SV.In]
  | .slz _ i _ _ _ => by simp [SV.ok, SV.In]
  | .map i => by simp [SV.ok, SV.In]
  | .func _ cs => fun h => by rw [SV.ok] at h; rw [SV.In]; exact SV.Ins_of_oks cs h
  | .agg cs => fun h => by rw [SV.ok] at h; rw [SV.In]; exact SV.Ins_of_oks cs h
  | .tup cs => fun h => by rw [SV.ok] at h; rw [SV.In]; exact SV.Ins_of_oks cs h
  | .tt => by simp [SV.In] | .ff => by simp [SV.In] | .bool _ => by simp [SV.In] | .int _ _ => by simp [SV.In] | .nil => by simp [SV.In]
  | .nilSlice => by simp [SV.In] | .nilMap => by simp [SV.In] | .nilFunc => by simp [SV.In] | .raw _ => by simp [SV.In] | .undef => by simp [SV.In]
theorem SV.Ins_of_oks {u : Nat} : ∀ l : List SV, SV.oks u l = true → SV.Ins (· < u) l
  | [] => by simp [SV.Ins]
  | v :: r => fun h => by
    rw [SV.oks, Bool.and_eq_true] at h
    exact ⟨SV.In_of_ok v h.1, SV.Ins_of_oks r h.2⟩
end

mutual
theorem SV.In.mono {N M : Nat → Prop} (h : ∀ i, N i → M i) : ∀ v : SV, v.In N → v.In M
  | .ptr i _ => by simpa [SV.In] using h i
  | .ptrx i _ => by simpa [SV.In] using h i
  | .slice i _ _ _ => by simpa [SV.In] using h i
  | .slicen i _ _ j => fun g => ⟨h i g.1, h j g.2⟩
  | .slz _ i _ _ _ => by simpa [SV.In] using h i
  | .map i => by simpa [SV.In] using h i
  | .func _ cs => fun g => by rw [SV.In] at *; exact SV.Ins.mono h cs g
  | .agg cs => fun g => by rw [SV.In] at *; exact SV.Ins.mono h cs g
  | .tup cs => fun g => by rw [SV.In] at *; exact SV.Ins.mono h cs g
  | .tt => by simp [SV.In] | .ff => by simp [SV.In] | .bool _ => by simp [SV.In] | .int _ _ => by simp [SV.In] | .nil => by simp [SV.In]
  | .nilSlice => by simp [SV.In] | .nilMap => by simp [SV.In] | .nilFunc => by simp [SV.In] | .raw _ => by simp [SV.In] | .undef => by simp [SV.In]
theorem SV.Ins.mono {N M : Nat → Prop} (h : ∀ i, N i → M i) : ∀ l : List SV, SV.Ins N l → SV.Ins M l
  | [] => by simp [SV.Ins]
  | v :: r => fun g => ⟨SV.In.mono h v g.1, SV.Ins.mono h r g.2⟩
end

mutual
theorem SV.val_agree {N : Nat → Prop} {ρ ρ' : Env} (h : ∀ i, N i → ρ' i = ρ i) : ∀ v : SV, v.In N → v.val ρ' = v.val ρ
  | .ptr i _ => fun g => by rw [SV.In] at g; rw [SV.val, SV.val, h i g]
  | .ptrx i _ => fun g => by rw [SV.In] at g; rw [SV.val, SV.val, h i g]
  | .slice i _ _ _ => fun g => by rw [SV.In] at g; rw [SV.val, SV.val, h i g]
  | .slicen i _ l j => fun g => by cases l <;> simp only [SV.val, h i g.1, h j g.2]
  | .slz _ i _ _ _ => fun g => by rw [SV.In] at g; rw [SV.val, SV.val, h i g]
  | .map i => fun g => by rw [SV.In] at g; rw [SV.val, SV.val, h i g]
  | .func _ cs => fun g => by rw [SV.In] at g; rw [SV.val, SV.val, SV.vals_agree h cs g]
  | .agg cs => fun g => by rw [SV.In] at g; rw [SV.val, SV.val, SV.vals_agree h cs g]
  | .tup cs => fun g => by rw [SV.In] at g; rw [SV.val, SV.val, SV.vals_agree h cs g]
  | .tt => fun _ => rfl | .ff => fun _ => rfl | .bool _ => fun _ => rfl | .int _ _ => fun _ => rfl | .nil => fun _ => rfl
  | .nilSlice => fun _ => rfl | .nilMap => fun _ => rfl | .nilFunc => fun _ => rfl | .raw _ => fun _ => rfl | .undef => fun _ => rfl
theorem SV.vals_agree {N : Nat → Prop} {ρ ρ' : Env} (h : ∀ i, N i → ρ' i = ρ i) : ∀ l : List SV, SV.Ins N l → SV.vals ρ' l = SV.vals ρ l
  | [] => fun _ => rfl
  | v :: r => fun g => by rw [SV.vals, SV.vals, SV.val_agree h v g.1, SV.vals_agree h r g.2]
end

theorem SV.one_val (ρ : Env) {v : SV} (h : v.one = true) : (v.val ρ).oneCell' = true := by
  cases v <;> first | rfl | (rename_i l _; cases l <;> rfl) | (simp only [SV.val, slzV]; split <;> rfl) | (simp [SV.one] at h; done)

/-- What first stands under a number. -/
def look {α : Type} : List (Nat × α) → Nat → Option α
  | [], _ => none
  | (k, v) :: r, n => cond (Nat.beq k n) (some v) (look r n)

theorem look_cons {α : Type} (k : Nat) (v : α) (r : List (Nat × α)) (n : Nat) : look ((k, v) :: r) n = if k = n then some v else look r n := by
  rw [look]
  by_cases h : k = n
  · subst h; simp
  · have : Nat.beq k n = false := by rw [← Bool.not_eq_true, Nat.beq_eq]; exact h
    rw [this, if_neg h]; rfl

theorem look_same {α : Type} (k : Nat) (v : α) (r : List (Nat × α)) : look ((k, v) :: r) k = some v := by rw [look_cons, if_pos rfl]
theorem look_other {α : Type} {k n : Nat} (v : α) (r : List (Nat × α)) (h : k ≠ n) : look ((k, v) :: r) n = look r n := by rw [look_cons, if_neg h]

/-- What a name leads to. -/
inductive SO where
  | cells (cs : List SV)
  | row (cs : List Value)
  | view (cs : List Value)
  | vec (cs : List Value) (cap : Nat)
  | dict (es : List MapEntry) (clock : Nat)
/-- Is it a map? -/
def SO.isD : SO → Bool
  | .dict _ _ => true
  | _ => false

def cellsAt (w : World) (p : Nat × Nat) (vs : List Value) : Prop :=
  (∀ j v, vs[j]? = some v → w.cell? ⟨p.1, p.2 + j, none⟩ = some v) ∧ ∀ v ∈ vs, v.oneCell' = true

def freeAt (w : World) (p : Nat × Nat) (n : Nat) : Prop := ∀ j, j < n → w.frozen? ⟨p.1, p.2 + j, none⟩ = false

def SO.vals (ρ : Env) : SO → List Value
  | .cells cs => SV.vals ρ cs
  | .row cs | .view cs | .vec cs _ => cs
  | .dict _ _ => []

def SO.len : SO → Nat
  | .cells cs => cs.length
  | .row cs | .view cs => cs.length
  | .vec _ cap => cap
  | .dict _ _ => 0

/-- May it be written? -/
def SO.wr : SO → Bool
  | .view _ => false
  | _ => true

def SO.In (N : Nat → Prop) : SO → Prop
  | .cells cs => SV.Ins N cs
  | _ => True

def SO.ok (u : Nat) : SO → Bool
  | .cells cs => SV.oks u cs
  | _ => true

theorem SO.In_of_ok {u : Nat} {so : SO} (h : so.ok u = true) : so.In (· < u) := by
  cases so <;> first | trivial | exact SV.Ins_of_oks _ h

structure SO.is (ρ : Env) (w : World) (p : Nat × Nat) (so : SO) : Prop where
  cell : cellsAt w p (so.vals ρ)
  free : so.wr = true → freeAt w p so.len
  room : ∀ j, j < so.len → ∃ v, w.cell? ⟨p.1, p.2 + j, none⟩ = some v
  fits : (so.vals ρ).length ≤ so.len

abbrev Hp := List (Nat × SO)
abbrev Fr := List (Nat × SV)

def Apart (p : Nat × Nat) (m : Nat) (q : Nat × Nat) (n : Nat) : Prop := ∀ k l, k < m → l < n → p.1 = q.1 → p.2 + k ≠ q.2 + l

theorem Apart.symm {p q : Nat × Nat} {m n : Nat} (h : Apart p m q n) : Apart q n p m := fun k l hk hl e g => h l k hl hk e.symm g.symm

/-- The maps. -/
structure DictOk (w0 : World) (O : Nat → Nat → Prop) (ρ : Env) (H : Hp) (w : World) : Prop where
  at_ : ∀ i es c, look H i = some (.dict es c) → w.heap[(ρ i).1]? = some (.map es.toArray c)
  own : ∀ i es c, look H i = some (.dict es c) → (∀ off, O (ρ i).1 off) ∨ w0.heap.size ≤ (ρ i).1
  sep : ∀ i j ei ci ej cj, look H i = some (.dict ei ci) → look H j = some (.dict ej cj) → i ≠ j → (ρ i).1 ≠ (ρ j).1

/-- THE WORLD w SATISFIES THE HEAP H (names: N; where they lie: ρ), AND PARTS FROM w0 IN THE CELLS OF O ALONE. -/
structure Sat (w0 : World) (O : Nat → Nat → Prop) (N : Nat → Prop) (ρ : Env) (H : Hp) (w : World) : Prop where
  os : w.os = w0.os
  tape : w.tape = w0.tape
  output : w.output = w0.output
  size : w0.heap.size ≤ w.heap.size
  dom : ∀ i so, look H i = some so → N i ∧ so.In N ∧ so.is ρ w (ρ i)
  sep : ∀ i j si sj, look H i = some si → look H j = some sj → i ≠ j → si.wr = true → Apart (ρ i) si.len (ρ j) sj.len
  blk : ∀ k, k < w0.heap.size → (∀ off, ¬ O k off) → w.heap[k]? = w0.heap[k]?
  cell : ∀ k off, k < w0.heap.size → ¬ O k off → w.cell? ⟨k, off, none⟩ = w0.cell? ⟨k, off, none⟩
  frz : ∀ k off, k < w0.heap.size → w.frozen? ⟨k, off, none⟩ = w0.frozen? ⟨k, off, none⟩
  fresh : ∀ i so, look H i = some so → so.wr = true → ∀ j, j < so.len → O (ρ i).1 ((ρ i).2 + j) ∨ w0.heap.size ≤ (ρ i).1
  dict : DictOk w0 O ρ H w

theorem dict_lt {w : World} {b : Nat} {o : Obj} (h : w.heap[b]? = some o) : b < w.heap.size := (Array.getElem?_eq_some_iff.1 h).1
/-- A map's block holds no cells. -/
theorem dict_cell {w : World} {b o c : Nat} {es : Array MapEntry} {v : Value} (h : w.heap[b]? = some (.map es c)) (g : w.cell? ⟨b, o, none⟩ = some v) : False := by
  simp [World.cell?, h] at g
theorem DictOk.mono {w0 : World} {O : Nat → Nat → Prop} {ρ : Env} {H : Hp} {w w' : World} (h : DictOk w0 O ρ H w) (hk : ∀ i es c, look H i = some (.dict es c) → w'.heap[(ρ i).1]? = w.heap[(ρ i).1]?) : DictOk w0 O ρ H w' :=
  ⟨fun i es c hi => (hk i es c hi).trans (h.at_ i es c hi), h.own, h.sep⟩
/-- A row that is no map, ahead. -/
theorem DictOk.cons {w0 : World} {O : Nat → Nat → Prop} {ρ ρ' : Env} {H : Hp} {w : World} (h : DictOk w0 O ρ H w) {n : Nat} {so : SO} (hnd : so.isD = false) (hρ : ∀ i es c, look H i = some (.dict es c) → i ≠ n → ρ' i = ρ i) : DictOk w0 O ρ' ((n, so) :: H) w := by
  have key : ∀ i es c, look ((n, so) :: H) i = some (.dict es c) → i ≠ n ∧ look H i = some (.dict es c) := fun i es c hi => by
    rw [look_cons] at hi
    split at hi
    · injection hi with hi; subst hi; cases hnd
    · rename_i e; exact ⟨fun g => e g.symm, hi⟩
  refine ⟨fun i es c hi => ?_, fun i es c hi => ?_, fun i j ei ci ej cj hi hj hij => ?_⟩
  · obtain ⟨h1, h2⟩ := key i es c hi
    rw [hρ i es c h2 h1]; exact h.at_ i es c h2
  · obtain ⟨h1, h2⟩ := key i es c hi
    rw [hρ i es c h2 h1]; exact h.own i es c h2
  · obtain ⟨h1, h2⟩ := key i ei ci hi
    obtain ⟨h3, h4⟩ := key j ej cj hj
    rw [hρ i ei ci h2 h1, hρ j ej cj h4 h3]; exact h.sep i j ei ci ej cj h2 h4 hij
theorem DictOk.sub {w0 : World} {O : Nat → Nat → Prop} {ρ : Env} {H H1 : Hp} {w : World} (h : DictOk w0 O ρ H w) (hs : ∀ i so, look H1 i = some so → look H i = some so) : DictOk w0 O ρ H1 w :=
  ⟨fun i es c hi => h.at_ i es c (hs i _ hi), fun i es c hi => h.own i es c (hs i _ hi), fun i j ei ci ej cj hi hj hij => h.sep i j ei ci ej cj (hs i _ hi) (hs j _ hj) hij⟩
theorem DictOk.of {w0 : World} {O : Nat → Nat → Prop} {ρ ρ' : Env} {H H1 : Hp} {w : World} (h : DictOk w0 O ρ H w) (hs : ∀ i es c, look H1 i = some (.dict es c) → look H i = some (.dict es c) ∧ ρ' i = ρ i) : DictOk w0 O ρ' H1 w :=
  ⟨fun i es c hi => by rw [(hs i es c hi).2]; exact h.at_ i es c (hs i _ _ hi).1, fun i es c hi => by rw [(hs i es c hi).2]; exact h.own i es c (hs i _ _ hi).1, fun i j ei ci ej cj hi hj hij => by rw [(hs i ei ci hi).2, (hs j ej cj hj).2]; exact h.sep i j ei ci ej cj (hs i _ _ hi).1 (hs j _ _ hj).1 hij⟩
theorem DictOk.nil {w0 : World} {O : Nat → Nat → Prop} {ρ : Env} {w : World} : DictOk w0 O ρ [] w := ⟨fun _ _ _ h => (by cases h), fun _ _ _ h => (by cases h), fun _ _ _ _ _ _ h => (by cases h)⟩

/-- A frame's slots. -/
def FOk (N : Nat → Prop) (ρ : Env) (F : Fr) (a : Act) : Prop := ∀ t v, look F t = some v → a.tmps[t]? = some (v.val ρ) ∧ v.In N

theorem FOk.at {N : Nat → Prop} {ρ : Env} {F : Fr} {a : Act} (h : FOk N ρ F a) {t : Nat} {v : SV} (g : look F t = some v) : a.tmps.getD t undef = v.val ρ := by
  have := (h t v g).1
  simp [Array.getD_eq_getD_getElem?, this]

theorem FOk.put {N M : Nat → Prop} {ρ ρ' : Env} {F : Fr} {a : Act} (h : FOk N ρ F a) (hm : ∀ i, N i → M i) (hρ : ∀ i, N i → ρ' i = ρ i) {d : Nat} (hd : d < a.tmps.size) {v : SV} (hv : v.In M) :
    FOk M ρ' ((d, v) :: F) (a.put (some d) (v.val ρ')) := by
  intro t x hx
  rw [look_cons] at hx
  by_cases e : d = t
  · subst e
    rw [if_pos rfl] at hx
    injection hx with hx
    subst hx
    exact ⟨by simp [Act.put, hd], hv⟩
  · rw [if_neg e] at hx
    obtain ⟨h1, h2⟩ := h t x hx
    exact ⟨by simp only [Act.put]; rw [Array.getElem?_setIfInBounds_ne e, h1, SV.val_agree hρ x h2], SV.In.mono hm x h2⟩

theorem FOk.move {N M : Nat → Prop} {ρ ρ' : Env} {F : Fr} {a : Act} (h : FOk N ρ F a) (hm : ∀ i, N i → M i) (hρ : ∀ i, N i → ρ' i = ρ i) : FOk M ρ' F a := fun t v g =>
  ⟨by rw [(h t v g).1, SV.val_agree hρ v (h t v g).2], SV.In.mono hm v (h t v g).2⟩

end Go.Sh
