import Derived.WalkKit
/- The symbolic heap: values with block names, objects, and what a world must satisfy. Plain lemmas on reading, writing, making and forgetting. -/
namespace Go.Sh
open Go.RowKit

/-- A value, its addresses by name. -/
inductive SV where
  | tt | ff
  | bool (b : Bool)
  | int (k : IntKind) (n : Int)
  | nil
  | ptr (i o : Nat)
  | ptrx (i o : Nat)
  | nilSlice
  | slice (i o len cap : Nat)
  | slicen (i o len j : Nat)
  | slz (b : Bool) (i o len cap : Nat)
  | nilMap
  | map (i : Nat)
  | nilFunc
  | func (f : FuncId) (caps : List SV)
  | agg (cs : List SV)
  | tup (cs : List SV)
  | raw (v : Value)
  | undef

/-- A name's block and base. -/
abbrev Env := Nat → Nat × Nat

/-- A slice; b: nil where it is empty. -/
def slzV (b : Bool) (ad : Addr) (len cap : Nat) : Value := match b && Nat.beq len 0 with | true => .slice none 0 0 | false => .slice (some ad) len cap

mutual
def SV.val (ρ : Env) : SV → Value
  | .tt => .bool true
  | .ff => .bool false
  | .bool b => .bool b
  | .int k n => .int k n
  | .nil => .pointer none
  | .ptr i o => .pointer (some ⟨(ρ i).1, (ρ i).2 + o, none⟩)
  | .ptrx i o => .pointer (some ⟨(ρ i).1, (ρ i).2 + o, none⟩)
  | .nilSlice => .slice none 0 0
  | .slice i o len cap => .slice (some ⟨(ρ i).1, (ρ i).2 + o, none⟩) len cap
  | .slicen i o len j => match len with | 0 => .slice none 0 0 | n + 1 => .slice (some ⟨(ρ i).1, (ρ i).2 + o, none⟩) (n + 1) (ρ j).2
  | .slz b i o len cap => slzV b ⟨(ρ i).1, (ρ i).2 + o, none⟩ len cap
  | .nilMap => .map none
  | .map i => .map (some (ρ i).1)
  | .nilFunc => .nilFunc
  | .func f caps => .func (.func f) #[] (SV.vals ρ caps).toArray
  | .agg cs => .agg (SV.vals ρ cs).toArray
  | .tup cs => .tuple (SV.vals ρ cs).toArray
  | .raw v => v
  | .undef => Go.undef
def SV.vals (ρ : Env) : List SV → List Value
  | [] => []
  | v :: r => SV.val ρ v :: SV.vals ρ r
end

mutual
def SV.ok (u : Nat) : SV → Bool
  | .ptr i _ => Nat.blt i u
  | .ptrx i _ => Nat.blt i u
  | .slice i _ _ _ => Nat.blt i u
  | .slicen i _ _ j => Nat.blt i u && Nat.blt j u
  | .slz _ i _ _ _ => Nat.blt i u
  | .map i => Nat.blt i u
  | .func _ caps => SV.oks u caps
  | .agg cs => SV.oks u cs
  | .tup cs => SV.oks u cs
  | _ => true
def SV.oks (u : Nat) : List SV → Bool
  | [] => true
  | v :: r => SV.ok u v && SV.oks u r
end

-- The same, of a set of names.
mutual
def SV.In (N : Nat → Prop) : SV → Prop
  | .ptr i _ => N i
  | .ptrx i _ => N i
  | .slice i _ _ _ => N i
  | .slicen i _ _ j => N i ∧ N j
  | .slz _ i _ _ _ => N i
  | .map i => N i
  | .func _ caps => SV.Ins N caps
  | .agg cs => SV.Ins N cs
  | .tup cs => SV.Ins N cs
  | _ => True
def SV.Ins (N : Nat → Prop) : List SV → Prop
  | [] => True
  | v :: r => SV.In N v ∧ SV.Ins N r
end

/-- One cell holds it. ('slicen': nil where it is empty; its room stands under the name j.) -/
def SV.one : SV → Bool
  | .agg _ | .tup _ | .raw _ | .undef => false
  | _ => true

theorem SV.vals_eq (ρ : Env) : ∀ l, SV.vals ρ l = l.map (SV.val ρ)
  | [] => rfl
  | v :: r => by simp [SV.vals, SV.vals_eq ρ r]

theorem SV.vals_length (ρ : Env) (l : List SV) : (SV.vals ρ l).length = l.length := by simp [SV.vals_eq]

theorem SV.Ins_iff (N : Nat → Prop) : ∀ l, SV.Ins N l ↔ ∀ v ∈ l, SV.In N v
  | [] => by simp [SV.Ins]
  | v :: r => by simp [SV.Ins, SV.Ins_iff N r]

mutual
theorem SV.In_of_ok {u : Nat} : ∀ v : SV, v.ok u = true → v.In (· < u)
  | .ptr i _ => by simp [SV.ok, SV.In]
  | .ptrx i _ => by simp [SV.ok, SV.In]
  | .slice i _ _ _ => by simp [SV.ok, SV.In]
  | .slicen i _ _ j => by simp [SV.ok, SV.In]
  | .slz _ i _ _ _ => by simp [SV.ok, SV.In]
  | .map i => by simp [SV.ok, SV.In]
  | .func _ cs => fun h => by rw [SV.ok] at h; rw [SV.In]; exact SV.Ins_of_oks cs h
  | .agg cs => fun h => by rw [SV.ok] at h; rw [SV.In]; exact SV.Ins_of_oks cs h
  | .tup cs => fun h => by rw [SV.ok] at h; rw [SV.In]; exact SV.Ins_of_oks cs h
  | .tt => by simp [SV.In] | .ff => by simp [SV.In] | .bool _ => by simp [SV.In] | .int _ _ => by simp [SV.In] | .nil => by simp [SV.In]
  | .nilSlice => by simp [SV.In] | .nilMap => by simp [SV.In] | .nilFunc => by simp [SV.In] | .raw _ => by simp [SV.In] | .undef => by simp [SV.In]
theorem SV.Ins_of_oks {u : Nat} : ∀ l : List SV, SV.oks u l = true → SV.Ins (· < u) l
  | [] => by simp [SV.Ins]
  | v :: r => fun h => by
    rw [SV.oks, Bool.and_eq_true] at h
    exact ⟨SV.In_of_ok v h.1, SV.Ins_of_oks r h.2⟩
end

mutual
theorem SV.In.mono {N M : Nat → Prop} (h : ∀ i, N i → M i) : ∀ v : SV, v.In N → v.In M
  | .ptr i _ => by simpa [SV.In] using h i
  | .ptrx i _ => by simpa [SV.In] using h i
  | .slice i _ _ _ => by simpa [SV.In] using h i
  | .slicen i _ _ j => fun g => ⟨h i g.1, h j g.2⟩
  | .slz _ i _ _ _ => by simpa [SV.In] using h i
  | .map i => by simpa [SV.In] using h i
  | .func _ cs => fun g => by rw [SV.In] at *; exact SV.Ins.mono h cs g
  | .agg cs => fun g => by rw [SV.In] at *; exact SV.Ins.mono h cs g
  | .tup cs => fun g => by rw [SV.In] at *; exact SV.Ins.mono h cs g
  | .tt => by simp [SV.In] | .ff => by simp [SV.In] | .bool _ => by simp [SV.In] | .int _ _ => by simp [SV.In] | .nil => by simp [SV.In]
  | .nilSlice => by simp [SV.In] | .nilMap => by simp [SV.In] | .nilFunc => by simp [SV.In] | .raw _ => by simp [SV.In] | .undef => by simp [SV.In]
theorem SV.Ins.mono {N M : Nat → Prop} (h : ∀ i, N i → M i) : ∀ l : List SV, SV.Ins N l → SV.Ins M l
  | [] => by simp [SV.Ins]
  | v :: r => fun g => ⟨SV.In.mono h v g.1, SV.Ins.mono h r g.2⟩
end

mutual
theorem SV.val_agree {N : Nat → Prop} {ρ ρ' : Env} (h : ∀ i, N i → ρ' i = ρ i) : ∀ v : SV, v.In N → v.val ρ' = v.val ρ
  | .ptr i _ => fun g => by rw [SV.In] at g; rw [SV.val, SV.val, h i g]
  | .ptrx i _ => fun g => by rw [SV.In] at g; rw [SV.val, SV.val, h i g]
  | .slice i _ _ _ => fun g => by rw [SV.In] at g; rw [SV.val, SV.val, h i g]
  | .slicen i _ l j => fun g => by cases l <;> simp only [SV.val, h i g.1, h j g.2]
  | .slz _ i _ _ _ => fun g => by rw [SV.In] at g; rw [SV.val, SV.val, h i g]
  | .map i => fun g => by rw [SV.In] at g; rw [SV.val, SV.val, h i g]
  | .func _ cs => fun g => by rw [SV.In] at g; rw [SV.val, SV.val, SV.vals_agree h cs g]
  | .agg cs => fun g => by rw [SV.In] at g; rw [SV.val, SV.val, SV.vals_agree h cs g]
  | .tup cs => fun g => by rw [SV.In] at g; rw [SV.val, SV.val, SV.vals_agree h cs g]
  | .tt => fun _ => rfl | .ff => fun _ => rfl | .bool _ => fun _ => rfl | .int _ _ => fun _ => rfl | .nil => fun _ => rfl
  | .nilSlice => fun _ => rfl | .nilMap => fun _ => rfl | .nilFunc => fun _ => rfl | .raw _ => fun _ => rfl | .undef => fun _ => rfl
theorem SV.vals_agree {N : Nat → Prop} {ρ ρ' : Env} (h : ∀ i, N i → ρ' i = ρ i) : ∀ l : List SV, SV.Ins N l → SV.vals ρ' l = SV.vals ρ l
  | [] => fun _ => rfl
  | v :: r => fun g => by rw [SV.vals, SV.vals, SV.val_agree h v g.1, SV.vals_agree h r g.2]
end

theorem SV.one_val (ρ : Env) {v : SV} (h : v.one = true) : (v.val ρ).oneCell' = true := by
  cases v <;> first | rfl | (rename_i l _; cases l <;> rfl) | (simp only [SV.val, slzV]; split <;> rfl) | (simp [SV.one] at h; done)

/-- What first stands under a number. -/
def look {α : Type} : List (Nat × α) → Nat → Option α
  | [], _ => none
  | (k, v) :: r, n => cond (Nat.beq k n) (some v) (look r n)

theorem look_cons {α : Type} (k : Nat) (v : α) (r : List (Nat × α)) (n : Nat) : look ((k, v) :: r) n = if k = n then some v else look r n := by
  rw [look]
  by_cases h : k = n
  · subst h; simp
  · have : Nat.beq k n = false := by rw [← Bool.not_eq_true, Nat.beq_eq]; exact h
    rw [this, if_neg h]; rfl

theorem look_same {α : Type} (k : Nat) (v : α) (r : List (Nat × α)) : look ((k, v) :: r) k = some v := by rw [look_cons, if_pos rfl]
theorem look_other {α : Type} {k n : Nat} (v : α) (r : List (Nat × α)) (h : k ≠ n) : look ((k, v) :: r) n = look r n := by rw [look_cons, if_neg h]

/-- A map (b: its block, where it is known), or one that goes over a map. -/
inductive DK where
  | map (es : List MapEntry) (b : Option Nat)
  | iter (b since : Nat) (seen : List Nat)
  | over
def DK.obj (c : Nat) : DK → Obj
  | .map es _ => .map es.toArray c
  | .iter b since seen => .mapIter (some b) since seen.toArray c
  | .over => .mapIter none 0 #[] 0
def DK.sits (p : Nat × Nat) : DK → Prop
  | .map _ (some b) => b = p.1
  | .map _ none => True
  | _ => p.2 = 0
/-- What a name leads to. -/
inductive SO where
  | cells (cs : List SV)
  | row (cs : List Value)
  | view (cs : List Value)
  | vec (cs : List Value) (cap : Nat)
  | dict (k : DK) (clock : Nat)
/-- Is it a map? -/
def SO.isD : SO → Bool
  | .dict _ _ => true
  | _ => false

def cellsAt (w : World) (p : Nat × Nat) (vs : List Value) : Prop :=
  (∀ j v, vs[j]? = some v → w.cell? ⟨p.1, p.2 + j, none⟩ = some v) ∧ ∀ v ∈ vs, v.oneCell' = true

def freeAt (w : World) (p : Nat × Nat) (n : Nat) : Prop := ∀ j, j < n → w.frozen? ⟨p.1, p.2 + j, none⟩ = false

def SO.vals (ρ : Env) : SO → List Value
  | .cells cs => SV.vals ρ cs
  | .row cs | .view cs | .vec cs _ => cs
  | .dict _ _ => []

def SO.len : SO → Nat
  | .cells cs => cs.length
  | .row cs | .view cs => cs.length
  | .vec _ cap => cap
  | .dict _ _ => 0

/-- May it be written? -/
def SO.wr : SO → Bool
  | .view _ => false
  | _ => true

def SO.In (N : Nat → Prop) : SO → Prop
  | .cells cs => SV.Ins N cs
  | _ => True

def SO.ok (u : Nat) : SO → Bool
  | .cells cs => SV.oks u cs
  | _ => true

theorem SO.In_of_ok {u : Nat} {so : SO} (h : so.ok u = true) : so.In (· < u) := by
  cases so <;> first | trivial | exact SV.Ins_of_oks _ h

structure SO.is (ρ : Env) (w : World) (p : Nat × Nat) (so : SO) : Prop where
  cell : cellsAt w p (so.vals ρ)
  free : so.wr = true → freeAt w p so.len
  room : ∀ j, j < so.len → ∃ v, w.cell? ⟨p.1, p.2 + j, none⟩ = some v
  fits : (so.vals ρ).length ≤ so.len

abbrev Hp := List (Nat × SO)
abbrev Fr := List (Nat × SV)

def Apart (p : Nat × Nat) (m : Nat) (q : Nat × Nat) (n : Nat) : Prop := ∀ k l, k < m → l < n → p.1 = q.1 → p.2 + k ≠ q.2 + l

theorem Apart.symm {p q : Nat × Nat} {m n : Nat} (h : Apart p m q n) : Apart q n p m := fun k l hk hl e g => h l k hl hk e.symm g.symm

/-- A block that holds it. -/
structure DAt (w : World) (p : Nat × Nat) (k : DK) (c : Nat) : Prop where
  obj : w.heap[p.1]? = some (k.obj c)
  sits : k.sits p
def DK.cov (k' k : DK) : Prop := ∀ c x w, DAt w x k' c → DAt w x k c
theorem DK.cov_map (es : List MapEntry) (b : Option Nat) : DK.cov (.map es b) (.map es none) := fun c x w h => ⟨h.obj, trivial⟩
/-- The maps. -/
structure DictOk (w0 : World) (O : Nat → Nat → Prop) (ρ : Env) (H : Hp) (w : World) : Prop where
  at_ : ∀ i es c, look H i = some (.dict es c) → DAt w (ρ i) es c
  own : ∀ i es c, look H i = some (.dict es c) → (∀ off, O (ρ i).1 off) ∨ w0.heap.size ≤ (ρ i).1
  sep : ∀ i j ei ci ej cj, look H i = some (.dict ei ci) → look H j = some (.dict ej cj) → i ≠ j → (ρ i).1 ≠ (ρ j).1

/-- THE WORLD w SATISFIES THE HEAP H (names: N; where they lie: ρ), AND PARTS FROM w0 IN THE CELLS OF O ALONE. -/
structure Sat (w0 : World) (O : Nat → Nat → Prop) (N : Nat → Prop) (ρ : Env) (H : Hp) (w : World) : Prop where
  os : w.os = w0.os
  tape : w.tape = w0.tape
  output : w.output = w0.output
  size : w0.heap.size ≤ w.heap.size
  dom : ∀ i so, look H i = some so → N i ∧ so.In N ∧ so.is ρ w (ρ i)
  sep : ∀ i j si sj, look H i = some si → look H j = some sj → i ≠ j → si.wr = true → Apart (ρ i) si.len (ρ j) sj.len
  blk : ∀ k, k < w0.heap.size → (∀ off, ¬ O k off) → w.heap[k]? = w0.heap[k]?
  cell : ∀ k off, k < w0.heap.size → ¬ O k off → w.cell? ⟨k, off, none⟩ = w0.cell? ⟨k, off, none⟩
  frz : ∀ k off, k < w0.heap.size → w.frozen? ⟨k, off, none⟩ = w0.frozen? ⟨k, off, none⟩
  fresh : ∀ i so, look H i = some so → so.wr = true → ∀ j, j < so.len → O (ρ i).1 ((ρ i).2 + j) ∨ w0.heap.size ≤ (ρ i).1
  dict : DictOk w0 O ρ H w

theorem obj_lt {w : World} {b : Nat} {o : Obj} (h : w.heap[b]? = some o) : b < w.heap.size := (Array.getElem?_eq_some_iff.1 h).1
theorem dict_lt {w : World} {p : Nat × Nat} {c : Nat} {k : DK} (h : DAt w p k c) : p.1 < w.heap.size := obj_lt h.obj
/-- A map's block holds no cells. -/
theorem dict_cell {w : World} {p : Nat × Nat} {o c : Nat} {k : DK} {v : Value} (h : DAt w p k c) (g : w.cell? ⟨p.1, o, none⟩ = some v) : False := by
  have h := h.obj
  cases k <;> simp [World.cell?, h, DK.obj] at g
theorem DictOk.mono {w0 : World} {O : Nat → Nat → Prop} {ρ : Env} {H : Hp} {w w' : World} (h : DictOk w0 O ρ H w) (hk : ∀ i es c, look H i = some (.dict es c) → w'.heap[(ρ i).1]? = w.heap[(ρ i).1]?) : DictOk w0 O ρ H w' :=
  ⟨fun i es c hi => ⟨(hk i es c hi).trans (h.at_ i es c hi).obj, (h.at_ i es c hi).sits⟩, h.own, h.sep⟩
/-- A row that is no map, ahead. -/
theorem DictOk.cons {w0 : World} {O : Nat → Nat → Prop} {ρ ρ' : Env} {H : Hp} {w : World} (h : DictOk w0 O ρ H w) {n : Nat} {so : SO} (hnd : so.isD = false) (hρ : ∀ i es c, look H i = some (.dict es c) → i ≠ n → ρ' i = ρ i) : DictOk w0 O ρ' ((n, so) :: H) w := by
  have key : ∀ i es c, look ((n, so) :: H) i = some (.dict es c) → i ≠ n ∧ look H i = some (.dict es c) := fun i es c hi => by
    rw [look_cons] at hi
    split at hi
    · injection hi with hi; subst hi; cases hnd
    · rename_i e; exact ⟨fun g => e g.symm, hi⟩
  refine ⟨fun i es c hi => ?_, fun i es c hi => ?_, fun i j ei ci ej cj hi hj hij => ?_⟩
  · obtain ⟨h1, h2⟩ := key i es c hi
    rw [hρ i es c h2 h1]; exact h.at_ i es c h2
  · obtain ⟨h1, h2⟩ := key i es c hi
    rw [hρ i es c h2 h1]; exact h.own i es c h2
  · obtain ⟨h1, h2⟩ := key i ei ci hi
    obtain ⟨h3, h4⟩ := key j ej cj hj
    rw [hρ i ei ci h2 h1, hρ j ej cj h4 h3]; exact h.sep i j ei ci ej cj h2 h4 hij
theorem DictOk.sub {w0 : World} {O : Nat → Nat → Prop} {ρ : Env} {H H1 : Hp} {w : World} (h : DictOk w0 O ρ H w) (hs : ∀ i so, look H1 i = some so → look H i = some so) : DictOk w0 O ρ H1 w :=
  ⟨fun i es c hi => h.at_ i es c (hs i _ hi), fun i es c hi => h.own i es c (hs i _ hi), fun i j ei ci ej cj hi hj hij => h.sep i j ei ci ej cj (hs i _ hi) (hs j _ hj) hij⟩
theorem DictOk.of {w0 : World} {O : Nat → Nat → Prop} {ρ ρ' : Env} {H H1 : Hp} {w : World} (h : DictOk w0 O ρ H w) (hs : ∀ i es c, look H1 i = some (.dict es c) → look H i = some (.dict es c) ∧ ρ' i = ρ i) : DictOk w0 O ρ' H1 w :=
  ⟨fun i es c hi => by rw [(hs i es c hi).2]; exact h.at_ i es c (hs i _ _ hi).1, fun i es c hi => by rw [(hs i es c hi).2]; exact h.own i es c (hs i _ _ hi).1, fun i j ei ci ej cj hi hj hij => by rw [(hs i ei ci hi).2, (hs j ej cj hj).2]; exact h.sep i j ei ci ej cj (hs i _ _ hi).1 (hs j _ _ hj).1 hij⟩
theorem DictOk.nil {w0 : World} {O : Nat → Nat → Prop} {ρ : Env} {w : World} : DictOk w0 O ρ [] w := ⟨fun _ _ _ h => (by cases h), fun _ _ _ h => (by cases h), fun _ _ _ _ _ _ h => (by cases h)⟩

/-- A frame's slots. -/
def FOk (N : Nat → Prop) (ρ : Env) (F : Fr) (a : Act) : Prop := ∀ t v, look F t = some v → a.tmps[t]? = some (v.val ρ) ∧ v.In N

theorem FOk.at {N : Nat → Prop} {ρ : Env} {F : Fr} {a : Act} (h : FOk N ρ F a) {t : Nat} {v : SV} (g : look F t = some v) : a.tmps.getD t undef = v.val ρ := by
  have := (h t v g).1
  simp [Array.getD_eq_getD_getElem?, this]

theorem FOk.put {N M : Nat → Prop} {ρ ρ' : Env} {F : Fr} {a : Act} (h : FOk N ρ F a) (hm : ∀ i, N i → M i) (hρ : ∀ i, N i → ρ' i = ρ i) {d : Nat} (hd : d < a.tmps.size) {v : SV} (hv : v.In M) :
    FOk M ρ' ((d, v) :: F) (a.put (some d) (v.val ρ')) := by
  intro t x hx
  rw [look_cons] at hx
  by_cases e : d = t
  · subst e
    rw [if_pos rfl] at hx
    injection hx with hx
    subst hx
    exact ⟨by simp [Act.put, hd], hv⟩
  · rw [if_neg e] at hx
    obtain ⟨h1, h2⟩ := h t x hx
    exact ⟨by simp only [Act.put]; rw [Array.getElem?_setIfInBounds_ne e, h1, SV.val_agree hρ x h2], SV.In.mono hm x h2⟩

theorem FOk.move {N M : Nat → Prop} {ρ ρ' : Env} {F : Fr} {a : Act} (h : FOk N ρ F a) (hm : ∀ i, N i → M i) (hρ : ∀ i, N i → ρ' i = ρ i) : FOk M ρ' F a := fun t v g =>
  ⟨by rw [(h t v g).1, SV.val_agree hρ v (h t v g).2], SV.In.mono hm v (h t v g).2⟩

end Go.Sh

/- What a world that satisfies a heap satisfies behind a read, a store, a new block, a draw; and forgetting. -/
namespace Go.Sh
open Go.RowKit

def upd (ρ : Env) (n : Nat) (p : Nat × Nat) : Env := fun i => if i = n then p else ρ i
theorem upd_same (ρ : Env) (n : Nat) (p : Nat × Nat) : upd ρ n p n = p := by simp [upd]
theorem upd_other (ρ : Env) {n i : Nat} (p : Nat × Nat) (h : i ≠ n) : upd ρ n p i = ρ i := by simp [upd, h]

section
variable {w0 w : World} {O : Nat → Nat → Prop} {N M : Nat → Prop} {ρ : Env} {H : Hp}

theorem Sat.read (h : Sat w0 O N ρ H w) {i : Nat} {so : SO} (hi : look H i = some so) {j : Nat} {v : Value} (hv : (so.vals ρ)[j]? = some v) :
    w.cell? ⟨(ρ i).1, (ρ i).2 + j, none⟩ = some v := (h.dom i so hi).2.2.cell.1 j v hv

theorem Sat.drew (h : Sat w0 O N ρ H w) : Sat w0 O N ρ H w.drew :=
  ⟨h.os, h.tape, h.output, h.size, fun i so hi => ⟨(h.dom i so hi).1, (h.dom i so hi).2.1, (h.dom i so hi).2.2.1, (h.dom i so hi).2.2.2, (h.dom i so hi).2.2.3, (h.dom i so hi).2.2.4⟩, h.sep, h.blk, h.cell, h.frz, h.fresh, h.dict.mono fun _ _ _ _ => rfl⟩

theorem block_lt {w : World} {b o : Nat} {v : Value} (h : w.cell? ⟨b, o, none⟩ = some v) : b < w.heap.size := World.block_lt_of_cell? w ⟨b, o, none⟩ h

theorem cell_alloc (w : World) (o : Obj) {b k : Nat} (h : b ≠ w.heap.size) : (w.alloc o).cell? ⟨b, k, none⟩ = w.cell? ⟨b, k, none⟩ := World.cell?_alloc_old w o ⟨b, k, none⟩ h
theorem frz_alloc (w : World) (o : Obj) {b k : Nat} (h : b ≠ w.heap.size) : (w.alloc o).frozen? ⟨b, k, none⟩ = w.frozen? ⟨b, k, none⟩ := World.frozen?_alloc_old w o ⟨b, k, none⟩ h

theorem is_alloc {so : SO} {p : Nat × Nat} (h : so.is ρ w p) (o : Obj) : so.is ρ (w.alloc o) p := by
  have hlt : ∀ j, j < so.len → p.1 ≠ w.heap.size := fun j hj => by
    obtain ⟨v, hv⟩ := h.room j hj
    exact Nat.ne_of_lt (block_lt hv)
  refine ⟨⟨fun j v hv => ?_, h.cell.2⟩, fun hw j hj => ?_, fun j hj => ?_, h.fits⟩
  · rw [cell_alloc w o (hlt j (Nat.lt_of_lt_of_le (List.getElem?_eq_some_iff.1 hv).1 h.fits))]; exact h.cell.1 j v hv
  · rw [frz_alloc w o (hlt j hj)]; exact h.free hw j hj
  · rw [cell_alloc w o (hlt j hj)]; exact h.room j hj

theorem SO.vals_agree {ρ' : Env} (hρ : ∀ i, N i → ρ' i = ρ i) {so : SO} (h : so.In N) : so.vals ρ' = so.vals ρ := by
  cases so with
  | cells cs => exact SV.vals_agree hρ cs h
  | row cs => rfl
  | view cs => rfl
  | vec cs c => rfl
  | dict es c => rfl

theorem is_agree {ρ' : Env} (hρ : ∀ i, N i → ρ' i = ρ i) {so : SO} (hn : so.In N) {p : Nat × Nat} (h : so.is ρ w p) : so.is ρ' w p :=
  ⟨by rw [SO.vals_agree hρ hn]; exact h.cell, h.free, h.room, by rw [SO.vals_agree hρ hn]; exact h.fits⟩

theorem SO.In.mono {so : SO} (h : ∀ i, N i → M i) (g : so.In N) : so.In M := by
  cases so <;> first | trivial | exact SV.Ins.mono h _ g

/-- A new block of cells, under a new name. -/
theorem Sat.alloc (h : Sat w0 O N ρ H w) {n : Nat} (hn : ¬ N n) (arr : Array Value) (t : TypeId) {so : SO} (hM : ∀ i, M i ↔ N i ∨ i = n) (hin : so.In M)
    (hv : ∀ (j : Nat) (v : Value), (so.vals (upd ρ n (w.heap.size, 0)))[j]? = some v → arr[j]? = some v) (hone : ∀ v ∈ so.vals (upd ρ n (w.heap.size, 0)), v.oneCell' = true) (hl : so.len ≤ arr.size)
    (hf : (so.vals (upd ρ n (w.heap.size, 0))).length ≤ so.len) (hnd : so.isD = false) :
    Sat w0 O M (upd ρ n (w.heap.size, 0)) ((n, so) :: H) (w.alloc (.cells arr t)) := by
  have hρ : ∀ i, N i → upd ρ n (w.heap.size, 0) i = ρ i := fun i hi => upd_other ρ _ (fun e => hn (e ▸ hi))
  have hNM : ∀ i, N i → M i := fun i hi => (hM i).2 (.inl hi)
  have hdom : ∀ i si, look H i = some si → i ≠ n := fun i si hi e => hn (e ▸ (h.dom i si hi).1)
  have hsz : ∀ i si, look H i = some si → ∀ j, j < si.len → (ρ i).1 < w.heap.size := fun i si hi j hj => by
    obtain ⟨v, hv⟩ := (h.dom i si hi).2.2.room j hj
    exact block_lt hv
  refine ⟨h.os, h.tape, h.output, Nat.le_trans h.size (by simp), fun i si hi => ?_, fun i j si sj hi hj hij hw => ?_, fun k hk hO => ?_, fun k off hk hO => ?_, fun k off hk => ?_, fun i si hi hw j hj => ?_, (h.dict.mono fun i es c hi => Below.heap_alloc w _ _ (dict_lt (h.dict.at_ i es c hi))).cons hnd fun i es c hi hne => upd_other ρ _ hne⟩
  · rw [look_cons] at hi
    by_cases e : n = i
    · rw [if_pos e] at hi
      injection hi with hi
      subst hi
      subst e
      refine ⟨(hM n).2 (.inr rfl), hin, ⟨⟨fun j v hv' => ?_, hone⟩, fun _ j _ => ?_, fun j hj => ?_, hf⟩⟩
      · rw [upd_same]; simp only [Nat.zero_add]; rw [World.cell?_alloc_new]; exact hv j v hv'
      · rw [upd_same]; exact World.frozen?_alloc_new w arr t _
      · rw [upd_same]; simp only [Nat.zero_add]; rw [World.cell?_alloc_new]; exact ⟨_, Array.getElem?_eq_getElem (Nat.lt_of_lt_of_le hj hl)⟩
    · rw [if_neg e] at hi
      obtain ⟨h1, h2, h3⟩ := h.dom i si hi
      refine ⟨hNM i h1, SO.In.mono hNM h2, ?_⟩
      rw [hρ i h1]
      exact is_agree hρ h2 (is_alloc h3 _)
  · rw [look_cons] at hi hj
    by_cases e : n = i
    · rw [if_pos e] at hi
      subst e
      rw [if_neg hij] at hj
      rw [upd_same, hρ j (h.dom j sj hj).1]
      intro k l hk hl g
      have := hsz j sj hj l hl
      simp only at g
      omega
    · rw [if_neg e] at hi
      rw [hρ i (h.dom i si hi).1]
      by_cases e' : n = j
      · rw [if_pos e'] at hj
        subst e'
        rw [upd_same]
        intro k l hk hl g
        have := hsz i si hi k hk
        simp only at g
        omega
      · rw [if_neg e'] at hj
        rw [hρ j (h.dom j sj hj).1]
        exact h.sep i j si sj hi hj hij hw
  · rw [← h.blk k hk hO]
    exact Below.heap_alloc w _ k (Nat.lt_of_lt_of_le hk h.size)
  · rw [cell_alloc w _ (Nat.ne_of_lt (Nat.lt_of_lt_of_le hk h.size))]; exact h.cell k off hk hO
  · rw [frz_alloc w _ (Nat.ne_of_lt (Nat.lt_of_lt_of_le hk h.size))]; exact h.frz k off hk
  · rw [look_cons] at hi
    by_cases e : n = i
    · subst e
      rw [upd_same]
      exact .inr h.size
    · rw [if_neg e] at hi
      rw [hρ i (h.dom i si hi).1]
      exact h.fresh i si hi hw j hj

/-- A store into a cell that may be written. -/
theorem Sat.set1 (h : Sat w0 O N ρ H w) {i : Nat} {so so' : SO} (hi : look H i = some so) (hw : so.wr = true) {d : Nat} (hd : d < so.len) {v : Value}
    (hin : so'.In N) (hl : so'.len = so.len)
    (hv : ∀ (j : Nat) (x : Value), (so'.vals ρ)[j]? = some x → if j = d then x = v else (so.vals ρ)[j]? = some x) (hone : ∀ x ∈ so'.vals ρ, x.oneCell' = true)
    (hf : (so'.vals ρ).length ≤ so'.len) (hnd : so'.isD = false) :
    Sat w0 O N ρ ((i, so') :: H) (w.setCell ⟨(ρ i).1, (ρ i).2 + d, none⟩ v) := by
  have hi' := (h.dom i so hi).2.2
  obtain ⟨u, hu⟩ := hi'.room d hd
  have hother : ∀ b o, (b ≠ (ρ i).1 ∨ o ≠ (ρ i).2 + d) → (w.setCell ⟨(ρ i).1, (ρ i).2 + d, none⟩ v).cell? ⟨b, o, none⟩ = w.cell? ⟨b, o, none⟩ := fun b o hne =>
    World.cell?_setCell_other w ⟨(ρ i).1, (ρ i).2 + d, none⟩ ⟨b, o, none⟩ v (fun e => by
      injection e with e1 e2
      rcases hne with hne | hne
      · exact hne e1.symm
      · exact hne e2.symm)
  have hsame : (w.setCell ⟨(ρ i).1, (ρ i).2 + d, none⟩ v).cell? ⟨(ρ i).1, (ρ i).2 + d, none⟩ = some v := World.cell?_setCell_same w _ v hu
  have hO := h.fresh i so hi hw d hd
  refine ⟨h.os, h.tape, h.output, by simpa using h.size, fun j sj hj => ?_, fun j k sj sk hj hk hjk hwj => ?_, fun k hk hOk => ?_, fun k off hk hOk => ?_, fun k off hk => ?_, fun j sj hj hwj l hl' => ?_, (h.dict.mono fun j es c hj => Below.heap_setCell w _ v _ fun e => (by have e : (ρ j).1 = (ρ i).1 := e; exact dict_cell (h.dict.at_ j es c hj) (e ▸ hu))).cons hnd fun _ _ _ _ _ => rfl⟩
  · rw [look_cons] at hj
    by_cases e : i = j
    · rw [if_pos e] at hj
      injection hj with hj
      subst hj; subst e
      refine ⟨(h.dom i so hi).1, hin, ⟨⟨fun j x hx => ?_, hone⟩, fun _ j hj => ?_, fun j hj => ?_, hf⟩⟩
      · have := hv j x hx
        by_cases e : j = d
        · rw [if_pos e] at this
          rw [this, e]; exact hsame
        · rw [if_neg e] at this
          rw [hother _ _ (.inr (by omega))]
          exact hi'.cell.1 j x this
      · rw [World.frozen?_setCell]; exact hi'.free hw j (hl ▸ hj)
      · by_cases e : j = d
        · rw [e]; exact ⟨v, hsame⟩
        · rw [hother _ _ (.inr (by omega))]; exact hi'.room j (hl ▸ hj)
    · rw [if_neg e] at hj
      obtain ⟨h1, h2, h3⟩ := h.dom j sj hj
      have hap := h.sep i j so sj hi hj e hw
      have hne : ∀ l, l < sj.len → ((ρ j).1 ≠ (ρ i).1 ∨ (ρ j).2 + l ≠ (ρ i).2 + d) := fun l hl' => by
        by_cases eb : (ρ i).1 = (ρ j).1
        · exact .inr (fun e => hap d l hd hl' eb e.symm)
        · exact .inl (fun e => eb e.symm)
      refine ⟨h1, h2, ⟨⟨fun l x hx => ?_, h3.cell.2⟩, fun hwj l hl' => ?_, fun l hl' => ?_, h3.fits⟩⟩
      · rw [hother _ _ (hne l (Nat.lt_of_lt_of_le (List.getElem?_eq_some_iff.1 hx).1 h3.fits))]; exact h3.cell.1 l x hx
      · rw [World.frozen?_setCell]; exact h3.free hwj l hl'
      · rw [hother _ _ (hne l hl')]; exact h3.room l hl'
  · rw [look_cons] at hj hk
    by_cases e : i = j
    · rw [if_pos e] at hj
      injection hj with hj
      subst hj; subst e
      rw [if_neg hjk] at hk
      rw [hl]
      exact h.sep i k so sk hi hk hjk hw
    · rw [if_neg e] at hj
      by_cases e' : i = k
      · rw [if_pos e'] at hk
        injection hk with hk
        subst hk; subst e'
        rw [hl]
        exact h.sep j i sj so hj hi hjk hwj
      · rw [if_neg e'] at hk
        exact h.sep j k sj sk hj hk hjk hwj
  · rw [← h.blk k hk hOk]
    refine Below.heap_setCell w _ v k (fun e => ?_)
    subst e
    rcases hO with hO | hO
    · exact hOk _ hO
    · simp only at hk; omega
  · rw [← h.cell k off hk hOk]
    refine hother _ _ ?_
    rcases hO with hO | hO
    · by_cases e : k = (ρ i).1
      · subst e
        exact .inr (fun e => hOk (e ▸ hO))
      · exact .inl e
    · exact .inl (by omega)
  · rw [World.frozen?_setCell]; exact h.frz k off hk
  · rw [look_cons] at hj
    by_cases e : i = j
    · rw [if_pos e] at hj
      injection hj with hj
      subst hj; subst e
      exact h.fresh i so hi hw l (hl ▸ hl')
    · rw [if_neg e] at hj
      exact h.fresh j sj hj hwj l hl'

/-- Forgetting. -/
theorem Sat.weaken (h : Sat w0 O N ρ H w) {H1 : Hp} (hs : ∀ i so, look H1 i = some so → look H i = some so) (hM : ∀ i so, look H1 i = some so → M i ∧ so.In M) : Sat w0 O M ρ H1 w :=
  ⟨h.os, h.tape, h.output, h.size, fun i so hi => ⟨(hM i so hi).1, (hM i so hi).2, (h.dom i so (hs i so hi)).2.2⟩,
    fun i j si sj hi hj hij hw => h.sep i j si sj (hs i si hi) (hs j sj hj) hij hw, h.blk, h.cell, h.frz, fun i so hi hw => h.fresh i so (hs i so hi) hw, h.dict.sub hs⟩

end
end Go.Sh
