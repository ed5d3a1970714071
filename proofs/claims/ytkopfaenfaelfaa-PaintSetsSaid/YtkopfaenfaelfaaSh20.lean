import Derived.Test.YtkopfaenfaelfaaSh19
import Derived.Great.BuildSlice
import Derived.Laws.AppendOwn
/- Slice literals; append. -/
set_option linter.unusedVariables false
namespace Go.Sh
open Go.RowKit

/-! ### Slice literals -/
def repK (zs : List SV) : Nat → List SV
  | 0 => []
  | n + 1 => repK zs n ++ zs
theorem repK_length (zs : List SV) : ∀ n, (repK zs n).length = n * zs.length
  | 0 => by simp [repK]
  | n + 1 => by rw [repK, List.length_append, repK_length zs n, Nat.add_mul, Nat.one_mul]
theorem repK_vals (ρ : Env) (zs : List SV) : ∀ n, SV.vals ρ (repK zs n) = (List.replicate n (SV.vals ρ zs)).flatten
  | 0 => by simp [repK, SV.vals]
  | n + 1 => by
    have := repK_vals ρ zs n
    simp only [SV.vals_eq] at this ⊢
    rw [repK, List.map_append, this, List.replicate_succ']
    simp
theorem repK_Ins {N : Nat → Prop} {zs : List SV} (h : SV.Ins N zs) : ∀ n, SV.Ins N (repK zs n)
  | 0 => trivial
  | n + 1 => (SV.Ins_iff N _).2 fun v hv => by
    rw [repK] at hv
    rcases List.mem_append.1 hv with hv | hv
    · exact (SV.Ins_iff N _).1 (repK_Ins h n) v hv
    · exact (SV.Ins_iff N _).1 h v hv
theorem zeros_list (z : Array Value) : ∀ n, ((Array.range (n * z.size)).map (z[· % z.size]!)).toList = (List.replicate n z.toList).flatten
  | 0 => by simp
  | n + 1 => by
    have ih := zeros_list z n
    simp only [Array.toList_map, Array.toList_range] at ih ⊢
    rw [Nat.add_mul, Nat.one_mul, List.range_add, List.map_append, ih, List.replicate_succ', List.flatten_append]
    congr 1
    rw [List.map_map]
    refine List.ext_getElem? fun j => ?_
    by_cases hj : j < z.size
    · have : (n * z.size + j) % z.size = j := by rw [Nat.mul_comm, Nat.mul_add_mod, Nat.mod_eq_of_lt hj]
      simp [hj, this]
    · have hj' : z.size ≤ j := Nat.le_of_not_lt hj
      simp [hj']

def bslK (tab : Tab) (o : Oper) (F : Fr) (k : Nat → List SV → Prop) : Prop :=
  match o.op with
  | .buildSlice t n parts => tabK tab t fun ti => (match ti.desc with
    | .slice e => tabK tab e fun ei => (match ei.zero with
      | .cells zs => (match Nat.ble (n * ei.size) 16777216 && Nat.blt 0 (n * ei.size) with
        | true => fillK F (fun i => some (i * ei.size, ei.size)) parts.toList (repK zs n) fun cs => (match SV.allone cs with | true => k n cs | false => False)
        | false => False)
      | _ => False)
    | _ => False)
  | _ => False

theorem bslK_out {P : Program} {tab : Tab} (hP : TabOk P tab) {o : Oper} {F : Fr} {k : Nat → List SV → Prop} (h : bslK tab o F k) : ∃ n cs, k n cs ∧ SV.allone cs = true ∧
    ∀ N ρ a, FOk N ρ F a → SV.Ins N cs ∧ ∀ w, ∃ (arr : Array Value) (e : TypeId), arr.toList = SV.vals ρ cs ∧ (execOp a.eval o).run P w = .ok (.value (.slice (some ⟨w.heap.size, 0, none⟩) n n)) (w.alloc (.cells arr e)) := by
  unfold bslK at h
  split at h
  · rename_i t n parts ho
    obtain ⟨ti, ht, h1⟩ := tabK_out hP h
    clear h
    have hu := ht.und
    split at h1
    · rename_i e hd
      rw [hd] at hu
      obtain ⟨ei, he, h2⟩ := tabK_out hP h1
      clear h1
      obtain ⟨i, z, hi, hsz, hby, hz, hzv, hzin, hzl, hzvl, hz1, _⟩ := he.inf
      split at h2
      · rename_i zs hzs
        split at h2
        · rename_i hb
          simp only [Bool.and_eq_true, Nat.ble_eq, Nat.blt_eq] at hb
          obtain ⟨cs, h3, hcs⟩ := fillK_out h2
          clear h2
          split at h3
          · rename_i h1c
            refine ⟨n, cs, h3, h1c, fun N ρ a ha => ?_⟩
            rw [hzs] at hzv hzin hzl
            simp only [SO.vals, SO.len] at hzv hzl
            have hzsz : z.cells.size = ei.size := by rw [← Array.length_toList, ← hzv zenv, SV.vals_length]; exact hzl
            have hin : SV.Ins N (repK zs n) := repK_Ins (SV.Ins.mono (fun i hi => hi.elim) zs hzin) n
            have harr : ((Array.range (n * ei.size)).map (z.cells[· % z.cells.size]!)).toList = SV.vals ρ (repK zs n) := by
              rw [repK_vals, hzv ρ, ← hzsz]
              exact zeros_list z.cells n
            obtain ⟨g1, arr', g2, g3⟩ := hcs N ρ a ha hin _ harr
            refine ⟨g1, fun w => ⟨arr', e, g3, ?_⟩⟩
            have hf : Instr.fill (fun j => some (j * i.size, i.size)) ((Array.range (n * i.size)).map (z.cells[· % z.cells.size]!)) (parts.map fun (j, x) => (j, a.eval x)).toList = some arr' := by
              rw [hsz]; simpa using g2
            simp only [execOp, ho, Sem.run_bind, run_buildSlice w t e n _ arr' i z hu hi hz (by rw [hsz]; omega) (by rw [hsz]; omega) hf, Result.andThen_ok, Sem.run_pure]
          · exact h3.elim
        · exact h2.elim
      · exact h2.elim
    · exact h1.elim
  · exact h.elim

theorem OpL.bsl {P : Program} {tab : Tab} (hP : TabOk P tab) {o : Oper} {F : Fr} {H : Hp} {u : Nat} {K : SV → Hp → Nat → Prop} (h : bslK tab o F fun n cs => K (.slice u 0 n n) ((u, .cells cs) :: H) (u + 1)) : OpL P o F H u K := by
  obtain ⟨n, cs, k, h1, h2⟩ := bslK_out hP h
  refine ⟨OpSem.turn fun w0 O ρ a w ha hs => ?_⟩
  obtain ⟨hin, hr⟩ := h2 _ ρ a ha
  obtain ⟨arr, e, harr, hrun⟩ := hr w
  refine ⟨.slice u 0 n n, _, u + 1, upd ρ u (w.heap.size, 0), w.alloc (.cells arr e), ?_, Nat.le_succ u, agree_upd ρ u _, Nat.lt_succ_self u, hs.box arr e hin h1 harr, k⟩
  simp [hrun, SV.val, upd_same]

theorem QOpL.bsl {P : Program} {tab : Tab} (hP : TabOk P tab) {o : Oper} {F : Fr} {H : Hp} {u0 u : Nat} {K : Out → Prop} (hF : inTmps o F = true) (h : bslK tab o F fun n cs => (match SV.oks 0 cs with | true => K (.fresh (.slice 0 0 n n) [(0, .cells cs)] 1) | false => False)) : QOpL P o F H u0 u K := by
  obtain ⟨n, cs, k0, h1, h2⟩ := bslK_out hP h
  split at k0
  · rename_i hok
    refine ⟨_, k0, by simp, fun i s hi => ?_, fun w0 O N ρ a w H2 next Q hb ha hl hs hn hk => ?_⟩
    · simp only [Out.H, shH, look_cons, look, Nat.add_zero] at hi
      split at hi
      · rename_i e; subst e; exact ⟨Nat.le_refl _, by simp [Out.m]⟩
      · cases hi
    obtain ⟨hin, hr⟩ := h2 N ρ a (fun t v hv => ha t (inTmps_out hF hv) v hv)
    obtain ⟨arr, e, harr, hrun⟩ := hr w
    unfold Oper.wp
    rw [hrun, Oper.upon_value]
    have hnu : ¬ N u := hn u (Nat.le_refl _) (by simp [Out.m])
    have hv : ∀ ρ', SV.vals ρ' (SV.shs u cs) = arr.toList := fun ρ' => by rw [SV.shs_vals, harr]; exact (closed_vals hok _).trans (closed_vals hok _).symm
    have hal := hs.alloc (n := u) (M := Ext N u 1) hnu arr e (so := (SO.cells cs).sh u) (Ext_one N u) ((SO.sh_In u _ (.cells cs)).2 (closed_Ins hok _)) (fun j v hj => by
        have hj' : (SV.vals (upd ρ u (w.heap.size, 0)) (SV.shs u cs))[j]? = some v := hj
        rw [hv] at hj'; simpa using hj') (by rw [SO.sh_vals]; exact fun v hv => allone_out _ h1 v hv)
      (by rw [SO.sh_len]; simp only [SO.len]; rw [← SV.vals_length ρ cs, ← harr]; simp) (by rw [SO.sh_len, SO.sh_vals]; simp [SO.vals, SO.len, SV.vals_length]) rfl
    have := hk (upd ρ u (w.heap.size, 0)) _ (fun i hi => upd_other ρ _ (fun e => hnu (e ▸ hi))) hal ((SV.sh_In u _ (.slice 0 0 n n)).2 (.inr ⟨by omega, by simp [Out.m]⟩))
    simpa [Out.v, SV.sh, SV.val, upd_same] using this
  · exact k0.elim

/-! ### append -/
/-- Cells are laid behind those that are known. -/
theorem Sat.run_extend {P : Program} {w0 : World} {O : Nat → Nat → Prop} {N : Nat → Prop} {ρ : Env} (vs : List Value) : ∀ {H : Hp} {w : World} (h : Sat w0 O N ρ H w) {i : Nat} {cs : List Value} {cap : Nat} (hi : look H i = some (.vec cs cap)) {d e : Nat} (hd : d + e = cs.length) (hc : cs.length + vs.length ≤ cap)
    (hone : ∀ x ∈ vs, x.oneCell' = true), ∃ w', (storeCells ⟨(ρ i).1, (ρ i).2 + d, Option.none⟩ vs e).run P w = .ok () w' ∧ Sat w0 O N ρ ((i, .vec (cs ++ vs) cap) :: H) w' := by
  induction vs with
  | nil =>
    intro H w h i cs cap hi d e hd hc hone
    obtain ⟨w', h1, h2⟩ := h.run_store (P := P) [] hi rfl (so' := .vec cs cap) (d := d) (e := e) (by simp [SO.vals]; omega) trivial rfl rfl (by rw [setRange_nil]) (by simp) rfl
    exact ⟨w', h1, by simpa using h2⟩
  | cons v vs ih =>
    intro H w h i cs cap hi d e hd hc hone
    simp only [List.length_cons] at hc
    have h3 := (h.dom i _ hi).2.2
    have hstep := h.set1 (so' := .vec (cs ++ [v]) cap) hi rfl (d := d + e) (by simp only [SO.len]; omega) (v := v) trivial rfl (fun j x hx => by
      simp only [SO.vals] at hx ⊢
      rw [hd]
      by_cases hj : j = cs.length
      · subst hj; rw [if_pos rfl]; simpa using hx.symm
      · rw [if_neg hj]
        have : j < cs.length := by
          have := (List.getElem?_eq_some_iff.1 hx).1
          simp at this; omega
        rwa [List.getElem?_append_left this] at hx) (fun x hx => by
      simp only [SO.vals] at hx
      rcases List.mem_append.1 hx with hx | hx
      · exact h3.cell.2 x hx
      · simp at hx; subst hx; exact hone x (by simp)) (by simp [SO.vals, SO.len]; omega) rfl
    obtain ⟨w', g1, g2⟩ := ih hstep (i := i) (cs := cs ++ [v]) (cap := cap) (look_same _ _ _) (d := d) (e := e + 1) (by simp; omega) (by simp; omega) (fun x hx => hone x (by simp [hx]))
    refine ⟨w', ?_, ?_⟩
    · obtain ⟨u', hu'⟩ := h3.room (d + e) (by simp only [SO.len]; omega)
      have hrun : (Go.store (⟨(ρ i).1, (ρ i).2 + (d + e), Option.none⟩ : Addr) v).run P w = .ok () (w.setCell ⟨(ρ i).1, (ρ i).2 + (d + e), Option.none⟩ v) := by
        rw [Go.run_store P w _ v .plain (hone v (by simp)), hu']
        simp [h3.free rfl (d + e) (by simp only [SO.len]; omega)]
      simp only [storeCells, Sem.run_bind]
      rw [add_at, Nat.add_assoc, hrun]
      exact g1
    · have : cs ++ [v] ++ vs = cs ++ v :: vs := by simp
      rw [this] at g2
      exact g2.weaken (fun j s hj => by
        rw [look_cons] at hj ⊢
        split at hj
        · rename_i e; rw [if_pos e]; exact hj
        · rename_i e; rw [if_neg e, look_cons, if_neg e]; exact hj) (fun j s hj => by
        rw [look_cons] at hj
        split at hj
        · rename_i e; subst e; injection hj with hj; subst hj; exact ⟨(h.dom i _ hi).1, trivial⟩
        · exact ⟨(h.dom j s hj).1, (h.dom j s hj).2.1⟩)

def dropH (i : Nat) : Hp → Hp
  | [] => []
  | (k, so) :: r => match Nat.beq k i with | true => dropH i r | false => (k, so) :: dropH i r
theorem look_dropH (i : Nat) : ∀ (H : Hp) (j : Nat) (so : SO), look (dropH i H) j = some so → j ≠ i ∧ look H j = some so
  | [], j, so, h => by cases h
  | (k, s) :: r, j, so, h => by
    rw [dropH] at h
    cases hk : Nat.beq k i with
    | true =>
      rw [hk] at h
      have e : k = i := by simpa using hk
      obtain ⟨h1, h2⟩ := look_dropH i r j so h
      exact ⟨h1, by rw [look_cons, if_neg (fun e' => h1 (e'.symm.trans e))]; exact h2⟩
    | false =>
      rw [hk] at h
      have e : k ≠ i := by intro e; subst e; rw [Nat.beq_refl] at hk; cases hk
      simp only [look_cons] at h ⊢
      split at h
      · rename_i e'; subst e'; exact ⟨e, by rw [if_pos rfl]; exact h⟩
      · rename_i e'; rw [if_neg e']; exact look_dropH i r j so h

/-- What is asked of an append: the slice's own cells (cs), how many elements it has (l) and its room (c); the news. -/
structure AppL (so : SO) (oj m l c size bytes cap : Nat) (cs : List Value) (K : List Value → Nat → Prop) : Prop where
  out : ∃ news : List Value, (∀ ρ, ((so.vals ρ).drop oj).take (m * size) = news) ∧ news.length = m * size ∧ 0 < m ∧ cs.length = l * size ∧ cap = c * size ∧ l ≤ c ∧ l + m ≤ 9223372036854775807 ∧ (l + m) * bytes ≤ 140737488355328 ∧ ∀ c', l + m ≤ c' → K news c'

def appK (tab : Tab) (o : Oper) (F : Fr) (H : Hp) (u : Nat) (K : SV → Hp → Nat → Prop) : Prop :=
  match o.op with
  | .call c => (match c.callee with
    | .builtin .append => (match c.args.toList, c.argTypes.toList with
      | [s, x], [t, t'] => (match Nat.beq t t' with
        | true => tabK tab t fun ti => (match ti.desc with
          | .slice e => tabK tab e fun ei => evK F s fun vs => evK F x fun vx => (match vx with
            | .slice j oj m _ => (match look H j with
              | some so => (match vs with
                | .nilSlice => AppL so oj m 0 0 ei.size ei.bytes 0 [] fun news c' => K (.slice u 0 (0 + m) c') ((u, .vec news (c' * ei.size)) :: H) (u + 1)
                | .slice i oi l cp => (match oi, look H i with
                  | 0, some (.vec cs cap) => (match Nat.beq i j with
                    | false => AppL so oj m l cp ei.size ei.bytes cap cs fun news c' => K (.slice u 0 (l + m) c') ((u, .vec (cs ++ news) (c' * ei.size)) :: dropH i H) (u + 1)
                    | true => False)
                  | _, _ => False)
                | _ => False)
              | none => False)
            | _ => False)
          | _ => False)
        | false => False)
      | _, _ => False)
    | _ => False)
  | _ => False

theorem OpL.append {P : Program} {tab : Tab} (hP : TabOk P tab) {o : Oper} {F : Fr} {H : Hp} {u : Nat} {K : SV → Hp → Nat → Prop} (h : appK tab o F H u K) : OpL P o F H u K := by
  unfold appK at h
  split at h
  · rename_i c ho
    split at h
    · rename_i hcal
      split at h
      · rename_i s x t t' hargs htys
        split at h
        · rename_i htt
          have htt : t = t' := by simpa using htt
          subst htt
          obtain ⟨ti, ht, h1⟩ := tabK_out hP h
          clear h
          have hu := ht.und
          split at h1
          · rename_i e hd
            rw [hd] at hu
            obtain ⟨ei, he, h2⟩ := tabK_out hP h1
            clear h1
            obtain ⟨vs, h3, hs⟩ := evK_out h2
            obtain ⟨vx, h4, hx⟩ := evK_out h3
            clear h2 h3
            obtain ⟨i, z, hi, hsz, hby, hz, hzv, _, hzl, hzvl, hz1, _⟩ := he.inf
            have hzsz : z.cells.size = ei.size := by rw [← Array.length_toList, ← hzv zenv]; exact hzvl zenv
            have hrunop : ∀ (a : Act) (w w' : World) (v : Value), (Builtin.append_ #[t, t] o.type #[a.eval s, a.eval x]).run P w = .ok v w' → (execOp a.eval o).run P w = .ok (.value v) w' := fun a w w' v h => by
              have e1 : c.args = #[s, x] := by apply Array.ext'; simpa using hargs
              have e2 : c.argTypes = #[t, t] := by apply Array.ext'; simpa using htys
              simp only [execOp, ho, resolve, hcal, invoke, builtin, Sem.run_bind, Sem.run_pure, Result.andThen_ok, e1, e2, List.map_toArray, List.map_cons, List.map_nil, h]
            -- a new block for old and new cells
            have grow : ∀ (w0 : World) (O : Nat → Nat → Prop) (ρ : Env) (w : World) (H' : Hp) (cs news : List Value) (need old : Nat), Sat w0 O (· < u) ρ H w → (∀ k so, look H' k = some so → look H k = some so) → (cs ++ news).length = need * ei.size → (∀ v ∈ cs ++ news, v.oneCell' = true) →
                Sat w0 O (· < u + 1) (upd ρ u (w.heap.size, 0)) ((u, .vec (cs ++ news) (grownCap w need old e * ei.size)) :: H') (w.drew.alloc (.cells (cs.toArray ++ news.toArray ++ Builtin.zeroCells z.cells (grownCap w need old e - need)) e)) := by
              intro w0 O ρ w H' cs news need old hsat hsub hlen hone
              have hge := grownCap_ge w need old e
              have h5 : Sat w0 O (· < u) ρ H' w.drew := hsat.drew.weaken hsub fun k so hk => ⟨(hsat.dom k so (hsub k so hk)).1, (hsat.dom k so (hsub k so hk)).2.1⟩
              have hsize : (cs.toArray ++ news.toArray ++ Builtin.zeroCells z.cells (grownCap w need old e - need)).size = grownCap w need old e * ei.size := by
                have hl2 : cs.length + news.length = need * ei.size := by simpa using hlen
                simp only [Array.size_append, List.size_toArray, size_zeroCells, hzsz, hl2]
                rw [← Nat.add_mul]
                congr 1; omega
              refine h5.alloc (M := (· < u + 1)) (Nat.lt_irrefl u) _ e (so := .vec (cs ++ news) (grownCap w need old e * ei.size)) (succ_iff u) trivial (fun j v hj => ?_) (fun v hv => hone v hv) (by simp only [SO.len]; omega) ?_ rfl
              · simp only [SO.vals] at hj
                have hj' := (List.getElem?_eq_some_iff.1 hj).1
                have : (cs.toArray ++ news.toArray) = (cs ++ news).toArray := by simp
                rw [this, Array.getElem?_append_left (by simpa using hj')]
                simpa using hj
              · simp only [SO.vals, SO.len, hlen]
                exact Nat.mul_le_mul_right _ hge
            split at h4
            · rename_i j oj m cj
              split at h4
              · rename_i so hso
                have newsAt : ∀ (w0 : World) (O : Nat → Nat → Prop) (ρ : Env) (w : World) (news : List Value), Sat w0 O (· < u) ρ H w → ((so.vals ρ).drop oj).take (m * ei.size) = news → (∀ k v, news[k]? = some v → w.cell? ((⟨(ρ j).1, (ρ j).2 + oj, none⟩ : Addr).add k) = some v) ∧ ∀ v ∈ news, v.oneCell' = true := by
                  intro w0 O ρ w news hsat hn
                  subst hn
                  refine ⟨fun k v hk => ?_, fun v hv => (hsat.dom j so hso).2.2.cell.2 v (List.mem_of_mem_drop (List.mem_of_mem_take hv))⟩
                  rw [add_at, Nat.add_assoc]
                  refine hsat.read hso ?_
                  rw [List.getElem?_take] at hk
                  split at hk
                  · rw [List.getElem?_drop] at hk; exact hk
                  · cases hk
                split at h4
                · -- nil
                  obtain ⟨news, hn, hnl, hm, hcl, hcap, hlc, hmax, hbytes, hK⟩ := (h4 : AppL _ _ _ _ _ _ _ _ _ _).out
                  refine ⟨OpSem.turn fun w0 O ρ a w ha hsat => ?_⟩
                  obtain ⟨hc1, hc2⟩ := newsAt w0 O ρ w news hsat (hn ρ)
                  have ex : a.eval x = .slice (some ⟨(ρ j).1, (ρ j).2 + oj, none⟩) m cj := (hx _ ρ a ha).1
                  have es : a.eval s = .slice none 0 0 := (hs _ ρ a ha).1
                  have hr := run_append_nil (P := P) w t o.type e i z hu hi hz ⟨(ρ j).1, (ρ j).2 + oj, none⟩ m cj news (by rw [hsz]; exact hnl) hc1 hm (by omega) (by rw [hby]; rw [Nat.zero_add] at hbytes; omega)
                  have hg := grow w0 O ρ w H [] news m 0 hsat (fun _ _ h => h) (by simpa using hnl) (by simpa using hc2)
                  have hge := grownCap_ge w m 0 e
                  refine ⟨.slice u 0 (0 + m) (grownCap w m 0 e), _, u + 1, upd ρ u (w.heap.size, 0), _, hrunop a w _ _ (by rw [es, ex, hr]; simp only [SV.val, upd_same, Nat.zero_add]; rfl), Nat.le_succ u, agree_upd ρ u _, Nat.lt_succ_self u, ?_, hK _ (by omega)⟩
                  simpa using hg
                · rename_i i' oi l cp
                  split at h4
                  · rename_i cs cap hlook
                    split at h4
                    · rename_i hij
                      have hij : i' ≠ j := by intro e; subst e; rw [Nat.beq_refl] at hij; cases hij
                      obtain ⟨news, hn, hnl, hm, hcl, hcap, hlc, hmax, hbytes, hK⟩ := (h4 : AppL _ _ _ _ _ _ _ _ _ _).out
                      refine ⟨OpSem.turn fun w0 O ρ a w ha hsat => ?_⟩
                      obtain ⟨hc1, hc2⟩ := newsAt w0 O ρ w news hsat (hn ρ)
                      have ex : a.eval x = .slice (some ⟨(ρ j).1, (ρ j).2 + oj, none⟩) m cj := (hx _ ρ a ha).1
                      have es : a.eval s = .slice (some ⟨(ρ i').1, (ρ i').2 + 0, none⟩) l cp := (hs _ ρ a ha).1
                      rw [Nat.add_zero] at es
                      have hd := hsat.dom i' _ hlook
                      by_cases hroom : l + m ≤ cp
                      · -- in place
                        obtain ⟨w', hst, hs'⟩ := hsat.run_extend (P := P) news hlook (d := l * ei.size) (e := 0) (by omega) (by rw [hcap, hcl, hnl, ← Nat.add_mul]; exact Nat.mul_le_mul_right _ hroom) hc2
                        have hf := run_firstCells_some (P := P) w ei.size m ⟨(ρ j).1, (ρ j).2 + oj, none⟩ m cj news hnl hc1
                        have hr : (Builtin.append_ #[t, t] o.type #[.slice (some ⟨(ρ i').1, (ρ i').2, none⟩) l cp, .slice (some ⟨(ρ j).1, (ρ j).2 + oj, none⟩) m cj]).run P w = .ok (.slice (some ⟨(ρ i').1, (ρ i').2, none⟩) (l + m) cp) w' := by
                          have hst' : (storeCells ((⟨(ρ i').1, (ρ i').2, none⟩ : Addr).add (l * ei.size)) news).run P w = .ok () w' := by rw [add_at]; exact hst
                          simp [Builtin.append_, run_underlying hu, sizeOf, typeInfo, hi, hsz, Builtin.lenOf, hroom, hf, hst']
                        refine ⟨.slice u 0 (l + m) cp, _, u + 1, upd ρ u (ρ i'), w', hrunop a w _ _ (by rw [es, ex, hr]; simp only [SV.val, upd_same, Nat.add_zero]), Nat.le_succ u, agree_upd ρ u _, Nat.lt_succ_self u, ?_, hK cp hroom⟩
                        have hρ : ∀ k, k < u → upd ρ u (ρ i') k = ρ k := fun k hk => upd_other ρ _ (Nat.ne_of_lt hk)
                        have row : ∀ k s2, look ((u, SO.vec (cs ++ news) (cp * ei.size)) :: dropH i' H) k = some s2 → (k = u ∧ s2 = .vec (cs ++ news) cap) ∨ (k ≠ i' ∧ k < u ∧ look ((i', SO.vec (cs ++ news) cap) :: H) k = some s2) := fun k s2 hk => by
                          rw [look_cons] at hk
                          split at hk
                          · rename_i e; subst e; injection hk with hk; exact .inl ⟨rfl, by rw [← hk, hcap]⟩
                          · obtain ⟨q1, q2⟩ := look_dropH i' H k s2 hk
                            exact .inr ⟨q1, (hsat.dom k s2 q2).1, by rw [look_cons, if_neg (Ne.symm q1)]; exact q2⟩
                        have me : look ((i', SO.vec (cs ++ news) cap) :: H) i' = some (.vec (cs ++ news) cap) := look_same _ _ _
                        refine ⟨hs'.os, hs'.tape, hs'.output, hs'.size, fun k s2 hk => ?_, fun k k' s2 s3 hk hk' hkk hw => ?_, hs'.blk, hs'.cell, hs'.frz, fun k s2 hk hw q hq => ?_, hs'.dict.of fun k es c hk => (by
                          rcases row k _ hk with ⟨_, h⟩ | ⟨q1, q2, q3⟩
                          · cases h
                          · exact ⟨q3, hρ k q2⟩)⟩
                        · rcases row k s2 hk with ⟨rfl, rfl⟩ | ⟨q1, q2, q3⟩
                          · refine ⟨Nat.lt_succ_self _, trivial, ?_⟩
                            rw [upd_same]
                            have g := (hs'.dom i' _ me).2.2
                            exact ⟨g.cell, g.free, g.room, g.fits⟩
                          · obtain ⟨q4, q5, q6⟩ := hs'.dom k s2 q3
                            refine ⟨Nat.lt_succ_of_lt q2, SO.In.mono (fun i hi => Nat.lt_succ_of_lt hi) q5, ?_⟩
                            rw [hρ k q2]
                            exact is_agree hρ q5 q6
                        · rcases row k s2 hk with ⟨rfl, rfl⟩ | ⟨q1, q2, q3⟩
                          · rcases row k' s3 hk' with ⟨rfl, rfl⟩ | ⟨r1, r2, r3⟩
                            · exact absurd rfl hkk
                            · rw [upd_same, hρ k' r2]
                              exact hs'.sep i' k' _ s3 me r3 (Ne.symm r1) rfl
                          · rcases row k' s3 hk' with ⟨rfl, rfl⟩ | ⟨r1, r2, r3⟩
                            · rw [upd_same, hρ k q2]
                              exact hs'.sep k i' s2 _ q3 me q1 hw
                            · rw [hρ k q2, hρ k' r2]
                              exact hs'.sep k k' s2 s3 q3 r3 hkk hw
                        · rcases row k s2 hk with ⟨rfl, rfl⟩ | ⟨q1, q2, q3⟩
                          · rw [upd_same]; exact hs'.fresh i' _ me rfl q hq
                          · rw [hρ k q2]; exact hs'.fresh k s2 q3 hw q hq
                      · have holds : ∀ k v, cs[k]? = some v → w.cell? ((⟨(ρ i').1, (ρ i').2, none⟩ : Addr).add k) = some v := fun k v hk => by
                          rw [add_at]
                          exact hsat.read hlook hk
                        have hr := run_append_grow (P := P) w t o.type e i z hu hi hz ⟨(ρ i').1, (ρ i').2, none⟩ l cp cs (by rw [hsz]; exact hcl) holds ⟨(ρ j).1, (ρ j).2 + oj, none⟩ m cj news (by rw [hsz]; exact hnl) hc1 (by omega) (by omega) (growslice_fits (by omega) (by rw [hby]; exact hbytes))
                        have hg := grow w0 O ρ w (dropH i' H) cs news (l + m) cp hsat (fun k so hk => (look_dropH i' H k so hk).2) (by rw [List.length_append, hcl, hnl, Nat.add_mul]) (fun v hv => (List.mem_append.1 hv).elim (fun h => hd.2.2.cell.2 v h) (hc2 v))
                        have hge := grownCap_ge w (l + m) cp e
                        exact ⟨.slice u 0 (l + m) (grownCap w (l + m) cp e), _, u + 1, upd ρ u (w.heap.size, 0), _, hrunop a w _ _ (by rw [es, ex, hr]; simp only [SV.val, upd_same]), Nat.le_succ u, agree_upd ρ u _, Nat.lt_succ_self u, hg, hK _ hge⟩
                    · exact h4.elim
                  · exact h4.elim
                · exact h4.elim
              · exact h4.elim
            · exact h4.elim
          · exact h1.elim
        · exact h.elim
      · exact h.elim
    · exact h.elim
  · exact h.elim
end Go.Sh
