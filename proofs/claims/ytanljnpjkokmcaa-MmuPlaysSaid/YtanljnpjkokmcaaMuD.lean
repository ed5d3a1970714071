import Derived.Test.YtanljnpjkokmcaaMuC
set_option linter.unusedVariables false
namespace Go.Sh.Ytanljnpjkokmcaa
open Go.Proofs Go.Sh

def E5 : Ent := ⟨true, true, false, false, true, false, false, false, false, false, false, false, 5⟩
def M5 : Ent := markE E5 1 false
def s0 : Nat → List Ln := fun _ => []
def L5 : Ln := ⟨3, 0, M5, 8192⟩
theorem s0_ok : okT s0 := fun _ => Nat.zero_le _
theorem lay_st (A : List Lay) (i : Nat) (e : Ent) (a : Nat) (ha : atOf ⟨2, (i : Int), e⟩ = a) : stB (memL A) a (entW e) 8 = memL (A ++ [⟨2, (i : Int), e⟩]) := by rw [memL_snoc, ha]
theorem ow1 : walkG (baseL ++ [⟨2, (0 : Nat), E5⟩]) 8 0 4 = some (E5, 8192) := by kernel_rfl
theorem ow2 : walkG (baseL ++ [⟨2, (0 : Nat), E5⟩] ++ [⟨2, (0 : Nat), M5⟩] ++ [⟨2, (0 : Nat), ent0⟩]) 8 0 5 = none := by kernel_rfl
theorem om : M5 ≠ E5 := fun h => by have := congrArg Ent.a h; cases this
theorem one_tr {y : TrY} (h : TrR s0 (memL (baseL ++ [⟨2, (0 : Nat), E5⟩])) 0 3 false 4 1 false y) : y = (putS s0 L5, memL (baseL ++ [⟨2, (0 : Nat), E5⟩] ++ [⟨2, (0 : Nat), M5⟩]), .ok M5) := by
  have h1 := h.2 (by decide)
  have h2 : WkR s0 (memL (baseL ++ [⟨2, (0 : Nat), E5⟩])) 0 3 false 4 1 false y := h1
  unfold WkR at h2
  rw [walkF_memL, ow1] at h2
  obtain ⟨fl, hf, rfl⟩ := h2.2 (by kernel_rfl)
  cases fl
  · exact absurd (hf.1 rfl) om
  · show (_, stB _ 8192 (entW M5) 8, _) = _
    rw [lay_st _ 0 M5 8192 (by kernel_rfl)]
    rfl
theorem one_tr2 {b : Nat → Nat} {y : TrY} (h : TrR (putS s0 L5) b 0 3 false 5 1 false y) : y = (putS s0 L5, b, .ok M5) := by
  have h1 := h.2 (by decide)
  have h2 : (chkE L5.e 1 false false ≠ 0 → y = (putS s0 L5, b, .error (chkE L5.e 1 false false))) ∧ (chkE L5.e 1 false false = 0 → (markE L5.e 1 false = L5.e → y = (putS s0 L5, b, .ok L5.e)) ∧ (markE L5.e 1 false ≠ L5.e → WkR (putS s0 L5) b 0 3 false 5 1 false y)) := h1
  exact (h2.2 (by kernel_rfl)).1 (by kernel_rfl)
theorem s1_ok : okT (putS s0 L5) := okT_fset s0_ok (putL_len (Nat.le_trans (List.length_filter_le _ _) (s0_ok _)) _)
theorem trV_ok (va : Nat) (k : Int) (o : Except Int Ent) (u : Nat) : (trV va k o).ok u = true := by cases o <;> rfl
theorem ulen2 {s s' : Nat → List Ln} (h : okT s) (h' : okT s') (rest : List Value) : (SO.row (tlbC s rest)).len = (SO.row (tlbC s' rest)).len := ulen h h' rest
def uL (a : Nat) : List SV := [.int .u64 0, .int .u64 0, .ff, .ff, .ff, .ff, .ff, .ff, .ff, .ff, .ff, .ff, .ff, .ff, .int .u64 0, .int .u64 0, .int .u64 0, .int .u64 0, .ff, .ff, .ff, .ff, .ff, .ff, .ff, .ff, .ff, .ff, .ff, .ff, .int .u64 0, .int .u64 0, .int .i64 0, .int .u64 0, .int .u64 0, .ff, .ff, .ff, .ff, .ff, .ff, .ff, .ff, .ff, .ff, .ff, .ff, .int .u64 0, .int .u64 0, .int .u64 0, .int .u64 0, .ff, .ff, .ff, .ff, .ff, .ff, .ff, .ff, .ff, .ff, .ff, .ff, .int .u64 0, .int .u64 0, .int .i64 0, .int .u64 0, .int .u64 0, .ff, .ff, .ff, .ff, .ff, .ff, .ff, .ff, .ff, .ff, .ff, .ff, .int .u64 0, .int .u64 0, .int .u64 0, .int .u64 0, .ff, .ff, .ff, .ff, .ff, .ff, .ff, .ff, .ff, .ff, .ff, .ff, .int .u64 0, .int .u64 0, .int .i64 0, .int .u64 0, .int .u64 0, .ff, .ff, .ff, .ff, .ff, .ff, .ff, .ff, .ff, .ff, .ff, .ff, .int .u64 0, .int .u64 0, .int .u64 0, .int .u64 0, .ff, .ff, .ff, .ff, .ff, .ff, .ff, .ff, .ff, .ff, .ff, .ff, .int .u64 0, .int .u64 0, .int .i64 0, .int .u64 0, .int .u64 (a : Int), .ff]
set_option maxRecDepth 100000 in
theorem u0_vals (a : Nat) : tlbC s0 (uR 0 a false) = SV.vals zenv (uL a) := rfl
set_option maxRecDepth 100000 in
theorem uL_cl (a : Nat) (ρ : Env) : SV.vals ρ (uL a) = SV.vals zenv (uL a) := closed_vals rfl ρ
theorem u0_so (a : Nat) (ρ ρ' : Env) : SO.vals ρ (SO.row (tlbC s0 (uR 0 a false))) = SO.vals ρ' (SO.cells (uL a)) := (u0_vals a).trans (uL_cl a ρ').symm
theorem u0_len (a : Nat) (g : Bool) : (SO.row (tlbC s0 (uR 0 a g))).len ≤ 135 := Nat.le_of_eq (tlbC_len s0_ok _)
set_option maxRecDepth 100000 in
theorem one_ok : Pure Try.prog 12 [] .tt := by
  have hE : okE E5 := ⟨by decide, by decide⟩
  refine Spec.of_body tabOk Try.func12 rfl (ent Try.func12 rfl (by kernel_rfl)) Try.ntmps12 rfl (by kernel_rfl) (Nat.le_of_ble_eq_true rfl) ?_
  conv => whnf
  refine Spec.fn setup_ok [] rfl rfl (fun _ => rfl) rfl trivial (fun _ _ => ⟨rfl, rfl, trivial⟩) (fun y hy => ?_)
  conv => whnf
  refine Spec.pure (word_ok E5 hE) rfl rfl (fun _ => rfl) ?_
  conv => whnf
  refine Spec.fn (store_ok 8 (memL baseL) y.1 8192 8 (entW E5) (entW_lt _) (.inr (.inr (.inr rfl))) (by decide) (by decide) (by decide)) [0, 1] rfl rfl (fun _ => rfl) rfl ⟨⟨by decide, rfl, rfl, _, rfl, fun _ => rfl, Nat.le_refl _, fun _ => Nat.le_refl _, id⟩, ⟨by decide, rfl, rfl, _, rfl, fun _ => rfl, Nat.le_refl _, fun _ => Nat.le_refl _, fun _ => rfl⟩, trivial⟩ (fun _ _ => ⟨rfl, rfl, ⟨_, rfl, rfl, rfl⟩, ⟨_, rfl, rfl, rlen _ _ _ _ _⟩, trivial⟩) (fun _ _ => ?_)
  rw [lay_st baseL 0 E5 8192 (by kernel_rfl)]
  generalize tagsL y.1 8192 8 = t1
  have htr : ∀ y, TrR s0 (memL (baseL ++ [⟨2, (0 : Nat), E5⟩])) 0 3 false 4 1 false y → y = (putS s0 L5, memL (baseL ++ [⟨2, (0 : Nat), E5⟩] ++ [⟨2, (0 : Nat), M5⟩]), .ok M5) := fun y => one_tr
  have hmb := memL_ok (baseL ++ [⟨2, (0 : Nat), E5⟩])
  generalize memL (baseL ++ [⟨2, (0 : Nat), E5⟩]) = b1 at htr hmb
  have hmb2 := memL_ok (baseL ++ [⟨2, (0 : Nat), E5⟩] ++ [⟨2, (0 : Nat), M5⟩])
  have hst2 : stB (memL (baseL ++ [⟨2, (0 : Nat), E5⟩] ++ [⟨2, (0 : Nat), M5⟩])) 8192 0 8 = memL (baseL ++ [⟨2, (0 : Nat), E5⟩] ++ [⟨2, (0 : Nat), M5⟩] ++ [⟨2, (0 : Nat), ent0⟩]) := by
    have := lay_st (baseL ++ [⟨2, (0 : Nat), E5⟩] ++ [⟨2, (0 : Nat), M5⟩]) 0 ent0 8192 (by kernel_rfl)
    rw [show entW ent0 = 0 by kernel_rfl] at this
    exact this
  have hw3 : walkF (memL (baseL ++ [⟨2, (0 : Nat), E5⟩] ++ [⟨2, (0 : Nat), M5⟩] ++ [⟨2, (0 : Nat), ent0⟩])) 8 0 5 = none := by rw [walkF_memL, ow2]
  rw [← hst2] at hw3
  clear hst2
  generalize memL (baseL ++ [⟨2, (0 : Nat), E5⟩] ++ [⟨2, (0 : Nat), M5⟩]) = b2 at htr hmb2 hw3
  have hmb3 : okB (stB b2 8192 0 8) := stB_ok hmb2 _ _ _
  conv => whnf
  refine Spec.fn (trans_ok s0 0 3 false b1 t1 4 1 false s0_ok hmb (by decide) (by decide)) [5, 0, 1] rfl rfl (fun _ => rfl) rfl ⟨⟨by decide, rfl, rfl, _, rfl, fun ρ => u0_so 3 _ ρ, u0_len 3 false, fun ρ => rowvl _ ρ, fun _ => rfl⟩, ⟨by decide, rfl, rfl, _, rfl, fun _ => rfl, Nat.le_refl _, fun _ => Nat.le_refl _, fun _ => rfl⟩, ⟨by decide, rfl, rfl, _, rfl, fun _ => rfl, Nat.le_refl _, fun _ => Nat.le_refl _, fun _ => rfl⟩, trivial⟩ (fun y hy => ⟨trV_ok _ _ _ _, rfl, ⟨_, rfl, rfl, ulen2 hy.1 s0_ok _⟩, ⟨_, rfl, rfl, rfl⟩, ⟨_, rfl, rfl, rlen _ _ _ _ _⟩, trivial⟩) (fun z hz => ?_)
  obtain ⟨z1, t2⟩ := z
  obtain rfl : z1 = _ := htr _ hz.2
  conv => whnf
  refine Spec.fn (store_ok 8 b2 t2 8192 8 0 (by decide) (.inr (.inr (.inr rfl))) (by decide) (by decide) (by decide)) [0, 1] rfl rfl (fun _ => rfl) rfl ⟨⟨by decide, rfl, rfl, _, rfl, fun _ => rfl, Nat.le_refl _, fun _ => Nat.le_refl _, fun _ => rfl⟩, ⟨by decide, rfl, rfl, _, rfl, fun _ => rfl, Nat.le_refl _, fun _ => Nat.le_refl _, fun _ => rfl⟩, trivial⟩ (fun _ _ => ⟨rfl, rfl, ⟨_, rfl, rfl, rfl⟩, ⟨_, rfl, rfl, rlen _ _ _ _ _⟩, trivial⟩) (fun _ _ => ?_)
  generalize stB b2 8192 0 8 = b3 at hmb3 hw3
  generalize tagsL t2 8192 8 = t3
  conv => whnf
  refine Spec.fn (trans_ok (putS s0 L5) 0 3 false b3 t3 5 1 false s1_ok hmb3 (by decide) (by decide)) [5, 0, 1] rfl rfl (fun _ => rfl) rfl ⟨⟨by decide, rfl, rfl, _, rfl, fun _ => rfl, Nat.le_refl _, fun _ => Nat.le_refl _, fun _ => rfl⟩, ⟨by decide, rfl, rfl, _, rfl, fun _ => rfl, Nat.le_refl _, fun _ => Nat.le_refl _, fun _ => rfl⟩, ⟨by decide, rfl, rfl, _, rfl, fun _ => rfl, Nat.le_refl _, fun _ => Nat.le_refl _, fun _ => rfl⟩, trivial⟩ (fun y hy => ⟨trV_ok _ _ _ _, rfl, ⟨_, rfl, rfl, ulen2 hy.1 s1_ok _⟩, ⟨_, rfl, rfl, rfl⟩, ⟨_, rfl, rfl, rlen _ _ _ _ _⟩, trivial⟩) (fun z hz => ?_)
  obtain ⟨z1, t4⟩ := z
  obtain rfl : z1 = _ := one_tr2 hz.2
  conv => whnf
  refine Spec.fn (plain_ok (putS s0 L5) 0 3 false b3 t4 5 1 false s1_ok hmb3 (by decide) (by decide) hw3) [5, 0, 1] rfl rfl (fun _ => rfl) rfl ⟨⟨by decide, rfl, rfl, _, rfl, fun _ => rfl, Nat.le_refl _, fun _ => Nat.le_refl _, fun h => (by cases h)⟩, ⟨by decide, rfl, rfl, _, rfl, fun _ => rfl, Nat.le_refl _, fun _ => Nat.le_refl _, id⟩, ⟨by decide, rfl, rfl, _, rfl, fun _ => rfl, Nat.le_refl _, fun _ => Nat.le_refl _, fun h => (by cases h)⟩, trivial⟩ (fun _ _ => ⟨rfl, rfl, rfl, ⟨_, rfl, rfl, rfl⟩, rfl, trivial⟩) (fun _ _ => ?_)
  conv => whnf
  have p1 : plA M5 4 = 20484 := by kernel_rfl
  have p2 : plA M5 5 = 20485 := by kernel_rfl
  have q1 : decide (plA M5 4 = 20484) = true := decide_eq_true p1
  have q2 : decide (plA M5 5 = 20485) = true := decide_eq_true p2
  repeat' ((try (conv => whnf)); first
    | refine IfL.t q1 ?_
    | refine IfL.t q2 ?_
    | refine IfL.t rfl ?_)
  conv => whnf
  intro ρ
  rfl
end Go.Sh.Ytanljnpjkokmcaa
