import Derived.Test.YtanljnpjkokmcaaRfB
import Derived.Test.YtanljnpjkokmcaaWkA
set_option linter.unusedVariables false
namespace Go.Sh.Ytanljnpjkokmcaa
open Go.Proofs Go.Sh

theorem add_byte {acc x i : Nat} (ha : acc < 2 ^ (8 * i)) (hx : x < 256) (hi : i < 8) : IntKind.wrap .u64 ((acc : Int) + shlI .u64 (IntKind.wrap .u64 (x : Int)) ((8 * i : Nat) : Int)) = ((acc + x * 2 ^ (8 * i) : Nat) : Int) := by
  have h1 : x * 2 ^ (8 * i) + 2 ^ (8 * i) ≤ 2 ^ 64 := by
    have h3 : (x + 1) * 2 ^ (8 * i) ≤ 256 * 2 ^ (8 * i) := Nat.mul_le_mul_right _ (by omega)
    have h4 : 256 * 2 ^ (8 * i) ≤ 2 ^ 64 := by
      rw [show (256 : Nat) = 2 ^ 8 from rfl, ← Nat.pow_add]; exact Nat.pow_le_pow_right (by decide) (by omega)
    rw [Nat.add_mul, Nat.one_mul] at h3
    omega
  have h0 : 0 < 2 ^ (8 * i) := Nat.pow_pos (by decide)
  rw [wrapn x (by omega), shl_nat x (8 * i) (by omega) (by omega), wrap_add _ _ (by omega)]
theorem refbyte_ok (N : Nat) (l : List (Nat × Nat)) (b1 b2 : Bool) (c1 c2 : Nat) (a : Nat) (hl : l.length ≤ 100000) (h1 : okS l.length (b1, c1)) (h2 : okS l.length (b2, c2)) : Spec Try.prog 64 [.agg [.int .i64 (N : Int), .slz b1 0 0 l.length c1, .slz b2 1 0 l.length c2, .nilSlice], .int .u64 (a : Int)] [(0, .view (atV l)), (1, .view (byV l))] 2 fun v _ _ => ∀ ρ, v.val ρ = (SV.int .u8 (bL l a : Nat)).val ρ := by
  refine Spec.of_body tabOk Try.func64 rfl (ent Try.func64 rfl (by kernel_rfl)) Try.ntmps64 rfl (by kernel_rfl) (Nat.le_of_ble_eq_true rfl) ?_
  conv => whnf
  refine CodeL.loop tabOk (fun i : Nat => ([(1, .int .u64 (a : Int)), (2, .ptr 2 0), (5, .int .i64 ((i : Int) - 1))], [(0, .view (atV l)), (1, .view (byV l)), (2, .cells [.int .i64 (N : Int), .slz b1 0 0 l.length c1, .slz b2 1 0 l.length c2, .nilSlice])])) (fun i => i) (fun i => i ≤ l.length ∧ bL (l.take i) a = bL l a) rfl (fun i => ⟨rfl, rfl⟩) l.length ⟨Nat.le_refl _, by rw [List.take_length]⟩ ⟨⟨rfl, rfl, congrArg (fun x => some (SV.int .i64 x)) (wrap_i64 _ (by omega) (by omega)), trivial⟩, ⟨rfl, rfl, rfl, trivial⟩⟩ ?_
  rintro i ⟨hi, hb⟩
  conv => whnf
  refine ⟨fun h => ?_, fun h => ?_⟩
  · have h : 0 < i := by have := of_decide_eq_true h; omega
    obtain ⟨j, rfl⟩ : ∃ j, i = j + 1 := ⟨i - 1, by omega⟩
    obtain ⟨p, hp⟩ : ∃ p, l[j]? = some p := ⟨_, List.getElem?_eq_getElem (by omega)⟩
    rw [bL_take hp] at hb
    conv => whnf
    refine .there j (by omega) (by omega) ?_
    conv => whnf
    refine .at1 (.int .u64 (p.1 : Nat)) j (by show 0 + j * 1 = _; omega) (atV_get hp) rfl ?_
    conv => whnf
    refine ⟨fun g => ?_, fun g => ?_⟩
    · have g : p.1 = a := by have := of_decide_eq_true g; omega
      rw [if_pos g] at hb
      conv => whnf
      refine .there j (by omega) (by omega) ?_
      conv => whnf
      refine .at1 (.int .u8 (p.2 : Nat)) j (by show 0 + j * 1 = _; omega) (byV_get hp) rfl ?_
      conv => whnf
      intro ρ
      rw [← hb]; rfl
    · have g : p.1 ≠ a := by have := of_decide_eq_false g; omega
      rw [if_neg g] at hb
      conv => whnf
      exact ⟨j, ⟨by omega, hb⟩, by omega, ⟨rfl, rfl, congrArg (fun x => some (SV.int .i64 x)) (by rw [wrap_i64 _ (by omega) (by omega)]; omega), trivial⟩, ⟨rfl, rfl, rfl, trivial⟩⟩
  · have h : i = 0 := by have := of_decide_eq_false h; omega
    subst h
    conv => whnf
    intro ρ
    rw [← hb]; rfl
theorem refload_ok (N : Nat) (l : List (Nat × Nat)) (b1 b2 : Bool) (c1 c2 : Nat) (a : Nat) (hN : N ≤ 64) (hl : l.length ≤ 100000) (hok : okL l) (h1 : okS l.length (b1, c1)) (h2 : okS l.length (b2, c2)) (ha : a < N * 4096) (hd : a % 8 = 0) :
    Spec Try.prog 26 [.agg [.int .i64 (N : Int), .slz b1 0 0 l.length c1, .slz b2 1 0 l.length c2, .nilSlice], .int .u64 (a : Int), .int .i64 8] [(0, .view (atV l)), (1, .view (byV l))] 2 fun v _ _ => ∀ ρ, v.val ρ = (SV.tup [.int .u64 (rdN (bL l) a 8 : Nat), .int .i64 0]).val ρ := by
  refine Spec.of_body tabOk Try.func26 rfl (ent Try.func26 rfl (by kernel_rfl)) Try.ntmps26 rfl (by kernel_rfl) (Nat.le_of_ble_eq_true rfl) ?_
  conv => whnf
  refine Spec.of_body tabOk Try.func57 rfl (ent Try.func57 rfl (by kernel_rfl)) Try.ntmps57 rfl (by kernel_rfl) (Nat.le_of_ble_eq_true rfl) ?_
  conv => whnf
  refine .f rfl ?_
  conv => whnf
  refine .f rfl ?_
  conv => whnf
  refine .f rfl ?_
  conv => whnf
  refine .t rfl ?_
  conv => whnf
  refine ⟨by decide, ?_⟩
  conv => whnf
  refine .t (by rw [show IntKind.wrap .u64 8 = ((8 : Nat) : Int) from rfl, rem_nat, hd]; rfl) ?_
  conv => whnf
  refine Spec.of_body tabOk Try.func81 rfl (ent Try.func81 rfl (by kernel_rfl)) Try.ntmps81 rfl (by kernel_rfl) (Nat.le_of_ble_eq_true rfl) ?_
  conv => whnf
  have hsz : IntKind.wrap .u64 (IntKind.wrap .u64 (N : Int) * 4096) = ((N * 4096 : Nat) : Int) := by
    rw [wrapn N (by omega), show (N : Int) * 4096 = ((N * 4096 : Nat) : Int) by omega, wrapn _ (by omega)]
  refine .f (by rw [hsz, decide_eq_true (show (a : Int) < ((N * 4096 : Nat) : Int) by omega)]; rfl) ?_
  conv => whnf
  refine CodeL.loop tabOk (fun i : Nat => ([(1, .int .u64 (a : Int)), (2, .int .i64 8), (3, .ptr 2 0), (8, .int .u64 (rdN (bL l) a i : Nat)), (9, .int .i64 (i : Int))], [(0, .view (atV l)), (1, .view (byV l)), (2, .cells [.int .i64 (N : Int), .slz b1 0 0 l.length c1, .slz b2 1 0 l.length c2, .nilSlice])])) (fun i => 8 - i) (fun i => i ≤ 8) rfl (fun i => ⟨rfl, rfl⟩) 0 (Nat.zero_le _) ⟨⟨rfl, rfl, rfl, rfl, rfl, trivial⟩, ⟨rfl, rfl, rfl, trivial⟩⟩ ?_
  intro i hi
  have hb := bL_ok hok
  conv => whnf
  refine ⟨fun h => ?_, fun h => ?_⟩
  · have h : i < 8 := by have := of_decide_eq_true h; omega
    have e0 : IntKind.wrap .u64 (IntKind.wrap .i64 (8 * (i : Int))) = ((8 * i : Nat) : Int) := by
      rw [wrap_i64 _ (by omega) (by omega), show (8 * (i : Int)) = ((8 * i : Nat) : Int) by omega, wrapn _ (by omega)]
    have e2 : IntKind.wrap .u64 ((a : Int) + IntKind.wrap .u64 (i : Int)) = ((a + i : Nat) : Int) := by rw [wrapn i (by omega), wrap_add _ _ (by omega)]
    have hx := hb (a + i)
    have e3 := add_byte (acc := rdN (bL l) a i) (x := bL l (a + i)) (i := i) (rdN_lt hb a i) hx h
    conv => whnf
    refine Spec.fn (Fun.read (refbyte_ok N l b1 b2 c1 c2 (a + i) hl h1 h2) rfl) [0, 1] rfl rfl (fun _ => by rw [← e2]; rfl) rfl ⟨⟨by decide, rfl, rfl, _, rfl, fun _ => rfl, Nat.le_refl _, fun _ => Nat.le_refl _, id⟩, ⟨by decide, rfl, rfl, _, rfl, fun _ => rfl, Nat.le_refl _, fun _ => Nat.le_refl _, id⟩, trivial⟩ (fun _ _ => ⟨rfl, rfl, rfl, rfl, trivial⟩) (fun _ _ => ?_)
    conv => whnf
    refine ⟨by rw [e0]; omega, ?_⟩
    conv => whnf
    exact ⟨i + 1, by omega, by omega, ⟨rfl, rfl, rfl, congrArg (fun x => some (SV.int .u64 x)) (by rw [e0]; exact e3), congrArg (fun x => some (SV.int .i64 x)) (by rw [wrap_i64 _ (by omega) (by omega)]; omega), trivial⟩, ⟨rfl, rfl, rfl, trivial⟩⟩
  · have h : i = 8 := by have := of_decide_eq_false h; omega
    subst h
    conv => whnf
    intro ρ
    rfl
end Go.Sh.Ytanljnpjkokmcaa

set_option linter.unusedVariables false
namespace Go.Sh.Ytanljnpjkokmcaa
open Go.Proofs Go.Sh

theorem refwalk_ok (N : Nat) (l : List (Nat × Nat)) (b1 b2 : Bool) (c1 c2 : Nat) (root va : Nat) (hN : N ≤ 64) (hN0 : 0 < N) (hl : l.length ≤ 100000) (hok : okL l) (h1 : okS l.length (b1, c1)) (h2 : okS l.length (b2, c2)) (hr : root < 2 ^ 64) (hva : va < 2 ^ 64) :
    Spec Try.prog 55 [.agg [.int .i64 (N : Int), .slz b1 0 0 l.length c1, .slz b2 1 0 l.length c2, .nilSlice], .int .u64 (root : Int), .int .u64 (va : Int)] [(0, .view (atV l)), (1, .view (byV l))] 2 fun v _ _ => ∀ ρ, v.val ρ = (walkR2 (walkF (bL l) N root va)).val ρ := by
  refine Spec.of_body tabOk Try.func55 rfl (ent Try.func55 rfl (by kernel_rfl)) Try.ntmps55 rfl (by kernel_rfl) (Nat.le_of_ble_eq_true rfl) ?_
  conv => whnf
  refine ⟨fun hm => ?_, fun hm => ?_⟩
  · have hm : ¬ va < 274877906944 := by have := of_decide_eq_true hm; omega
    have hw : walkF (bL l) N root va = none := if_neg hm
    repeat ((try (conv => whnf)); first | refine IfL.t rfl ?_ | refine IfL.f rfl ?_)
    conv => whnf
    intro ρ
    rw [hw]
    rfl
  have hm : va < 274877906944 := by have := of_decide_eq_false hm; omega
  have hw0 : walkF (bL l) N root va = contF (bL l) N va 2 root := if_pos hm
  have hb := bL_ok hok
  conv => whnf
  refine CodeL.loop tabOk (fun s : Nat × Nat => ([(2, .int .u64 (va : Int)), (3, .ptr 2 0), (6, .ptr 3 0), (9, .int .u64 (s.2 : Int)), (10, .int .i64 (s.1 : Int))], [(0, .view (atV l)), (1, .view (byV l)), (2, .cells [.int .i64 (N : Int), .slz b1 0 0 l.length c1, .slz b2 1 0 l.length c2, .nilSlice]), (3, .cells [.ff, .ff, .ff, .ff, .ff, .ff, .ff, .ff, .ff, .ff, .ff, .ff, .int .u64 0])])) (fun s => s.1) (fun s => s.1 ≤ 2 ∧ s.2 < 2 ^ 64 ∧ walkF (bL l) N root va = contF (bL l) N va s.1 s.2) rfl (fun s => ⟨rfl, rfl⟩) (2, root) ⟨Nat.le_refl _, hr, hw0⟩ ⟨⟨rfl, rfl, rfl, rfl, rfl, trivial⟩, ⟨rfl, rfl, rfl, rfl, trivial⟩⟩ ?_
  rintro ⟨L, f⟩ ⟨hL, hf, hw⟩
  have hL : L ≤ 2 := hL
  have hf : f < 2 ^ 64 := hf
  have hw : walkF (bL l) N root va = contF (bL l) N va L f := hw
  clear hw0
  dsimp only
  conv => whnf
  refine .t (decide_eq_true (by omega)) ?_
  have hNw : IntKind.wrap .u64 (N : Int) = (N : Int) := wrapn N (by omega)
  conv => whnf
  rw [hNw]
  refine ⟨fun hg => ?_, fun hg => ?_⟩
  · have hg : N ≤ f := by have := of_decide_eq_true hg; omega
    rw [contF_ge hg] at hw
    repeat ((try (conv => whnf)); first | refine IfL.t rfl ?_ | refine IfL.f rfl ?_)
    conv => whnf
    intro ρ
    rw [hw]
    rfl
  have hg : ¬ N ≤ f := by have := of_decide_eq_false hg; omega
  conv => whnf
  refine Spec.pure (refindex_ok va L hva (by omega)) rfl rfl (fun _ => rfl) ?_
  conv => whnf
  have ha := atF_ok (va := va) (L := L) (Nat.lt_of_not_le hg)
  have hat := at_eq' (va := va) (L := L) (f := f) (by omega)
  refine Spec.fn (Fun.read (refload_ok N l b1 b2 c1 c2 (atF va f L) hN hl hok h1 h2 ha.1 ha.2) rfl) [0, 1] rfl rfl (fun _ => by rw [← hat]; rfl) rfl ⟨⟨by decide, rfl, rfl, _, rfl, fun _ => rfl, Nat.le_refl _, fun _ => Nat.le_refl _, id⟩, ⟨by decide, rfl, rfl, _, rfl, fun _ => rfl, Nat.le_refl _, fun _ => Nat.le_refl _, id⟩, trivial⟩ (fun _ _ => ⟨rfl, rfl, rfl, rfl, trivial⟩) (fun _ _ => ?_)
  have hrd : rdN (bL l) (atF va f L) 8 < 2 ^ 64 := rdN_lt hb _ 8
  conv => whnf
  refine Spec.pure (refof_ok (rdN (bL l) (atF va f L) 8) hrd) rfl rfl (fun _ => rfl) ?_
  have he := entOf_ok (rdN (bL l) (atF va f L) 8)
  have hbad := contF_bad (b := bL l) (N := N) (va := va) (L := L) (f := f)
  have hzero := contF_zero (b := bL l) (N := N) (va := va) (f := f) hg
  have hsucc := fun L => contF_succ (b := bL l) (N := N) (va := va) (f := f) (L := L) hg
  have hzero' : ∀ h : L = 0, ¬ badS N (entOf (rdN (bL l) (atF va f L) 8)) L = true → contF (bL l) N va L f = some (entOf (rdN (bL l) (atF va f L) 8), atF va f L) := fun h hb => by subst h; exact hzero hb
  have hsucc' : ∀ K, L = K + 1 → ¬ badS N (entOf (rdN (bL l) (atF va f L) 8)) L = true → contF (bL l) N va L f = contF (bL l) N va K (entOf (rdN (bL l) (atF va f L) 8)).fr.toNat := fun K h hb => by subst h; exact hsucc K hb
  clear hzero hsucc hrd
  generalize entOf (rdN (bL l) (atF va f L) 8) = e at he hbad hzero' hsucc'
  have hri := refright_ok e he
  have hle := refleaf_ok e
  have hd0 : decide ((L : Int) = 0) = decide (L = 0) := decide_eq_decide.2 (by omega)
  unfold badS at hbad hzero' hsucc'
  generalize rightB e = R at hri hbad hzero' hsucc'
  generalize leafB e = Lf at hle hbad hzero' hsucc'
  conv => whnf
  refine ⟨fun h1 => ?_, fun h1 => ?_⟩
  · rw [hbad (by rw [h1]; rfl)] at hw
    repeat ((try (conv => whnf)); first | refine IfL.t rfl ?_ | refine IfL.f rfl ?_)
    conv => whnf
    intro ρ
    rw [hw]
    rfl
  conv => whnf
  refine Spec.pure hri rfl rfl (fun _ => rfl) ?_
  conv => whnf
  refine ⟨fun h2 => ?_, fun h2 => ?_⟩
  · rw [hbad (by rw [h1, h2]; rfl)] at hw
    repeat ((try (conv => whnf)); first | refine IfL.t rfl ?_ | refine IfL.f rfl ?_)
    conv => whnf
    intro ρ
    rw [hw]
    rfl
  conv => whnf
  refine Spec.pure hle rfl rfl (fun _ => rfl) ?_
  conv => whnf
  refine VL.op (VL.eq tabOk ?_)
  conv => whnf
  rw [hd0]
  refine ⟨fun h3 => ?_, fun h3 => ?_⟩
  · have h3' : (Lf != decide (L = 0)) = true := h3
    rw [hbad (by rw [h1, h2, h3']; rfl)] at hw
    repeat ((try (conv => whnf)); first | refine IfL.t rfl ?_ | refine IfL.f rfl ?_)
    conv => whnf
    intro ρ
    rw [hw]
    rfl
  have h3' : (Lf != decide (L = 0)) = false := h3
  conv => whnf
  rw [hNw]
  refine ⟨fun h4 => ?_, fun h4 => ?_⟩
  · rw [hbad (by rw [h1, h2, h3', h4]; rfl)] at hw
    repeat ((try (conv => whnf)); first | refine IfL.t rfl ?_ | refine IfL.f rfl ?_)
    conv => whnf
    intro ρ
    rw [hw]
    rfl
  have hnb : ¬ (!e.v || (!R || ((Lf != decide (L = 0)) || decide ((N : Int) ≤ e.fr)))) = true := by rw [h1, h2, h3', h4]; simp
  have hfr : e.fr < (N : Int) := by have := of_decide_eq_false h4; omega
  have hfr0 := he.1
  conv => whnf
  refine ⟨fun h5 => ?_, fun h5 => ?_⟩
  · have h5 : L = 0 := by have := of_decide_eq_true h5; omega
    rw [hzero' h5 hnb] at hw
    have hA : walkR2 (walkF (bL l) N root va) = .tup [.agg (entC e), .int .u64 (IntKind.wrap .u64 (IntKind.wrap .u64 ((f : Int) * 4096) + IntKind.wrap .u64 (8 * IntKind.wrap .u64 (idxN va L : Int)))), .int .i64 0] := by rw [hw, hat]; rfl
    conv => whnf
    intro ρ
    rw [hA]
    rfl
  · have h5 : L ≠ 0 := by have := of_decide_eq_false h5; omega
    obtain ⟨K, rfl⟩ : ∃ K, L = K + 1 := ⟨L - 1, by omega⟩
    rw [hsucc' K rfl hnb] at hw
    conv => whnf
    exact ⟨(K, e.fr.toNat), ⟨by show K ≤ 2; omega, by show e.fr.toNat < 2 ^ 64; omega, hw⟩, by show K < K + 1; omega, ⟨rfl, rfl, rfl, congrArg (fun x => some (SV.int .u64 x)) (Int.toNat_of_nonneg hfr0).symm, congrArg (fun x => some (SV.int .i64 x)) (by rw [wrap_i64 _ (by omega) (by omega)]; omega), trivial⟩, ⟨rfl, rfl, rfl, rfl, trivial⟩⟩
end Go.Sh.Ytanljnpjkokmcaa
