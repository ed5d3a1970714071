import Derived.Test.YtanljnpjkokmcaaMC
import Derived.Test.YtanljnpjkokmcaaRmB
import Derived.Test.YtanljnpjkokmcaaMB
set_option linter.unusedVariables false
namespace Go.Sh.Ytanljnpjkokmcaa
open Go.Proofs Go.Sh

def zF : List SV := [.ff, .ff, .ff, .ff, .ff, .ff, .ff, .ff, .ff, .ff, .ff, .ff, .int .u64 0, .int .u64 0]
theorem walk_ok (N : Nat) (b t : Nat → Nat) (root va : Nat) (hb : okB b) (hN : N ≤ 64) (hN0 : 0 < N) (hr : root < 2 ^ 64) (hva : va < 2 ^ 64) : Fun Try.prog 75 [.ptr 0 0, .int .u64 (root : Int), .int .u64 (va : Int)] [(0, .cells [.slice 1 0 N N]), (1, .view (ramV N b t))] 2 0 (fun _ : Unit => True) (fun _ => walkR (walkF b N root va)) (fun _ => [(0, .cells [.slice 1 0 N N])]) := by
  unfold Fun
  refine Spec.of_body tabOk Try.func75 rfl (ent Try.func75 rfl (by kernel_rfl)) Try.ntmps75 rfl (by kernel_rfl) (Nat.le_of_ble_eq_true rfl) ?_
  conv => whnf
  refine Spec.of_body tabOk Try.func85 rfl (ent Try.func85 rfl (by kernel_rfl)) Try.ntmps85 rfl (by kernel_rfl) (Nat.le_of_ble_eq_true rfl) ?_
  conv => whnf
  refine Spec.of_body tabOk Try.func65 rfl (ent Try.func65 rfl (by kernel_rfl)) Try.ntmps65 rfl (by kernel_rfl) (Nat.le_of_ble_eq_true rfl) ?_
  conv => whnf
  refine .f (decide_eq_false (by omega)) ?_
  conv => whnf
  refine CodeL.loop tabOk (fun s : Nat × Nat => ([(0, .ptr 0 0), (2, .int .u64 (va : Int)), (6, .ptr 2 0), (8, .int .u64 (s.2 : Int)), (9, .int .u64 (N : Int)), (10, .ptr 3 0), (11, .int .i64 (s.1 : Int))], [(0, .cells [.slice 1 0 N N]), (1, .view (ramV N b t)), (2, .cells zF), (3, .cells zF)])) (fun s => s.1) (fun s => s.1 ≤ 2 ∧ s.2 < 2 ^ 64 ∧ walkF b N root va = if va < 274877906944 then contF b N va s.1 s.2 else none) rfl (fun s => ⟨rfl, rfl⟩) (2, root) ⟨Nat.le_refl _, hr, rfl⟩ ⟨⟨rfl, rfl, rfl, rfl, congrArg (fun x => some (SV.int .u64 x)) (wrapn N (by omega)), rfl, rfl, trivial⟩, ⟨rfl, rfl, rfl, rfl, trivial⟩⟩ ?_
  rintro ⟨L, f⟩ ⟨hL, hf, hw⟩
  have hL : L ≤ 2 := hL
  have hf : f < 2 ^ 64 := hf
  have hw : walkF b N root va = if va < 274877906944 then contF b N va L f else none := hw
  dsimp only
  conv => whnf
  refine Spec.of_body tabOk Try.func39 rfl (ent Try.func39 rfl (by kernel_rfl)) Try.ntmps39 rfl (by kernel_rfl) (Nat.le_of_ble_eq_true rfl) ?_
  conv => whnf
  refine ⟨fun hm => ?_, fun hm => ?_⟩
  · have hm : va < 274877906944 := by have := of_decide_eq_true hm; omega
    rw [if_pos hm] at hw
    conv => whnf
    refine ⟨fun hg => ?_, fun hg => ?_⟩
    · have hg : N ≤ f := by have := of_decide_eq_true hg; omega
      rw [contF_ge hg] at hw
      conv => whnf
      exact ⟨(), fun i => (i, 0), trivial, fun _ _ => rfl, Part.same ⟨⟨by decide, rfl, rfl, _, rfl, fun _ => rfl, Nat.le_refl _, fun _ => Nat.le_refl _, id⟩, trivial⟩ (fun i j _ _ h => h), fun ρ => by rw [hw]; rfl⟩
    have hg : ¬ N ≤ f := by have := of_decide_eq_false hg; omega
    conv => whnf
    refine Spec.pure (index_ok va L hva (by omega)) rfl rfl (fun _ => rfl) ?_
    conv => whnf
    refine Spec.of_body tabOk Try.func86 rfl (ent Try.func86 rfl (by kernel_rfl)) Try.ntmps86 rfl (by kernel_rfl) (Nat.le_of_ble_eq_true rfl) ?_
    conv => whnf
    have ha := atF_ok (va := va) (L := L) (Nat.lt_of_not_le hg)
    have hat := at_eq (va := va) (L := L) (f := f) (by omega)
    refine Spec.fn (load_ok N b t (atF va f L) 8 hb (.inr (.inr (.inr rfl))) ha.1 hN ha.2) [0, 1] rfl rfl (fun _ => by rw [← hat]; rfl) rfl ⟨⟨by decide, rfl, rfl, _, rfl, fun _ => rfl, Nat.le_refl _, fun _ => Nat.le_refl _, id⟩, ⟨by decide, rfl, rfl, _, rfl, fun _ => rfl, Nat.le_refl _, fun _ => Nat.le_refl _, id⟩, trivial⟩ (fun _ _ => ⟨rfl, rfl, ⟨_, rfl, rfl, rfl⟩, rfl, trivial⟩) (fun _ _ => ?_)
    have hrd : rdN b (atF va f L) 8 < 2 ^ 64 := rdN_lt hb _ 8
    conv => whnf
    refine Spec.pure (of_ok (rdN b (atF va f L) 8) hrd) rfl rfl (fun _ => rfl) ?_
    have he := entOf_ok (rdN b (atF va f L) 8)
    have hbad := contF_bad (b := b) (N := N) (va := va) (L := L) (f := f)
    have hzero := contF_zero (b := b) (N := N) (va := va) (f := f) hg
    have hsucc := fun L => contF_succ (b := b) (N := N) (va := va) (f := f) (L := L) hg
    have hzero' : ∀ h : L = 0, ¬ badS N (entOf (rdN b (atF va f L) 8)) L = true → contF b N va L f = some (entOf (rdN b (atF va f L) 8), atF va f L) := fun h hb => by subst h; exact hzero hb
    have hsucc' : ∀ K, L = K + 1 → ¬ badS N (entOf (rdN b (atF va f L) 8)) L = true → contF b N va L f = contF b N va K (entOf (rdN b (atF va f L) 8)).fr.toNat := fun K h hb => by subst h; exact hsucc K hb
    clear hzero hsucc hrd
    generalize entOf (rdN b (atF va f L) 8) = e at he hbad hzero' hsucc'
    have hri := right_ok e he
    have hle := leaf_ok e
    have hd0 : decide ((L : Int) = 0) = decide (L = 0) := decide_eq_decide.2 (by omega)
    unfold badS at hbad hzero' hsucc'
    generalize rightB e = R at hri hbad hzero' hsucc'
    generalize leafB e = Lf at hle hbad hzero' hsucc'
    conv => whnf
    refine ⟨fun h1 => ?_, fun h1 => ?_⟩
    · rw [hbad (by rw [h1]; rfl)] at hw
      conv => whnf
      exact ⟨(), fun i => (i, 0), trivial, fun _ _ => rfl, Part.same ⟨⟨by decide, rfl, rfl, _, rfl, fun _ => rfl, Nat.le_refl _, fun _ => Nat.le_refl _, id⟩, trivial⟩ (fun i j _ _ h => h), fun ρ => by rw [hw]; rfl⟩
    conv => whnf
    refine Spec.pure hri rfl rfl (fun _ => rfl) ?_
    conv => whnf
    refine ⟨fun h2 => ?_, fun h2 => ?_⟩
    · rw [hbad (by rw [h1, h2]; rfl)] at hw
      conv => whnf
      exact ⟨(), fun i => (i, 0), trivial, fun _ _ => rfl, Part.same ⟨⟨by decide, rfl, rfl, _, rfl, fun _ => rfl, Nat.le_refl _, fun _ => Nat.le_refl _, id⟩, trivial⟩ (fun i j _ _ h => h), fun ρ => by rw [hw]; rfl⟩
    conv => whnf
    refine Spec.pure hle rfl rfl (fun _ => rfl) ?_
    conv => whnf
    refine VL.op (VL.eq tabOk ?_)
    conv => whnf
    rw [hd0]
    refine ⟨fun h3 => ?_, fun h3 => ?_⟩
    · have h3' : (Lf != decide (L = 0)) = true := h3
      rw [hbad (by rw [h1, h2, h3']; rfl)] at hw
      conv => whnf
      exact ⟨(), fun i => (i, 0), trivial, fun _ _ => rfl, Part.same ⟨⟨by decide, rfl, rfl, _, rfl, fun _ => rfl, Nat.le_refl _, fun _ => Nat.le_refl _, id⟩, trivial⟩ (fun i j _ _ h => h), fun ρ => by rw [hw]; rfl⟩
    have h3' : (Lf != decide (L = 0)) = false := h3
    conv => whnf
    refine ⟨fun h4 => ?_, fun h4 => ?_⟩
    · rw [hbad (by rw [h1, h2, h3', h4]; rfl)] at hw
      conv => whnf
      exact ⟨(), fun i => (i, 0), trivial, fun _ _ => rfl, Part.same ⟨⟨by decide, rfl, rfl, _, rfl, fun _ => rfl, Nat.le_refl _, fun _ => Nat.le_refl _, id⟩, trivial⟩ (fun i j _ _ h => h), fun ρ => by rw [hw]; rfl⟩
    have hnb : ¬ (!e.v || (!R || ((Lf != decide (L = 0)) || decide ((N : Int) ≤ e.fr)))) = true := by rw [h1, h2, h3', h4]; simp
    have hfr : e.fr < (N : Int) := by have := of_decide_eq_false h4; omega
    have hfr0 := he.1
    conv => whnf
    refine ⟨fun h5 => ?_, fun h5 => ?_⟩
    · have h5 : L = 0 := by have := of_decide_eq_true h5; omega
      rw [hzero' h5 hnb] at hw
      have hA : walkR (walkF b N root va) = .tup [.agg (fndC e (IntKind.wrap .u64 (IntKind.wrap .u64 ((f : Int) * 4096) + IntKind.wrap .u64 (IntKind.wrap .u64 (idxN va L : Int) * 8)))), .int .i64 0] := by rw [hw, hat]; rfl
      conv => whnf
      exact ⟨(), fun i => (i, 0), trivial, fun _ _ => rfl, Part.same ⟨⟨by decide, rfl, rfl, _, rfl, fun _ => rfl, Nat.le_refl _, fun _ => Nat.le_refl _, id⟩, trivial⟩ (fun i j _ _ h => h), fun ρ => by rw [hA]; rfl⟩
    · have h5 : L ≠ 0 := by have := of_decide_eq_false h5; omega
      obtain ⟨K, rfl⟩ : ∃ K, L = K + 1 := ⟨L - 1, by omega⟩
      rw [hsucc' K rfl hnb] at hw
      conv => whnf
      exact ⟨(K, e.fr.toNat), ⟨by show K ≤ 2; omega, by show e.fr.toNat < 2 ^ 64; omega, by rw [if_pos hm]; exact hw⟩, by show K < K + 1; omega, ⟨rfl, rfl, rfl, congrArg (fun x => some (SV.int .u64 x)) (Int.toNat_of_nonneg hfr0).symm, rfl, rfl, congrArg (fun x => some (SV.int .i64 x)) (by rw [wrap_i64 _ (by omega) (by omega)]; omega), trivial⟩, ⟨rfl, rfl, rfl, rfl, trivial⟩⟩
  · have hm : ¬ va < 274877906944 := by have := of_decide_eq_false hm; omega
    rw [if_neg hm] at hw
    conv => whnf
    exact ⟨(), fun i => (i, 0), trivial, fun _ _ => rfl, Part.same ⟨⟨by decide, rfl, rfl, _, rfl, fun _ => rfl, Nat.le_refl _, fun _ => Nat.le_refl _, id⟩, trivial⟩ (fun i j _ _ h => h), fun ρ => by rw [hw]; rfl⟩
end Go.Sh.Ytanljnpjkokmcaa
