import Derived.Test.YtanljnpjkokmcaaMuE
import Derived.Test.YtanljnpjkokmcaaMB
import Derived.Test.YtanljnpjkokmcaaSh32
set_option linter.unusedVariables false
namespace Go.Sh.Ytanljnpjkokmcaa
open Go.Proofs Go.Sh

def uM (g : Bool) : List SV := (uL 0).take 134 ++ [.bool g]
set_option maxRecDepth 100000 in
theorem uM_vals (g : Bool) : tlbC s0 (uR 0 0 g) = SV.vals zenv (uM g) := rfl
set_option maxRecDepth 100000 in
theorem uM_cl (g : Bool) (ρ : Env) : SV.vals ρ (uM g) = SV.vals zenv (uM g) := closed_vals rfl ρ
theorem uM_so (g : Bool) (ρ ρ' : Env) : SO.vals ρ (SO.row (tlbC s0 (uR 0 0 g))) = SO.vals ρ' (SO.cells (uM g)) := (uM_vals g).trans (uM_cl g ρ').symm
theorem uM_len (g : Bool) : (SO.row (tlbC s0 (uR 0 0 g))).len ≤ 135 := Nat.le_of_eq (tlbC_len s0_ok _)
theorem at3 (E : Ent) : atOf ⟨2, ((3 : Nat) : Int), E⟩ = 8216 := by
  rw [at0 _ _ (by decide)]
  rfl
theorem m3_ent (E : Ent) (hE : okE E) (h : E.fr < 64) : entOf (rdN (memL (baseL ++ [⟨2, ((3 : Nat) : Int), E⟩])) 8216 8) = E := by
  rw [memL_snoc, at3, rd_st _ _ _ (Nat.le_refl 8), Nat.mod_eq_of_lt (entW_lt E), entOf_entW]
  exact cut_small hE.1 h
theorem m3_low (E : Ent) : entOf (rdN (memL (baseL ++ [⟨2, ((3 : Nat) : Int), E⟩])) 0 8) = eT 1 ∧ entOf (rdN (memL (baseL ++ [⟨2, ((3 : Nat) : Int), E⟩])) 4096 8) = eT 2 := by
  have := base_ents []
  rw [List.nil_append] at this
  rw [memL_snoc, at3]
  generalize memL baseL = b at this
  rw [rd_st_far _ _ _ _ _ _ (.inl (by omega)), rd_st_far _ _ _ _ _ _ (.inl (by omega))]
  exact this
theorem w3_low {b : Nat → Nat} {va a : Nat} {E : Ent} (h0 : entOf (rdN b 0 8) = eT 1) (h1 : entOf (rdN b 4096 8) = eT 2) (hE1 : entOf (rdN b a 8) = E) (hv : va < 274877906944) (a2 : atF va 0 2 = 0) (a1 : atF va 1 1 = 4096) (a0 : atF va 2 0 = a) : walkF b 8 0 va = if badS 8 E 0 = true then none else some (E, a) := by
  have b2 : badS 8 (eT 1) 2 = false := rfl
  have b1 : badS 8 (eT 2) 1 = false := rfl
  have s2 : ∀ X : Option (Ent × Nat), (if 8 ≤ 0 then none else X) = X := fun X => if_neg (by decide)
  have s1 : ∀ X : Option (Ent × Nat), (if 8 ≤ 1 then none else X) = X := fun X => if_neg (by decide)
  have s0' : ∀ X : Option (Ent × Nat), (if 8 ≤ 2 then none else X) = X := fun X => if_neg (by decide)
  unfold walkF
  rw [if_pos hv, contF, s2, a2, h0, b2, if_neg (by decide), show (eT 1).fr.toNat = 1 from rfl, contF, s1, a1, h1, b1, if_neg (by decide), show (eT 2).fr.toNat = 2 from rfl, contF, s0', a0, hE1]
theorem v3 : atF 12304 0 2 = 0 ∧ atF 12304 1 1 = 4096 ∧ atF 12304 2 0 = 8216 ∧ 12304 < 274877906944 := by
  exact ⟨by kernel_rfl, by kernel_rfl, by kernel_rfl, by decide⟩
theorem inv0 (E : Ent) (hE : okE E) (h : E.fr < 64) : MInv 12304 3 8216 s0 (memL (baseL ++ [⟨2, ((3 : Nat) : Int), E⟩])) E :=
  ⟨s0_ok, memL_ok _, m3_ent E hE h, w3_low (m3_low E).1 (m3_low E).2 (m3_ent E hE h) v3.2.2.2 v3.1 v3.2.1 v3.2.2.1, fun l hl => (by cases hl), hE, h⟩
theorem and3 (n : Nat) (h : n < 2 ^ 64) : IntKind.wrap .u64 (3 + band .and .u64 (n : Int) 3) = ((3 + n % 4 : Nat) : Int) := by
  have := band_and n 3 h (by decide)
  rw [show (3 : Int) = ((3 : Nat) : Int) from rfl] at *
  rw [this, show n &&& 3 = n % 4 from Nat.and_two_pow_sub_one_eq_mod n 2, ← Int.natCast_add, wrapn _ (by omega)]
set_option maxRecDepth 100000 in
set_option maxHeartbeats 1000000 in
theorem mmarks_ok (e : Ent) (l0 l1 : Int) (tg : Bool) (he : okE e) : Pure Try.prog 3 [.agg (entC e), .agg [.int .i64 l0, .int .i64 l1], .bool tg] .tt := by
  obtain ⟨n, hn, hfr⟩ : ∃ n : Nat, n < 2 ^ 64 ∧ e.fr = n := ⟨e.fr.toNat, by have := he.2; omega, (Int.toNat_of_nonneg he.1).symm⟩
  have h3 := and3 n hn
  rw [← hfr] at h3
  refine Spec.of_body tabOk Try.func3 rfl (ent Try.func3 rfl (by kernel_rfl)) Try.ntmps3 rfl (by kernel_rfl) (Nat.le_of_ble_eq_true rfl) ?_
  conv => whnf
  refine Spec.fn setup_ok [] rfl rfl (fun _ => rfl) rfl trivial (fun _ _ => ⟨rfl, rfl, trivial⟩) (fun y hy => ?_)
  conv => whnf
  rw [h3]
  obtain ⟨E, hE, hEf⟩ : ∃ E : Ent, E = { e with fr := ((3 + n % 4 : Nat) : Int) } ∧ E.fr = ((3 + n % 4 : Nat) : Int) := ⟨_, rfl, rfl⟩
  have hEo : okE E := ⟨by rw [hEf]; omega, by rw [hEf]; omega⟩
  have hI := inv0 E hEo (by rw [hEf]; omega)
  refine Spec.pure (word_ok E hEo) rfl rfl (fun _ => by rw [hE]; rfl) ?_
  conv => whnf
  refine Spec.fn (store_ok 8 (memL baseL) y.1 8216 8 (entW E) (entW_lt _) (.inr (.inr (.inr rfl))) (by decide) (by decide) (by decide)) [2, 3] rfl rfl (fun _ => rfl) rfl ⟨⟨by decide, rfl, rfl, _, rfl, fun _ => rfl, Nat.le_refl _, fun _ => Nat.le_refl _, id⟩, ⟨by decide, rfl, rfl, _, rfl, fun _ => rfl, Nat.le_refl _, fun _ => Nat.le_refl _, fun _ => rfl⟩, trivial⟩ (fun _ _ => ⟨rfl, rfl, ⟨_, rfl, rfl, rfl⟩, ⟨_, rfl, rfl, rlen _ _ _ _ _⟩, trivial⟩) (fun _ _ => ?_)
  rw [lay_st baseL 3 E 8216 (at3 E)]
  generalize memL (baseL ++ [⟨2, ((3 : Nat) : Int), E⟩]) = b at hI
  generalize tagsL y.1 8216 8 = t
  conv => whnf
  refine Spec.pure (word_ok E hEo) rfl rfl (fun _ => by rw [hE]; rfl) ?_
  conv => whnf
  have hof := of_ok (entW E) (entW_lt E)
  rw [entOf_entW, show ({ E with fr := (frN E : Nat) } : Ent) = E from cut_small hEo.1 (by rw [hEf]; omega)] at hof
  refine Spec.pure hof rfl rfl (fun _ => rfl) ?_
  conv => whnf
  refine CodeL.loopN tabOk 9 (by decide) (fun x : Nat × (Nat → List Ln) × (Nat → Nat) × (Nat → Nat) × Ent => ([(2, .bool tg), (4, .ptr 1 0), (7, .ptr 2 0), (9, .ptr 7 0), (10, .ptr 8 0), (11, .int .i64 (x.1 : Int))], [(1, .cells [.int .i64 l0, .int .i64 l1]), (2, .cells [.slice 3 0 8 8]), (3, .row (ramV 8 x.2.2.1 x.2.2.2.1)), (7, .row (tlbC x.2.1 (uR 0 0 e.gn))), (8, .cells (entC x.2.2.2.2))]))
    (fun x => 2 - x.1) (fun x => x.1 ≤ 2 ∧ MInv 12304 3 8216 x.2.1 x.2.2.1 x.2.2.2.2) rfl (fun x => rfl) (0, s0, b, t, E) ⟨Nat.zero_le _, hI⟩ (fun k => (k, 0)) (fun _ _ => rfl) ⟨⟨⟨_, rfl, fun _ => rfl⟩, ⟨_, rfl, fun _ => rfl⟩, ⟨_, rfl, fun _ => rfl⟩, ⟨_, rfl, fun _ => rfl⟩, ⟨_, rfl, fun _ => rfl⟩, ⟨_, rfl, fun _ => rfl⟩, trivial⟩,
      Part.keys ⟨⟨by decide, rfl, rfl, _, rfl, fun _ => rfl, Nat.le_refl _, fun _ => Nat.le_refl _, fun _ => rfl⟩, ⟨by decide, rfl, rfl, _, rfl, fun _ => rfl, Nat.le_refl _, fun _ => Nat.le_refl _, fun _ => rfl⟩, ⟨by decide, rfl, rfl, _, rfl, fun _ => rfl, Nat.le_refl _, fun ρ => rowvl _ ρ, fun _ => rfl⟩, ⟨by decide, rfl, rfl, _, rfl, fun ρ => uM_so e.gn _ ρ, uM_len e.gn, fun ρ => rowvl _ ρ, fun _ => rfl⟩, ⟨by decide, rfl, rfl, _, rfl, fun _ => rfl, Nat.le_refl _, fun _ => Nat.le_refl _, fun _ => rfl⟩, trivial⟩ rfl⟩ ?_
  rintro ⟨i, s, b, t, X⟩ ⟨hi, hI⟩
  have hi : i ≤ 2 := hi
  have hI : MInv 12304 3 8216 s b X := hI
  have : i = 0 ∨ i = 1 ∨ i = 2 := by omega
  rcases this with rfl | rfl | rfl
  · dsimp only
    conv => whnf
    refine .t rfl ?_
    conv => whnf
    refine .here 0 rfl (by decide) ?_
    conv => whnf
    refine Spec.fn (trans_ok s 0 0 e.gn b t 12304 l0 tg hI.okS hI.okb (by decide) (by decide)) [7, 2, 3] rfl rfl (fun _ => rfl) rfl ⟨⟨by decide, rfl, rfl, _, rfl, fun _ => rfl, Nat.le_refl _, fun _ => Nat.le_refl _, fun _ => rfl⟩, ⟨by decide, rfl, rfl, _, rfl, fun _ => rfl, Nat.le_refl _, fun _ => Nat.le_refl _, fun _ => rfl⟩, ⟨by decide, rfl, rfl, _, rfl, fun _ => rfl, Nat.le_refl _, fun _ => Nat.le_refl _, fun _ => rfl⟩, trivial⟩ (fun y hy => ⟨trV_ok _ _ _ _, rfl, ⟨_, rfl, rfl, ulen2 hy.1 hI.okS _⟩, ⟨_, rfl, rfl, rfl⟩, ⟨_, rfl, rfl, rlen _ _ _ _ _⟩, trivial⟩) (fun z hz => ?_)
    obtain ⟨⟨s', b', r⟩, t'⟩ := z
    obtain ⟨hJ, hne⟩ := tr_inv (by decide) rfl hI hz.1 hz.2
    have hJ : MInv 12304 3 8216 s' b' (nextE X l0 tg r) := hJ
    have hne : ∀ n, r = .error n → n ≠ 0 := hne
    clear hz hI
    have hof := of_ok (rdN b' 8216 8) (rdN_lt hJ.okb _ 8)
    rw [hJ.ent] at hof
    cases r with
    | error m =>
      have hm : m ≠ 0 := hne m rfl
      conv => whnf
      refine Spec.fn (load_ok 8 b' t' 8216 8 hJ.okb (.inr (.inr (.inr rfl))) (by decide) (by decide) (by decide)) [2, 3] rfl rfl (fun _ => rfl) rfl ⟨⟨by decide, rfl, rfl, _, rfl, fun _ => rfl, Nat.le_refl _, fun _ => Nat.le_refl _, id⟩, ⟨by decide, rfl, rfl, _, rfl, fun _ => rfl, Nat.le_refl _, fun _ => Nat.le_refl _, fun h => (by cases h)⟩, trivial⟩ (fun _ _ => ⟨rfl, rfl, ⟨_, rfl, rfl, rfl⟩, rfl, trivial⟩) (fun _ _ => ?_)
      conv => whnf
      refine Spec.pure hof rfl rfl (fun _ => rfl) ?_
      conv => whnf
      refine .f (decide_eq_false hm) ?_
      conv => whnf
      refine VL.op (VL.eq tabOk ?_)
      conv => whnf
      refine Needs.mk (by kernel_rfl) ?_
      conv => whnf
      refine Needs.mk ⟨rfl, by kernel_rfl⟩ ?_
      conv => whnf
      have hJ : MInv 12304 3 8216 s' b' X := hJ
      refine IfL.f ?_ ?_
      · simp [nextE]
      conv => whnf
      exact ⟨(1, s', b', t', X), fun k => (k, 0), ⟨by show 1 ≤ 2; decide, hJ⟩, by show 2 - 1 < 2 - 0; decide, fun _ _ => rfl, ⟨⟨_, rfl, fun _ => rfl⟩, ⟨_, rfl, fun _ => rfl⟩, ⟨_, rfl, fun _ => rfl⟩, ⟨_, rfl, fun _ => rfl⟩, ⟨_, rfl, fun _ => rfl⟩, ⟨_, rfl, fun _ => rfl⟩, trivial⟩,
        Part.keys ⟨⟨by decide, rfl, rfl, _, rfl, fun _ => rfl, Nat.le_refl _, fun _ => Nat.le_refl _, fun _ => rfl⟩, ⟨by decide, rfl, rfl, _, rfl, fun _ => rfl, Nat.le_refl _, fun _ => Nat.le_refl _, fun _ => rfl⟩, ⟨by decide, rfl, rfl, _, rfl, fun _ => rfl, Nat.le_refl _, fun ρ => rowvl _ ρ, fun _ => rfl⟩, ⟨by decide, rfl, rfl, _, rfl, fun _ => rfl, Nat.le_refl _, fun ρ => rowvl _ ρ, fun _ => rfl⟩, ⟨by decide, rfl, rfl, _, rfl, fun _ => rfl, Nat.le_refl _, fun _ => Nat.le_refl _, fun _ => rfl⟩, trivial⟩ rfl⟩
    | ok e2 =>
      conv => whnf
      refine Spec.fn (load_ok 8 b' t' 8216 8 hJ.okb (.inr (.inr (.inr rfl))) (by decide) (by decide) (by decide)) [2, 3] rfl rfl (fun _ => rfl) rfl ⟨⟨by decide, rfl, rfl, _, rfl, fun _ => rfl, Nat.le_refl _, fun _ => Nat.le_refl _, id⟩, ⟨by decide, rfl, rfl, _, rfl, fun _ => rfl, Nat.le_refl _, fun _ => Nat.le_refl _, fun h => (by cases h)⟩, trivial⟩ (fun _ _ => ⟨rfl, rfl, ⟨_, rfl, rfl, rfl⟩, rfl, trivial⟩) (fun _ _ => ?_)
      conv => whnf
      refine Spec.pure hof rfl rfl (fun _ => rfl) ?_
      conv => whnf
      have hJ : MInv 12304 3 8216 s' b' (markE X l0 tg) := hJ
      refine .t rfl ?_
      repeat' ((try (conv => whnf)); first
        | refine IfL.t rfl ?_
        | refine IfL.f rfl ?_
        | refine VL.op (VL.eq tabOk ?_)
        | refine Needs.mk (by kernel_rfl) ?_
        | refine Needs.mk ⟨rfl, by kernel_rfl⟩ ?_
        | (refine IfL.f ?hx ?_; case hx => (clear hJ; simp_all [nextE, markE]; done))
        | refine IfL.mk (fun h => ?_) (fun h => ?_))
      all_goals
        conv => whnf
        refine ⟨(1, s', b', t', markE X l0 tg), fun k => (k, 0), ⟨by show 1 ≤ 2; decide, hJ⟩, by show 2 - 1 < 2 - 0; decide, fun _ _ => rfl, ⟨⟨_, rfl, fun _ => rfl⟩, ⟨_, rfl, fun _ => rfl⟩, ⟨_, rfl, fun _ => rfl⟩, ⟨_, rfl, fun _ => rfl⟩, ⟨_, rfl, fun _ => rfl⟩, ⟨_, rfl, fun _ => rfl⟩, trivial⟩,
          Part.keys ⟨⟨by decide, rfl, rfl, _, rfl, fun _ => rfl, Nat.le_refl _, fun _ => Nat.le_refl _, fun _ => rfl⟩, ⟨by decide, rfl, rfl, _, rfl, fun _ => rfl, Nat.le_refl _, fun _ => Nat.le_refl _, fun _ => rfl⟩, ⟨by decide, rfl, rfl, _, rfl, fun _ => rfl, Nat.le_refl _, fun ρ => rowvl _ ρ, fun _ => rfl⟩, ⟨by decide, rfl, rfl, _, rfl, fun _ => rfl, Nat.le_refl _, fun ρ => rowvl _ ρ, fun _ => rfl⟩, ⟨by decide, rfl, rfl, _, rfl, fun _ => ?_, Nat.le_refl _, fun _ => Nat.le_refl _, fun _ => rfl⟩, trivial⟩ rfl⟩
      all_goals
        clear hJ
        simp_all [markE, entC, SO.vals, SV.vals, SV.val, lit_tt, lit_ff]
  · dsimp only
    conv => whnf
    refine .t rfl ?_
    conv => whnf
    refine .here 1 rfl (by decide) ?_
    conv => whnf
    refine Spec.fn (trans_ok s 0 0 e.gn b t 12304 l1 tg hI.okS hI.okb (by decide) (by decide)) [7, 2, 3] rfl rfl (fun _ => rfl) rfl ⟨⟨by decide, rfl, rfl, _, rfl, fun _ => rfl, Nat.le_refl _, fun _ => Nat.le_refl _, fun _ => rfl⟩, ⟨by decide, rfl, rfl, _, rfl, fun _ => rfl, Nat.le_refl _, fun _ => Nat.le_refl _, fun _ => rfl⟩, ⟨by decide, rfl, rfl, _, rfl, fun _ => rfl, Nat.le_refl _, fun _ => Nat.le_refl _, fun _ => rfl⟩, trivial⟩ (fun y hy => ⟨trV_ok _ _ _ _, rfl, ⟨_, rfl, rfl, ulen2 hy.1 hI.okS _⟩, ⟨_, rfl, rfl, rfl⟩, ⟨_, rfl, rfl, rlen _ _ _ _ _⟩, trivial⟩) (fun z hz => ?_)
    obtain ⟨⟨s', b', r⟩, t'⟩ := z
    obtain ⟨hJ, hne⟩ := tr_inv (by decide) rfl hI hz.1 hz.2
    have hJ : MInv 12304 3 8216 s' b' (nextE X l1 tg r) := hJ
    have hne : ∀ n, r = .error n → n ≠ 0 := hne
    clear hz hI
    have hof := of_ok (rdN b' 8216 8) (rdN_lt hJ.okb _ 8)
    rw [hJ.ent] at hof
    cases r with
    | error m =>
      have hm : m ≠ 0 := hne m rfl
      conv => whnf
      refine Spec.fn (load_ok 8 b' t' 8216 8 hJ.okb (.inr (.inr (.inr rfl))) (by decide) (by decide) (by decide)) [2, 3] rfl rfl (fun _ => rfl) rfl ⟨⟨by decide, rfl, rfl, _, rfl, fun _ => rfl, Nat.le_refl _, fun _ => Nat.le_refl _, id⟩, ⟨by decide, rfl, rfl, _, rfl, fun _ => rfl, Nat.le_refl _, fun _ => Nat.le_refl _, fun h => (by cases h)⟩, trivial⟩ (fun _ _ => ⟨rfl, rfl, ⟨_, rfl, rfl, rfl⟩, rfl, trivial⟩) (fun _ _ => ?_)
      conv => whnf
      refine Spec.pure hof rfl rfl (fun _ => rfl) ?_
      conv => whnf
      refine .f (decide_eq_false hm) ?_
      conv => whnf
      refine VL.op (VL.eq tabOk ?_)
      conv => whnf
      refine Needs.mk (by kernel_rfl) ?_
      conv => whnf
      refine Needs.mk ⟨rfl, by kernel_rfl⟩ ?_
      conv => whnf
      have hJ : MInv 12304 3 8216 s' b' X := hJ
      refine IfL.f ?_ ?_
      · simp [nextE]
      conv => whnf
      exact ⟨(2, s', b', t', X), fun k => (k, 0), ⟨by show 2 ≤ 2; decide, hJ⟩, by show 2 - 2 < 2 - 1; decide, fun _ _ => rfl, ⟨⟨_, rfl, fun _ => rfl⟩, ⟨_, rfl, fun _ => rfl⟩, ⟨_, rfl, fun _ => rfl⟩, ⟨_, rfl, fun _ => rfl⟩, ⟨_, rfl, fun _ => rfl⟩, ⟨_, rfl, fun _ => rfl⟩, trivial⟩,
        Part.keys ⟨⟨by decide, rfl, rfl, _, rfl, fun _ => rfl, Nat.le_refl _, fun _ => Nat.le_refl _, fun _ => rfl⟩, ⟨by decide, rfl, rfl, _, rfl, fun _ => rfl, Nat.le_refl _, fun _ => Nat.le_refl _, fun _ => rfl⟩, ⟨by decide, rfl, rfl, _, rfl, fun _ => rfl, Nat.le_refl _, fun ρ => rowvl _ ρ, fun _ => rfl⟩, ⟨by decide, rfl, rfl, _, rfl, fun _ => rfl, Nat.le_refl _, fun ρ => rowvl _ ρ, fun _ => rfl⟩, ⟨by decide, rfl, rfl, _, rfl, fun _ => rfl, Nat.le_refl _, fun _ => Nat.le_refl _, fun _ => rfl⟩, trivial⟩ rfl⟩
    | ok e2 =>
      conv => whnf
      refine Spec.fn (load_ok 8 b' t' 8216 8 hJ.okb (.inr (.inr (.inr rfl))) (by decide) (by decide) (by decide)) [2, 3] rfl rfl (fun _ => rfl) rfl ⟨⟨by decide, rfl, rfl, _, rfl, fun _ => rfl, Nat.le_refl _, fun _ => Nat.le_refl _, id⟩, ⟨by decide, rfl, rfl, _, rfl, fun _ => rfl, Nat.le_refl _, fun _ => Nat.le_refl _, fun h => (by cases h)⟩, trivial⟩ (fun _ _ => ⟨rfl, rfl, ⟨_, rfl, rfl, rfl⟩, rfl, trivial⟩) (fun _ _ => ?_)
      conv => whnf
      refine Spec.pure hof rfl rfl (fun _ => rfl) ?_
      conv => whnf
      have hJ : MInv 12304 3 8216 s' b' (markE X l1 tg) := hJ
      refine .t rfl ?_
      repeat' ((try (conv => whnf)); first
        | refine IfL.t rfl ?_
        | refine IfL.f rfl ?_
        | refine VL.op (VL.eq tabOk ?_)
        | refine Needs.mk (by kernel_rfl) ?_
        | refine Needs.mk ⟨rfl, by kernel_rfl⟩ ?_
        | (refine IfL.f ?hx ?_; case hx => (clear hJ; simp_all [nextE, markE]; done))
        | refine IfL.mk (fun h => ?_) (fun h => ?_))
      all_goals
        conv => whnf
        refine ⟨(2, s', b', t', markE X l1 tg), fun k => (k, 0), ⟨by show 2 ≤ 2; decide, hJ⟩, by show 2 - 2 < 2 - 1; decide, fun _ _ => rfl, ⟨⟨_, rfl, fun _ => rfl⟩, ⟨_, rfl, fun _ => rfl⟩, ⟨_, rfl, fun _ => rfl⟩, ⟨_, rfl, fun _ => rfl⟩, ⟨_, rfl, fun _ => rfl⟩, ⟨_, rfl, fun _ => rfl⟩, trivial⟩,
          Part.keys ⟨⟨by decide, rfl, rfl, _, rfl, fun _ => rfl, Nat.le_refl _, fun _ => Nat.le_refl _, fun _ => rfl⟩, ⟨by decide, rfl, rfl, _, rfl, fun _ => rfl, Nat.le_refl _, fun _ => Nat.le_refl _, fun _ => rfl⟩, ⟨by decide, rfl, rfl, _, rfl, fun _ => rfl, Nat.le_refl _, fun ρ => rowvl _ ρ, fun _ => rfl⟩, ⟨by decide, rfl, rfl, _, rfl, fun _ => rfl, Nat.le_refl _, fun ρ => rowvl _ ρ, fun _ => rfl⟩, ⟨by decide, rfl, rfl, _, rfl, fun _ => ?_, Nat.le_refl _, fun _ => Nat.le_refl _, fun _ => rfl⟩, trivial⟩ rfl⟩
      all_goals
        clear hJ
        simp_all [markE, entC, SO.vals, SV.vals, SV.val, lit_tt, lit_ff]
  · dsimp only
    conv => whnf
    refine .f rfl ?_
    conv => whnf
    refine Spec.pure one_ok rfl rfl (fun _ => rfl) ?_
    conv => whnf
    intro ρ
    rfl
theorem flat4 : FlatT Try.prog 4 [.bool] := FlatT.bool Try.underlying4
theorem flat22 : FlatT Try.prog 22 [.int .u64] := FlatT.int Try.underlying22
theorem flat24 : FlatT Try.prog 24 [.bool, .bool, .bool, .bool, .bool, .bool, .bool, .bool, .bool, .bool, .bool, .bool, .int .u64] := FlatT.struct Try.underlying24 (by kernel_rfl) ⟨rfl, [.bool], _, rfl, flat4, by kernel_rfl, ⟨rfl, [.bool], _, rfl, flat4, by kernel_rfl, ⟨rfl, [.bool], _, rfl, flat4, by kernel_rfl, ⟨rfl, [.bool], _, rfl, flat4, by kernel_rfl, ⟨rfl, [.bool], _, rfl, flat4, by kernel_rfl, ⟨rfl, [.bool], _, rfl, flat4, by kernel_rfl, ⟨rfl, [.bool], _, rfl, flat4, by kernel_rfl, ⟨rfl, [.bool], _, rfl, flat4, by kernel_rfl, ⟨rfl, [.bool], _, rfl, flat4, by kernel_rfl, ⟨rfl, [.bool], _, rfl, flat4, by kernel_rfl, ⟨rfl, [.bool], _, rfl, flat4, by kernel_rfl, ⟨rfl, [.bool], _, rfl, flat4, by kernel_rfl, ⟨rfl, [.int .u64], _, rfl, flat22, by kernel_rfl, rfl⟩⟩⟩⟩⟩⟩⟩⟩⟩⟩⟩⟩⟩
end Go.Sh.Ytanljnpjkokmcaa
