import Derived.Test.YtanljnpjkokmcaaMuG
import Derived.Test.YtanljnpjkokmcaaUnit2
set_option linter.unusedVariables false
namespace Go.Sh.Ytanljnpjkokmcaa
open Go.Proofs Go.Sh

theorem plA_n (e : Ent) (n : Nat) (f : Nat) (h : e.fr = f) (hf : f < 64) : plA e (n * 4096) = ((f * 4096 : Nat) : Int) := by
  unfold plA
  have h1 : ((n * 4096 : Nat) : Int).tmod 4096 = 0 := by
    have := rem_nat (n * 4096) 4096
    rw [show n * 4096 % 4096 = 0 by omega] at this
    exact this
  rw [h1, h, show (f : Int) * 4096 = ((f * 4096 : Nat) : Int) by omega, wrapn _ (by omega), Int.add_zero, wrapn _ (by omega)]
theorem isP_same (a : Nat) (n : Int) (e : Ent) (p : Int) : isP (a : Int) n ⟨(a : Int), n, e, p⟩ = true := by simp [isP]
theorem isP_other {a b : Nat} (h : a ≠ b) (n : Int) (e : Ent) (p : Int) : isP (b : Int) n ⟨(a : Int), n, e, p⟩ = false := by
  simp [isP]; omega
set_option maxRecDepth 100000 in
set_option maxHeartbeats 1000000 in
theorem asids_ok (a b : Nat) (page : Int) (ha : a < 2 ^ 64) (hb : b < 2 ^ 64) : Pure Try.prog 4 [.int .u64 (a : Int), .int .u64 (b : Int), .int .i64 page] .tt := by
  have e7 : band .and .i64 page 7 = ((page % (8 : Nat)).toNat : Int) := band_mask page 3 (by decide)
  have hn := mod_lt' page (m := 8) (by decide)
  have hT0 := lowT_base
  refine Spec.of_body tabOk Try.func4 rfl (ent Try.func4 rfl (by kernel_rfl)) Try.ntmps4 rfl (by kernel_rfl) (Nat.le_of_ble_eq_true rfl) ?_
  conv => whnf
  refine Spec.fn setup_ok [] rfl rfl (fun _ => rfl) rfl trivial (fun _ _ => ⟨rfl, rfl, trivial⟩) (fun y hy => ?_)
  clear hy
  generalize memL baseL = b0 at hT0
  obtain ⟨t0, _⟩ := y
  conv => whnf
  rw [e7]
  generalize (page % (8 : Nat)).toNat = n at hn
  clear e7
  have a3 : IntKind.wrap .u64 (8192 + IntKind.wrap .u64 (8 * IntKind.wrap .u64 (n : Int))) = ((8192 + n * 8 : Nat) : Int) := by
    rw [wrapn n (by omega), show (8 : Int) * (n : Int) = ((n * 8 : Nat) : Int) by omega, wrapn (n * 8) (by omega), show (8192 : Int) + ((n * 8 : Nat) : Int) = ((8192 + n * 8 : Nat) : Int) by omega, wrapn _ (by omega)]
  have a1 : IntKind.wrap .u64 (IntKind.wrap .u64 (n : Int) * 4096) = ((n * 4096 : Nat) : Int) := by
    rw [wrapn n (by omega), show (n : Int) * 4096 = ((n * 4096 : Nat) : Int) by omega, wrapn _ (by omega)]
  have hni : ((n * 4096 / 4096 : Nat) : Int) = (n : Int) := by omega
  have hE5 : okE E5 := ⟨by decide, by decide⟩
  have hE6 : okE E6 := ⟨by decide, by decide⟩
  refine Spec.pure (word_ok E5 hE5) rfl rfl (fun _ => rfl) ?_
  conv => whnf
  refine Spec.fn (store_ok 8 b0 t0 (8192 + n * 8) 8 (entW E5) (entW_lt _) (.inr (.inr (.inr rfl))) (by omega) (by decide) (by omega)) [0, 1] rfl rfl (fun _ => by rw [← a3]; rfl) rfl ⟨⟨by decide, rfl, rfl, _, rfl, fun _ => rfl, Nat.le_refl _, fun _ => Nat.le_refl _, fun _ => rfl⟩, ⟨by decide, rfl, rfl, _, rfl, fun _ => rfl, Nat.le_refl _, fun _ => Nat.le_refl _, fun _ => rfl⟩, trivial⟩ (fun _ _ => ⟨rfl, rfl, ⟨_, rfl, rfl, rfl⟩, ⟨_, rfl, rfl, rlen _ _ _ _ _⟩, trivial⟩) (fun _ _ => ?_)
  have hT1 := lowT_st hT0 n (entW E5)
  have hw1 := lowT_walk hT0 (show n < 512 by omega) E5 rfl rfl
  generalize stB b0 (8192 + n * 8) (entW E5) 8 = b1 at hT1 hw1
  generalize tagsL t0 (8192 + n * 8) 8 = t1
  conv => whnf
  refine Spec.fn (trans_ok s0 0 a false b1 t1 (n * 4096) 1 false s0_ok hT1.1 (by decide) (by omega)) [6, 0, 1] rfl rfl (fun _ => by rw [← a1]; rfl) rfl ⟨⟨by decide, rfl, rfl, _, rfl, fun ρ => u0_so a _ ρ, u0_len a false, fun ρ => rowvl _ ρ, fun _ => rfl⟩, ⟨by decide, rfl, rfl, _, rfl, fun _ => rfl, Nat.le_refl _, fun _ => Nat.le_refl _, fun _ => rfl⟩, ⟨by decide, rfl, rfl, _, rfl, fun _ => rfl, Nat.le_refl _, fun _ => Nat.le_refl _, fun _ => rfl⟩, trivial⟩ (fun y hy => ⟨trV_ok _ _ _ _, rfl, ⟨_, rfl, rfl, ulen2 hy.1 s0_ok _⟩, ⟨_, rfl, rfl, rfl⟩, ⟨_, rfl, rfl, rlen _ _ _ _ _⟩, trivial⟩) (fun z hz => ?_)
  obtain ⟨z1, t2⟩ := z
  obtain ⟨hs1, htr⟩ := hz
  obtain ⟨fl, hf, hy⟩ := tr_miss (show n * 4096 < 274877906944 by omega) hni rfl hw1 (by kernel_rfl) htr
  obtain rfl : z1 = _ := hy
  cases fl with
  | false => exact absurd (hf rfl) om
  | true =>
  clear hf htr
  have f1 : (putS s0 ⟨(a : Int), (n : Int), markE E5 1 false, ((8192 + n * 8 : Nat) : Int)⟩) (q4 n) = [⟨(a : Int), (n : Int), markE E5 1 false, ((8192 + n * 8 : Nat) : Int)⟩] := fset_same _ _ _
  have hs1 : okT (putS s0 ⟨(a : Int), (n : Int), markE E5 1 false, ((8192 + n * 8 : Nat) : Int)⟩) := hs1
  have hT2 : lowT (mkB b1 (8192 + n * 8) (markE E5 1 false) true) := lowT_st hT1 n (entW M5)
  generalize mkB b1 (8192 + n * 8) (markE E5 1 false) true = b2 at hT2
  generalize putS s0 ⟨(a : Int), (n : Int), markE E5 1 false, ((8192 + n * 8 : Nat) : Int)⟩ = s1 at f1 hs1
  conv => whnf
  refine Spec.pure (word_ok E6 hE6) rfl rfl (fun _ => rfl) ?_
  conv => whnf
  refine Spec.fn (store_ok 8 b2 t2 (8192 + n * 8) 8 (entW E6) (entW_lt _) (.inr (.inr (.inr rfl))) (by omega) (by decide) (by omega)) [0, 1] rfl rfl (fun _ => by rw [← a3]; rfl) rfl ⟨⟨by decide, rfl, rfl, _, rfl, fun _ => rfl, Nat.le_refl _, fun _ => Nat.le_refl _, fun _ => rfl⟩, ⟨by decide, rfl, rfl, _, rfl, fun _ => rfl, Nat.le_refl _, fun _ => Nat.le_refl _, fun _ => rfl⟩, trivial⟩ (fun _ _ => ⟨rfl, rfl, ⟨_, rfl, rfl, rfl⟩, ⟨_, rfl, rfl, rlen _ _ _ _ _⟩, trivial⟩) (fun _ _ => ?_)
  have hT3 := lowT_st hT2 n (entW E6)
  have hw3 := lowT_walk hT2 (show n < 512 by omega) E6 rfl rfl
  generalize stB b2 (8192 + n * 8) (entW E6) 8 = b3 at hT3 hw3
  generalize tagsL t2 (8192 + n * 8) 8 = t3
  conv => whnf
  refine .row (tlbC s1 (uR 0 b false)) [.int .u64 (b : Int)] 133 rfl (fun _ => rfl) rfl rfl rfl (by rw [tlbC_len hs1]; show 133 + 1 ≤ 132 + 3; omega) (uC_set hs1 0 a b false) ?_
  conv => whnf
  have tr2 := trans_ok s1 0 b false b3 t3 (n * 4096) 1 false hs1 hT3.1 (by decide) (by omega)
  refine Spec.fn tr2 [6, 0, 1] rfl rfl (fun _ => by rw [← a1]; rfl) rfl ⟨⟨by decide, rfl, rfl, _, rfl, fun _ => rfl, Nat.le_refl _, fun ρ => rowvl _ ρ, fun _ => rfl⟩, ⟨by decide, rfl, rfl, _, rfl, fun _ => rfl, Nat.le_refl _, fun _ => Nat.le_refl _, fun _ => rfl⟩, ⟨by decide, rfl, rfl, _, rfl, fun _ => rfl, Nat.le_refl _, fun ρ => rowvl _ ρ, fun _ => rfl⟩, trivial⟩ (fun y hy => ⟨trV_ok _ _ _ _, rfl, ⟨_, rfl, rfl, ulen2 hy.1 hs1 _⟩, ⟨_, rfl, rfl, rfl⟩, ⟨_, rfl, rfl, rlen _ _ _ _ _⟩, trivial⟩) (fun z hz => ?_)
  obtain ⟨z1, t4⟩ := z
  obtain ⟨hs2, htr⟩ := hz
  have p5 : plA (markE E5 1 false) (n * 4096) = 20480 := plA_n _ n 5 rfl (by decide)
  have p6 : plA (markE E6 1 false) (n * 4096) = 24576 := plA_n _ n 6 rfl (by decide)
  have q5 : (!decide (plA (markE E5 1 false) (n * 4096) = 20480)) = false := by rw [p5]; rfl
  have q5' : decide (plA (markE E5 1 false) (n * 4096) = 20480) = true := by rw [p5]; rfl
  have q6 : (!decide (plA (markE E6 1 false) (n * 4096) = 24576)) = false := by rw [p6]; rfl
  have q6' : decide (plA (markE E6 1 false) (n * 4096) = 24576) = true := by rw [p6]; rfl
  have q56 : decide (plA (markE E5 1 false) (n * 4096) = 24576) = false := by rw [p5]; rfl
  have q65 : decide (plA (markE E6 1 false) (n * 4096) = 20480) = false := by rw [p6]; rfl
  have q6m : decide (plA (markE M6 1 false) (n * 4096) = 24576) = true := by
    have : plA (markE M6 1 false) (n * 4096) = 24576 := plA_n _ n 6 rfl (by decide)
    rw [this]; rfl
  by_cases hab : a = b
  · subst hab
    have hfi : (s1 (q4 (n : Int))).find? (isP (a : Int) (n : Int)) = some ⟨(a : Int), (n : Int), markE E5 1 false, ((8192 + n * 8 : Nat) : Int)⟩ := by
      rw [f1, List.find?_cons, isP_same]
    obtain rfl : z1 = _ := tr_hit (show n * 4096 < 274877906944 by omega) hni hfi (by kernel_rfl) (by kernel_rfl) htr
    have hne : decide ((a : Int) = (a : Int)) = true := decide_eq_true rfl
    repeat' ((try (conv => whnf)); first
      | refine IfL.t rfl ?_
      | refine IfL.f rfl ?_
      | refine IfL.f q5 ?_
      | refine IfL.t q5' ?_
      | refine IfL.f q6 ?_
      | refine IfL.t q6' ?_
      | refine IfL.f q56 ?_
      | refine VL.op (VL.eq tabOk ?_)
      | (refine IfL.f ?hx ?_; case hx => first | (rw [q56, hne]; rfl; done) | (rw [q6', hne]; rfl; done)))
    clear hne
    have hfl := flush_ok s1 (uR 0 a false) hs1 (a : Int)
    have hs3 : okT (filtS (fun x => !isA (a : Int) x) s1 4) := okT_filtS hs1 4
    have f3 : (filtS (fun x => !isA (a : Int) x) s1 4) (q4 (n : Int)) = [] := by
      show (if q4 (n : Int) < 4 then _ else _) = _
      rw [if_pos (q4_lt _), f1]
      simp [isA]
    conv => whnf
    refine Spec.row (t := 6) hfl rfl (fun _ => rfl) rfl rfl (ulen hs3 hs1 _) rfl (fun _ => rfl) rfl ?_
    generalize filtS (fun x => !isA (a : Int) x) s1 4 = s3 at hs3 f3
    conv => whnf
    refine Spec.fn (trans_ok s3 0 a false b3 t4 (n * 4096) 1 false hs3 (hT3).1 (by decide) (by omega)) [6, 0, 1] rfl rfl (fun _ => by rw [← a1]; rfl) rfl ⟨⟨by decide, rfl, rfl, _, rfl, fun _ => rfl, Nat.le_refl _, fun ρ => rowvl _ ρ, fun _ => rfl⟩, ⟨by decide, rfl, rfl, _, rfl, fun _ => rfl, Nat.le_refl _, fun _ => Nat.le_refl _, fun _ => rfl⟩, ⟨by decide, rfl, rfl, _, rfl, fun _ => rfl, Nat.le_refl _, fun ρ => rowvl _ ρ, fun _ => rfl⟩, trivial⟩ (fun y hy => ⟨trV_ok _ _ _ _, rfl, ⟨_, rfl, rfl, ulen2 hy.1 hs3 _⟩, ⟨_, rfl, rfl, rfl⟩, ⟨_, rfl, rfl, rlen _ _ _ _ _⟩, trivial⟩) (fun z hz => ?_)
    obtain ⟨z3, t6⟩ := z
    obtain ⟨hs4, htr⟩ := hz
    have hfj : (s3 (q4 (n : Int))).find? (isP (a : Int) (n : Int)) = none := by rw [f3]; rfl
    obtain ⟨fl3, hf3, hy3⟩ := tr_miss (show n * 4096 < 274877906944 by omega) hni hfj hw3 (by kernel_rfl) htr
    obtain rfl : z3 = _ := hy3
    clear htr
    have f4 : (putS s3 ⟨(a : Int), (n : Int), markE E6 1 false, ((8192 + n * 8 : Nat) : Int)⟩) (q4 (n : Int)) = [⟨(a : Int), (n : Int), markE E6 1 false, ((8192 + n * 8 : Nat) : Int)⟩] := by
      show fset s3 _ _ _ = _
      rw [fset_same, f3]; rfl
    have hs4 : okT (putS s3 ⟨(a : Int), (n : Int), markE E6 1 false, ((8192 + n * 8 : Nat) : Int)⟩) := hs4
    have hb4 : okB (mkB b3 (8192 + n * 8) (markE E6 1 false) fl3) := by
      cases fl3
      · exact hT3.1
      · exact stB_ok hT3.1 _ _ _
    generalize mkB b3 (8192 + n * 8) (markE E6 1 false) fl3 = b4 at hb4
    generalize putS s3 ⟨(a : Int), (n : Int), markE E6 1 false, ((8192 + n * 8 : Nat) : Int)⟩ = s4 at f4 hs4
    have hfk : (s4 (q4 (n : Int))).find? (isP (a : Int) (n : Int)) = some ⟨(a : Int), (n : Int), markE E6 1 false, ((8192 + n * 8 : Nat) : Int)⟩ := by
      rw [f4, List.find?_cons, isP_same]
    have hne : decide ((a : Int) = (a : Int)) = true := decide_eq_true rfl
    conv => whnf
    refine .row (tlbC s4 (uR 0 a false)) [.int .u64 (a : Int)] 133 rfl (fun _ => rfl) rfl rfl rfl (by show 133 + 1 ≤ (tlbC s4 _).length; rw [tlbC_len hs4]; show 133 + 1 ≤ 132 + 3; omega) (uC_set hs4 0 a a false) ?_
    conv => whnf
    refine Spec.fn (trans_ok s4 0 a false b4 t6 (n * 4096) 1 false hs4 hb4 (by decide) (by omega)) [6, 0, 1] rfl rfl (fun _ => by rw [← a1]; rfl) rfl ⟨⟨by decide, rfl, rfl, _, rfl, fun _ => rfl, Nat.le_refl _, fun ρ => rowvl _ ρ, fun _ => rfl⟩, ⟨by decide, rfl, rfl, _, rfl, fun _ => rfl, Nat.le_refl _, fun _ => Nat.le_refl _, fun _ => rfl⟩, ⟨by decide, rfl, rfl, _, rfl, fun _ => rfl, Nat.le_refl _, fun ρ => rowvl _ ρ, fun _ => rfl⟩, trivial⟩ (fun y hy => ⟨trV_ok _ _ _ _, rfl, ⟨_, rfl, rfl, ulen2 hy.1 hs4 _⟩, ⟨_, rfl, rfl, rfl⟩, ⟨_, rfl, rfl, rlen _ _ _ _ _⟩, trivial⟩) (fun z hz => ?_)
    obtain ⟨z5, t8⟩ := z
    obtain ⟨hs5, htr⟩ := hz
    obtain rfl : z5 = _ := tr_hit (show n * 4096 < 274877906944 by omega) hni hfk (by kernel_rfl) (by kernel_rfl) htr
    repeat' ((try (conv => whnf)); first
      | refine IfL.t rfl ?_
      | refine IfL.f rfl ?_
      | refine Spec.pure one_ok rfl rfl (fun _ => rfl) ?_
      | refine IfL.t q6' ?_
      | refine IfL.t q6m ?_
      | refine VL.op (VL.eq tabOk ?_)
      | (refine IfL.t ?hx ?_; case hx => (rw [q65, hne]; rfl; done)))
    conv => whnf
    intro ρ
    rfl
  · have hfi : (s1 (q4 (n : Int))).find? (isP (b : Int) (n : Int)) = none := by
      rw [f1, List.find?_cons, isP_other hab]; rfl
    obtain ⟨fl, hf, hy⟩ := tr_miss (show n * 4096 < 274877906944 by omega) hni hfi hw3 (by kernel_rfl) htr
    obtain rfl : z1 = _ := hy
    have hne : decide ((a : Int) = (b : Int)) = false := decide_eq_false (by omega)
    repeat' ((try (conv => whnf)); first
      | refine IfL.t rfl ?_
      | refine IfL.f rfl ?_
      | refine IfL.f q5 ?_
      | refine IfL.t q5' ?_
      | refine IfL.f q6 ?_
      | refine IfL.t q6' ?_
      | refine IfL.f q56 ?_
      | refine VL.op (VL.eq tabOk ?_)
      | (refine IfL.f ?hx ?_; case hx => first | (rw [q56, hne]; rfl; done) | (rw [q6', hne]; rfl; done)))
    clear hne
    cases fl with
    | false => exact absurd (hf rfl) om6
    | true =>
    have f2 : (putS s1 ⟨(b : Int), (n : Int), markE E6 1 false, ((8192 + n * 8 : Nat) : Int)⟩) (q4 (n : Int)) = [⟨(a : Int), (n : Int), markE E5 1 false, ((8192 + n * 8 : Nat) : Int)⟩, ⟨(b : Int), (n : Int), markE E6 1 false, ((8192 + n * 8 : Nat) : Int)⟩] := by
      show fset s1 _ _ _ = _
      rw [fset_same, f1, List.filter_cons, isP_other hab]; rfl
    have hs2 : okT (putS s1 ⟨(b : Int), (n : Int), markE E6 1 false, ((8192 + n * 8 : Nat) : Int)⟩) := hs2
    have hT4 : lowT (mkB b3 (8192 + n * 8) (markE E6 1 false) true) := lowT_st hT3 n (entW M6)
    have hw4 : walkF (mkB b3 (8192 + n * 8) (markE E6 1 false) true) 8 0 (n * 4096) = some (M6, 8192 + n * 8) := lowT_walk hT3 (show n < 512 by omega) M6 rfl rfl
    generalize mkB b3 (8192 + n * 8) (markE E6 1 false) true = b4 at hT4 hw4
    generalize putS s1 ⟨(b : Int), (n : Int), markE E6 1 false, ((8192 + n * 8 : Nat) : Int)⟩ = s2 at f2 hs2
    have hfl := flush_ok s2 (uR 0 b false) hs2 (b : Int)
    have hs3 : okT (filtS (fun x => !isA (b : Int) x) s2 4) := okT_filtS hs2 4
    have f3 : (filtS (fun x => !isA (b : Int) x) s2 4) (q4 (n : Int)) = [⟨(a : Int), (n : Int), markE E5 1 false, ((8192 + n * 8 : Nat) : Int)⟩] := by
      show (if q4 (n : Int) < 4 then _ else _) = _
      rw [if_pos (q4_lt _), f2]
      have h1 : ¬ (a : Int) = (b : Int) := by omega
      simp [isA, h1]
    conv => whnf
    refine Spec.row (t := 6) hfl rfl (fun _ => rfl) rfl rfl (ulen hs3 hs2 _) rfl (fun _ => rfl) rfl ?_
    generalize filtS (fun x => !isA (b : Int) x) s2 4 = s3 at hs3 f3
    conv => whnf
    refine Spec.fn (trans_ok s3 0 b false b4 t4 (n * 4096) 1 false hs3 (hT4).1 (by decide) (by omega)) [6, 0, 1] rfl rfl (fun _ => by rw [← a1]; rfl) rfl ⟨⟨by decide, rfl, rfl, _, rfl, fun _ => rfl, Nat.le_refl _, fun ρ => rowvl _ ρ, fun _ => rfl⟩, ⟨by decide, rfl, rfl, _, rfl, fun _ => rfl, Nat.le_refl _, fun _ => Nat.le_refl _, fun _ => rfl⟩, ⟨by decide, rfl, rfl, _, rfl, fun _ => rfl, Nat.le_refl _, fun ρ => rowvl _ ρ, fun _ => rfl⟩, trivial⟩ (fun y hy => ⟨trV_ok _ _ _ _, rfl, ⟨_, rfl, rfl, ulen2 hy.1 hs3 _⟩, ⟨_, rfl, rfl, rfl⟩, ⟨_, rfl, rfl, rlen _ _ _ _ _⟩, trivial⟩) (fun z hz => ?_)
    obtain ⟨z3, t6⟩ := z
    obtain ⟨hs4, htr⟩ := hz
    have hfj : (s3 (q4 (n : Int))).find? (isP (b : Int) (n : Int)) = none := by rw [f3]; rw [List.find?_cons, isP_other hab]; rfl
    obtain ⟨fl3, hf3, hy3⟩ := tr_miss (show n * 4096 < 274877906944 by omega) hni hfj hw4 (by kernel_rfl) htr
    obtain rfl : z3 = _ := hy3
    clear htr
    have f4 : (putS s3 ⟨(b : Int), (n : Int), markE M6 1 false, ((8192 + n * 8 : Nat) : Int)⟩) (q4 (n : Int)) = [⟨(a : Int), (n : Int), markE E5 1 false, ((8192 + n * 8 : Nat) : Int)⟩, ⟨(b : Int), (n : Int), markE M6 1 false, ((8192 + n * 8 : Nat) : Int)⟩] := by
      show fset s3 _ _ _ = _
      rw [fset_same, f3, List.filter_cons, isP_other hab]; rfl
    have hs4 : okT (putS s3 ⟨(b : Int), (n : Int), markE M6 1 false, ((8192 + n * 8 : Nat) : Int)⟩) := hs4
    have hb4 : okB (mkB b4 (8192 + n * 8) (markE M6 1 false) fl3) := by
      cases fl3
      · exact hT4.1
      · exact stB_ok hT4.1 _ _ _
    generalize mkB b4 (8192 + n * 8) (markE M6 1 false) fl3 = b5 at hb4
    generalize putS s3 ⟨(b : Int), (n : Int), markE M6 1 false, ((8192 + n * 8 : Nat) : Int)⟩ = s4 at f4 hs4
    have hfk : (s4 (q4 (n : Int))).find? (isP (a : Int) (n : Int)) = some ⟨(a : Int), (n : Int), markE E5 1 false, ((8192 + n * 8 : Nat) : Int)⟩ := by
      rw [f4, List.find?_cons, isP_same]
    have hne : decide ((a : Int) = (b : Int)) = false := decide_eq_false (by omega)
    conv => whnf
    refine .row (tlbC s4 (uR 0 a false)) [.int .u64 (a : Int)] 133 rfl (fun _ => rfl) rfl rfl rfl (by show 133 + 1 ≤ (tlbC s4 _).length; rw [tlbC_len hs4]; show 133 + 1 ≤ 132 + 3; omega) (uC_set hs4 0 b a false) ?_
    conv => whnf
    refine Spec.fn (trans_ok s4 0 a false b5 t6 (n * 4096) 1 false hs4 hb4 (by decide) (by omega)) [6, 0, 1] rfl rfl (fun _ => by rw [← a1]; rfl) rfl ⟨⟨by decide, rfl, rfl, _, rfl, fun _ => rfl, Nat.le_refl _, fun ρ => rowvl _ ρ, fun _ => rfl⟩, ⟨by decide, rfl, rfl, _, rfl, fun _ => rfl, Nat.le_refl _, fun _ => Nat.le_refl _, fun _ => rfl⟩, ⟨by decide, rfl, rfl, _, rfl, fun _ => rfl, Nat.le_refl _, fun ρ => rowvl _ ρ, fun _ => rfl⟩, trivial⟩ (fun y hy => ⟨trV_ok _ _ _ _, rfl, ⟨_, rfl, rfl, ulen2 hy.1 hs4 _⟩, ⟨_, rfl, rfl, rfl⟩, ⟨_, rfl, rfl, rlen _ _ _ _ _⟩, trivial⟩) (fun z hz => ?_)
    obtain ⟨z5, t8⟩ := z
    obtain ⟨hs5, htr⟩ := hz
    obtain rfl : z5 = _ := tr_hit (show n * 4096 < 274877906944 by omega) hni hfk (by kernel_rfl) (by kernel_rfl) htr
    repeat' ((try (conv => whnf)); first
      | refine IfL.t rfl ?_
      | refine IfL.f rfl ?_
      | refine Spec.pure one_ok rfl rfl (fun _ => rfl) ?_
      | refine IfL.t q6' ?_
      | refine IfL.t q6m ?_
      | refine VL.op (VL.eq tabOk ?_)
      | (refine IfL.t ?hx ?_; case hx => (rw [q5', hne]; rfl; done)))
    conv => whnf
    intro ρ
    rfl
end Go.Sh.Ytanljnpjkokmcaa
