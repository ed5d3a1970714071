import Derived.Test.YtanljnpjkokmcaaMuL
import Derived.Test.YtanljnpjkokmcaaMG
import Derived.Test.YtanljnpjkokmcaaEnt1
import Derived.Test.YtanljnpjkokmcaaMA
set_option linter.unusedVariables false
namespace Go.Sh.Ytanljnpjkokmcaa
open Go.Proofs Go.Sh

theorem nplc (a : Int) (b : Bool) : (!(decide (a = a) && b == b)) = false := by simp
theorem ndec (n : Int) : (!decide (n = n)) = false := by simp
theorem len_no {s s' : Nat → List Ln} {T : List Ent} {log : List (Nat × Nat)} {i : Nat} {R : List RL} (h : PInv s s' T log i) (hR : R = (preL s' 4).map toRL) : (!decide (((preL s 4).length : Int) = (R.length : Int))) = false := by
  rw [hR, List.length_map, h.len]; simp
set_option maxRecDepth 100000 in
set_option maxHeartbeats 1000000 in
theorem mplays_ok (A : List Act) (b0 : Bool) (c0 : Nat) (hA : A.length ≤ 9223372036854775807) (hg : ∀ a ∈ A, a.good) : Spec Try.prog 5 [.slz b0 0 0 A.length c0] [(0, .view (actsV A))] 1 fun v _ _ => ∀ ρ, v.val ρ = SV.tt.val ρ := by
  refine Spec.of_body tabOk Try.func5 rfl (ent Try.func5 rfl (by kernel_rfl)) Try.ntmps5 rfl (by kernel_rfl) (Nat.le_of_ble_eq_true rfl) ?_
  conv => whnf
  refine Spec.fn setup_ok [] rfl rfl (fun _ => rfl) rfl trivial (fun _ _ => ⟨rfl, rfl, trivial⟩) (fun y hy => ?_)
  obtain ⟨t, c3, c4⟩ := y
  obtain ⟨h3, h4⟩ := hy
  conv => whnf
  refine CodeL.ghost ?_
  refine CodeL.ghost ?_
  refine CodeL.loopN tabOk 14 (by decide) (fun x : PS => (PF A.length b0 c0 x, PH A x))
    (fun x => A.length - x.i) (PGood A.length) rfl (fun x => rfl) ⟨0, s0, s0, [], [], logL baseL, t, 0, false, (true, 0), (true, 0), c3, c4⟩ (PGood0 _ t h3 h4) (toL [(10, 3), (11, 4), (12, 8), (13, 9)]) (toL_low rfl) ⟨⟨⟨_, rfl, fun _ => rfl⟩, ⟨_, rfl, fun _ => rfl⟩, ⟨_, rfl, fun _ => rfl⟩, ⟨_, rfl, fun _ => rfl⟩, ⟨_, rfl, fun _ => rfl⟩, ⟨_, rfl, fun _ => rfl⟩, trivial⟩,
      Part.keys ⟨⟨by decide, rfl, rfl, _, rfl, fun _ => rfl, Nat.le_refl _, fun _ => Nat.le_refl _, id⟩, ⟨by decide, rfl, rfl, _, rfl, fun _ => rfl, Nat.le_refl _, fun _ => Nat.le_refl _, id⟩, ⟨by decide, rfl, rfl, _, rfl, fun _ => rfl, Nat.le_refl _, fun _ => Nat.le_refl _, id⟩, ⟨by decide, rfl, rfl, _, rfl, fun _ => rfl, Nat.le_refl _, fun _ => Nat.le_refl _, id⟩, ⟨by decide, rfl, rfl, _, rfl, fun ρ => u0_so 0 _ ρ, u0_len 0 false, fun ρ => rowvl _ ρ, fun _ => rfl⟩, ⟨by decide, rfl, rfl, _, rfl, fun _ => rfl, Nat.le_refl _, fun _ => Nat.le_refl _, id⟩, ⟨by decide, rfl, rfl, _, rfl, fun _ => rfl, Nat.le_refl _, fun _ => Nat.le_refl _, id⟩, ⟨by decide, rfl, rfl, _, rfl, fun _ => rfl, Nat.le_refl _, fun _ => Nat.le_refl _, id⟩, ⟨by decide, rfl, rfl, _, rfl, fun _ => rfl, Nat.le_refl _, fun _ => Nat.le_refl _, id⟩, ⟨by decide, rfl, rfl, _, rfl, fun _ => rfl, Nat.le_refl _, fun _ => Nat.le_refl _, id⟩, trivial⟩ rfl⟩ ?_
  rintro ⟨i, s, s', R, T, log, t, asid, gen, cl, ce, c3, c4⟩ hG
  obtain ⟨hi, h60, hI, hR, has, ol, oe, o3, o4⟩ := hG
  dsimp only at hi h60 hI hR has ol oe o3 o4
  have hs := hI.is
  have hRl : R.length = (preL s' 4).length := by rw [hR, List.length_map]
  have hLl := hI.len
  have hl8 : (preL s' 4).length ≤ 8 := preL_len hI.is'.len 4
  have hTl := hI.lt
  have hll := hI.ll
  dsimp only [PF, PH]
  conv => whnf
  refine ⟨fun h => ?_, fun h => ?_⟩
  · have h : i < A.length := by have := of_decide_eq_true h; omega
    obtain ⟨a, ha⟩ : ∃ a, A[i]? = some a := ⟨_, List.getElem?_eq_getElem h⟩
    obtain ⟨gva, gE⟩ := hg a (List.mem_of_getElem? ha)
    conv => whnf
    refine ⟨fun h6 => ?_, fun h6 => ?_⟩
    · have h6 : i < 60 := by have := of_decide_eq_true h6; omega
      have hi1 : ((i + 1 : Nat) : Int) = IntKind.wrap .i64 ((i : Int) + 1) := by rw [wrap_i64' _ (by omega) (by omega)]; omega
      conv => whnf
      refine .there i rfl (by omega) ?_
      conv => whnf
      refine .atN (actC a) (i * 18) (by show 0 + i * 18 = _; omega) (by show _ + 18 ≤ (actsV A).length; rw [actsV_len]; omega) (actsV_get ha) rfl ?_
      conv => whnf
      refine ⟨fun k0 => ?_, fun k0 => ?_⟩
      · conv => whnf
        refine Spec.fn (trans_ok s 0 asid gen (bL log) t a.va a.what a.tg hs.len (bL_ok hI.okl) (by decide) gva) [6, 1, 2] rfl rfl (fun _ => rfl) rfl ⟨⟨by decide, rfl, rfl, _, rfl, fun _ => rfl, Nat.le_refl _, fun _ => Nat.le_refl _, fun _ => rfl⟩, ⟨by decide, rfl, rfl, _, rfl, fun _ => rfl, Nat.le_refl _, fun _ => Nat.le_refl _, fun _ => rfl⟩, ⟨by decide, rfl, rfl, _, rfl, fun _ => rfl, Nat.le_refl _, fun _ => Nat.le_refl _, fun _ => rfl⟩, trivial⟩ (fun y hy => ⟨trV_ok _ _ _ _, rfl, ⟨_, rfl, rfl, ulen2 hy.1 hs.len _⟩, ⟨_, rfl, rfl, rfl⟩, ⟨_, rfl, rfl, rlen _ _ _ _ _⟩, trivial⟩) (fun z hz => ?_)
        obtain ⟨y, t'⟩ := z
        obtain ⟨ho, htr⟩ := hz
        have hy : y = _ := trR_out htr
        clear htr
        have hlt := LookT_of hI hR (asid : Int) ((a.va / 4096 : Nat) : Int)
        generalize ((s (q4 ((a.va / 4096 : Nat) : Int))).find? (isP (asid : Int) ((a.va / 4096 : Nat) : Int))).map Ln.e = o at hy hlt
        have hrt := reftrans_ok R T log cl ce c3 c4 0 asid a.va gen a.tg a.what o (by omega) (by omega) (by omega) hI.okl ol oe o3 o4 hlt (by decide) gva
        have hat : ∀ m p, outO a.va o (walkF (bL log) 8 0 a.va) a.what a.tg gen = .fills m p → p < 8 * 4096 := fun m p => outO_at
        generalize outO a.va o (walkF (bL log) 8 0 a.va) a.what a.tg gen = O at hy hrt hat
        rcases O with n1 | e1 | _ | ⟨m1, a1⟩ | ⟨m1, a1⟩
        · obtain rfl : y = (s, bL log, .error n1) := hy
          conv => whnf
          refine Spec.fn hrt [12, 13, 10, 11] rfl rfl (fun _ => rfl) rfl ⟨⟨by decide, rfl, rfl, _, rfl, fun _ => rfl, Nat.le_refl _, fun _ => Nat.le_refl _, fun h => (by cases h)⟩, ⟨by decide, rfl, rfl, _, rfl, fun _ => rfl, Nat.le_refl _, fun _ => Nat.le_refl _, fun h => (by cases h)⟩, ⟨by decide, rfl, rfl, _, rfl, fun _ => rfl, Nat.le_refl _, fun _ => Nat.le_refl _, fun h => (by cases h)⟩, ⟨by decide, rfl, rfl, _, rfl, fun _ => rfl, Nat.le_refl _, fun _ => Nat.le_refl _, fun h => (by cases h)⟩, trivial⟩ (fun x hx => ⟨TrX_ok .., TrX_rows .., TrX_cov ..⟩) (fun x hx => ?_)
          obtain ⟨hxo, hxg⟩ := hx
          rcases x with n2 | e2 | r | ⟨m2, a2, r, q⟩ | ⟨m2, a2, r, q, p1, p2⟩
          any_goals
            exfalso
            cases hxo
            done
          cases hxo
          conv => whnf
          refine VL.op (VL.eq tabOk ?_)
          repeat' ((try (conv => whnf)); first
            | refine Needs.mk (by kernel_rfl) ?_
            | refine Needs.mk ⟨rfl, by kernel_rfl⟩ ?_
            | refine IfL.f rfl ?_
            | refine IfL.f (ndec _) ?_
            | refine IfL.f (nplc _ _) ?_)
          conv => whnf
          refine CodeL.any tabOk Try.checked.mixed [(20, .cells [.slz cl.1 12 0 R.length cl.2, .slz ce.1 13 0 T.length ce.2, .int .u64 0, .int .u64 (asid : Int), .bool gen]), (21, .cells [.int .i64 8, .slz c3.1 10 0 log.length c3.2, .slz c4.1 11 0 log.length c4.2, .nilSlice])] (.take 0 (.take 1 (.alt 2 (.alt 3 (.fin) .stop) .stop))) (by kernel_rfl) rfl ⟨rfl, rfl, trivial⟩ rfl ?_
          repeat' ((try (conv => whnf)); first
            | refine Needs.mk ⟨rfl, rfl, trivial⟩ ?_
            | refine And.intro ?_ ?_)
          have hI2 := hI.next
          refine CodeL.any tabOk Try.checked.mixed [(7, .cells [.slz cl.1 12 0 R.length cl.2, .slz ce.1 13 0 T.length ce.2, .int .u64 0, .int .u64 (asid : Int), .bool gen])] (.take 0 (.take 3 (.take 4 (.take 5 (.alt 1 (.take 2 (.take 6 (.fin))) .stop))))) (by kernel_rfl) rfl ⟨rfl, trivial⟩ rfl ?_
          repeat' ((try (conv => whnf)); first
            | refine Spec.fn (lines_ok s (uR 0 asid gen) (hI2).is.len) [6] rfl rfl (fun _ => rfl) rfl ⟨⟨by decide, rfl, rfl, _, rfl, fun _ => rfl, Nat.le_refl _, fun _ => Nat.le_refl _, fun h => (by cases h)⟩, trivial⟩ (fun _ _ => ⟨rfl, rfl, rfl, trivial⟩) (fun _ _ => ?_)
            | refine Needs.mk ⟨rfl, trivial⟩ ?_
            | refine And.intro ?_ ?_
            | refine IfL.f (len_no hI2 hR) ?_
            | exact ⟨⟨i + 1, s, s', R, T, log, t', asid, gen, cl, ce, c3, c4⟩, toL [], ⟨by show i + 1 ≤ A.length; omega, by show i + 1 ≤ 60; omega, hI2, hR, has, ol, oe, o3, o4⟩, by show A.length - (i + 1) < A.length - i; omega, toL_low rfl, ⟨⟨_, rfl, fun _ => rfl⟩, ⟨_, rfl, fun _ => rfl⟩, ⟨_, rfl, fun _ => rfl⟩, ⟨_, rfl, fun _ => rfl⟩, ⟨_, rfl, fun _ => rfl⟩, ⟨_, rfl, fun _ => congrArg (fun x => Value.int .i64 x) hi1⟩, trivial⟩, Part.keys ⟨⟨by decide, rfl, rfl, _, rfl, fun _ => rfl, Nat.le_refl _, fun _ => Nat.le_refl _, id⟩, ⟨by decide, rfl, rfl, _, rfl, fun _ => rfl, Nat.le_refl _, fun _ => Nat.le_refl _, id⟩, ⟨by decide, rfl, rfl, _, rfl, fun _ => rfl, Nat.le_refl _, fun _ => Nat.le_refl _, id⟩, ⟨by decide, rfl, rfl, _, rfl, fun _ => rfl, Nat.le_refl _, fun _ => Nat.le_refl _, id⟩, ⟨by decide, rfl, rfl, _, rfl, fun _ => rfl, Nat.le_refl _, fun _ => Nat.le_refl _, id⟩, ⟨by decide, rfl, rfl, _, rfl, fun _ => rfl, Nat.le_refl _, fun _ => Nat.le_refl _, id⟩, ⟨by decide, rfl, rfl, _, rfl, fun _ => rfl, Nat.le_refl _, fun _ => Nat.le_refl _, id⟩, ⟨by decide, rfl, rfl, _, rfl, fun _ => rfl, Nat.le_refl _, fun _ => Nat.le_refl _, id⟩, ⟨by decide, rfl, rfl, _, rfl, fun _ => rfl, Nat.le_refl _, fun _ => Nat.le_refl _, id⟩, ⟨by decide, rfl, rfl, _, rfl, fun _ => rfl, Nat.le_refl _, fun _ => Nat.le_refl _, id⟩, trivial⟩ rfl⟩)
        · obtain rfl : y = (s, bL log, .ok e1) := hy
          conv => whnf
          refine Spec.fn hrt [12, 13, 10, 11] rfl rfl (fun _ => rfl) rfl ⟨⟨by decide, rfl, rfl, _, rfl, fun _ => rfl, Nat.le_refl _, fun _ => Nat.le_refl _, fun h => (by cases h)⟩, ⟨by decide, rfl, rfl, _, rfl, fun _ => rfl, Nat.le_refl _, fun _ => Nat.le_refl _, fun h => (by cases h)⟩, ⟨by decide, rfl, rfl, _, rfl, fun _ => rfl, Nat.le_refl _, fun _ => Nat.le_refl _, fun h => (by cases h)⟩, ⟨by decide, rfl, rfl, _, rfl, fun _ => rfl, Nat.le_refl _, fun _ => Nat.le_refl _, fun h => (by cases h)⟩, trivial⟩ (fun x hx => ⟨TrX_ok .., TrX_rows .., TrX_cov ..⟩) (fun x hx => ?_)
          obtain ⟨hxo, hxg⟩ := hx
          rcases x with n2 | e2 | r | ⟨m2, a2, r, q⟩ | ⟨m2, a2, r, q, p1, p2⟩
          any_goals
            exfalso
            cases hxo
            done
          cases hxo
          conv => whnf
          refine VL.op (VL.eq tabOk ?_)
          repeat' ((try (conv => whnf)); first
            | refine Needs.mk (by kernel_rfl) ?_
            | refine Needs.mk ⟨rfl, by kernel_rfl⟩ ?_
            | refine IfL.f rfl ?_
            | refine IfL.f (ndec _) ?_
            | refine IfL.f (nplc _ _) ?_)
          conv => whnf
          refine CodeL.any tabOk Try.checked.mixed [(20, .cells [.slz cl.1 12 0 R.length cl.2, .slz ce.1 13 0 T.length ce.2, .int .u64 0, .int .u64 (asid : Int), .bool gen]), (21, .cells [.int .i64 8, .slz c3.1 10 0 log.length c3.2, .slz c4.1 11 0 log.length c4.2, .nilSlice])] (.take 0 (.take 1 (.alt 2 (.alt 3 (.fin) .stop) .stop))) (by kernel_rfl) rfl ⟨rfl, rfl, trivial⟩ rfl ?_
          repeat' ((try (conv => whnf)); first
            | refine Needs.mk ⟨rfl, rfl, trivial⟩ ?_
            | refine And.intro ?_ ?_)
          have hI2 := hI.next
          refine CodeL.any tabOk Try.checked.mixed [(7, .cells [.slz cl.1 12 0 R.length cl.2, .slz ce.1 13 0 T.length ce.2, .int .u64 0, .int .u64 (asid : Int), .bool gen])] (.take 0 (.take 3 (.take 4 (.take 5 (.alt 1 (.take 2 (.take 6 (.fin))) .stop))))) (by kernel_rfl) rfl ⟨rfl, trivial⟩ rfl ?_
          repeat' ((try (conv => whnf)); first
            | refine Spec.fn (lines_ok s (uR 0 asid gen) (hI2).is.len) [6] rfl rfl (fun _ => rfl) rfl ⟨⟨by decide, rfl, rfl, _, rfl, fun _ => rfl, Nat.le_refl _, fun _ => Nat.le_refl _, fun h => (by cases h)⟩, trivial⟩ (fun _ _ => ⟨rfl, rfl, rfl, trivial⟩) (fun _ _ => ?_)
            | refine Needs.mk ⟨rfl, trivial⟩ ?_
            | refine And.intro ?_ ?_
            | refine IfL.f (len_no hI2 hR) ?_
            | exact ⟨⟨i + 1, s, s', R, T, log, t', asid, gen, cl, ce, c3, c4⟩, toL [], ⟨by show i + 1 ≤ A.length; omega, by show i + 1 ≤ 60; omega, hI2, hR, has, ol, oe, o3, o4⟩, by show A.length - (i + 1) < A.length - i; omega, toL_low rfl, ⟨⟨_, rfl, fun _ => rfl⟩, ⟨_, rfl, fun _ => rfl⟩, ⟨_, rfl, fun _ => rfl⟩, ⟨_, rfl, fun _ => rfl⟩, ⟨_, rfl, fun _ => rfl⟩, ⟨_, rfl, fun _ => congrArg (fun x => Value.int .i64 x) hi1⟩, trivial⟩, Part.keys ⟨⟨by decide, rfl, rfl, _, rfl, fun _ => rfl, Nat.le_refl _, fun _ => Nat.le_refl _, id⟩, ⟨by decide, rfl, rfl, _, rfl, fun _ => rfl, Nat.le_refl _, fun _ => Nat.le_refl _, id⟩, ⟨by decide, rfl, rfl, _, rfl, fun _ => rfl, Nat.le_refl _, fun _ => Nat.le_refl _, id⟩, ⟨by decide, rfl, rfl, _, rfl, fun _ => rfl, Nat.le_refl _, fun _ => Nat.le_refl _, id⟩, ⟨by decide, rfl, rfl, _, rfl, fun _ => rfl, Nat.le_refl _, fun _ => Nat.le_refl _, id⟩, ⟨by decide, rfl, rfl, _, rfl, fun _ => rfl, Nat.le_refl _, fun _ => Nat.le_refl _, id⟩, ⟨by decide, rfl, rfl, _, rfl, fun _ => rfl, Nat.le_refl _, fun _ => Nat.le_refl _, id⟩, ⟨by decide, rfl, rfl, _, rfl, fun _ => rfl, Nat.le_refl _, fun _ => Nat.le_refl _, id⟩, ⟨by decide, rfl, rfl, _, rfl, fun _ => rfl, Nat.le_refl _, fun _ => Nat.le_refl _, id⟩, ⟨by decide, rfl, rfl, _, rfl, fun _ => rfl, Nat.le_refl _, fun _ => Nat.le_refl _, id⟩, trivial⟩ rfl⟩)
        · obtain rfl : y = (dropS s (asid : Int) ((a.va / 4096 : Nat) : Int), bL log, .error 1) := hy
          conv => whnf
          refine Spec.fn hrt [12, 13, 10, 11] rfl rfl (fun _ => rfl) rfl ⟨⟨by decide, rfl, rfl, _, rfl, fun _ => rfl, Nat.le_refl _, fun _ => Nat.le_refl _, fun h => (by cases h)⟩, ⟨by decide, rfl, rfl, _, rfl, fun _ => rfl, Nat.le_refl _, fun _ => Nat.le_refl _, fun h => (by cases h)⟩, ⟨by decide, rfl, rfl, _, rfl, fun _ => rfl, Nat.le_refl _, fun _ => Nat.le_refl _, fun h => (by cases h)⟩, ⟨by decide, rfl, rfl, _, rfl, fun _ => rfl, Nat.le_refl _, fun _ => Nat.le_refl _, fun h => (by cases h)⟩, trivial⟩ (fun x hx => ⟨TrX_ok .., TrX_rows .., TrX_cov ..⟩) (fun x hx => ?_)
          obtain ⟨hxo, hxg⟩ := hx
          rcases x with n2 | e2 | r | ⟨m2, a2, r, q⟩ | ⟨m2, a2, r, q, p1, p2⟩
          any_goals
            exfalso
            cases hxo
            done
          cases hxo
          conv => whnf
          refine VL.op (VL.eq tabOk ?_)
          repeat' ((try (conv => whnf)); first
            | refine Needs.mk (by kernel_rfl) ?_
            | refine Needs.mk ⟨rfl, by kernel_rfl⟩ ?_
            | refine IfL.f rfl ?_
            | refine IfL.f (ndec _) ?_
            | refine IfL.f (nplc _ _) ?_)
          conv => whnf
          refine CodeL.any tabOk Try.checked.mixed [(20, .cells [.slz r.1 16 0 (dropR R asid a.va).length r.2, .slz ce.1 13 0 T.length ce.2, .int .u64 0, .int .u64 (asid : Int), .bool gen]), (21, .cells [.int .i64 8, .slz c3.1 10 0 log.length c3.2, .slz c4.1 11 0 log.length c4.2, .nilSlice])] (.take 0 (.take 1 (.alt 2 (.alt 3 (.fin) .stop) .stop))) (by kernel_rfl) rfl ⟨rfl, rfl, trivial⟩ rfl ?_
          repeat' ((try (conv => whnf)); first
            | refine Needs.mk ⟨rfl, rfl, trivial⟩ ?_
            | refine And.intro ?_ ?_)
          have hI2 := hI.dropP (asid : Int) ((a.va / 4096 : Nat) : Int)
          have hR2 := (dropS_preL hI.is' (asid : Int) ((a.va / 4096 : Nat) : Int)).symm
          rw [← hR] at hR2
          refine CodeL.any tabOk Try.checked.mixed [(7, .cells [.slz r.1 16 0 (dropR R asid a.va).length r.2, .slz ce.1 13 0 T.length ce.2, .int .u64 0, .int .u64 (asid : Int), .bool gen])] (.take 0 (.take 3 (.take 4 (.take 5 (.alt 1 (.take 2 (.take 6 (.fin))) .stop))))) (by kernel_rfl) rfl ⟨rfl, trivial⟩ rfl ?_
          repeat' ((try (conv => whnf)); first
            | refine Spec.fn (lines_ok (dropS s (asid : Int) ((a.va / 4096 : Nat) : Int)) (uR 0 asid gen) (hI2).is.len) [6] rfl rfl (fun _ => rfl) rfl ⟨⟨by decide, rfl, rfl, _, rfl, fun _ => rfl, Nat.le_refl _, fun _ => Nat.le_refl _, fun h => (by cases h)⟩, trivial⟩ (fun _ _ => ⟨rfl, rfl, rfl, trivial⟩) (fun _ _ => ?_)
            | refine Needs.mk ⟨rfl, trivial⟩ ?_
            | refine And.intro ?_ ?_
            | refine IfL.f (len_no hI2 hR2) ?_
            | exact ⟨⟨i + 1, _, _, dropR R asid a.va, T, log, t', asid, gen, r, ce, c3, c4⟩, toL [(12, 16)], ⟨by show i + 1 ≤ A.length; omega, by show i + 1 ≤ 60; omega, hI2, hR2, has, hxg, oe, o3, o4⟩, by show A.length - (i + 1) < A.length - i; omega, toL_low rfl, ⟨⟨_, rfl, fun _ => rfl⟩, ⟨_, rfl, fun _ => rfl⟩, ⟨_, rfl, fun _ => rfl⟩, ⟨_, rfl, fun _ => rfl⟩, ⟨_, rfl, fun _ => rfl⟩, ⟨_, rfl, fun _ => congrArg (fun x => Value.int .i64 x) hi1⟩, trivial⟩, Part.keys ⟨⟨by decide, rfl, rfl, _, rfl, fun _ => rfl, Nat.le_refl _, fun _ => Nat.le_refl _, id⟩, ⟨by decide, rfl, rfl, _, rfl, fun _ => rfl, Nat.le_refl _, fun _ => Nat.le_refl _, id⟩, ⟨by decide, rfl, rfl, _, rfl, fun _ => rfl, Nat.le_refl _, fun _ => Nat.le_refl _, id⟩, ⟨by decide, rfl, rfl, _, rfl, fun _ => rfl, Nat.le_refl _, fun _ => Nat.le_refl _, id⟩, ⟨by decide, rfl, rfl, _, rfl, fun _ => rfl, Nat.le_refl _, fun _ => Nat.le_refl _, id⟩, ⟨by decide, rfl, rfl, _, rfl, fun _ => rfl, Nat.le_refl _, fun _ => Nat.le_refl _, id⟩, ⟨by decide, rfl, rfl, _, rfl, fun _ => rfl, Nat.le_refl _, fun _ => Nat.le_refl _, id⟩, ⟨by decide, rfl, rfl, _, rfl, fun _ => rfl, Nat.le_refl _, fun _ => Nat.le_refl _, id⟩, ⟨by decide, rfl, rfl, _, rfl, fun _ => rfl, Nat.le_refl _, fun _ => Nat.le_refl _, id⟩, ⟨by decide, rfl, rfl, _, rfl, fun _ => rfl, Nat.le_refl _, fun _ => Nat.le_refl _, id⟩, trivial⟩ rfl⟩)
        · obtain rfl : y = (putS s ⟨(asid : Int), ((a.va / 4096 : Nat) : Int), m1, (a1 : Int)⟩, bL log, .ok m1) := hy
          conv => whnf
          refine Spec.fn hrt [12, 13, 10, 11] rfl rfl (fun _ => rfl) rfl ⟨⟨by decide, rfl, rfl, _, rfl, fun _ => rfl, Nat.le_refl _, fun _ => Nat.le_refl _, fun h => (by cases h)⟩, ⟨by decide, rfl, rfl, _, rfl, fun _ => rfl, Nat.le_refl _, fun _ => Nat.le_refl _, fun h => (by cases h)⟩, ⟨by decide, rfl, rfl, _, rfl, fun _ => rfl, Nat.le_refl _, fun _ => Nat.le_refl _, fun h => (by cases h)⟩, ⟨by decide, rfl, rfl, _, rfl, fun _ => rfl, Nat.le_refl _, fun _ => Nat.le_refl _, fun h => (by cases h)⟩, trivial⟩ (fun x hx => ⟨TrX_ok .., TrX_rows .., TrX_cov ..⟩) (fun x hx => ?_)
          obtain ⟨hxo, hxg⟩ := hx
          rcases x with n2 | e2 | r | ⟨m2, a2, r, q⟩ | ⟨m2, a2, r, q, p1, p2⟩
          any_goals
            exfalso
            cases hxo
            done
          cases hxo
          conv => whnf
          refine VL.op (VL.eq tabOk ?_)
          repeat' ((try (conv => whnf)); first
            | refine Needs.mk (by kernel_rfl) ?_
            | refine Needs.mk ⟨rfl, by kernel_rfl⟩ ?_
            | refine IfL.f rfl ?_
            | refine IfL.f (ndec _) ?_
            | refine IfL.f (nplc _ _) ?_)
          conv => whnf
          refine CodeL.any tabOk Try.checked.mixed [(20, .cells [.slz r.1 16 0 (fillR R T asid a.va).length r.2, .slz q.1 17 0 (T.length + 1) q.2, .int .u64 0, .int .u64 (asid : Int), .bool gen]), (21, .cells [.int .i64 8, .slz c3.1 10 0 log.length c3.2, .slz c4.1 11 0 log.length c4.2, .nilSlice])] (.take 0 (.take 1 (.alt 2 (.alt 3 (.fin) .stop) .stop))) (by kernel_rfl) rfl ⟨rfl, rfl, trivial⟩ rfl ?_
          repeat' ((try (conv => whnf)); first
            | refine Needs.mk ⟨rfl, rfl, trivial⟩ ?_
            | refine And.intro ?_ ?_)
          have hI2 := hI.fill (asid : Int) ((a.va / 4096 : Nat) : Int) (Int.natCast_nonneg _) m1 (a1 : Int)
          have hR2 := (putS_preL hI.is' ⟨(asid : Int), ((a.va / 4096 : Nat) : Int), m1, (T.length : Nat)⟩ (Int.natCast_nonneg _)).symm
          rw [← hR] at hR2
          have hT2 : (T ++ [m1]).length = T.length + 1 := by simp
          refine CodeL.any tabOk Try.checked.mixed [(7, .cells [.slz r.1 16 0 (fillR R T asid a.va).length r.2, .slz q.1 17 0 (T.length + 1) q.2, .int .u64 0, .int .u64 (asid : Int), .bool gen])] (.take 0 (.take 3 (.take 4 (.take 5 (.alt 1 (.take 2 (.take 6 (.fin))) .stop))))) (by kernel_rfl) rfl ⟨rfl, trivial⟩ rfl ?_
          repeat' ((try (conv => whnf)); first
            | refine Spec.fn (lines_ok (putS s ⟨(asid : Int), ((a.va / 4096 : Nat) : Int), m1, (a1 : Int)⟩) (uR 0 asid gen) (hI2).is.len) [6] rfl rfl (fun _ => rfl) rfl ⟨⟨by decide, rfl, rfl, _, rfl, fun _ => rfl, Nat.le_refl _, fun _ => Nat.le_refl _, fun h => (by cases h)⟩, trivial⟩ (fun _ _ => ⟨rfl, rfl, rfl, trivial⟩) (fun _ _ => ?_)
            | refine Needs.mk ⟨rfl, trivial⟩ ?_
            | refine And.intro ?_ ?_
            | refine IfL.f (len_no hI2 hR2) ?_
            | exact ⟨⟨i + 1, _, _, fillR R T asid a.va, T ++ [m1], log, t', asid, gen, r, q, c3, c4⟩, toL [(12, 16), (13, 17)], ⟨by show i + 1 ≤ A.length; omega, by show i + 1 ≤ 60; omega, hI2, hR2, has, hxg.1, (by rw [hT2]; exact hxg.2), o3, o4⟩, by show A.length - (i + 1) < A.length - i; omega, toL_low rfl, ⟨⟨_, rfl, fun _ => rfl⟩, ⟨_, rfl, fun _ => rfl⟩, ⟨_, rfl, fun _ => rfl⟩, ⟨_, rfl, fun _ => rfl⟩, ⟨_, rfl, fun _ => rfl⟩, ⟨_, rfl, fun _ => congrArg (fun x => Value.int .i64 x) hi1⟩, trivial⟩, Part.keys ⟨⟨by decide, rfl, rfl, _, rfl, fun _ => rfl, Nat.le_refl _, fun _ => Nat.le_refl _, id⟩, ⟨by decide, rfl, rfl, _, rfl, fun _ => rfl, Nat.le_refl _, fun _ => Nat.le_refl _, id⟩, ⟨by decide, rfl, rfl, _, rfl, fun _ => rfl, Nat.le_refl _, fun _ => Nat.le_refl _, id⟩, ⟨by decide, rfl, rfl, _, rfl, fun _ => rfl, Nat.le_refl _, fun _ => Nat.le_refl _, id⟩, ⟨by decide, rfl, rfl, _, rfl, fun _ => rfl, Nat.le_refl _, fun _ => Nat.le_refl _, id⟩, ⟨by decide, rfl, rfl, _, rfl, fun _ => (by rw [hT2]; rfl), Nat.le_refl _, fun _ => Nat.le_refl _, id⟩, ⟨by decide, rfl, rfl, _, rfl, fun _ => rfl, Nat.le_refl _, fun _ => Nat.le_refl _, id⟩, ⟨by decide, rfl, rfl, _, rfl, fun _ => rfl, Nat.le_refl _, fun _ => Nat.le_refl _, id⟩, ⟨by decide, rfl, rfl, _, rfl, fun _ => rfl, Nat.le_refl _, fun _ => Nat.le_refl _, id⟩, ⟨by decide, rfl, rfl, _, rfl, fun _ => rfl, Nat.le_refl _, fun _ => Nat.le_refl _, id⟩, trivial⟩ rfl⟩)
        · have hat := hat m1 a1 rfl
          have hy : y = (putS s ⟨(asid : Int), ((a.va / 4096 : Nat) : Int), m1, (a1 : Int)⟩, stB (bL log) a1 (entW m1) 8, .ok m1) := hy
          rw [← bL_st] at hy
          subst hy
          conv => whnf
          refine Spec.fn hrt [12, 13, 10, 11] rfl rfl (fun _ => rfl) rfl ⟨⟨by decide, rfl, rfl, _, rfl, fun _ => rfl, Nat.le_refl _, fun _ => Nat.le_refl _, fun h => (by cases h)⟩, ⟨by decide, rfl, rfl, _, rfl, fun _ => rfl, Nat.le_refl _, fun _ => Nat.le_refl _, fun h => (by cases h)⟩, ⟨by decide, rfl, rfl, _, rfl, fun _ => rfl, Nat.le_refl _, fun _ => Nat.le_refl _, fun h => (by cases h)⟩, ⟨by decide, rfl, rfl, _, rfl, fun _ => rfl, Nat.le_refl _, fun _ => Nat.le_refl _, fun h => (by cases h)⟩, trivial⟩ (fun x hx => ⟨TrX_ok .., TrX_rows .., TrX_cov ..⟩) (fun x hx => ?_)
          obtain ⟨hxo, hxg⟩ := hx
          rcases x with n2 | e2 | r | ⟨m2, a2, r, q⟩ | ⟨m2, a2, r, q, p1, p2⟩
          any_goals
            exfalso
            cases hxo
            done
          cases hxo
          conv => whnf
          refine VL.op (VL.eq tabOk ?_)
          repeat' ((try (conv => whnf)); first
            | refine Needs.mk (by kernel_rfl) ?_
            | refine Needs.mk ⟨rfl, by kernel_rfl⟩ ?_
            | refine IfL.f rfl ?_
            | refine IfL.f (ndec _) ?_
            | refine IfL.f (nplc _ _) ?_)
          conv => whnf
          refine CodeL.any tabOk Try.checked.mixed [(20, .cells [.slz r.1 16 0 (fillR R T asid a.va).length r.2, .slz q.1 17 0 (T.length + 1) q.2, .int .u64 0, .int .u64 (asid : Int), .bool gen]), (21, .cells [.int .i64 8, .slz p1.1 18 0 (log.length + 8) p1.2, .slz p2.1 19 0 (log.length + 8) p2.2, .nilSlice])] (.take 0 (.take 1 (.alt 2 (.alt 3 (.fin) .stop) .stop))) (by kernel_rfl) rfl ⟨rfl, rfl, trivial⟩ rfl ?_
          repeat' ((try (conv => whnf)); first
            | refine Needs.mk ⟨rfl, rfl, trivial⟩ ?_
            | refine And.intro ?_ ?_)
          have hI2 := hI.fillst (asid : Int) ((a.va / 4096 : Nat) : Int) (Int.natCast_nonneg _) m1 (a1 : Int) (p := a1) (v := entW m1) (by omega)
          have hR2 := (putS_preL hI.is' ⟨(asid : Int), ((a.va / 4096 : Nat) : Int), m1, (T.length : Nat)⟩ (Int.natCast_nonneg _)).symm
          rw [← hR] at hR2
          have hT2 : (T ++ [m1]).length = T.length + 1 := by simp
          have hl2 := stoL_len log m1 a1
          obtain ⟨g1, g2, g3, g4⟩ := hxg
          rw [← hl2] at g3 g4
          refine CodeL.any tabOk Try.checked.mixed [(7, .cells [.slz r.1 16 0 (fillR R T asid a.va).length r.2, .slz q.1 17 0 (T.length + 1) q.2, .int .u64 0, .int .u64 (asid : Int), .bool gen])] (.take 0 (.take 3 (.take 4 (.take 5 (.alt 1 (.take 2 (.take 6 (.fin))) .stop))))) (by kernel_rfl) rfl ⟨rfl, trivial⟩ rfl ?_
          repeat' ((try (conv => whnf)); first
            | refine Spec.fn (lines_ok (putS s ⟨(asid : Int), ((a.va / 4096 : Nat) : Int), m1, (a1 : Int)⟩) (uR 0 asid gen) (hI2).is.len) [6] rfl rfl (fun _ => rfl) rfl ⟨⟨by decide, rfl, rfl, _, rfl, fun _ => rfl, Nat.le_refl _, fun _ => Nat.le_refl _, fun h => (by cases h)⟩, trivial⟩ (fun _ _ => ⟨rfl, rfl, rfl, trivial⟩) (fun _ _ => ?_)
            | refine Needs.mk ⟨rfl, trivial⟩ ?_
            | refine And.intro ?_ ?_
            | refine IfL.f (len_no hI2 hR2) ?_
            | exact ⟨⟨i + 1, _, _, fillR R T asid a.va, T ++ [m1], stoL log m1 a1, t', asid, gen, r, q, p1, p2⟩, toL [(12, 16), (13, 17), (10, 18), (11, 19)], ⟨by show i + 1 ≤ A.length; omega, by show i + 1 ≤ 60; omega, hI2, hR2, has, g1, (by rw [hT2]; exact g2), g3, g4⟩, by show A.length - (i + 1) < A.length - i; omega, toL_low rfl, ⟨⟨_, rfl, fun _ => rfl⟩, ⟨_, rfl, fun _ => rfl⟩, ⟨_, rfl, fun _ => rfl⟩, ⟨_, rfl, fun _ => rfl⟩, ⟨_, rfl, fun _ => rfl⟩, ⟨_, rfl, fun _ => congrArg (fun x => Value.int .i64 x) hi1⟩, trivial⟩, Part.keys ⟨⟨by decide, rfl, rfl, _, rfl, fun _ => rfl, Nat.le_refl _, fun _ => Nat.le_refl _, id⟩, ⟨by decide, rfl, rfl, _, rfl, fun _ => rfl, Nat.le_refl _, fun _ => Nat.le_refl _, id⟩, ⟨by decide, rfl, rfl, _, rfl, fun _ => rfl, Nat.le_refl _, fun _ => Nat.le_refl _, id⟩, ⟨by decide, rfl, rfl, _, rfl, fun _ => (by rw [hl2]; rfl), Nat.le_refl _, fun _ => Nat.le_refl _, id⟩, ⟨by decide, rfl, rfl, _, rfl, fun _ => rfl, Nat.le_refl _, fun _ => Nat.le_refl _, id⟩, ⟨by decide, rfl, rfl, _, rfl, fun _ => (by rw [hT2]; rfl), Nat.le_refl _, fun _ => Nat.le_refl _, id⟩, ⟨by decide, rfl, rfl, _, rfl, fun _ => rfl, Nat.le_refl _, fun _ => Nat.le_refl _, id⟩, ⟨by decide, rfl, rfl, _, rfl, fun _ => rfl, Nat.le_refl _, fun _ => Nat.le_refl _, id⟩, ⟨by decide, rfl, rfl, _, rfl, fun _ => rfl, Nat.le_refl _, fun _ => Nat.le_refl _, id⟩, ⟨by decide, rfl, rfl, _, rfl, fun _ => rfl, Nat.le_refl _, fun _ => Nat.le_refl _, id⟩, trivial⟩ rfl⟩)
      conv => whnf
      refine ⟨fun k1 => ?_, fun k1 => ?_⟩
      · have hp1 := plainG_ok s 0 asid gen (bL log) t a.va a.what a.tg hs.len (bL_ok hI.okl) (by decide) gva
        have hp2 := refplain_ok log R.length T.length cl.1 ce.1 c3.1 c4.1 cl.2 ce.2 c3.2 c4.2 0 asid a.va a.what a.tg gen (by omega) hI.okl o3 o4 (by decide) gva
        generalize plO a.what a.tg gen (walkF (bL log) 8 0 a.va) = Q at hp1 hp2
        have hI2 := hI.next
        rcases Q with n1 | e1
        all_goals
          conv => whnf
          refine Spec.fn hp1 [6, 1, 2] rfl rfl (fun _ => rfl) rfl ⟨⟨by decide, rfl, rfl, _, rfl, fun _ => rfl, Nat.le_refl _, fun _ => Nat.le_refl _, fun h => (by cases h)⟩, ⟨by decide, rfl, rfl, _, rfl, fun _ => rfl, Nat.le_refl _, fun _ => Nat.le_refl _, fun _ => rfl⟩, ⟨by decide, rfl, rfl, _, rfl, fun _ => rfl, Nat.le_refl _, fun _ => Nat.le_refl _, fun h => (by cases h)⟩, trivial⟩ (fun _ _ => ⟨rfl, rfl, rfl, ⟨_, rfl, rfl, rfl⟩, rfl, trivial⟩) (fun _ _ => ?_)
          conv => whnf
          refine Spec.fn (Fun.read hp2 rfl) [12, 13, 10, 11] rfl rfl (fun _ => rfl) rfl ⟨⟨by decide, rfl, rfl, _, rfl, fun _ => rfl, Nat.le_refl _, fun _ => Nat.le_refl _, fun h => (by cases h)⟩, ⟨by decide, rfl, rfl, _, rfl, fun _ => rfl, Nat.le_refl _, fun _ => Nat.le_refl _, fun h => (by cases h)⟩, trivial⟩ (fun _ _ => ⟨rfl, rfl, rfl, rfl, trivial⟩) (fun _ _ => ?_)
          conv => whnf
          refine VL.op (VL.eq tabOk ?_)
          repeat' ((try (conv => whnf)); first
            | refine Needs.mk (by kernel_rfl) ?_
            | refine Needs.mk ⟨rfl, by kernel_rfl⟩ ?_
            | refine IfL.f rfl ?_
            | refine IfL.f (ndec _) ?_
            | refine IfL.f (nplc _ _) ?_)
          conv => whnf
          refine CodeL.any tabOk Try.checked.mixed [(7, .cells [.slz cl.1 12 0 R.length cl.2, .slz ce.1 13 0 T.length ce.2, .int .u64 0, .int .u64 (asid : Int), .bool gen])] (.take 0 (.take 3 (.take 4 (.take 5 (.alt 1 (.take 2 (.take 6 (.fin))) .stop))))) (by kernel_rfl) rfl ⟨rfl, trivial⟩ rfl ?_
          repeat' ((try (conv => whnf)); first
            | refine Spec.fn (lines_ok s (uR 0 asid gen) (hI2).is.len) [6] rfl rfl (fun _ => rfl) rfl ⟨⟨by decide, rfl, rfl, _, rfl, fun _ => rfl, Nat.le_refl _, fun _ => Nat.le_refl _, fun h => (by cases h)⟩, trivial⟩ (fun _ _ => ⟨rfl, rfl, rfl, trivial⟩) (fun _ _ => ?_)
            | refine Needs.mk ⟨rfl, trivial⟩ ?_
            | refine And.intro ?_ ?_
            | refine IfL.f (len_no hI2 hR) ?_
            | exact ⟨⟨i + 1, s, s', R, T, log, t, asid, gen, cl, ce, c3, c4⟩, toL [], ⟨by show i + 1 ≤ A.length; omega, by show i + 1 ≤ 60; omega, hI2, hR, has, ol, oe, o3, o4⟩, by show A.length - (i + 1) < A.length - i; omega, toL_low rfl, ⟨⟨_, rfl, fun _ => rfl⟩, ⟨_, rfl, fun _ => rfl⟩, ⟨_, rfl, fun _ => rfl⟩, ⟨_, rfl, fun _ => rfl⟩, ⟨_, rfl, fun _ => rfl⟩, ⟨_, rfl, fun _ => congrArg (fun x => Value.int .i64 x) hi1⟩, trivial⟩, Part.keys ⟨⟨by decide, rfl, rfl, _, rfl, fun _ => rfl, Nat.le_refl _, fun _ => Nat.le_refl _, id⟩, ⟨by decide, rfl, rfl, _, rfl, fun _ => rfl, Nat.le_refl _, fun _ => Nat.le_refl _, id⟩, ⟨by decide, rfl, rfl, _, rfl, fun _ => rfl, Nat.le_refl _, fun _ => Nat.le_refl _, id⟩, ⟨by decide, rfl, rfl, _, rfl, fun _ => rfl, Nat.le_refl _, fun _ => Nat.le_refl _, id⟩, ⟨by decide, rfl, rfl, _, rfl, fun _ => rfl, Nat.le_refl _, fun _ => Nat.le_refl _, id⟩, ⟨by decide, rfl, rfl, _, rfl, fun _ => rfl, Nat.le_refl _, fun _ => Nat.le_refl _, id⟩, ⟨by decide, rfl, rfl, _, rfl, fun _ => rfl, Nat.le_refl _, fun _ => Nat.le_refl _, id⟩, ⟨by decide, rfl, rfl, _, rfl, fun _ => rfl, Nat.le_refl _, fun _ => Nat.le_refl _, id⟩, ⟨by decide, rfl, rfl, _, rfl, fun _ => rfl, Nat.le_refl _, fun _ => Nat.le_refl _, id⟩, ⟨by decide, rfl, rfl, _, rfl, fun _ => rfl, Nat.le_refl _, fun _ => Nat.le_refl _, id⟩, trivial⟩ rfl⟩)
      conv => whnf
      refine ⟨fun k2 => ?_, fun k2 => ?_⟩
      · have e15 : band .and .i64 a.n 15 = ((a.n % (16 : Nat)).toNat : Int) := band_mask a.n 4 (by decide)
        have hn := mod_lt' a.n (m := 16) (by decide)
        conv => whnf
        rw [e15]
        generalize (a.n % (16 : Nat)).toNat = n at hn
        clear e15
        have a3 : IntKind.wrap .u64 (8192 + IntKind.wrap .u64 (8 * IntKind.wrap .u64 (n : Int))) = ((8192 + n * 8 : Nat) : Int) := by
          rw [wrapn n (by omega), show (8 : Int) * (n : Int) = ((n * 8 : Nat) : Int) by omega, wrapn (n * 8) (by omega), show (8192 : Int) + ((n * 8 : Nat) : Int) = ((8192 + n * 8 : Nat) : Int) by omega, wrapn _ (by omega)]
        rw [a3]
        refine Spec.pure (word_ok a.e gE) rfl rfl (fun _ => rfl) ?_
        conv => whnf
        refine Spec.fn (store_ok 8 (bL log) t (8192 + n * 8) 8 (entW a.e) (entW_lt _) (.inr (.inr (.inr rfl))) (by omega) (by decide) (by omega)) [1, 2] rfl rfl (fun _ => rfl) rfl ⟨⟨by decide, rfl, rfl, _, rfl, fun _ => rfl, Nat.le_refl _, fun _ => Nat.le_refl _, fun _ => rfl⟩, ⟨by decide, rfl, rfl, _, rfl, fun _ => rfl, Nat.le_refl _, fun _ => Nat.le_refl _, fun _ => rfl⟩, trivial⟩ (fun _ _ => ⟨rfl, rfl, ⟨_, rfl, rfl, rfl⟩, ⟨_, rfl, rfl, rlen _ _ _ _ _⟩, trivial⟩) (fun _ _ => ?_)
        rw [← bL_st]
        have hI2 := hI.store (a := 8192 + n * 8) (v := entW a.e) (by omega)
        have hl2 : (log ++ stL (8192 + n * 8) (entW a.e) 8).length = log.length + 8 := by rw [List.length_append, stL_len]
        conv => whnf
        refine CodeL.any tabOk Try.checked.mixed [(14, .cells (actC a))] (.take 1 (.take 2 (.take 3 (.alt 0 (.alt 4 (.alt 5 (.take 6 (.take 7 (.take 8 (.alt 9 (.fin) .stop)))) .stop) .stop) (.alt 4 (.alt 0 (.alt 5 (.take 6 (.take 7 (.take 8 (.alt 9 (.fin) .stop)))) .stop) .stop) .stop))))) (by kernel_rfl) rfl ⟨rfl, trivial⟩ rfl ?_
        repeat' ((try (conv => whnf)); first
          | refine Spec.pure (refword_ok a.e gE) rfl rfl (fun _ => rfl) ?_
          | refine Spec.fn (refstore_ok 8 log c3.1 c4.1 c3.2 c4.2 (8192 + n * 8) (entW a.e) (by decide) (by omega) o3 o4 (by omega) (by omega) (entW_lt _)) [10, 11] rfl rfl (fun _ => rfl) rfl ⟨⟨by decide, rfl, rfl, _, rfl, fun _ => rfl, Nat.le_refl _, fun _ => Nat.le_refl _, fun h => (by cases h)⟩, ⟨by decide, rfl, rfl, _, rfl, fun _ => rfl, Nat.le_refl _, fun _ => Nat.le_refl _, fun h => (by cases h)⟩, trivial⟩ (fun _ _ => ⟨rfl, rfl, rfl, rfl, trivial⟩) (fun y hy => ?_)
          | refine Needs.mk ⟨rfl, trivial⟩ ?_
          | refine And.intro ?_ ?_)
        all_goals
          obtain ⟨g3, g4⟩ := hy
          rw [← hl2] at g3 g4
          refine CodeL.any tabOk Try.checked.mixed [(7, .cells [.slz cl.1 12 0 R.length cl.2, .slz ce.1 13 0 T.length ce.2, .int .u64 0, .int .u64 (asid : Int), .bool gen])] (.take 0 (.take 3 (.take 4 (.take 5 (.alt 1 (.take 2 (.take 6 (.fin))) .stop))))) (by kernel_rfl) rfl ⟨rfl, trivial⟩ rfl ?_
          repeat' ((try (conv => whnf)); first
            | refine Spec.fn (lines_ok s (uR 0 asid gen) (hI2).is.len) [6] rfl rfl (fun _ => rfl) rfl ⟨⟨by decide, rfl, rfl, _, rfl, fun _ => rfl, Nat.le_refl _, fun _ => Nat.le_refl _, fun h => (by cases h)⟩, trivial⟩ (fun _ _ => ⟨rfl, rfl, rfl, trivial⟩) (fun _ _ => ?_)
            | refine Needs.mk ⟨rfl, trivial⟩ ?_
            | refine And.intro ?_ ?_
            | refine IfL.f (len_no hI2 hR) ?_
            | exact ⟨⟨i + 1, s, s', R, T, log ++ stL (8192 + n * 8) (entW a.e) 8, _, asid, gen, cl, ce, y.1, y.2⟩, toL [(10, 15), (11, 16)], ⟨by show i + 1 ≤ A.length; omega, by show i + 1 ≤ 60; omega, hI2, hR, has, ol, oe, g3, g4⟩, by show A.length - (i + 1) < A.length - i; omega, toL_low rfl, ⟨⟨_, rfl, fun _ => rfl⟩, ⟨_, rfl, fun _ => rfl⟩, ⟨_, rfl, fun _ => rfl⟩, ⟨_, rfl, fun _ => rfl⟩, ⟨_, rfl, fun _ => rfl⟩, ⟨_, rfl, fun _ => congrArg (fun x => Value.int .i64 x) hi1⟩, trivial⟩, Part.keys ⟨⟨by decide, rfl, rfl, _, rfl, fun _ => rfl, Nat.le_refl _, fun _ => Nat.le_refl _, id⟩, ⟨by decide, rfl, rfl, _, rfl, fun _ => rfl, Nat.le_refl _, fun _ => Nat.le_refl _, id⟩, ⟨by decide, rfl, rfl, _, rfl, fun _ => rfl, Nat.le_refl _, fun _ => Nat.le_refl _, id⟩, ⟨by decide, rfl, rfl, _, rfl, fun _ => (by rw [hl2]; rfl), Nat.le_refl _, fun _ => Nat.le_refl _, id⟩, ⟨by decide, rfl, rfl, _, rfl, fun _ => rfl, Nat.le_refl _, fun _ => Nat.le_refl _, id⟩, ⟨by decide, rfl, rfl, _, rfl, fun _ => rfl, Nat.le_refl _, fun _ => Nat.le_refl _, id⟩, ⟨by decide, rfl, rfl, _, rfl, fun _ => rfl, Nat.le_refl _, fun _ => Nat.le_refl _, id⟩, ⟨by decide, rfl, rfl, _, rfl, fun _ => rfl, Nat.le_refl _, fun _ => Nat.le_refl _, id⟩, ⟨by decide, rfl, rfl, _, rfl, fun _ => rfl, Nat.le_refl _, fun _ => Nat.le_refl _, id⟩, ⟨by decide, rfl, rfl, _, rfl, fun _ => rfl, Nat.le_refl _, fun _ => Nat.le_refl _, id⟩, trivial⟩ rfl⟩)
      have hq : IntKind.wrap .u64 ((a.va : Int).tdiv 4096) = ((a.va / 4096 : Nat) : Int) := quo_nat a.va 4096 gva
      conv => whnf
      refine ⟨fun k3 => ?_, fun k3 => ?_⟩
      · conv => whnf
        refine .at1 (.int .u64 (asid : Int)) 133 rfl (uC_asid hs.len 0 asid gen) rfl ?_
        conv => whnf
        rw [hq]
        refine Spec.row (t := 6) (drop_ok s (uR 0 asid gen) hs.len (asid : Int) ((a.va / 4096 : Nat) : Int) (Int.natCast_nonneg _)) rfl (fun _ => rfl) rfl rfl (ulen (hI.dropP _ _).is.len hs.len _) rfl (fun _ => rfl) rfl ?_
        conv => whnf
        rw [hq]
        refine Spec.fn (refdrop_ok R cl.1 cl.2 (asid : Int) ((a.va / 4096 : Nat) : Int) (by omega)) [12] rfl rfl (fun _ => rfl) rfl ⟨⟨by decide, rfl, rfl, _, rfl, fun _ => rfl, Nat.le_refl _, fun _ => Nat.le_refl _, fun h => (by cases h)⟩, trivial⟩ (fun _ _ => ⟨rfl, rfl, rfl, trivial⟩) (fun r hxg => ?_)
        conv => whnf
        have hI2 := hI.dropP (asid : Int) ((a.va / 4096 : Nat) : Int)
        have hR2 := (dropS_preL hI.is' (asid : Int) ((a.va / 4096 : Nat) : Int)).symm
        rw [← hR] at hR2
        refine CodeL.any tabOk Try.checked.mixed [(7, .cells [.slz r.1 15 0 (dropR R asid a.va).length r.2, .slz ce.1 13 0 T.length ce.2, .int .u64 0, .int .u64 (asid : Int), .bool gen])] (.take 0 (.take 3 (.take 4 (.take 5 (.alt 1 (.take 2 (.take 6 (.fin))) .stop))))) (by kernel_rfl) rfl ⟨rfl, trivial⟩ rfl ?_
        repeat' ((try (conv => whnf)); first
          | refine Spec.fn (lines_ok (dropS s (asid : Int) ((a.va / 4096 : Nat) : Int)) (uR 0 asid gen) (hI2).is.len) [6] rfl rfl (fun _ => rfl) rfl ⟨⟨by decide, rfl, rfl, _, rfl, fun _ => rfl, Nat.le_refl _, fun _ => Nat.le_refl _, fun h => (by cases h)⟩, trivial⟩ (fun _ _ => ⟨rfl, rfl, rfl, trivial⟩) (fun _ _ => ?_)
          | refine Needs.mk ⟨rfl, trivial⟩ ?_
          | refine And.intro ?_ ?_
          | refine IfL.f (len_no hI2 hR2) ?_
          | exact ⟨⟨i + 1, _, _, dropR R asid a.va, T, log, t, asid, gen, r, ce, c3, c4⟩, toL [(12, 15)], ⟨by show i + 1 ≤ A.length; omega, by show i + 1 ≤ 60; omega, hI2, hR2, has, hxg, oe, o3, o4⟩, by show A.length - (i + 1) < A.length - i; omega, toL_low rfl, ⟨⟨_, rfl, fun _ => rfl⟩, ⟨_, rfl, fun _ => rfl⟩, ⟨_, rfl, fun _ => rfl⟩, ⟨_, rfl, fun _ => rfl⟩, ⟨_, rfl, fun _ => rfl⟩, ⟨_, rfl, fun _ => congrArg (fun x => Value.int .i64 x) hi1⟩, trivial⟩, Part.keys ⟨⟨by decide, rfl, rfl, _, rfl, fun _ => rfl, Nat.le_refl _, fun _ => Nat.le_refl _, id⟩, ⟨by decide, rfl, rfl, _, rfl, fun _ => rfl, Nat.le_refl _, fun _ => Nat.le_refl _, id⟩, ⟨by decide, rfl, rfl, _, rfl, fun _ => rfl, Nat.le_refl _, fun _ => Nat.le_refl _, id⟩, ⟨by decide, rfl, rfl, _, rfl, fun _ => rfl, Nat.le_refl _, fun _ => Nat.le_refl _, id⟩, ⟨by decide, rfl, rfl, _, rfl, fun _ => rfl, Nat.le_refl _, fun _ => Nat.le_refl _, id⟩, ⟨by decide, rfl, rfl, _, rfl, fun _ => rfl, Nat.le_refl _, fun _ => Nat.le_refl _, id⟩, ⟨by decide, rfl, rfl, _, rfl, fun _ => rfl, Nat.le_refl _, fun _ => Nat.le_refl _, id⟩, ⟨by decide, rfl, rfl, _, rfl, fun _ => rfl, Nat.le_refl _, fun _ => Nat.le_refl _, id⟩, ⟨by decide, rfl, rfl, _, rfl, fun _ => rfl, Nat.le_refl _, fun _ => Nat.le_refl _, id⟩, ⟨by decide, rfl, rfl, _, rfl, fun _ => rfl, Nat.le_refl _, fun _ => Nat.le_refl _, id⟩, trivial⟩ rfl⟩)
      conv => whnf
      refine ⟨fun k4 => ?_, fun k4 => ?_⟩
      · have hI2 := hI.filtS (fun x => !isA (IntKind.wrap .u64 a.n) x) (fun x y g => by show (!isA _ x) = (!isA _ y); rw [isA_rel g])
        have hR2 := (flushS_preL s' (IntKind.wrap .u64 a.n)).symm
        rw [← hR] at hR2
        conv => whnf
        refine Spec.row (t := 6) (flush_ok s (uR 0 asid gen) hs.len (IntKind.wrap .u64 a.n)) rfl (fun _ => rfl) rfl rfl (ulen hI2.is.len hs.len _) rfl (fun _ => rfl) rfl ?_
        conv => whnf
        refine Spec.fn (refflush_ok R cl.1 cl.2 (IntKind.wrap .u64 a.n) (by omega)) [12] rfl rfl (fun _ => rfl) rfl ⟨⟨by decide, rfl, rfl, _, rfl, fun _ => rfl, Nat.le_refl _, fun _ => Nat.le_refl _, fun h => (by cases h)⟩, trivial⟩ (fun _ _ => ⟨rfl, rfl, rfl, trivial⟩) (fun r hxg => ?_)
        conv => whnf
        refine CodeL.any tabOk Try.checked.mixed [(7, .cells [.slz r.1 15 0 (R.filter (keepA (IntKind.wrap .u64 a.n))).length r.2, .slz ce.1 13 0 T.length ce.2, .int .u64 0, .int .u64 (asid : Int), .bool gen])] (.take 0 (.take 3 (.take 4 (.take 5 (.alt 1 (.take 2 (.take 6 (.fin))) .stop))))) (by kernel_rfl) rfl ⟨rfl, trivial⟩ rfl ?_
        repeat' ((try (conv => whnf)); first
          | refine Spec.fn (lines_ok _ (uR 0 asid gen) (hI2).is.len) [6] rfl rfl (fun _ => rfl) rfl ⟨⟨by decide, rfl, rfl, _, rfl, fun _ => rfl, Nat.le_refl _, fun _ => Nat.le_refl _, fun h => (by cases h)⟩, trivial⟩ (fun _ _ => ⟨rfl, rfl, rfl, trivial⟩) (fun _ _ => ?_)
          | refine Needs.mk ⟨rfl, trivial⟩ ?_
          | refine And.intro ?_ ?_
          | refine IfL.f (len_no hI2 hR2) ?_
          | exact ⟨⟨i + 1, _, _, R.filter (keepA (IntKind.wrap .u64 a.n)), T, log, t, asid, gen, r, ce, c3, c4⟩, toL [(12, 15)], ⟨by show i + 1 ≤ A.length; omega, by show i + 1 ≤ 60; omega, hI2, hR2, has, hxg, oe, o3, o4⟩, by show A.length - (i + 1) < A.length - i; omega, toL_low rfl, ⟨⟨_, rfl, fun _ => rfl⟩, ⟨_, rfl, fun _ => rfl⟩, ⟨_, rfl, fun _ => rfl⟩, ⟨_, rfl, fun _ => rfl⟩, ⟨_, rfl, fun _ => rfl⟩, ⟨_, rfl, fun _ => congrArg (fun x => Value.int .i64 x) hi1⟩, trivial⟩, Part.keys ⟨⟨by decide, rfl, rfl, _, rfl, fun _ => rfl, Nat.le_refl _, fun _ => Nat.le_refl _, id⟩, ⟨by decide, rfl, rfl, _, rfl, fun _ => rfl, Nat.le_refl _, fun _ => Nat.le_refl _, id⟩, ⟨by decide, rfl, rfl, _, rfl, fun _ => rfl, Nat.le_refl _, fun _ => Nat.le_refl _, id⟩, ⟨by decide, rfl, rfl, _, rfl, fun _ => rfl, Nat.le_refl _, fun _ => Nat.le_refl _, id⟩, ⟨by decide, rfl, rfl, _, rfl, fun _ => rfl, Nat.le_refl _, fun _ => Nat.le_refl _, id⟩, ⟨by decide, rfl, rfl, _, rfl, fun _ => rfl, Nat.le_refl _, fun _ => Nat.le_refl _, id⟩, ⟨by decide, rfl, rfl, _, rfl, fun _ => rfl, Nat.le_refl _, fun _ => Nat.le_refl _, id⟩, ⟨by decide, rfl, rfl, _, rfl, fun _ => rfl, Nat.le_refl _, fun _ => Nat.le_refl _, id⟩, ⟨by decide, rfl, rfl, _, rfl, fun _ => rfl, Nat.le_refl _, fun _ => Nat.le_refl _, id⟩, ⟨by decide, rfl, rfl, _, rfl, fun _ => rfl, Nat.le_refl _, fun _ => Nat.le_refl _, id⟩, trivial⟩ rfl⟩)
      conv => whnf
      refine ⟨fun k5 => ?_, fun k5 => ?_⟩
      · have hI2 := hI.filtS (fun x => !isT x) (fun x y g => rfl)
        have hR2 : ([] : List RL) = (preL (filtS (fun x => !isT x) s' 4) 4).map toRL := by rw [clearS_preL]; rfl
        conv => whnf
        refine Spec.row (t := 6) (clear_ok s (uR 0 asid gen) hs.len) rfl (fun _ => rfl) rfl rfl (ulen hI2.is.len hs.len _) rfl (fun _ => rfl) rfl ?_
        conv => whnf
        refine CodeL.ghost ?_
        refine CodeL.any tabOk Try.checked.mixed [(7, .cells [.nilSlice, .slz ce.1 13 0 T.length ce.2, .int .u64 0, .int .u64 (asid : Int), .bool gen])] (.take 0 (.take 3 (.take 4 (.take 5 (.alt 1 (.take 2 (.take 6 (.fin))) .stop))))) (by kernel_rfl) rfl ⟨rfl, trivial⟩ rfl ?_
        repeat' ((try (conv => whnf)); first
          | refine Spec.fn (lines_ok _ (uR 0 asid gen) (hI2).is.len) [6] rfl rfl (fun _ => rfl) rfl ⟨⟨by decide, rfl, rfl, _, rfl, fun _ => rfl, Nat.le_refl _, fun _ => Nat.le_refl _, fun h => (by cases h)⟩, trivial⟩ (fun _ _ => ⟨rfl, rfl, rfl, trivial⟩) (fun _ _ => ?_)
          | refine Needs.mk ⟨rfl, trivial⟩ ?_
          | refine And.intro ?_ ?_
          | refine IfL.f (len_no hI2 hR2) ?_
          | exact ⟨⟨i + 1, _, _, [], T, log, t, asid, gen, (true, 0), ce, c3, c4⟩, toL [(12, 15)], ⟨by show i + 1 ≤ A.length; omega, by show i + 1 ≤ 60; omega, hI2, hR2, has, ⟨Nat.le_refl _, fun _ => rfl⟩, oe, o3, o4⟩, by show A.length - (i + 1) < A.length - i; omega, toL_low rfl, ⟨⟨_, rfl, fun _ => rfl⟩, ⟨_, rfl, fun _ => rfl⟩, ⟨_, rfl, fun _ => rfl⟩, ⟨_, rfl, fun _ => rfl⟩, ⟨_, rfl, fun _ => rfl⟩, ⟨_, rfl, fun _ => congrArg (fun x => Value.int .i64 x) hi1⟩, trivial⟩, Part.keys ⟨⟨by decide, rfl, rfl, _, rfl, fun _ => rfl, Nat.le_refl _, fun _ => Nat.le_refl _, id⟩, ⟨by decide, rfl, rfl, _, rfl, fun _ => rfl, Nat.le_refl _, fun _ => Nat.le_refl _, id⟩, ⟨by decide, rfl, rfl, _, rfl, fun _ => rfl, Nat.le_refl _, fun _ => Nat.le_refl _, id⟩, ⟨by decide, rfl, rfl, _, rfl, fun _ => rfl, Nat.le_refl _, fun _ => Nat.le_refl _, id⟩, ⟨by decide, rfl, rfl, _, rfl, fun _ => rfl, Nat.le_refl _, fun _ => Nat.le_refl _, id⟩, ⟨by decide, rfl, rfl, _, rfl, fun _ => rfl, Nat.le_refl _, fun _ => Nat.le_refl _, id⟩, ⟨by decide, rfl, rfl, _, rfl, fun _ => rfl, Nat.le_refl _, fun _ => Nat.le_refl _, id⟩, ⟨by decide, rfl, rfl, _, rfl, fun _ => rfl, Nat.le_refl _, fun _ => Nat.le_refl _, id⟩, ⟨by decide, rfl, rfl, _, rfl, fun _ => rfl, Nat.le_refl _, fun _ => Nat.le_refl _, id⟩, ⟨by decide, rfl, rfl, _, rfl, fun _ => rfl, Nat.le_refl _, fun _ => Nat.le_refl _, id⟩, trivial⟩ rfl⟩)
      conv => whnf
      refine ⟨fun k6 => ?_, fun k6 => ?_⟩
      · have hI2 := PInv_evict hI a.n
        conv => whnf
        refine Spec.row (t := 6) (evict_ok s (uR 0 asid gen) hs a.n) rfl (fun _ => rfl) rfl rfl (evS_len hs a.n _) rfl (fun _ => rfl) rfl ?_
        conv => whnf
        by_cases hz0 : R.length = 0
        · have hR2 : R = (preL (evS s' a.n) 4).map toRL := by rw [evS_none (by omega)]; exact hR
          refine Spec.of_body tabOk Try.func24 rfl (ent Try.func24 rfl (by kernel_rfl)) Try.ntmps24 rfl (by kernel_rfl) (Nat.le_of_ble_eq_true rfl) ?_
          conv => whnf
          refine .t (decide_eq_true (by omega)) ?_
          conv => whnf
          refine CodeL.any tabOk Try.checked.mixed [(7, .cells [.slz cl.1 12 0 R.length cl.2, .slz ce.1 13 0 T.length ce.2, .int .u64 0, .int .u64 (asid : Int), .bool gen])] (.take 0 (.take 3 (.take 4 (.take 5 (.alt 1 (.take 2 (.take 6 (.fin))) .stop))))) (by kernel_rfl) rfl ⟨rfl, trivial⟩ rfl ?_
          repeat' ((try (conv => whnf)); first
            | refine Spec.fn (lines_ok _ (uR 0 asid gen) (hI2).is.len) [6] rfl rfl (fun _ => rfl) rfl ⟨⟨by decide, rfl, rfl, _, rfl, fun _ => rfl, Nat.le_refl _, fun _ => Nat.le_refl _, fun h => (by cases h)⟩, trivial⟩ (fun _ _ => ⟨rfl, rfl, rfl, trivial⟩) (fun _ _ => ?_)
            | refine Needs.mk ⟨rfl, trivial⟩ ?_
            | refine And.intro ?_ ?_
            | refine IfL.f (len_no hI2 hR2) ?_
            | exact ⟨⟨i + 1, _, _, R, T, log, t, asid, gen, cl, ce, c3, c4⟩, toL [], ⟨by show i + 1 ≤ A.length; omega, by show i + 1 ≤ 60; omega, hI2, hR2, has, ol, oe, o3, o4⟩, by show A.length - (i + 1) < A.length - i; omega, toL_low rfl, ⟨⟨_, rfl, fun _ => rfl⟩, ⟨_, rfl, fun _ => rfl⟩, ⟨_, rfl, fun _ => rfl⟩, ⟨_, rfl, fun _ => rfl⟩, ⟨_, rfl, fun _ => rfl⟩, ⟨_, rfl, fun _ => congrArg (fun x => Value.int .i64 x) hi1⟩, trivial⟩, Part.keys ⟨⟨by decide, rfl, rfl, _, rfl, fun _ => rfl, Nat.le_refl _, fun _ => Nat.le_refl _, id⟩, ⟨by decide, rfl, rfl, _, rfl, fun _ => rfl, Nat.le_refl _, fun _ => Nat.le_refl _, id⟩, ⟨by decide, rfl, rfl, _, rfl, fun _ => rfl, Nat.le_refl _, fun _ => Nat.le_refl _, id⟩, ⟨by decide, rfl, rfl, _, rfl, fun _ => rfl, Nat.le_refl _, fun _ => Nat.le_refl _, id⟩, ⟨by decide, rfl, rfl, _, rfl, fun _ => rfl, Nat.le_refl _, fun _ => Nat.le_refl _, id⟩, ⟨by decide, rfl, rfl, _, rfl, fun _ => rfl, Nat.le_refl _, fun _ => Nat.le_refl _, id⟩, ⟨by decide, rfl, rfl, _, rfl, fun _ => rfl, Nat.le_refl _, fun _ => Nat.le_refl _, id⟩, ⟨by decide, rfl, rfl, _, rfl, fun _ => rfl, Nat.le_refl _, fun _ => Nat.le_refl _, id⟩, ⟨by decide, rfl, rfl, _, rfl, fun _ => rfl, Nat.le_refl _, fun _ => Nat.le_refl _, id⟩, ⟨by decide, rfl, rfl, _, rfl, fun _ => rfl, Nat.le_refl _, fun _ => Nat.le_refl _, id⟩, trivial⟩ rfl⟩)
        · have hR2 := (evS_preL hI.is' (by omega) a.n).symm
          rw [← hRl, ← hR] at hR2
          refine Spec.fn (refevict_ok R cl.1 cl.2 a.n (by omega) (by omega) ol) [12] rfl rfl (fun _ => rfl) rfl ⟨⟨by decide, rfl, rfl, _, rfl, fun _ => rfl, Nat.le_refl _, fun _ => Nat.le_refl _, fun h => (by cases h)⟩, trivial⟩ (fun _ _ => ⟨rfl, rfl, rfl, trivial⟩) (fun r hxg => ?_)
          generalize R.take (evI a.n R.length) ++ R.drop (evI a.n R.length + 1) = R2 at hR2 hxg
          conv => whnf
          refine CodeL.any tabOk Try.checked.mixed [(7, .cells [.slz r.1 15 0 R2.length r.2, .slz ce.1 13 0 T.length ce.2, .int .u64 0, .int .u64 (asid : Int), .bool gen])] (.take 0 (.take 3 (.take 4 (.take 5 (.alt 1 (.take 2 (.take 6 (.fin))) .stop))))) (by kernel_rfl) rfl ⟨rfl, trivial⟩ rfl ?_
          repeat' ((try (conv => whnf)); first
            | refine Spec.fn (lines_ok _ (uR 0 asid gen) (hI2).is.len) [6] rfl rfl (fun _ => rfl) rfl ⟨⟨by decide, rfl, rfl, _, rfl, fun _ => rfl, Nat.le_refl _, fun _ => Nat.le_refl _, fun h => (by cases h)⟩, trivial⟩ (fun _ _ => ⟨rfl, rfl, rfl, trivial⟩) (fun _ _ => ?_)
            | refine Needs.mk ⟨rfl, trivial⟩ ?_
            | refine And.intro ?_ ?_
            | refine IfL.f (len_no hI2 hR2) ?_
            | exact ⟨⟨i + 1, _, _, R2, T, log, t, asid, gen, r, ce, c3, c4⟩, toL [(12, 15)], ⟨by show i + 1 ≤ A.length; omega, by show i + 1 ≤ 60; omega, hI2, hR2, has, hxg, oe, o3, o4⟩, by show A.length - (i + 1) < A.length - i; omega, toL_low rfl, ⟨⟨_, rfl, fun _ => rfl⟩, ⟨_, rfl, fun _ => rfl⟩, ⟨_, rfl, fun _ => rfl⟩, ⟨_, rfl, fun _ => rfl⟩, ⟨_, rfl, fun _ => rfl⟩, ⟨_, rfl, fun _ => congrArg (fun x => Value.int .i64 x) hi1⟩, trivial⟩, Part.keys ⟨⟨by decide, rfl, rfl, _, rfl, fun _ => rfl, Nat.le_refl _, fun _ => Nat.le_refl _, id⟩, ⟨by decide, rfl, rfl, _, rfl, fun _ => rfl, Nat.le_refl _, fun _ => Nat.le_refl _, id⟩, ⟨by decide, rfl, rfl, _, rfl, fun _ => rfl, Nat.le_refl _, fun _ => Nat.le_refl _, id⟩, ⟨by decide, rfl, rfl, _, rfl, fun _ => rfl, Nat.le_refl _, fun _ => Nat.le_refl _, id⟩, ⟨by decide, rfl, rfl, _, rfl, fun _ => rfl, Nat.le_refl _, fun _ => Nat.le_refl _, id⟩, ⟨by decide, rfl, rfl, _, rfl, fun _ => rfl, Nat.le_refl _, fun _ => Nat.le_refl _, id⟩, ⟨by decide, rfl, rfl, _, rfl, fun _ => rfl, Nat.le_refl _, fun _ => Nat.le_refl _, id⟩, ⟨by decide, rfl, rfl, _, rfl, fun _ => rfl, Nat.le_refl _, fun _ => Nat.le_refl _, id⟩, ⟨by decide, rfl, rfl, _, rfl, fun _ => rfl, Nat.le_refl _, fun _ => Nat.le_refl _, id⟩, ⟨by decide, rfl, rfl, _, rfl, fun _ => rfl, Nat.le_refl _, fun _ => Nat.le_refl _, id⟩, trivial⟩ rfl⟩)
      have hI2 := hI.next
      conv => whnf
      refine ⟨fun k7 => ?_, fun k7 => ?_⟩
      · conv => whnf
        refine CodeL.any tabOk Try.checked.mixed [] (.take 0 (.take 3 (.alt 1 (.take 2 (.take 6 (.alt 4 (.take 5 (.alt 7 (.take 8 (.alt 9 (.fin) .stop)) .stop)) (.alt 7 (.alt 4 (.take 5 (.take 8 (.alt 9 (.fin) .stop))) .stop) .stop)))) (.alt 4 (.take 5 (.alt 1 (.take 2 (.take 6 (.alt 7 (.take 8 (.alt 9 (.fin) .stop)) .stop))) .stop)) .stop)))) (by kernel_rfl) rfl trivial rfl ?_
        repeat' ((try (conv => whnf)); first
          | refine LoadL.at1 (.bool gen) 134 rfl (uC_gen hs.len 0 asid gen) rfl ?_
          | refine PutL.row (tlbC s (uR 0 asid (!gen))) [.bool (!gen)] 134 rfl (fun _ => rfl) rfl rfl rfl (by rw [uC_len hs.len]; exact Nat.le_refl _) (uC_setg hs.len 0 asid gen (!gen)) ?_
          | refine Needs.mk trivial ?_
          | refine And.intro ?_ ?_)
        all_goals
          refine CodeL.any tabOk Try.checked.mixed [(7, .cells [.slz cl.1 12 0 R.length cl.2, .slz ce.1 13 0 T.length ce.2, .int .u64 0, .int .u64 (asid : Int), .bool (!gen)])] (.take 0 (.take 3 (.take 4 (.take 5 (.alt 1 (.take 2 (.take 6 (.fin))) .stop))))) (by kernel_rfl) rfl ⟨rfl, trivial⟩ rfl ?_
          repeat' ((try (conv => whnf)); first
            | refine Spec.fn (lines_ok s (uR 0 asid (!gen)) (hI2).is.len) [6] rfl rfl (fun _ => rfl) rfl ⟨⟨by decide, rfl, rfl, _, rfl, fun _ => rfl, Nat.le_refl _, fun _ => Nat.le_refl _, fun h => (by cases h)⟩, trivial⟩ (fun _ _ => ⟨rfl, rfl, rfl, trivial⟩) (fun _ _ => ?_)
            | refine Needs.mk ⟨rfl, trivial⟩ ?_
            | refine And.intro ?_ ?_
            | refine IfL.f (len_no hI2 hR) ?_
            | exact ⟨⟨i + 1, s, s', R, T, log, t, asid, !gen, cl, ce, c3, c4⟩, toL [], ⟨by show i + 1 ≤ A.length; omega, by show i + 1 ≤ 60; omega, hI2, hR, has, ol, oe, o3, o4⟩, by show A.length - (i + 1) < A.length - i; omega, toL_low rfl, ⟨⟨_, rfl, fun _ => rfl⟩, ⟨_, rfl, fun _ => rfl⟩, ⟨_, rfl, fun _ => rfl⟩, ⟨_, rfl, fun _ => rfl⟩, ⟨_, rfl, fun _ => rfl⟩, ⟨_, rfl, fun _ => congrArg (fun x => Value.int .i64 x) hi1⟩, trivial⟩, Part.keys ⟨⟨by decide, rfl, rfl, _, rfl, fun _ => rfl, Nat.le_refl _, fun _ => Nat.le_refl _, id⟩, ⟨by decide, rfl, rfl, _, rfl, fun _ => rfl, Nat.le_refl _, fun _ => Nat.le_refl _, id⟩, ⟨by decide, rfl, rfl, _, rfl, fun _ => rfl, Nat.le_refl _, fun _ => Nat.le_refl _, id⟩, ⟨by decide, rfl, rfl, _, rfl, fun _ => rfl, Nat.le_refl _, fun _ => Nat.le_refl _, id⟩, ⟨by decide, rfl, rfl, _, rfl, fun _ => rfl, Nat.le_refl _, fun _ => Nat.le_refl _, id⟩, ⟨by decide, rfl, rfl, _, rfl, fun _ => rfl, Nat.le_refl _, fun _ => Nat.le_refl _, id⟩, ⟨by decide, rfl, rfl, _, rfl, fun _ => rfl, Nat.le_refl _, fun _ => Nat.le_refl _, id⟩, ⟨by decide, rfl, rfl, _, rfl, fun _ => rfl, Nat.le_refl _, fun _ => Nat.le_refl _, id⟩, ⟨by decide, rfl, rfl, _, rfl, fun _ => rfl, Nat.le_refl _, fun _ => Nat.le_refl _, id⟩, ⟨by decide, rfl, rfl, _, rfl, fun _ => rfl, Nat.le_refl _, fun _ => Nat.le_refl _, id⟩, trivial⟩ rfl⟩)
      conv => whnf
      refine ⟨fun k8 => ?_, fun k8 => ?_⟩
      · have e1 : IntKind.wrap .u64 (band .and .i64 a.n 1) = ((a.n % (2 : Nat)).toNat : Int) := by
          rw [show band .and .i64 a.n 1 = ((a.n % (2 : Nat)).toNat : Int) from band_mask a.n 1 (by decide)]
          exact wrapn _ (by have := mod_lt' a.n (m := 2) (by decide); omega)
        have hn := mod_lt' a.n (m := 2) (by decide)
        generalize (a.n % (2 : Nat)).toNat = n at hn e1
        have has2 : n < 2 ^ 64 := by omega
        conv => whnf
        refine CodeL.any tabOk Try.checked.mixed [(14, .cells (actC a))] (.take 0 (.take 1 (.take 2 (.take 3 (.take 4 (.take 5 (.take 6 (.take 7 (.take 8 (.alt 9 (.take 10 (.alt 11 (.fin) .stop)) .stop)))))))))) (by kernel_rfl) rfl ⟨rfl, trivial⟩ rfl ?_
        repeat' ((try (conv => whnf)); first
          | refine PutL.row (tlbC s (uR 0 n gen)) [.int .u64 (n : Int)] 133 rfl (fun _ => by rw [← e1]; rfl) rfl rfl rfl (by rw [uC_len hs.len]; decide) (uC_set hs.len 0 asid n gen) ?_
          | refine Needs.mk ⟨rfl, trivial⟩ ?_
          | refine And.intro ?_ ?_)
        all_goals
          refine CodeL.any tabOk Try.checked.mixed [(7, .cells [.slz cl.1 12 0 R.length cl.2, .slz ce.1 13 0 T.length ce.2, .int .u64 0, .int .u64 (IntKind.wrap .u64 (band .and .i64 a.n 1)), .bool gen])] (.take 0 (.take 3 (.take 4 (.take 5 (.alt 1 (.take 2 (.take 6 (.fin))) .stop))))) (by kernel_rfl) rfl ⟨rfl, trivial⟩ rfl ?_
          repeat' ((try (conv => whnf)); first
            | refine Spec.fn (lines_ok s (uR 0 n gen) (hI2).is.len) [6] rfl rfl (fun _ => rfl) rfl ⟨⟨by decide, rfl, rfl, _, rfl, fun _ => rfl, Nat.le_refl _, fun _ => Nat.le_refl _, fun h => (by cases h)⟩, trivial⟩ (fun _ _ => ⟨rfl, rfl, rfl, trivial⟩) (fun _ _ => ?_)
            | refine Needs.mk ⟨rfl, trivial⟩ ?_
            | refine And.intro ?_ ?_
            | refine IfL.f (len_no hI2 hR) ?_
            | exact ⟨⟨i + 1, s, s', R, T, log, t, n, gen, cl, ce, c3, c4⟩, toL [], ⟨by show i + 1 ≤ A.length; omega, by show i + 1 ≤ 60; omega, hI2, hR, has2, ol, oe, o3, o4⟩, by show A.length - (i + 1) < A.length - i; omega, toL_low rfl, ⟨⟨_, rfl, fun _ => rfl⟩, ⟨_, rfl, fun _ => rfl⟩, ⟨_, rfl, fun _ => rfl⟩, ⟨_, rfl, fun _ => rfl⟩, ⟨_, rfl, fun _ => rfl⟩, ⟨_, rfl, fun _ => congrArg (fun x => Value.int .i64 x) hi1⟩, trivial⟩, Part.keys ⟨⟨by decide, rfl, rfl, _, rfl, fun _ => rfl, Nat.le_refl _, fun _ => Nat.le_refl _, id⟩, ⟨by decide, rfl, rfl, _, rfl, fun _ => rfl, Nat.le_refl _, fun _ => Nat.le_refl _, id⟩, ⟨by decide, rfl, rfl, _, rfl, fun _ => rfl, Nat.le_refl _, fun _ => Nat.le_refl _, id⟩, ⟨by decide, rfl, rfl, _, rfl, fun _ => rfl, Nat.le_refl _, fun _ => Nat.le_refl _, id⟩, ⟨by decide, rfl, rfl, _, rfl, fun _ => rfl, Nat.le_refl _, fun _ => Nat.le_refl _, id⟩, ⟨by decide, rfl, rfl, _, rfl, fun _ => (by rw [← e1]; rfl), Nat.le_refl _, fun _ => Nat.le_refl _, id⟩, ⟨by decide, rfl, rfl, _, rfl, fun _ => rfl, Nat.le_refl _, fun _ => Nat.le_refl _, id⟩, ⟨by decide, rfl, rfl, _, rfl, fun _ => rfl, Nat.le_refl _, fun _ => Nat.le_refl _, id⟩, ⟨by decide, rfl, rfl, _, rfl, fun _ => rfl, Nat.le_refl _, fun _ => Nat.le_refl _, id⟩, ⟨by decide, rfl, rfl, _, rfl, fun _ => rfl, Nat.le_refl _, fun _ => Nat.le_refl _, id⟩, trivial⟩ rfl⟩)
      conv => whnf
      refine CodeL.any tabOk Try.checked.mixed [(7, .cells [.slz cl.1 12 0 R.length cl.2, .slz ce.1 13 0 T.length ce.2, .int .u64 0, .int .u64 (asid : Int), .bool gen])] (.take 0 (.take 3 (.take 4 (.take 5 (.alt 1 (.take 2 (.take 6 (.fin))) .stop))))) (by kernel_rfl) rfl ⟨rfl, trivial⟩ rfl ?_
      repeat' ((try (conv => whnf)); first
        | refine Spec.fn (lines_ok s (uR 0 asid gen) (hI2).is.len) [6] rfl rfl (fun _ => rfl) rfl ⟨⟨by decide, rfl, rfl, _, rfl, fun _ => rfl, Nat.le_refl _, fun _ => Nat.le_refl _, fun h => (by cases h)⟩, trivial⟩ (fun _ _ => ⟨rfl, rfl, rfl, trivial⟩) (fun _ _ => ?_)
        | refine Needs.mk ⟨rfl, trivial⟩ ?_
        | refine And.intro ?_ ?_
        | refine IfL.f (len_no hI2 hR) ?_
        | exact ⟨⟨i + 1, s, s', R, T, log, t, asid, gen, cl, ce, c3, c4⟩, toL [], ⟨by show i + 1 ≤ A.length; omega, by show i + 1 ≤ 60; omega, hI2, hR, has, ol, oe, o3, o4⟩, by show A.length - (i + 1) < A.length - i; omega, toL_low rfl, ⟨⟨_, rfl, fun _ => rfl⟩, ⟨_, rfl, fun _ => rfl⟩, ⟨_, rfl, fun _ => rfl⟩, ⟨_, rfl, fun _ => rfl⟩, ⟨_, rfl, fun _ => rfl⟩, ⟨_, rfl, fun _ => congrArg (fun x => Value.int .i64 x) hi1⟩, trivial⟩, Part.keys ⟨⟨by decide, rfl, rfl, _, rfl, fun _ => rfl, Nat.le_refl _, fun _ => Nat.le_refl _, id⟩, ⟨by decide, rfl, rfl, _, rfl, fun _ => rfl, Nat.le_refl _, fun _ => Nat.le_refl _, id⟩, ⟨by decide, rfl, rfl, _, rfl, fun _ => rfl, Nat.le_refl _, fun _ => Nat.le_refl _, id⟩, ⟨by decide, rfl, rfl, _, rfl, fun _ => rfl, Nat.le_refl _, fun _ => Nat.le_refl _, id⟩, ⟨by decide, rfl, rfl, _, rfl, fun _ => rfl, Nat.le_refl _, fun _ => Nat.le_refl _, id⟩, ⟨by decide, rfl, rfl, _, rfl, fun _ => rfl, Nat.le_refl _, fun _ => Nat.le_refl _, id⟩, ⟨by decide, rfl, rfl, _, rfl, fun _ => rfl, Nat.le_refl _, fun _ => Nat.le_refl _, id⟩, ⟨by decide, rfl, rfl, _, rfl, fun _ => rfl, Nat.le_refl _, fun _ => Nat.le_refl _, id⟩, ⟨by decide, rfl, rfl, _, rfl, fun _ => rfl, Nat.le_refl _, fun _ => Nat.le_refl _, id⟩, ⟨by decide, rfl, rfl, _, rfl, fun _ => rfl, Nat.le_refl _, fun _ => Nat.le_refl _, id⟩, trivial⟩ rfl⟩)
    · conv => whnf
      refine CodeL.loop tabOk (fun j : Nat => ([(3, .ptr 1 0), (4, .ptr 5 0), (20, .int .i64 (j : Int))], [(1, .cells [.slice 2 0 8 8]), (2, .row (ramV 8 (bL log) t)), (5, .cells [.int .i64 8, .slz c3.1 10 0 log.length c3.2, .slz c4.1 11 0 log.length c4.2, .nilSlice]), (10, .row (atV log)), (11, .row (byV log))]))
        (fun j => 16 - j) (fun j => j ≤ 16) rfl (fun _ => ⟨rfl, rfl⟩) 0 (Nat.zero_le _) ⟨⟨rfl, rfl, rfl, trivial⟩, ⟨rfl, rfl, rfl, rfl, rfl, trivial⟩⟩ ?_
      intro j hj
      conv => whnf
      refine ⟨fun g => ?_, fun g => ?_⟩
      · have g : j < 16 := by have := of_decide_eq_true g; omega
        have a3 : IntKind.wrap .u64 (8192 + IntKind.wrap .u64 (8 * IntKind.wrap .u64 (j : Int))) = ((8192 + j * 8 : Nat) : Int) := by
          rw [wrapn j (by omega), show (8 : Int) * (j : Int) = ((j * 8 : Nat) : Int) by omega, wrapn (j * 8) (by omega), show (8192 : Int) + ((j * 8 : Nat) : Int) = ((8192 + j * 8 : Nat) : Int) by omega, wrapn _ (by omega)]
        conv => whnf
        rw [a3]
        refine Spec.fn (load_ok 8 (bL log) t (8192 + j * 8) 8 (bL_ok hI.okl) (.inr (.inr (.inr rfl))) (by omega) (by decide) (by omega)) [1, 2] rfl rfl (fun _ => rfl) rfl ⟨⟨by decide, rfl, rfl, _, rfl, fun _ => rfl, Nat.le_refl _, fun _ => Nat.le_refl _, fun _ => rfl⟩, ⟨by decide, rfl, rfl, _, rfl, fun _ => rfl, Nat.le_refl _, fun _ => Nat.le_refl _, fun h => (by cases h)⟩, trivial⟩ (fun _ _ => ⟨rfl, rfl, ⟨_, rfl, rfl, rfl⟩, rfl, trivial⟩) (fun _ _ => ?_)
        conv => whnf
        rw [a3]
        refine Spec.fn (Fun.read (refload_ok 8 log c3.1 c4.1 c3.2 c4.2 (8192 + j * 8) (by decide) (by omega) hI.okl o3 o4 (by omega) (by omega)) rfl) [10, 11] rfl rfl (fun _ => rfl) rfl ⟨⟨by decide, rfl, rfl, _, rfl, fun _ => rfl, Nat.le_refl _, fun _ => Nat.le_refl _, fun h => (by cases h)⟩, ⟨by decide, rfl, rfl, _, rfl, fun _ => rfl, Nat.le_refl _, fun _ => Nat.le_refl _, fun h => (by cases h)⟩, trivial⟩ (fun _ _ => ⟨rfl, rfl, rfl, rfl, trivial⟩) (fun _ _ => ?_)
        conv => whnf
        refine IfL.f (ndec _) ?_
        conv => whnf
        exact ⟨j + 1, by show j + 1 ≤ 16; omega, by show 16 - (j + 1) < 16 - j; omega, ⟨rfl, rfl, congrArg (fun x => some (SV.int .i64 x)) (by rw [wrap_i64' _ (by omega) (by omega)]; omega), trivial⟩, ⟨rfl, rfl, rfl, rfl, rfl, trivial⟩⟩
      · conv => whnf
        refine Spec.pure one_ok rfl rfl (fun _ => rfl) ?_
        conv => whnf
        intro ρ
        rfl
  · conv => whnf
    refine CodeL.loop tabOk (fun j : Nat => ([(3, .ptr 1 0), (4, .ptr 5 0), (20, .int .i64 (j : Int))], [(1, .cells [.slice 2 0 8 8]), (2, .row (ramV 8 (bL log) t)), (5, .cells [.int .i64 8, .slz c3.1 10 0 log.length c3.2, .slz c4.1 11 0 log.length c4.2, .nilSlice]), (10, .row (atV log)), (11, .row (byV log))]))
      (fun j => 16 - j) (fun j => j ≤ 16) rfl (fun _ => ⟨rfl, rfl⟩) 0 (Nat.zero_le _) ⟨⟨rfl, rfl, rfl, trivial⟩, ⟨rfl, rfl, rfl, rfl, rfl, trivial⟩⟩ ?_
    intro j hj
    conv => whnf
    refine ⟨fun g => ?_, fun g => ?_⟩
    · have g : j < 16 := by have := of_decide_eq_true g; omega
      have a3 : IntKind.wrap .u64 (8192 + IntKind.wrap .u64 (8 * IntKind.wrap .u64 (j : Int))) = ((8192 + j * 8 : Nat) : Int) := by
        rw [wrapn j (by omega), show (8 : Int) * (j : Int) = ((j * 8 : Nat) : Int) by omega, wrapn (j * 8) (by omega), show (8192 : Int) + ((j * 8 : Nat) : Int) = ((8192 + j * 8 : Nat) : Int) by omega, wrapn _ (by omega)]
      conv => whnf
      rw [a3]
      refine Spec.fn (load_ok 8 (bL log) t (8192 + j * 8) 8 (bL_ok hI.okl) (.inr (.inr (.inr rfl))) (by omega) (by decide) (by omega)) [1, 2] rfl rfl (fun _ => rfl) rfl ⟨⟨by decide, rfl, rfl, _, rfl, fun _ => rfl, Nat.le_refl _, fun _ => Nat.le_refl _, fun _ => rfl⟩, ⟨by decide, rfl, rfl, _, rfl, fun _ => rfl, Nat.le_refl _, fun _ => Nat.le_refl _, fun h => (by cases h)⟩, trivial⟩ (fun _ _ => ⟨rfl, rfl, ⟨_, rfl, rfl, rfl⟩, rfl, trivial⟩) (fun _ _ => ?_)
      conv => whnf
      rw [a3]
      refine Spec.fn (Fun.read (refload_ok 8 log c3.1 c4.1 c3.2 c4.2 (8192 + j * 8) (by decide) (by omega) hI.okl o3 o4 (by omega) (by omega)) rfl) [10, 11] rfl rfl (fun _ => rfl) rfl ⟨⟨by decide, rfl, rfl, _, rfl, fun _ => rfl, Nat.le_refl _, fun _ => Nat.le_refl _, fun h => (by cases h)⟩, ⟨by decide, rfl, rfl, _, rfl, fun _ => rfl, Nat.le_refl _, fun _ => Nat.le_refl _, fun h => (by cases h)⟩, trivial⟩ (fun _ _ => ⟨rfl, rfl, rfl, rfl, trivial⟩) (fun _ _ => ?_)
      conv => whnf
      refine IfL.f (ndec _) ?_
      conv => whnf
      exact ⟨j + 1, by show j + 1 ≤ 16; omega, by show 16 - (j + 1) < 16 - j; omega, ⟨rfl, rfl, congrArg (fun x => some (SV.int .i64 x)) (by rw [wrap_i64' _ (by omega) (by omega)]; omega), trivial⟩, ⟨rfl, rfl, rfl, rfl, rfl, trivial⟩⟩
    · conv => whnf
      refine Spec.pure one_ok rfl rfl (fun _ => rfl) ?_
      conv => whnf
      intro ρ
      rfl
end Go.Sh.Ytanljnpjkokmcaa

set_option linter.unusedVariables false
namespace Go.Sh.Ytanljnpjkokmcaa
open Go.Proofs Go.Sh Go.RowKit

theorem flat3 : FlatT Try.prog 3 [.int .i64] := FlatT.int Try.underlying3
theorem flat22 : FlatT Try.prog 22 [.int .u64] := FlatT.int Try.underlying22
theorem flat4 : FlatT Try.prog 4 [.bool] := FlatT.bool Try.underlying4
theorem flat24 : FlatT Try.prog 24 [.bool, .bool, .bool, .bool, .bool, .bool, .bool, .bool, .bool, .bool, .bool, .bool, .int .u64] := FlatT.struct Try.underlying24 (by kernel_rfl) ⟨rfl, [.bool], _, rfl, flat4, by kernel_rfl, ⟨rfl, [.bool], _, rfl, flat4, by kernel_rfl, ⟨rfl, [.bool], _, rfl, flat4, by kernel_rfl, ⟨rfl, [.bool], _, rfl, flat4, by kernel_rfl, ⟨rfl, [.bool], _, rfl, flat4, by kernel_rfl, ⟨rfl, [.bool], _, rfl, flat4, by kernel_rfl, ⟨rfl, [.bool], _, rfl, flat4, by kernel_rfl, ⟨rfl, [.bool], _, rfl, flat4, by kernel_rfl, ⟨rfl, [.bool], _, rfl, flat4, by kernel_rfl, ⟨rfl, [.bool], _, rfl, flat4, by kernel_rfl, ⟨rfl, [.bool], _, rfl, flat4, by kernel_rfl, ⟨rfl, [.bool], _, rfl, flat4, by kernel_rfl, ⟨rfl, [.int .u64], _, rfl, flat22, by kernel_rfl, rfl⟩⟩⟩⟩⟩⟩⟩⟩⟩⟩⟩⟩⟩
theorem flat66 : FlatT Try.prog 66 [.int .i64, .int .i64, .int .i64, .int .u64, .bool, .bool, .bool, .bool, .bool, .bool, .bool, .bool, .bool, .bool, .bool, .bool, .bool, .int .u64] := FlatT.struct Try.underlying66 (by kernel_rfl) ⟨rfl, [.int .i64], _, rfl, flat3, by kernel_rfl, ⟨rfl, [.int .i64], _, rfl, flat3, by kernel_rfl, ⟨rfl, [.int .i64], _, rfl, flat3, by kernel_rfl, ⟨rfl, [.int .u64], _, rfl, flat22, by kernel_rfl, ⟨rfl, [.bool], _, rfl, flat4, by kernel_rfl, ⟨rfl, [.bool, .bool, .bool, .bool, .bool, .bool, .bool, .bool, .bool, .bool, .bool, .bool, .int .u64], _, rfl, flat24, by kernel_rfl, rfl⟩⟩⟩⟩⟩⟩
def actK : List Kd := [.int .i64, .int .i64, .int .i64, .int .u64, .bool, .bool, .bool, .bool, .bool, .bool, .bool, .bool, .bool, .bool, .bool, .bool, .bool, .int .u64]
theorem acts_of {n : Nat} {cells : List Value} (hl : cells.length = n * 18) (hf : ∀ i, i < n → Fits actK ((cells.drop (i * 18)).take 18)) : ∃ A : List Act, A.length = n ∧ cells = actsV A ∧ ∀ a ∈ A, a.good := by
  refine rows_of actV Act.good hl fun i hi => ?_
  have h := hf i hi
  generalize (cells.drop (i * 18)).take 18 = l at h
  obtain ⟨n0, s0, rfl, _, g0⟩ := fits_int h
  obtain ⟨n1, s1, rfl, _, g1⟩ := fits_int g0
  obtain ⟨n2, s2, rfl, _, g2⟩ := fits_int g1
  obtain ⟨n3, s3, rfl, h3, g3⟩ := fits_int g2
  obtain ⟨tg, s4, rfl, g4⟩ := fits_bool g3
  obtain ⟨e, he, rfl⟩ := ent_of g4
  obtain ⟨v, hv, rfl⟩ := u64_of h3
  exact ⟨⟨n0, n1, n2, v, tg, e⟩, rfl, hv, he⟩
theorem actV_one {A : List Act} : ∀ x ∈ actsV A, x.oneCell' = true := fun x hx => by
  obtain ⟨a, _, h⟩ := List.mem_flatMap.1 hx
  simp only [actV, List.mem_cons, List.not_mem_nil, or_false] at h
  rcases h with rfl | rfl | rfl | rfl | rfl | rfl | rfl | rfl | rfl | rfl | rfl | rfl | rfl | rfl | rfl | rfl | rfl | rfl <;> rfl
theorem plays_calls (w : World) {b : Bool} {blk off n c : Nat} {cells : List Value} (hm : n ≤ maxLen) (hl : cells.length = n * 18) (hc : ∀ j x, cells[j]? = some x → w.cell? ⟨blk, off + j, none⟩ = some x)
    (hf : ∀ i, i < n → Fits actK ((cells.drop (i * 18)).take 18)) :
    Calls Try.prog 5 #[slzV b ⟨blk, off, none⟩ n c] w fun e w2 => e = .returned (.bool true) ∧ Below w.heap.size w w2 := by
  obtain ⟨A, rfl, rfl, hg⟩ := acts_of hl hf
  exact calls_slice (more := []) (r := .tt) (mplays_ok A b c hm hg) rfl rfl hc actV_one
end Go.Sh.Ytanljnpjkokmcaa
