import Derived.Test.YtmfpndffepjcpaaME
import Derived.Test.YtmfpndffepjcpaaML
import Derived.Test.YtmfpndffepjcpaaMB
set_option linter.unusedVariables false
namespace Go.Sh.Ytmfpndffepjcpaa
open Go.Proofs Go.Sh

theorem page_eq (a b : Int × Int) (w : World) : (Op.equal 64 (pairV .u64 a) (pairV .u64 b)).run Try.prog w = .ok (decide (a = b)) w := by
  have key : eqTK Try.prog tab 3 64 [.int .u64 a.1, .int .u64 a.2] [.int .u64 b.1, .int .u64 b.2] (fun r => r = (decide (a.1 = b.1) && decide (a.2 = b.2))) := by
    conv => whnf
    refine Needs.mk ⟨rfl, by kernel_rfl⟩ ?_
    conv => whnf
  obtain ⟨r, hr, h⟩ := eqTK_out tabOk _ _ _ _ _ key
  have := (h _ row64).2 w zenv 10000 (by decide)
  rw [hr] at this
  have e : (decide (a.1 = b.1) && decide (a.2 = b.2)) = decide (a = b) := by
    obtain ⟨a1, a2⟩ := a
    obtain ⟨b1, b2⟩ := b
    by_cases g1 : a1 = b1 <;> by_cases g2 : a2 = b2 <;> simp [g1, g2]
  rw [← e]
  exact this
theorem pageT : KeyT Try.prog 64 pgV := KeyT.pair Try.underlying64 row23 rfl rfl rfl rfl rfl rfl rfl page_eq
theorem zbool (w : World) : (zeroValue 4).run Try.prog w = .ok (.bool false) w := run_zeroV (by kernel_rfl) w
theorem nput_ok : Pure Try.prog 6 [.nil, .agg lnZ] (.tup []) := by
  refine Spec.of_body tabOk Try.func6 rfl (ent Try.func6 rfl (by kernel_rfl)) Try.ntmps6 rfl (by kernel_rfl) (Nat.le_of_ble_eq_true rfl) ?_
  conv => whnf
  intro ρ
  rfl
theorem nclear_ok : Pure Try.prog 17 [.nil] (.tup []) := by
  refine Spec.of_body tabOk Try.func17 rfl (ent Try.func17 rfl (by kernel_rfl)) Try.ntmps17 rfl (by kernel_rfl) (Nat.le_of_ble_eq_true rfl) ?_
  conv => whnf
  refine Spec.of_body tabOk Try.func25 rfl (ent Try.func25 rfl (by kernel_rfl)) Try.ntmps25 rfl (by kernel_rfl) (Nat.le_of_ble_eq_true rfl) ?_
  conv => whnf
  intro ρ
  rfl
theorem nlook_ok : Pure Try.prog 9 [.nil, .int .u64 0, .int .u64 0] (.tup [.agg lnZ, .ff]) := by
  refine Spec.of_body tabOk Try.func9 rfl (ent Try.func9 rfl (by kernel_rfl)) Try.ntmps9 rfl (by kernel_rfl) (Nat.le_of_ble_eq_true rfl) ?_
  conv => whnf
  intro ρ
  rfl
theorem nlines_ok : Pure Try.prog 8 [.nil] .nilSlice := by
  refine Spec.of_body tabOk Try.func8 rfl (ent Try.func8 rfl (by kernel_rfl)) Try.ntmps8 rfl (by kernel_rfl) (Nat.le_of_ble_eq_true rfl) ?_
  conv => whnf
  intro ρ
  rfl
end Go.Sh.Ytmfpndffepjcpaa

set_option linter.unusedVariables false
namespace Go.Sh.Ytmfpndffepjcpaa
open Go.Proofs Go.Sh

structure LS where
  i : Nat
  s : Nat → List Ln
  D : DL
  c : Nat
structure LGood (m : Nat) (x : LS) : Prop where
  hi : x.i ≤ m
  inv : LInv x.s x.D
theorem actsV_cell {A : List Act} {i j : Nat} {a : Act} (h : A[i]? = some a) (hj : j < 5) : (actsV A)[i * 5 + j]? = (actV a)[j]? := by
  rw [← actsV_get h, List.getElem?_take, if_pos hj, List.getElem?_drop]
set_option maxRecDepth 100000 in
set_option maxHeartbeats 1000000 in
theorem last_ok (A : List Act) (b0 : Bool) (c0 : Nat) (hA : A.length ≤ 9223372036854775807) (hg : ∀ a ∈ A, a.good) : Spec Try.prog 5 [.slz b0 0 0 A.length c0] [(0, .view (actsV A))] 1 fun v _ _ => ∀ ρ, v.val ρ = SV.tt.val ρ := by
  refine Spec.of_body tabOk Try.func5 rfl (ent Try.func5 rfl (by kernel_rfl)) Try.ntmps5 rfl (by kernel_rfl) (Nat.le_of_ble_eq_true rfl) ?_
  conv => whnf
  refine OpL.mkm ?_
  conv => whnf
  refine CodeL.loopN tabOk 3 (by decide) (fun x : LS => ([(0, .slz b0 0 0 A.length c0), (3, .ptr 1 0), (4, .map 2), (5, .int .i64 (x.i : Int))], [(0, .view (actsV A)), (1, .row (tlbC x.s [])), (2, .dict (ents pgV nuV x.D) x.c)]))
    (fun x => A.length - x.i) (LGood A.length) rfl (fun x => rfl) ⟨0, fun _ => [], [], 0⟩ ⟨Nat.zero_le _, LInv.nil⟩ (fun i => (i, 0)) (fun _ _ => rfl) ⟨⟨⟨_, rfl, fun _ => rfl⟩, ⟨_, rfl, fun _ => rfl⟩, ⟨_, rfl, fun _ => rfl⟩, ⟨_, rfl, fun _ => rfl⟩, trivial⟩, Part.keys ⟨⟨by decide, rfl, rfl, _, rfl, fun _ => rfl, Nat.le_refl _, fun _ => Nat.le_refl _, id⟩, ⟨by decide, rfl, rfl, _, rfl, fun _ => rfl, Nat.le_refl _, fun _ => Nat.le_refl _, id⟩, ⟨by decide, rfl, rfl⟩, trivial⟩ rfl⟩ ?_
  rintro ⟨i, s, D, c⟩ ⟨hi, hI⟩
  dsimp only at hi hI ⊢
  have hs := hI.is
  conv => whnf
  refine ⟨fun h => ?_, fun h => ?_⟩
  · have h : i < A.length := by have := of_decide_eq_true h; omega
    obtain ⟨a, ha⟩ : ∃ a, A[i]? = some a := ⟨_, List.getElem?_eq_getElem h⟩
    obtain ⟨ga, gn, gn2, gw⟩ := hg a (List.mem_of_getElem? ha)
    have hi1 : ((i + 1 : Nat) : Int) = IntKind.wrap .i64 ((i : Int) + 1) := by rw [wrap_i64' _ (by omega) (by omega)]; omega
    conv => whnf
    refine ⟨fun h1 => ?_, fun h1 => ?_⟩
    · conv => whnf
      refine .there i rfl (by omega) ?_
      conv => whnf
      refine .atN (actC a) (i * 5) (by show 0 + i * 5 = _; omega) (by show _ + 5 ≤ (actsV A).length; rw [actsV_len]; omega) (actsV_get ha) rfl ?_
      conv => whnf
      refine ⟨fun k0 => ?_, fun k0 => ?_⟩
      · conv => whnf
        refine Spec.pure (line_ok a) rfl rfl (fun _ => rfl) ?_
        conv => whnf
        refine Spec.row (t := 1) (put_ok s [] hs.len (lnOf a) gn) rfl (fun _ => rfl) rfl rfl (putS_len hs (lnOf a) gn []) rfl (fun _ => rfl) rfl ?_
        have hI2 := hI.put (lnOf a) gn c
        have hfi := find_putS s (lnOf a)
        have hlk := look_ok (putS s (lnOf a)) [] hI2.is.len a.asid a.num gn
        rw [show ((putS s (lnOf a)) (q4 a.num)).find? (isP a.asid a.num) = some (lnOf a) from hfi] at hlk
        conv => whnf
        refine OpL.upd tabOk ?_
        conv => whnf
        refine UpdL.set pageT (a.asid, a.num) (fun _ => rfl) a.what (fun _ => rfl) ?_
        conv => whnf
        refine Spec.fn (Fun.read hlk rfl) [1] rfl rfl (fun _ => rfl) rfl ⟨⟨by decide, rfl, rfl, _, rfl, fun _ => rfl, Nat.le_refl _, fun _ => Nat.le_refl _, fun h => (by cases h)⟩, trivial⟩ (fun _ _ => ⟨rfl, rfl, rfl, trivial⟩) (fun _ _ => ?_)
        conv => whnf
        refine Spec.fn (lines_ok (putS s (lnOf a)) [] (hI2).is.len) [1] rfl rfl (fun _ => rfl) rfl ⟨⟨by decide, rfl, rfl, _, rfl, fun _ => rfl, Nat.le_refl _, fun _ => Nat.le_refl _, fun h => (by cases h)⟩, trivial⟩ (fun _ _ => ⟨rfl, rfl, rfl, trivial⟩) (fun y hy => ?_)
        have h8 : (preL (putS s (lnOf a)) 4).length ≤ 8 := preL_len (hI2).is.len 4
        conv => whnf
        refine .f (decide_eq_false (by omega)) ?_
        conv => whnf
        refine OpL.mkm ?_
        conv => whnf
        refine CodeL.loopN tabOk (6 + 1) (by decide) (fun z : Nat × DM × Nat => ([(0, .slz b0 0 0 A.length c0), (3, .ptr 1 0), (4, .map 2), (5, .int .i64 (i : Int)), (10, .slz y.1 5 0 (preL (putS s (lnOf a)) 4).length y.2), (11, .map 6), (12, .int .i64 (z.1 : Int))], [(0, .view (actsV A)), (1, .row (tlbC (putS s (lnOf a)) [])), (2, .dict (ents pgV nuV (setD (a.asid, a.num) a.what c D)) (tickD D (a.asid, a.num) c)), (5, .row (linesV (preL (putS s (lnOf a)) 4))), (6, .dict (ents pgV boV z.2.1) z.2.2)]))
          (fun z => (preL (putS s (lnOf a)) 4).length - z.1) (fun z => z.1 ≤ (preL (putS s (lnOf a)) 4).length ∧ MInv (preL (putS s (lnOf a)) 4) z.1 z.2.1) rfl (fun z => rfl) (0, [], 0) ⟨Nat.zero_le _, MInv.start _⟩ (fun i => (i, 0)) (fun _ _ => rfl) ⟨⟨⟨_, rfl, fun _ => rfl⟩, ⟨_, rfl, fun _ => rfl⟩, ⟨_, rfl, fun _ => rfl⟩, ⟨_, rfl, fun _ => rfl⟩, ⟨_, rfl, fun _ => rfl⟩, ⟨_, rfl, fun _ => rfl⟩, ⟨_, rfl, fun _ => rfl⟩, trivial⟩, Part.keys ⟨⟨by decide, rfl, rfl, _, rfl, fun _ => rfl, Nat.le_refl _, fun _ => Nat.le_refl _, id⟩, ⟨by decide, rfl, rfl, _, rfl, fun _ => rfl, Nat.le_refl _, fun _ => Nat.le_refl _, id⟩, ⟨by decide, rfl, rfl⟩, ⟨by decide, rfl, rfl, _, rfl, fun _ => rfl, Nat.le_refl _, fun _ => Nat.le_refl _, id⟩, ⟨by decide, rfl, rfl⟩, trivial⟩ rfl⟩ ?_
        rintro ⟨k, E, c2⟩ ⟨hk, hE⟩
        dsimp only at hk hE ⊢
        conv => whnf
        refine ⟨fun g => ?_, fun g => ?_⟩
        · have g : k < (preL (putS s (lnOf a)) 4).length := by have := of_decide_eq_true g; omega
          obtain ⟨x, hx⟩ : ∃ x, (preL (putS s (lnOf a)) 4)[k]? = some x := ⟨_, List.getElem?_eq_getElem g⟩
          have hin := (hI2).all x (List.mem_of_getElem? hx)
          have hno := hE.none (hI2).is hx
          conv => whnf
          refine CodeL.any tabOk Try.checked.mixed [(5, .row (linesV (preL (putS s (lnOf a)) 4)))] (.take 0 (.take 1 (.take 2 (.take 3 (.take 4 (.take 5 (.take 6 (.take 7 (.take 8 (.take 9 (.take 10 (.alt 11 (.alt 12 (.fin) .stop) .stop)))))))))))) (by kernel_rfl) rfl ⟨rfl, trivial⟩ rfl ?_
          repeat' ((try (conv => whnf)); first
            | refine IdxL.there k rfl g ?_
            | refine LoadL.at1 (.int .u64 x.asid) (k * 16 + 0) (by show 0 + k * 16 + 0 = _; omega) (linesV_cell hx (by decide)) rfl ?_
            | refine LoadL.at1 (.int .u64 x.num) (k * 16 + 1) (by show 0 + k * 16 + 1 = _; omega) (linesV_cell hx (by decide)) rfl ?_
            | refine Needs.mk ⟨rfl, trivial⟩ ?_
            | refine And.intro ?_ ?_
            | (refine VL.op (VL.lkp tabOk ?_); conv => whnf
               refine LkpL.yes pageT (x.asid, x.num) (fun _ => rfl) hin (.tup [.int .u64 x.at_, .tt]) rfl rfl ?_))
          all_goals
            refine VL.op (VL.lkp tabOk ?_)
            conv => whnf
            refine LkpL.no pageT (x.asid, x.num) (fun _ => rfl) hno (.bool false) zbool .ff rfl rfl ?_
            conv => whnf
            refine .there k rfl g ?_
            conv => whnf
            refine .at1 (.int .u64 x.at_) (k * 16 + 15) (by show 0 + k * 16 + 15 = _; omega) (linesV_cell hx (by decide)) rfl ?_
            conv => whnf
            refine .f (by simp) ?_
            conv => whnf
            refine OpL.upd tabOk ?_
            conv => whnf
            refine UpdL.set pageT (x.asid, x.num) (fun _ => rfl) true (fun _ => rfl) ?_
            conv => whnf
            exact ⟨(k + 1, _, _), fun i => (i, 0), ⟨by show k + 1 ≤ _; omega, hE.step hx _⟩, by show (preL (putS s (lnOf a)) 4).length - (k + 1) < (preL (putS s (lnOf a)) 4).length - k; omega, fun _ _ => rfl, ⟨⟨_, rfl, fun _ => rfl⟩, ⟨_, rfl, fun _ => rfl⟩, ⟨_, rfl, fun _ => rfl⟩, ⟨_, rfl, fun _ => rfl⟩, ⟨_, rfl, fun _ => rfl⟩, ⟨_, rfl, fun _ => rfl⟩, ⟨_, rfl, fun _ => congrArg (fun x => Value.int .i64 x) (by rw [wrap_i64' _ (by omega) (by omega)]; omega)⟩, trivial⟩, Part.keys ⟨⟨by decide, rfl, rfl, _, rfl, fun _ => rfl, Nat.le_refl _, fun _ => Nat.le_refl _, id⟩, ⟨by decide, rfl, rfl, _, rfl, fun _ => rfl, Nat.le_refl _, fun _ => Nat.le_refl _, id⟩, ⟨by decide, rfl, rfl⟩, ⟨by decide, rfl, rfl, _, rfl, fun _ => rfl, Nat.le_refl _, fun _ => Nat.le_refl _, id⟩, ⟨by decide, rfl, rfl⟩, trivial⟩ rfl⟩
        · conv => whnf
          exact ⟨⟨i + 1, _, _, _⟩, fun i => (i, 0), ⟨by show i + 1 ≤ A.length; omega, hI2⟩, by show A.length - (i + 1) < A.length - i; omega, fun _ _ => rfl, ⟨⟨_, rfl, fun _ => rfl⟩, ⟨_, rfl, fun _ => rfl⟩, ⟨_, rfl, fun _ => rfl⟩, ⟨_, rfl, fun _ => congrArg (fun x => Value.int .i64 x) hi1⟩, trivial⟩, Part.keys ⟨⟨by decide, rfl, rfl, _, rfl, fun _ => rfl, Nat.le_refl _, fun _ => Nat.le_refl _, id⟩, ⟨by decide, rfl, rfl, _, rfl, fun _ => rfl, Nat.le_refl _, fun _ => Nat.le_refl _, id⟩, ⟨by decide, rfl, rfl⟩, trivial⟩ rfl⟩
      conv => whnf
      refine ⟨fun k2 => ?_, fun k2 => ?_⟩
      · have hI2 := hI.drop a.asid a.num
        conv => whnf
        refine Spec.row (t := 1) (drop_ok s [] hs.len a.asid a.num gn) rfl (fun _ => rfl) rfl rfl (by rw [tlbC_len hs.len, tlbC_len hI2.is.len]) rfl (fun _ => rfl) rfl ?_
        generalize fset s (q4 a.num) ((s (q4 a.num)).filter fun x => !isP a.asid a.num x) = s2 at hI2
        conv => whnf
        refine OpL.dlt tabOk ?_
        conv => whnf
        refine DelL.del pageT (a.asid, a.num) (fun _ => rfl) ?_
        conv => whnf
        refine Spec.fn (lines_ok (s2) [] (hI2).is.len) [1] rfl rfl (fun _ => rfl) rfl ⟨⟨by decide, rfl, rfl, _, rfl, fun _ => rfl, Nat.le_refl _, fun _ => Nat.le_refl _, fun h => (by cases h)⟩, trivial⟩ (fun _ _ => ⟨rfl, rfl, rfl, trivial⟩) (fun y hy => ?_)
        have h8 : (preL (s2) 4).length ≤ 8 := preL_len (hI2).is.len 4
        conv => whnf
        refine .f (decide_eq_false (by omega)) ?_
        conv => whnf
        refine OpL.mkm ?_
        conv => whnf
        refine CodeL.loopN tabOk (5 + 1) (by decide) (fun z : Nat × DM × Nat => ([(0, .slz b0 0 0 A.length c0), (3, .ptr 1 0), (4, .map 2), (5, .int .i64 (i : Int)), (10, .slz y.1 4 0 (preL (s2) 4).length y.2), (11, .map 5), (12, .int .i64 (z.1 : Int))], [(0, .view (actsV A)), (1, .row (tlbC (s2) [])), (2, .dict (ents pgV nuV (delD (a.asid, a.num) D)) (c)), (4, .row (linesV (preL (s2) 4))), (5, .dict (ents pgV boV z.2.1) z.2.2)]))
          (fun z => (preL (s2) 4).length - z.1) (fun z => z.1 ≤ (preL (s2) 4).length ∧ MInv (preL (s2) 4) z.1 z.2.1) rfl (fun z => rfl) (0, [], 0) ⟨Nat.zero_le _, MInv.start _⟩ (fun i => (i, 0)) (fun _ _ => rfl) ⟨⟨⟨_, rfl, fun _ => rfl⟩, ⟨_, rfl, fun _ => rfl⟩, ⟨_, rfl, fun _ => rfl⟩, ⟨_, rfl, fun _ => rfl⟩, ⟨_, rfl, fun _ => rfl⟩, ⟨_, rfl, fun _ => rfl⟩, ⟨_, rfl, fun _ => rfl⟩, trivial⟩, Part.keys ⟨⟨by decide, rfl, rfl, _, rfl, fun _ => rfl, Nat.le_refl _, fun _ => Nat.le_refl _, id⟩, ⟨by decide, rfl, rfl, _, rfl, fun _ => rfl, Nat.le_refl _, fun _ => Nat.le_refl _, id⟩, ⟨by decide, rfl, rfl⟩, ⟨by decide, rfl, rfl, _, rfl, fun _ => rfl, Nat.le_refl _, fun _ => Nat.le_refl _, id⟩, ⟨by decide, rfl, rfl⟩, trivial⟩ rfl⟩ ?_
        rintro ⟨k, E, c2⟩ ⟨hk, hE⟩
        dsimp only at hk hE ⊢
        conv => whnf
        refine ⟨fun g => ?_, fun g => ?_⟩
        · have g : k < (preL (s2) 4).length := by have := of_decide_eq_true g; omega
          obtain ⟨x, hx⟩ : ∃ x, (preL (s2) 4)[k]? = some x := ⟨_, List.getElem?_eq_getElem g⟩
          have hin := (hI2).all x (List.mem_of_getElem? hx)
          have hno := hE.none (hI2).is hx
          conv => whnf
          refine CodeL.any tabOk Try.checked.mixed [(4, .row (linesV (preL (s2) 4)))] (.take 0 (.take 1 (.take 2 (.take 3 (.take 4 (.take 5 (.take 6 (.take 7 (.take 8 (.take 9 (.take 10 (.alt 11 (.alt 12 (.fin) .stop) .stop)))))))))))) (by kernel_rfl) rfl ⟨rfl, trivial⟩ rfl ?_
          repeat' ((try (conv => whnf)); first
            | refine IdxL.there k rfl g ?_
            | refine LoadL.at1 (.int .u64 x.asid) (k * 16 + 0) (by show 0 + k * 16 + 0 = _; omega) (linesV_cell hx (by decide)) rfl ?_
            | refine LoadL.at1 (.int .u64 x.num) (k * 16 + 1) (by show 0 + k * 16 + 1 = _; omega) (linesV_cell hx (by decide)) rfl ?_
            | refine Needs.mk ⟨rfl, trivial⟩ ?_
            | refine And.intro ?_ ?_
            | (refine VL.op (VL.lkp tabOk ?_); conv => whnf
               refine LkpL.yes pageT (x.asid, x.num) (fun _ => rfl) hin (.tup [.int .u64 x.at_, .tt]) rfl rfl ?_))
          all_goals
            refine VL.op (VL.lkp tabOk ?_)
            conv => whnf
            refine LkpL.no pageT (x.asid, x.num) (fun _ => rfl) hno (.bool false) zbool .ff rfl rfl ?_
            conv => whnf
            refine .there k rfl g ?_
            conv => whnf
            refine .at1 (.int .u64 x.at_) (k * 16 + 15) (by show 0 + k * 16 + 15 = _; omega) (linesV_cell hx (by decide)) rfl ?_
            conv => whnf
            refine .f (by simp) ?_
            conv => whnf
            refine OpL.upd tabOk ?_
            conv => whnf
            refine UpdL.set pageT (x.asid, x.num) (fun _ => rfl) true (fun _ => rfl) ?_
            conv => whnf
            exact ⟨(k + 1, _, _), fun i => (i, 0), ⟨by show k + 1 ≤ _; omega, hE.step hx _⟩, by show (preL (s2) 4).length - (k + 1) < (preL (s2) 4).length - k; omega, fun _ _ => rfl, ⟨⟨_, rfl, fun _ => rfl⟩, ⟨_, rfl, fun _ => rfl⟩, ⟨_, rfl, fun _ => rfl⟩, ⟨_, rfl, fun _ => rfl⟩, ⟨_, rfl, fun _ => rfl⟩, ⟨_, rfl, fun _ => rfl⟩, ⟨_, rfl, fun _ => congrArg (fun x => Value.int .i64 x) (by rw [wrap_i64' _ (by omega) (by omega)]; omega)⟩, trivial⟩, Part.keys ⟨⟨by decide, rfl, rfl, _, rfl, fun _ => rfl, Nat.le_refl _, fun _ => Nat.le_refl _, id⟩, ⟨by decide, rfl, rfl, _, rfl, fun _ => rfl, Nat.le_refl _, fun _ => Nat.le_refl _, id⟩, ⟨by decide, rfl, rfl⟩, ⟨by decide, rfl, rfl, _, rfl, fun _ => rfl, Nat.le_refl _, fun _ => Nat.le_refl _, id⟩, ⟨by decide, rfl, rfl⟩, trivial⟩ rfl⟩
        · conv => whnf
          exact ⟨⟨i + 1, _, _, _⟩, fun i => (i, 0), ⟨by show i + 1 ≤ A.length; omega, hI2⟩, by show A.length - (i + 1) < A.length - i; omega, fun _ _ => rfl, ⟨⟨_, rfl, fun _ => rfl⟩, ⟨_, rfl, fun _ => rfl⟩, ⟨_, rfl, fun _ => rfl⟩, ⟨_, rfl, fun _ => congrArg (fun x => Value.int .i64 x) hi1⟩, trivial⟩, Part.keys ⟨⟨by decide, rfl, rfl, _, rfl, fun _ => rfl, Nat.le_refl _, fun _ => Nat.le_refl _, id⟩, ⟨by decide, rfl, rfl, _, rfl, fun _ => rfl, Nat.le_refl _, fun _ => Nat.le_refl _, id⟩, ⟨by decide, rfl, rfl⟩, trivial⟩ rfl⟩
      conv => whnf
      refine ⟨fun k3 => ?_, fun k3 => ?_⟩
      · have hl2 : (tlbC (filtS (fun x => !isA a.asid x) s 4) []).length = (tlbC s []).length := by rw [tlbC_len hs.len, tlbC_len (okT_filtS hs.len 4)]
        conv => whnf
        refine Spec.row (t := 1) (flush_ok s [] hs.len a.asid) rfl (fun _ => rfl) rfl rfl hl2 rfl (fun _ => rfl) rfl ?_
        conv => whnf
        refine CodeL.loopN tabOk 4 (by decide) (fun z : Nat × DL => ([(0, .slz b0 0 0 A.length c0), (3, .ptr 1 0), (4, .map 2), (5, .int .i64 (i : Int)), (6, .ptr 3 0), (9, .int .i64 (z.1 : Int))], [(0, .view (actsV A)), (1, .row (tlbC (filtS (fun x => !isA a.asid x) s 4) [])), (2, .dict (ents pgV nuV z.2) c), (3, .cells (actC a))]))
          (fun z => i + 1 - z.1) (fun z => z.1 ≤ i + 1 ∧ FInv D a.asid z.2) rfl (fun z => rfl) (0, D) ⟨Nat.zero_le _, FInv.start _ hI.nd⟩ (fun i => (i, 0)) (fun _ _ => rfl) ⟨⟨⟨_, rfl, fun _ => rfl⟩, ⟨_, rfl, fun _ => rfl⟩, ⟨_, rfl, fun _ => rfl⟩, ⟨_, rfl, fun _ => rfl⟩, ⟨_, rfl, fun _ => rfl⟩, ⟨_, rfl, fun _ => rfl⟩, trivial⟩, Part.keys ⟨⟨by decide, rfl, rfl, _, rfl, fun _ => rfl, Nat.le_refl _, fun _ => Nat.le_refl _, id⟩, ⟨by decide, rfl, rfl, _, rfl, fun _ => rfl, Nat.le_refl _, fun _ => Nat.le_refl _, id⟩, ⟨by decide, rfl, rfl⟩, ⟨by decide, rfl, rfl, _, rfl, fun _ => rfl, Nat.le_refl _, fun _ => Nat.le_refl _, id⟩, trivial⟩ rfl⟩ ?_
        rintro ⟨k, D2⟩ ⟨hk, hF⟩
        dsimp only at hk hF ⊢
        conv => whnf
        refine ⟨fun g => ?_, fun g => ?_⟩
        · have g : k ≤ i := by have := of_decide_eq_true g; omega
          have hk1 : ((k + 1 : Nat) : Int) = IntKind.wrap .i64 ((k : Int) + 1) := by rw [wrap_i64' _ (by omega) (by omega)]; omega
          obtain ⟨y, hy⟩ : ∃ y, A[k]? = some y := ⟨_, List.getElem?_eq_getElem (by omega)⟩
          conv => whnf
          refine CodeL.draw tabOk Try.checked.mixed 8 (by kernel_rfl) rfl ?_
          conv => whnf
          refine .there k rfl (by omega) ?_
          conv => whnf
          refine .at1 (.int .u64 y.asid) (k * 5 + 2) (by show 0 + k * 5 + 2 = _; omega) (actsV_cell hy (by decide)) rfl ?_
          conv => whnf
          refine ⟨fun e => ?_, fun e => ?_⟩
          · conv => whnf
            refine CodeL.any tabOk Try.checked.mixed [(0, .view (actsV A)), (3, .cells (actC a))] (.take 0 (.take 1 (.take 2 (.take 3 (.take 4 (.take 5 (.take 6 (.take 7 (.take 8 (.alt 9 (.fin) .stop)))))))))) (by kernel_rfl) rfl ⟨rfl, rfl, trivial⟩ rfl ?_
            repeat' ((try (conv => whnf)); first
              | refine IdxL.there k rfl (by omega) ?_
              | refine LoadL.at1 (.int .u64 y.num) (k * 5 + 3) (by show 0 + k * 5 + 3 = _; omega) (actsV_cell hy (by decide)) rfl ?_
              | refine Needs.mk ⟨rfl, rfl, trivial⟩ ?_
              | refine And.intro ?_ ?_
              | (refine OpL.dlt tabOk ?_; conv => whnf
                 refine DelL.del pageT (a.asid, y.num) (fun _ => rfl) ?_))
            all_goals
              exact ⟨(k + 1, _), fun i => (i, 0), ⟨by show k + 1 ≤ i + 1; omega, hF.del y.num⟩, by show i + 1 - (k + 1) < i + 1 - k; omega, fun _ _ => rfl, ⟨⟨_, rfl, fun _ => rfl⟩, ⟨_, rfl, fun _ => rfl⟩, ⟨_, rfl, fun _ => rfl⟩, ⟨_, rfl, fun _ => rfl⟩, ⟨_, rfl, fun _ => rfl⟩, ⟨_, rfl, fun _ => congrArg (fun x => Value.int .i64 x) hk1⟩, trivial⟩, Part.keys ⟨⟨by decide, rfl, rfl, _, rfl, fun _ => rfl, Nat.le_refl _, fun _ => Nat.le_refl _, id⟩, ⟨by decide, rfl, rfl, _, rfl, fun _ => rfl, Nat.le_refl _, fun _ => Nat.le_refl _, id⟩, ⟨by decide, rfl, rfl⟩, ⟨by decide, rfl, rfl, _, rfl, fun _ => rfl, Nat.le_refl _, fun _ => Nat.le_refl _, id⟩, trivial⟩ rfl⟩
          · conv => whnf
            exact ⟨(k + 1, D2), fun i => (i, 0), ⟨by show k + 1 ≤ i + 1; omega, hF⟩, by show i + 1 - (k + 1) < i + 1 - k; omega, fun _ _ => rfl, ⟨⟨_, rfl, fun _ => rfl⟩, ⟨_, rfl, fun _ => rfl⟩, ⟨_, rfl, fun _ => rfl⟩, ⟨_, rfl, fun _ => rfl⟩, ⟨_, rfl, fun _ => rfl⟩, ⟨_, rfl, fun _ => congrArg (fun x => Value.int .i64 x) hk1⟩, trivial⟩, Part.keys ⟨⟨by decide, rfl, rfl, _, rfl, fun _ => rfl, Nat.le_refl _, fun _ => Nat.le_refl _, id⟩, ⟨by decide, rfl, rfl, _, rfl, fun _ => rfl, Nat.le_refl _, fun _ => Nat.le_refl _, id⟩, ⟨by decide, rfl, rfl⟩, ⟨by decide, rfl, rfl, _, rfl, fun _ => rfl, Nat.le_refl _, fun _ => Nat.le_refl _, id⟩, trivial⟩ rfl⟩
        · have hI2 := hI.flush hF
          generalize filtS (fun x => !isA a.asid x) s 4 = s2 at hI2
          conv => whnf
          refine Spec.fn (lines_ok (s2) [] (hI2).is.len) [1] rfl rfl (fun _ => rfl) rfl ⟨⟨by decide, rfl, rfl, _, rfl, fun _ => rfl, Nat.le_refl _, fun _ => Nat.le_refl _, fun h => (by cases h)⟩, trivial⟩ (fun _ _ => ⟨rfl, rfl, rfl, trivial⟩) (fun y hy => ?_)
          have h8 : (preL (s2) 4).length ≤ 8 := preL_len (hI2).is.len 4
          conv => whnf
          refine .f (decide_eq_false (by omega)) ?_
          conv => whnf
          refine OpL.mkm ?_
          conv => whnf
          refine CodeL.loopN tabOk (5 + 1) (by decide) (fun z : Nat × DM × Nat => ([(0, .slz b0 0 0 A.length c0), (3, .ptr 1 0), (4, .map 2), (5, .int .i64 (i : Int)), (10, .slz y.1 4 0 (preL (s2) 4).length y.2), (11, .map 5), (12, .int .i64 (z.1 : Int))], [(0, .view (actsV A)), (1, .row (tlbC (s2) [])), (2, .dict (ents pgV nuV (D2)) (c)), (4, .row (linesV (preL (s2) 4))), (5, .dict (ents pgV boV z.2.1) z.2.2)]))
            (fun z => (preL (s2) 4).length - z.1) (fun z => z.1 ≤ (preL (s2) 4).length ∧ MInv (preL (s2) 4) z.1 z.2.1) rfl (fun z => rfl) (0, [], 0) ⟨Nat.zero_le _, MInv.start _⟩ (fun i => (i, 0)) (fun _ _ => rfl) ⟨⟨⟨_, rfl, fun _ => rfl⟩, ⟨_, rfl, fun _ => rfl⟩, ⟨_, rfl, fun _ => rfl⟩, ⟨_, rfl, fun _ => rfl⟩, ⟨_, rfl, fun _ => rfl⟩, ⟨_, rfl, fun _ => rfl⟩, ⟨_, rfl, fun _ => rfl⟩, trivial⟩, Part.keys ⟨⟨by decide, rfl, rfl, _, rfl, fun _ => rfl, Nat.le_refl _, fun _ => Nat.le_refl _, id⟩, ⟨by decide, rfl, rfl, _, rfl, fun _ => rfl, Nat.le_refl _, fun _ => Nat.le_refl _, id⟩, ⟨by decide, rfl, rfl⟩, ⟨by decide, rfl, rfl, _, rfl, fun _ => rfl, Nat.le_refl _, fun _ => Nat.le_refl _, id⟩, ⟨by decide, rfl, rfl⟩, trivial⟩ rfl⟩ ?_
          rintro ⟨k, E, c2⟩ ⟨hk, hE⟩
          dsimp only at hk hE ⊢
          conv => whnf
          refine ⟨fun g => ?_, fun g => ?_⟩
          · have g : k < (preL (s2) 4).length := by have := of_decide_eq_true g; omega
            obtain ⟨x, hx⟩ : ∃ x, (preL (s2) 4)[k]? = some x := ⟨_, List.getElem?_eq_getElem g⟩
            have hin := (hI2).all x (List.mem_of_getElem? hx)
            have hno := hE.none (hI2).is hx
            conv => whnf
            refine CodeL.any tabOk Try.checked.mixed [(4, .row (linesV (preL (s2) 4)))] (.take 0 (.take 1 (.take 2 (.take 3 (.take 4 (.take 5 (.take 6 (.take 7 (.take 8 (.take 9 (.take 10 (.alt 11 (.alt 12 (.fin) .stop) .stop)))))))))))) (by kernel_rfl) rfl ⟨rfl, trivial⟩ rfl ?_
            repeat' ((try (conv => whnf)); first
              | refine IdxL.there k rfl g ?_
              | refine LoadL.at1 (.int .u64 x.asid) (k * 16 + 0) (by show 0 + k * 16 + 0 = _; omega) (linesV_cell hx (by decide)) rfl ?_
              | refine LoadL.at1 (.int .u64 x.num) (k * 16 + 1) (by show 0 + k * 16 + 1 = _; omega) (linesV_cell hx (by decide)) rfl ?_
              | refine Needs.mk ⟨rfl, trivial⟩ ?_
              | refine And.intro ?_ ?_
              | (refine VL.op (VL.lkp tabOk ?_); conv => whnf
                 refine LkpL.yes pageT (x.asid, x.num) (fun _ => rfl) hin (.tup [.int .u64 x.at_, .tt]) rfl rfl ?_))
            all_goals
              refine VL.op (VL.lkp tabOk ?_)
              conv => whnf
              refine LkpL.no pageT (x.asid, x.num) (fun _ => rfl) hno (.bool false) zbool .ff rfl rfl ?_
              conv => whnf
              refine .there k rfl g ?_
              conv => whnf
              refine .at1 (.int .u64 x.at_) (k * 16 + 15) (by show 0 + k * 16 + 15 = _; omega) (linesV_cell hx (by decide)) rfl ?_
              conv => whnf
              refine .f (by simp) ?_
              conv => whnf
              refine OpL.upd tabOk ?_
              conv => whnf
              refine UpdL.set pageT (x.asid, x.num) (fun _ => rfl) true (fun _ => rfl) ?_
              conv => whnf
              exact ⟨(k + 1, _, _), fun i => (i, 0), ⟨by show k + 1 ≤ _; omega, hE.step hx _⟩, by show (preL (s2) 4).length - (k + 1) < (preL (s2) 4).length - k; omega, fun _ _ => rfl, ⟨⟨_, rfl, fun _ => rfl⟩, ⟨_, rfl, fun _ => rfl⟩, ⟨_, rfl, fun _ => rfl⟩, ⟨_, rfl, fun _ => rfl⟩, ⟨_, rfl, fun _ => rfl⟩, ⟨_, rfl, fun _ => rfl⟩, ⟨_, rfl, fun _ => congrArg (fun x => Value.int .i64 x) (by rw [wrap_i64' _ (by omega) (by omega)]; omega)⟩, trivial⟩, Part.keys ⟨⟨by decide, rfl, rfl, _, rfl, fun _ => rfl, Nat.le_refl _, fun _ => Nat.le_refl _, id⟩, ⟨by decide, rfl, rfl, _, rfl, fun _ => rfl, Nat.le_refl _, fun _ => Nat.le_refl _, id⟩, ⟨by decide, rfl, rfl⟩, ⟨by decide, rfl, rfl, _, rfl, fun _ => rfl, Nat.le_refl _, fun _ => Nat.le_refl _, id⟩, ⟨by decide, rfl, rfl⟩, trivial⟩ rfl⟩
          · conv => whnf
            exact ⟨⟨i + 1, _, _, _⟩, fun i => (i, 0), ⟨by show i + 1 ≤ A.length; omega, hI2⟩, by show A.length - (i + 1) < A.length - i; omega, fun _ _ => rfl, ⟨⟨_, rfl, fun _ => rfl⟩, ⟨_, rfl, fun _ => rfl⟩, ⟨_, rfl, fun _ => rfl⟩, ⟨_, rfl, fun _ => congrArg (fun x => Value.int .i64 x) hi1⟩, trivial⟩, Part.keys ⟨⟨by decide, rfl, rfl, _, rfl, fun _ => rfl, Nat.le_refl _, fun _ => Nat.le_refl _, id⟩, ⟨by decide, rfl, rfl, _, rfl, fun _ => rfl, Nat.le_refl _, fun _ => Nat.le_refl _, id⟩, ⟨by decide, rfl, rfl⟩, trivial⟩ rfl⟩
      conv => whnf
      refine ⟨fun k5 => ?_, fun k5 => ?_⟩
      · have hI2 : LInv (evS s a.place) D := by
          unfold evS
          split
          · rename_i x hx
            exact hI.sub (hs.filter _) fun y hy => (mem_dropS hs hy).1
          · exact hI
        conv => whnf
        refine Spec.row (t := 1) (evict_ok s [] hs a.place) rfl (fun _ => rfl) rfl rfl (evS_len hs a.place []) rfl (fun _ => rfl) rfl ?_
        generalize evS s a.place = s2 at hI2
        conv => whnf
        refine Spec.fn (lines_ok (s2) [] (hI2).is.len) [1] rfl rfl (fun _ => rfl) rfl ⟨⟨by decide, rfl, rfl, _, rfl, fun _ => rfl, Nat.le_refl _, fun _ => Nat.le_refl _, fun h => (by cases h)⟩, trivial⟩ (fun _ _ => ⟨rfl, rfl, rfl, trivial⟩) (fun y hy => ?_)
        have h8 : (preL (s2) 4).length ≤ 8 := preL_len (hI2).is.len 4
        conv => whnf
        refine .f (decide_eq_false (by omega)) ?_
        conv => whnf
        refine OpL.mkm ?_
        conv => whnf
        refine CodeL.loopN tabOk (5 + 1) (by decide) (fun z : Nat × DM × Nat => ([(0, .slz b0 0 0 A.length c0), (3, .ptr 1 0), (4, .map 2), (5, .int .i64 (i : Int)), (10, .slz y.1 4 0 (preL (s2) 4).length y.2), (11, .map 5), (12, .int .i64 (z.1 : Int))], [(0, .view (actsV A)), (1, .row (tlbC (s2) [])), (2, .dict (ents pgV nuV (D)) (c)), (4, .row (linesV (preL (s2) 4))), (5, .dict (ents pgV boV z.2.1) z.2.2)]))
          (fun z => (preL (s2) 4).length - z.1) (fun z => z.1 ≤ (preL (s2) 4).length ∧ MInv (preL (s2) 4) z.1 z.2.1) rfl (fun z => rfl) (0, [], 0) ⟨Nat.zero_le _, MInv.start _⟩ (fun i => (i, 0)) (fun _ _ => rfl) ⟨⟨⟨_, rfl, fun _ => rfl⟩, ⟨_, rfl, fun _ => rfl⟩, ⟨_, rfl, fun _ => rfl⟩, ⟨_, rfl, fun _ => rfl⟩, ⟨_, rfl, fun _ => rfl⟩, ⟨_, rfl, fun _ => rfl⟩, ⟨_, rfl, fun _ => rfl⟩, trivial⟩, Part.keys ⟨⟨by decide, rfl, rfl, _, rfl, fun _ => rfl, Nat.le_refl _, fun _ => Nat.le_refl _, id⟩, ⟨by decide, rfl, rfl, _, rfl, fun _ => rfl, Nat.le_refl _, fun _ => Nat.le_refl _, id⟩, ⟨by decide, rfl, rfl⟩, ⟨by decide, rfl, rfl, _, rfl, fun _ => rfl, Nat.le_refl _, fun _ => Nat.le_refl _, id⟩, ⟨by decide, rfl, rfl⟩, trivial⟩ rfl⟩ ?_
        rintro ⟨k, E, c2⟩ ⟨hk, hE⟩
        dsimp only at hk hE ⊢
        conv => whnf
        refine ⟨fun g => ?_, fun g => ?_⟩
        · have g : k < (preL (s2) 4).length := by have := of_decide_eq_true g; omega
          obtain ⟨x, hx⟩ : ∃ x, (preL (s2) 4)[k]? = some x := ⟨_, List.getElem?_eq_getElem g⟩
          have hin := (hI2).all x (List.mem_of_getElem? hx)
          have hno := hE.none (hI2).is hx
          conv => whnf
          refine CodeL.any tabOk Try.checked.mixed [(4, .row (linesV (preL (s2) 4)))] (.take 0 (.take 1 (.take 2 (.take 3 (.take 4 (.take 5 (.take 6 (.take 7 (.take 8 (.take 9 (.take 10 (.alt 11 (.alt 12 (.fin) .stop) .stop)))))))))))) (by kernel_rfl) rfl ⟨rfl, trivial⟩ rfl ?_
          repeat' ((try (conv => whnf)); first
            | refine IdxL.there k rfl g ?_
            | refine LoadL.at1 (.int .u64 x.asid) (k * 16 + 0) (by show 0 + k * 16 + 0 = _; omega) (linesV_cell hx (by decide)) rfl ?_
            | refine LoadL.at1 (.int .u64 x.num) (k * 16 + 1) (by show 0 + k * 16 + 1 = _; omega) (linesV_cell hx (by decide)) rfl ?_
            | refine Needs.mk ⟨rfl, trivial⟩ ?_
            | refine And.intro ?_ ?_
            | (refine VL.op (VL.lkp tabOk ?_); conv => whnf
               refine LkpL.yes pageT (x.asid, x.num) (fun _ => rfl) hin (.tup [.int .u64 x.at_, .tt]) rfl rfl ?_))
          all_goals
            refine VL.op (VL.lkp tabOk ?_)
            conv => whnf
            refine LkpL.no pageT (x.asid, x.num) (fun _ => rfl) hno (.bool false) zbool .ff rfl rfl ?_
            conv => whnf
            refine .there k rfl g ?_
            conv => whnf
            refine .at1 (.int .u64 x.at_) (k * 16 + 15) (by show 0 + k * 16 + 15 = _; omega) (linesV_cell hx (by decide)) rfl ?_
            conv => whnf
            refine .f (by simp) ?_
            conv => whnf
            refine OpL.upd tabOk ?_
            conv => whnf
            refine UpdL.set pageT (x.asid, x.num) (fun _ => rfl) true (fun _ => rfl) ?_
            conv => whnf
            exact ⟨(k + 1, _, _), fun i => (i, 0), ⟨by show k + 1 ≤ _; omega, hE.step hx _⟩, by show (preL (s2) 4).length - (k + 1) < (preL (s2) 4).length - k; omega, fun _ _ => rfl, ⟨⟨_, rfl, fun _ => rfl⟩, ⟨_, rfl, fun _ => rfl⟩, ⟨_, rfl, fun _ => rfl⟩, ⟨_, rfl, fun _ => rfl⟩, ⟨_, rfl, fun _ => rfl⟩, ⟨_, rfl, fun _ => rfl⟩, ⟨_, rfl, fun _ => congrArg (fun x => Value.int .i64 x) (by rw [wrap_i64' _ (by omega) (by omega)]; omega)⟩, trivial⟩, Part.keys ⟨⟨by decide, rfl, rfl, _, rfl, fun _ => rfl, Nat.le_refl _, fun _ => Nat.le_refl _, id⟩, ⟨by decide, rfl, rfl, _, rfl, fun _ => rfl, Nat.le_refl _, fun _ => Nat.le_refl _, id⟩, ⟨by decide, rfl, rfl⟩, ⟨by decide, rfl, rfl, _, rfl, fun _ => rfl, Nat.le_refl _, fun _ => Nat.le_refl _, id⟩, ⟨by decide, rfl, rfl⟩, trivial⟩ rfl⟩
        · conv => whnf
          exact ⟨⟨i + 1, _, _, _⟩, fun i => (i, 0), ⟨by show i + 1 ≤ A.length; omega, hI2⟩, by show A.length - (i + 1) < A.length - i; omega, fun _ _ => rfl, ⟨⟨_, rfl, fun _ => rfl⟩, ⟨_, rfl, fun _ => rfl⟩, ⟨_, rfl, fun _ => rfl⟩, ⟨_, rfl, fun _ => congrArg (fun x => Value.int .i64 x) hi1⟩, trivial⟩, Part.keys ⟨⟨by decide, rfl, rfl, _, rfl, fun _ => rfl, Nat.le_refl _, fun _ => Nat.le_refl _, id⟩, ⟨by decide, rfl, rfl, _, rfl, fun _ => rfl, Nat.le_refl _, fun _ => Nat.le_refl _, id⟩, ⟨by decide, rfl, rfl⟩, trivial⟩ rfl⟩
      conv => whnf
      refine Spec.fn (lines_ok (s) [] (hI).is.len) [1] rfl rfl (fun _ => rfl) rfl ⟨⟨by decide, rfl, rfl, _, rfl, fun _ => rfl, Nat.le_refl _, fun _ => Nat.le_refl _, fun h => (by cases h)⟩, trivial⟩ (fun _ _ => ⟨rfl, rfl, rfl, trivial⟩) (fun y hy => ?_)
      have h8 : (preL (s) 4).length ≤ 8 := preL_len (hI).is.len 4
      conv => whnf
      refine .f (decide_eq_false (by omega)) ?_
      conv => whnf
      refine OpL.mkm ?_
      conv => whnf
      refine CodeL.loopN tabOk (5 + 1) (by decide) (fun z : Nat × DM × Nat => ([(0, .slz b0 0 0 A.length c0), (3, .ptr 1 0), (4, .map 2), (5, .int .i64 (i : Int)), (10, .slz y.1 4 0 (preL (s) 4).length y.2), (11, .map 5), (12, .int .i64 (z.1 : Int))], [(0, .view (actsV A)), (1, .row (tlbC (s) [])), (2, .dict (ents pgV nuV (D)) (c)), (4, .row (linesV (preL (s) 4))), (5, .dict (ents pgV boV z.2.1) z.2.2)]))
        (fun z => (preL (s) 4).length - z.1) (fun z => z.1 ≤ (preL (s) 4).length ∧ MInv (preL (s) 4) z.1 z.2.1) rfl (fun z => rfl) (0, [], 0) ⟨Nat.zero_le _, MInv.start _⟩ (fun i => (i, 0)) (fun _ _ => rfl) ⟨⟨⟨_, rfl, fun _ => rfl⟩, ⟨_, rfl, fun _ => rfl⟩, ⟨_, rfl, fun _ => rfl⟩, ⟨_, rfl, fun _ => rfl⟩, ⟨_, rfl, fun _ => rfl⟩, ⟨_, rfl, fun _ => rfl⟩, ⟨_, rfl, fun _ => rfl⟩, trivial⟩, Part.keys ⟨⟨by decide, rfl, rfl, _, rfl, fun _ => rfl, Nat.le_refl _, fun _ => Nat.le_refl _, id⟩, ⟨by decide, rfl, rfl, _, rfl, fun _ => rfl, Nat.le_refl _, fun _ => Nat.le_refl _, id⟩, ⟨by decide, rfl, rfl⟩, ⟨by decide, rfl, rfl, _, rfl, fun _ => rfl, Nat.le_refl _, fun _ => Nat.le_refl _, id⟩, ⟨by decide, rfl, rfl⟩, trivial⟩ rfl⟩ ?_
      rintro ⟨k, E, c2⟩ ⟨hk, hE⟩
      dsimp only at hk hE ⊢
      conv => whnf
      refine ⟨fun g => ?_, fun g => ?_⟩
      · have g : k < (preL (s) 4).length := by have := of_decide_eq_true g; omega
        obtain ⟨x, hx⟩ : ∃ x, (preL (s) 4)[k]? = some x := ⟨_, List.getElem?_eq_getElem g⟩
        have hin := (hI).all x (List.mem_of_getElem? hx)
        have hno := hE.none (hI).is hx
        conv => whnf
        refine CodeL.any tabOk Try.checked.mixed [(4, .row (linesV (preL (s) 4)))] (.take 0 (.take 1 (.take 2 (.take 3 (.take 4 (.take 5 (.take 6 (.take 7 (.take 8 (.take 9 (.take 10 (.alt 11 (.alt 12 (.fin) .stop) .stop)))))))))))) (by kernel_rfl) rfl ⟨rfl, trivial⟩ rfl ?_
        repeat' ((try (conv => whnf)); first
          | refine IdxL.there k rfl g ?_
          | refine LoadL.at1 (.int .u64 x.asid) (k * 16 + 0) (by show 0 + k * 16 + 0 = _; omega) (linesV_cell hx (by decide)) rfl ?_
          | refine LoadL.at1 (.int .u64 x.num) (k * 16 + 1) (by show 0 + k * 16 + 1 = _; omega) (linesV_cell hx (by decide)) rfl ?_
          | refine Needs.mk ⟨rfl, trivial⟩ ?_
          | refine And.intro ?_ ?_
          | (refine VL.op (VL.lkp tabOk ?_); conv => whnf
             refine LkpL.yes pageT (x.asid, x.num) (fun _ => rfl) hin (.tup [.int .u64 x.at_, .tt]) rfl rfl ?_))
        all_goals
          refine VL.op (VL.lkp tabOk ?_)
          conv => whnf
          refine LkpL.no pageT (x.asid, x.num) (fun _ => rfl) hno (.bool false) zbool .ff rfl rfl ?_
          conv => whnf
          refine .there k rfl g ?_
          conv => whnf
          refine .at1 (.int .u64 x.at_) (k * 16 + 15) (by show 0 + k * 16 + 15 = _; omega) (linesV_cell hx (by decide)) rfl ?_
          conv => whnf
          refine .f (by simp) ?_
          conv => whnf
          refine OpL.upd tabOk ?_
          conv => whnf
          refine UpdL.set pageT (x.asid, x.num) (fun _ => rfl) true (fun _ => rfl) ?_
          conv => whnf
          exact ⟨(k + 1, _, _), fun i => (i, 0), ⟨by show k + 1 ≤ _; omega, hE.step hx _⟩, by show (preL (s) 4).length - (k + 1) < (preL (s) 4).length - k; omega, fun _ _ => rfl, ⟨⟨_, rfl, fun _ => rfl⟩, ⟨_, rfl, fun _ => rfl⟩, ⟨_, rfl, fun _ => rfl⟩, ⟨_, rfl, fun _ => rfl⟩, ⟨_, rfl, fun _ => rfl⟩, ⟨_, rfl, fun _ => rfl⟩, ⟨_, rfl, fun _ => congrArg (fun x => Value.int .i64 x) (by rw [wrap_i64' _ (by omega) (by omega)]; omega)⟩, trivial⟩, Part.keys ⟨⟨by decide, rfl, rfl, _, rfl, fun _ => rfl, Nat.le_refl _, fun _ => Nat.le_refl _, id⟩, ⟨by decide, rfl, rfl, _, rfl, fun _ => rfl, Nat.le_refl _, fun _ => Nat.le_refl _, id⟩, ⟨by decide, rfl, rfl⟩, ⟨by decide, rfl, rfl, _, rfl, fun _ => rfl, Nat.le_refl _, fun _ => Nat.le_refl _, id⟩, ⟨by decide, rfl, rfl⟩, trivial⟩ rfl⟩
      · conv => whnf
        exact ⟨⟨i + 1, _, _, _⟩, fun i => (i, 0), ⟨by show i + 1 ≤ A.length; omega, hI⟩, by show A.length - (i + 1) < A.length - i; omega, fun _ _ => rfl, ⟨⟨_, rfl, fun _ => rfl⟩, ⟨_, rfl, fun _ => rfl⟩, ⟨_, rfl, fun _ => rfl⟩, ⟨_, rfl, fun _ => congrArg (fun x => Value.int .i64 x) hi1⟩, trivial⟩, Part.keys ⟨⟨by decide, rfl, rfl, _, rfl, fun _ => rfl, Nat.le_refl _, fun _ => Nat.le_refl _, id⟩, ⟨by decide, rfl, rfl, _, rfl, fun _ => rfl, Nat.le_refl _, fun _ => Nat.le_refl _, id⟩, ⟨by decide, rfl, rfl⟩, trivial⟩ rfl⟩
    · conv => whnf
      refine Spec.pure nput_ok rfl rfl (fun _ => rfl) ?_
      conv => whnf
      refine Spec.pure nclear_ok rfl rfl (fun _ => rfl) ?_
      conv => whnf
      refine Spec.pure nlook_ok rfl rfl (fun _ => rfl) ?_
      conv => whnf
      refine Spec.fn (Fun.read one_ok rfl) [] rfl rfl (fun _ => rfl) rfl trivial (fun _ _ => ⟨rfl, rfl, trivial⟩) (fun _ _ => ?_)
      conv => whnf
      refine Spec.pure nlines_ok rfl rfl (fun _ => rfl) ?_
      conv => whnf
      intro ρ
      rfl
  · conv => whnf
    refine Spec.pure nput_ok rfl rfl (fun _ => rfl) ?_
    conv => whnf
    refine Spec.pure nclear_ok rfl rfl (fun _ => rfl) ?_
    conv => whnf
    refine Spec.pure nlook_ok rfl rfl (fun _ => rfl) ?_
    conv => whnf
    refine Spec.fn (Fun.read one_ok rfl) [] rfl rfl (fun _ => rfl) rfl trivial (fun _ _ => ⟨rfl, rfl, trivial⟩) (fun _ _ => ?_)
    conv => whnf
    refine Spec.pure nlines_ok rfl rfl (fun _ => rfl) ?_
    conv => whnf
    intro ρ
    rfl
end Go.Sh.Ytmfpndffepjcpaa
