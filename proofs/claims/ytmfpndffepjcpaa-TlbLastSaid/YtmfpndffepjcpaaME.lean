import Derived.Test.YtmfpndffepjcpaaMD
import Derived.Test.YtmfpndffepjcpaaMA
set_option linter.unusedVariables false
namespace Go.Sh.Ytmfpndffepjcpaa
open Go.Proofs Go.Sh

structure Act where
  kind : Int
  place : Int
  asid : Int
  num : Int
  what : Int
def Act.good (a : Act) : Prop := 0 ≤ a.asid ∧ 0 ≤ a.num ∧ a.num < 18446744073709551616 ∧ 0 ≤ a.what
def actC (a : Act) : List SV := [.int .i64 a.kind, .int .i64 a.place, .int .u64 a.asid, .int .u64 a.num, .int .u64 a.what]
def actV (a : Act) : List Value := [.int .i64 a.kind, .int .i64 a.place, .int .u64 a.asid, .int .u64 a.num, .int .u64 a.what]
def actsV (A : List Act) : List Value := A.flatMap actV
theorem actsV_len : ∀ A, (actsV A).length = A.length * 5
  | [] => rfl
  | a :: r => by rw [actsV, List.flatMap_cons, List.length_append, ← actsV, actsV_len r, List.length_cons]; simp [actV]; omega
theorem actsV_get : ∀ {A : List Act} {i : Nat} {a : Act}, A[i]? = some a → ((actsV A).drop (i * 5)).take 5 = actV a
  | [], i, a, h => by simp at h
  | x :: r, 0, a, h => by
    simp only [List.getElem?_cons_zero, Option.some.injEq] at h
    subst h; rfl
  | x :: r, i + 1, a, h => by
    rw [List.getElem?_cons_succ] at h
    have : (i + 1) * 5 = (actV x).length + i * 5 := by simp [actV]; omega
    rw [actsV, List.flatMap_cons, this, List.drop_append]
    simp only [Nat.add_sub_cancel_left]
    rw [List.drop_eq_nil_of_le (by omega), List.nil_append]
    exact actsV_get h

def lnOf (a : Act) : Ln := ⟨a.asid, a.num, ent0, a.what⟩
theorem line_ok (a : Act) : Pure Try.prog 7 [.agg (actC a)] (.agg (lnC (lnOf a))) := by
  refine Spec.of_body tabOk Try.func7 rfl (ent Try.func7 rfl (by kernel_rfl)) Try.ntmps7 rfl (by kernel_rfl) (Nat.le_of_ble_eq_true rfl) ?_
  conv => whnf
  intro ρ
  rfl

theorem evS_len {s : Nat → List Ln} (hs : Inv s) (place : Int) (rest : List Value) : (tlbC (evS s place) rest).length = (tlbC s rest).length := by
  unfold evS
  split
  · rw [tlbC_len hs.len, tlbC_len (okT_fset hs.len (Nat.le_trans (List.length_filter_le _ _) (hs.len _)))]
  · rfl
theorem plays_ok (A : List Act) (b0 : Bool) (c0 : Nat) (hA : A.length ≤ 9223372036854775807) (hg : ∀ a ∈ A, a.good) : Spec Try.prog 4 [.slz b0 0 0 A.length c0] [(0, .view (actsV A))] 1 fun v _ _ => ∀ ρ, v.val ρ = SV.tt.val ρ := by
  refine Spec.of_body tabOk Try.func4 rfl (ent Try.func4 rfl (by kernel_rfl)) Try.ntmps4 rfl (by kernel_rfl) (Nat.le_of_ble_eq_true rfl) ?_
  conv => whnf
  refine CodeL.loopG tabOk 3 (by decide) (fun x : Nat × (Nat → List Ln) × Bool × Nat => ([(0, .slz b0 0 0 A.length c0), (3, .ptr 1 0), (4, .slz x.2.2.1 2 0 (preL x.2.1 4).length x.2.2.2), (5, .int .i64 (x.1 : Int))], [(0, .view (actsV A)), (1, .row (tlbC x.2.1 [])), (2, .row (refV ((preL x.2.1 4).map toRL)))]))
    (fun x => A.length - x.1) (fun x => x.1 ≤ A.length ∧ Inv x.2.1 ∧ okS (preL x.2.1 4).length x.2.2) rfl (fun x => rfl) (0, fun _ => [], true, 0) ⟨Nat.zero_le _, Inv.nil, Nat.le_refl _, fun _ => rfl⟩ (fun i => (i, 0)) (fun _ _ => rfl)
    ⟨⟨⟨_, rfl, fun _ => rfl⟩, ⟨_, rfl, fun _ => rfl⟩, ⟨_, rfl, fun _ => rfl⟩, ⟨_, rfl, fun _ => rfl⟩, trivial⟩, Part.same ⟨⟨by decide, rfl, rfl, _, rfl, fun _ => rfl, Nat.le_refl _, fun _ => Nat.le_refl _, id⟩, ⟨by decide, rfl, rfl, _, rfl, fun _ => rfl, Nat.le_refl _, fun _ => Nat.le_refl _, id⟩, ⟨by decide, rfl, rfl, _, rfl, fun _ => rfl, Nat.le_refl _, fun _ => Nat.le_refl _, id⟩, trivial⟩ (fun i j _ _ h => h)⟩ ?_
  rintro ⟨i, s, b, c⟩ ⟨hi, hs, hc⟩
  have hi : i ≤ A.length := hi
  have hs : Inv s := hs
  have hc : okS (preL s 4).length (b, c) := hc
  have hpl := preL_len hs.len 4
  have hmap : ((preL s 4).map toRL).length = (preL s 4).length := List.length_map ..
  dsimp only
  conv => whnf
  refine ⟨fun h => ?_, fun h => ?_⟩
  · have h : i < A.length := by have := of_decide_eq_true h; omega
    obtain ⟨a, ha⟩ : ∃ a, A[i]? = some a := ⟨_, List.getElem?_eq_getElem h⟩
    obtain ⟨ga, gn, gn2, gw⟩ := hg a (List.mem_of_getElem? ha)
    conv => whnf
    refine ⟨fun h100 => ?_, fun h100 => ?_⟩
    · conv => whnf
      refine .there i rfl (by omega) ?_
      conv => whnf
      refine .atN (actC a) (i * 5) (by show 0 + i * 5 = _; omega) (by show _ + 5 ≤ (actsV A).length; rw [actsV_len]; omega) (actsV_get ha) rfl ?_
      conv => whnf
      refine ⟨fun k0 => ?_, fun k0 => ?_⟩
      · conv => whnf
        refine Spec.pure (line_ok a) rfl rfl (fun _ => rfl) ?_
        conv => whnf
        refine Spec.row (t := 1) (put_ok s [] hs.len (lnOf a) gn) rfl (fun _ => rfl) rfl rfl (putS_len hs (lnOf a) gn []) rfl (fun _ => rfl) rfl ?_
        conv => whnf
        refine Spec.fn (refput_ok ((preL s 4).map toRL) b c (toRL (lnOf a)) (by omega)) [2] rfl rfl (fun _ => by rw [hmap]; rfl) rfl ⟨⟨by decide, rfl, rfl, _, rfl, fun _ => rfl, Nat.le_refl _, fun _ => Nat.le_refl _, fun h => by cases h⟩, trivial⟩ (fun _ _ => ⟨rfl, rfl, rfl, trivial⟩) (fun z hz => ?_)
        rw [← putS_preL hs (lnOf a) gn] at hz ⊢
        conv => whnf
        have hs2 := hs.put (lnOf a) gn
        refine Spec.fn (lines_ok (putS s (lnOf a)) [] (hs2).len) [1] rfl rfl (fun _ => rfl) rfl ⟨⟨by decide, rfl, rfl, _, rfl, fun _ => rfl, Nat.le_refl _, fun _ => Nat.le_refl _, fun h => by cases h⟩, trivial⟩ (fun _ _ => ⟨rfl, rfl, rfl, trivial⟩) (fun y hy => ?_)
        conv => whnf
        refine Spec.fn (Fun.read (same_ok (preL (putS s (lnOf a)) 4) y.1 z.1 y.2 z.2 (by have := preL_len (hs2).len 4; omega)) rfl) [5, 4] rfl rfl (fun _ => by rw [List.length_map]; rfl) rfl ⟨⟨by decide, rfl, rfl, _, rfl, fun _ => rfl, Nat.le_refl _, fun _ => Nat.le_refl _, fun h => by cases h⟩, ⟨by decide, rfl, rfl, _, rfl, fun _ => by rfl, by exact Nat.le_refl _, fun _ => Nat.le_refl _, fun h => by cases h⟩, trivial⟩ (fun _ _ => ⟨rfl, rfl, rfl, rfl, trivial⟩) (fun _ _ => ?_)
        conv => whnf
        exact ⟨(i + 1, putS s (lnOf a), (z.1, z.2)), to1 2 4, ⟨by show i + 1 ≤ A.length; omega, hs2, by rw [List.length_map] at hz; exact hz⟩, by show A.length - (i + 1) < A.length - i; omega, to1_low (by decide), ⟨⟨_, rfl, fun _ => rfl⟩, ⟨_, rfl, fun _ => rfl⟩, ⟨_, rfl, fun _ => by rw [List.length_map]; rfl⟩, ⟨_, rfl, fun _ => congrArg (fun x => Value.int .i64 x) (by rw [wrap_i64' _ (by omega) (by omega)]; omega)⟩, trivial⟩,
          Part.same ⟨⟨by decide, rfl, rfl, _, rfl, fun _ => rfl, Nat.le_refl _, fun _ => Nat.le_refl _, id⟩, ⟨by decide, rfl, rfl, _, rfl, fun _ => rfl, Nat.le_refl _, fun _ => Nat.le_refl _, id⟩, ⟨by decide, rfl, rfl, _, rfl, fun _ => by rfl, by exact Nat.le_refl _, fun _ => Nat.le_refl _, id⟩, trivial⟩ (to1_inj (.inr (by decide)))⟩
      · conv => whnf
        refine ⟨fun k1 => ?_, fun k1 => ?_⟩
        · have hlk := look_ok s [] hs.len a.asid a.num gn
          have hrl := reflook_ok ((preL s 4).map toRL) b c a.asid a.num (by omega)
          rw [find_preL hs] at hrl
          generalize (s (q4 a.num)).find? (isP a.asid a.num) = o at hlk hrl
          cases o with
          | none =>
            conv => whnf
            refine Spec.fn (Fun.read hlk rfl) [1] rfl rfl (fun _ => rfl) rfl ⟨⟨by decide, rfl, rfl, _, rfl, fun _ => rfl, Nat.le_refl _, fun _ => Nat.le_refl _, fun h => by cases h⟩, trivial⟩ (fun _ _ => ⟨rfl, rfl, rfl, trivial⟩) (fun _ _ => ?_)
            conv => whnf
            refine Spec.fn (Fun.read hrl rfl) [2] rfl rfl (fun _ => by rw [hmap]; rfl) rfl ⟨⟨by decide, rfl, rfl, _, rfl, fun _ => rfl, Nat.le_refl _, fun _ => Nat.le_refl _, fun h => by cases h⟩, trivial⟩ (fun _ _ => ⟨rfl, rfl, rfl, trivial⟩) (fun _ _ => ?_)
            conv => whnf
            refine VL.op (VL.eq tabOk ?_)
            conv => whnf
            refine .f rfl ?_
            conv => whnf
            refine .f rfl ?_
            conv => whnf
            refine .f rfl ?_
            conv => whnf
            refine .f rfl ?_
            conv => whnf
            refine Spec.fn (lines_ok (s) [] (hs).len) [1] rfl rfl (fun _ => rfl) rfl ⟨⟨by decide, rfl, rfl, _, rfl, fun _ => rfl, Nat.le_refl _, fun _ => Nat.le_refl _, fun h => by cases h⟩, trivial⟩ (fun _ _ => ⟨rfl, rfl, rfl, trivial⟩) (fun y hy => ?_)
            conv => whnf
            refine Spec.fn (Fun.read (same_ok (preL (s) 4) y.1 b y.2 c (by have := preL_len (hs).len 4; omega)) rfl) [6, 2] rfl rfl (fun _ => by (try rw [hmap]) <;> rfl) rfl ⟨⟨by decide, rfl, rfl, _, rfl, fun _ => rfl, Nat.le_refl _, fun _ => Nat.le_refl _, fun h => by cases h⟩, ⟨by decide, rfl, rfl, _, rfl, fun _ => by rfl, by exact Nat.le_refl _, fun _ => Nat.le_refl _, fun h => by cases h⟩, trivial⟩ (fun _ _ => ⟨rfl, rfl, rfl, rfl, trivial⟩) (fun _ _ => ?_)
            conv => whnf
            exact ⟨(i + 1, s, (b, c)), to1 2 2, ⟨by show i + 1 ≤ A.length; omega, hs, hc⟩, by show A.length - (i + 1) < A.length - i; omega, to1_low (by decide), ⟨⟨_, rfl, fun _ => rfl⟩, ⟨_, rfl, fun _ => rfl⟩, ⟨_, rfl, fun _ => by (try rw [hmap]) <;> rfl⟩, ⟨_, rfl, fun _ => congrArg (fun x => Value.int .i64 x) (by rw [wrap_i64' _ (by omega) (by omega)]; omega)⟩, trivial⟩,
              Part.same ⟨⟨by decide, rfl, rfl, _, rfl, fun _ => rfl, Nat.le_refl _, fun _ => Nat.le_refl _, id⟩, ⟨by decide, rfl, rfl, _, rfl, fun _ => rfl, Nat.le_refl _, fun _ => Nat.le_refl _, id⟩, ⟨by decide, rfl, rfl, _, rfl, fun _ => by rfl, by exact Nat.le_refl _, fun _ => Nat.le_refl _, id⟩, trivial⟩ (to1_inj (.inl rfl))⟩
          | some x =>
            conv => whnf
            refine Spec.fn (Fun.read hlk rfl) [1] rfl rfl (fun _ => rfl) rfl ⟨⟨by decide, rfl, rfl, _, rfl, fun _ => rfl, Nat.le_refl _, fun _ => Nat.le_refl _, fun h => by cases h⟩, trivial⟩ (fun _ _ => ⟨rfl, rfl, rfl, trivial⟩) (fun _ _ => ?_)
            conv => whnf
            refine Spec.fn (Fun.read hrl rfl) [2] rfl rfl (fun _ => by rw [hmap]; rfl) rfl ⟨⟨by decide, rfl, rfl, _, rfl, fun _ => rfl, Nat.le_refl _, fun _ => Nat.le_refl _, fun h => by cases h⟩, trivial⟩ (fun _ _ => ⟨rfl, rfl, rfl, trivial⟩) (fun _ _ => ?_)
            conv => whnf
            refine VL.op (VL.eq tabOk ?_)
            conv => whnf
            refine .f rfl ?_
            conv => whnf
            refine .f (by simp [toRL]) ?_
            conv => whnf
            refine .f (by simp [toRL]) ?_
            conv => whnf
            refine .f (by simp [toRL]) ?_
            conv => whnf
            refine Spec.fn (lines_ok (s) [] (hs).len) [1] rfl rfl (fun _ => rfl) rfl ⟨⟨by decide, rfl, rfl, _, rfl, fun _ => rfl, Nat.le_refl _, fun _ => Nat.le_refl _, fun h => by cases h⟩, trivial⟩ (fun _ _ => ⟨rfl, rfl, rfl, trivial⟩) (fun y hy => ?_)
            conv => whnf
            refine Spec.fn (Fun.read (same_ok (preL (s) 4) y.1 b y.2 c (by have := preL_len (hs).len 4; omega)) rfl) [6, 2] rfl rfl (fun _ => by (try rw [hmap]) <;> rfl) rfl ⟨⟨by decide, rfl, rfl, _, rfl, fun _ => rfl, Nat.le_refl _, fun _ => Nat.le_refl _, fun h => by cases h⟩, ⟨by decide, rfl, rfl, _, rfl, fun _ => by rfl, by exact Nat.le_refl _, fun _ => Nat.le_refl _, fun h => by cases h⟩, trivial⟩ (fun _ _ => ⟨rfl, rfl, rfl, rfl, trivial⟩) (fun _ _ => ?_)
            conv => whnf
            exact ⟨(i + 1, s, (b, c)), to1 2 2, ⟨by show i + 1 ≤ A.length; omega, hs, hc⟩, by show A.length - (i + 1) < A.length - i; omega, to1_low (by decide), ⟨⟨_, rfl, fun _ => rfl⟩, ⟨_, rfl, fun _ => rfl⟩, ⟨_, rfl, fun _ => by (try rw [hmap]) <;> rfl⟩, ⟨_, rfl, fun _ => congrArg (fun x => Value.int .i64 x) (by rw [wrap_i64' _ (by omega) (by omega)]; omega)⟩, trivial⟩,
              Part.same ⟨⟨by decide, rfl, rfl, _, rfl, fun _ => rfl, Nat.le_refl _, fun _ => Nat.le_refl _, id⟩, ⟨by decide, rfl, rfl, _, rfl, fun _ => rfl, Nat.le_refl _, fun _ => Nat.le_refl _, id⟩, ⟨by decide, rfl, rfl, _, rfl, fun _ => by rfl, by exact Nat.le_refl _, fun _ => Nat.le_refl _, id⟩, trivial⟩ (to1_inj (.inl rfl))⟩
        · conv => whnf
          refine ⟨fun k2 => ?_, fun k2 => ?_⟩
          · conv => whnf
            refine Spec.row (t := 1) (drop_ok s [] hs.len a.asid a.num gn) rfl (fun _ => rfl) rfl rfl (by rw [tlbC_len hs.len, tlbC_len (okT_fset hs.len (Nat.le_trans (List.length_filter_le _ _) (hs.len _)))]) rfl (fun _ => rfl) rfl ?_
            conv => whnf
            refine Spec.fn (refdrop_ok ((preL s 4).map toRL) b c a.asid a.num (by omega)) [2] rfl rfl (fun _ => by rw [hmap]; rfl) rfl ⟨⟨by decide, rfl, rfl, _, rfl, fun _ => rfl, Nat.le_refl _, fun _ => Nat.le_refl _, fun h => by cases h⟩, trivial⟩ (fun _ _ => ⟨rfl, rfl, rfl, trivial⟩) (fun z hz => ?_)
            rw [← dropS_preL hs a.asid a.num] at hz ⊢
            have hs2 := hs.filter (q := q4 a.num) fun x => !isP a.asid a.num x
            generalize fset s (q4 a.num) ((s (q4 a.num)).filter fun x => !isP a.asid a.num x) = s2 at hs2 hz ⊢
            conv => whnf
            refine Spec.fn (lines_ok (s2) [] (hs2).len) [1] rfl rfl (fun _ => rfl) rfl ⟨⟨by decide, rfl, rfl, _, rfl, fun _ => rfl, Nat.le_refl _, fun _ => Nat.le_refl _, fun h => by cases h⟩, trivial⟩ (fun _ _ => ⟨rfl, rfl, rfl, trivial⟩) (fun y hy => ?_)
            conv => whnf
            refine Spec.fn (Fun.read (same_ok (preL (s2) 4) y.1 z.1 y.2 z.2 (by have := preL_len (hs2).len 4; omega)) rfl) [5, 4] rfl rfl (fun _ => by rw [List.length_map]; rfl) rfl ⟨⟨by decide, rfl, rfl, _, rfl, fun _ => rfl, Nat.le_refl _, fun _ => Nat.le_refl _, fun h => by cases h⟩, ⟨by decide, rfl, rfl, _, rfl, fun _ => by rfl, by exact Nat.le_refl _, fun _ => Nat.le_refl _, fun h => by cases h⟩, trivial⟩ (fun _ _ => ⟨rfl, rfl, rfl, rfl, trivial⟩) (fun _ _ => ?_)
            conv => whnf
            exact ⟨(i + 1, s2, (z.1, z.2)), to1 2 4, ⟨by show i + 1 ≤ A.length; omega, hs2, by rw [List.length_map] at hz; exact hz⟩, by show A.length - (i + 1) < A.length - i; omega, to1_low (by decide), ⟨⟨_, rfl, fun _ => rfl⟩, ⟨_, rfl, fun _ => rfl⟩, ⟨_, rfl, fun _ => by rw [List.length_map]; rfl⟩, ⟨_, rfl, fun _ => congrArg (fun x => Value.int .i64 x) (by rw [wrap_i64' _ (by omega) (by omega)]; omega)⟩, trivial⟩,
              Part.same ⟨⟨by decide, rfl, rfl, _, rfl, fun _ => rfl, Nat.le_refl _, fun _ => Nat.le_refl _, id⟩, ⟨by decide, rfl, rfl, _, rfl, fun _ => rfl, Nat.le_refl _, fun _ => Nat.le_refl _, id⟩, ⟨by decide, rfl, rfl, _, rfl, fun _ => by rfl, by exact Nat.le_refl _, fun _ => Nat.le_refl _, id⟩, trivial⟩ (to1_inj (.inr (by decide)))⟩
          · conv => whnf
            refine ⟨fun k3 => ?_, fun k3 => ?_⟩
            · conv => whnf
              refine Spec.row (t := 1) (flush_ok s [] hs.len a.asid) rfl (fun _ => rfl) rfl rfl (by rw [tlbC_len hs.len, tlbC_len (okT_filtS hs.len 4)]) rfl (fun _ => rfl) rfl ?_
              conv => whnf
              refine Spec.fn (refflush_ok ((preL s 4).map toRL) b c a.asid (by omega)) [2] rfl rfl (fun _ => by rw [hmap]; rfl) rfl ⟨⟨by decide, rfl, rfl, _, rfl, fun _ => rfl, Nat.le_refl _, fun _ => Nat.le_refl _, fun h => by cases h⟩, trivial⟩ (fun _ _ => ⟨rfl, rfl, rfl, trivial⟩) (fun z hz => ?_)
              rw [← flushS_preL s a.asid] at hz ⊢
              have hs2 := hs.filtS (fun x => !isA a.asid x) 4
              generalize filtS (fun x => !isA a.asid x) s 4 = s2 at hs2 hz ⊢
              conv => whnf
              refine Spec.fn (lines_ok (s2) [] (hs2).len) [1] rfl rfl (fun _ => rfl) rfl ⟨⟨by decide, rfl, rfl, _, rfl, fun _ => rfl, Nat.le_refl _, fun _ => Nat.le_refl _, fun h => by cases h⟩, trivial⟩ (fun _ _ => ⟨rfl, rfl, rfl, trivial⟩) (fun y hy => ?_)
              conv => whnf
              refine Spec.fn (Fun.read (same_ok (preL (s2) 4) y.1 z.1 y.2 z.2 (by have := preL_len (hs2).len 4; omega)) rfl) [5, 4] rfl rfl (fun _ => by rw [List.length_map]; rfl) rfl ⟨⟨by decide, rfl, rfl, _, rfl, fun _ => rfl, Nat.le_refl _, fun _ => Nat.le_refl _, fun h => by cases h⟩, ⟨by decide, rfl, rfl, _, rfl, fun _ => by rfl, by exact Nat.le_refl _, fun _ => Nat.le_refl _, fun h => by cases h⟩, trivial⟩ (fun _ _ => ⟨rfl, rfl, rfl, rfl, trivial⟩) (fun _ _ => ?_)
              conv => whnf
              exact ⟨(i + 1, s2, (z.1, z.2)), to1 2 4, ⟨by show i + 1 ≤ A.length; omega, hs2, by rw [List.length_map] at hz; exact hz⟩, by show A.length - (i + 1) < A.length - i; omega, to1_low (by decide), ⟨⟨_, rfl, fun _ => rfl⟩, ⟨_, rfl, fun _ => rfl⟩, ⟨_, rfl, fun _ => by rw [List.length_map]; rfl⟩, ⟨_, rfl, fun _ => congrArg (fun x => Value.int .i64 x) (by rw [wrap_i64' _ (by omega) (by omega)]; omega)⟩, trivial⟩,
                Part.same ⟨⟨by decide, rfl, rfl, _, rfl, fun _ => rfl, Nat.le_refl _, fun _ => Nat.le_refl _, id⟩, ⟨by decide, rfl, rfl, _, rfl, fun _ => rfl, Nat.le_refl _, fun _ => Nat.le_refl _, id⟩, ⟨by decide, rfl, rfl, _, rfl, fun _ => by rfl, by exact Nat.le_refl _, fun _ => Nat.le_refl _, id⟩, trivial⟩ (to1_inj (.inr (by decide)))⟩
            · conv => whnf
              refine ⟨fun k4 => ?_, fun k4 => ?_⟩
              · conv => whnf
                refine Spec.row (t := 1) (clear_ok s [] hs.len) rfl (fun _ => rfl) rfl rfl (by rw [tlbC_len hs.len, tlbC_len (okT_filtS hs.len 4)]) rfl (fun _ => rfl) rfl ?_
                conv => whnf
                have hs2 := hs.filtS (fun x => !isT x) 4
                have he := clearS_preL s
                generalize filtS (fun x => !isT x) s 4 = s2 at hs2 he ⊢
                refine Spec.ghost ?_
                refine Spec.fn (lines_ok (s2) [] (hs2).len) [1] rfl rfl (fun _ => rfl) rfl ⟨⟨by decide, rfl, rfl, _, rfl, fun _ => rfl, Nat.le_refl _, fun _ => Nat.le_refl _, fun h => by cases h⟩, trivial⟩ (fun _ _ => ⟨rfl, rfl, rfl, trivial⟩) (fun y hy => ?_)
                conv => whnf
                refine Spec.fn (Fun.read (same_ok (preL (s2) 4) y.1 true y.2 0 (by have := preL_len (hs2).len 4; omega)) rfl) [5, 4] rfl rfl (fun _ => by rw [he]; rfl) rfl ⟨⟨by decide, rfl, rfl, _, rfl, fun _ => rfl, Nat.le_refl _, fun _ => Nat.le_refl _, fun h => by cases h⟩, ⟨by decide, rfl, rfl, _, rfl, fun _ => by rw [he]; rfl, by rw [he]; exact Nat.le_refl _, fun _ => Nat.le_refl _, fun h => by cases h⟩, trivial⟩ (fun _ _ => ⟨rfl, rfl, rfl, rfl, trivial⟩) (fun _ _ => ?_)
                conv => whnf
                exact ⟨(i + 1, s2, (true, 0)), to1 2 4, ⟨by show i + 1 ≤ A.length; omega, hs2, by rw [he]; exact ⟨Nat.le_refl _, fun _ => rfl⟩⟩, by show A.length - (i + 1) < A.length - i; omega, to1_low (by decide), ⟨⟨_, rfl, fun _ => rfl⟩, ⟨_, rfl, fun _ => rfl⟩, ⟨_, rfl, fun _ => by rw [he]; rfl⟩, ⟨_, rfl, fun _ => congrArg (fun x => Value.int .i64 x) (by rw [wrap_i64' _ (by omega) (by omega)]; omega)⟩, trivial⟩,
                  Part.same ⟨⟨by decide, rfl, rfl, _, rfl, fun _ => rfl, Nat.le_refl _, fun _ => Nat.le_refl _, id⟩, ⟨by decide, rfl, rfl, _, rfl, fun _ => rfl, Nat.le_refl _, fun _ => Nat.le_refl _, id⟩, ⟨by decide, rfl, rfl, _, rfl, fun _ => by rw [he]; rfl, by rw [he]; exact Nat.le_refl _, fun _ => Nat.le_refl _, id⟩, trivial⟩ (to1_inj (.inr (by decide)))⟩
              · conv => whnf
                refine ⟨fun k5 => ?_, fun k5 => ?_⟩
                · conv => whnf
                  refine Spec.row (t := 1) (evict_ok s [] hs a.place) rfl (fun _ => rfl) rfl rfl (evS_len hs a.place []) rfl (fun _ => rfl) rfl ?_
                  conv => whnf
                  by_cases hz0 : (preL s 4).length = 0
                  · have e : evS s a.place = s := by
                      unfold evS
                      rw [List.getElem?_eq_none (by omega)]
                    rw [e]
                    refine Spec.of_body tabOk Try.func19 rfl (ent Try.func19 rfl (by kernel_rfl)) Try.ntmps19 rfl (by kernel_rfl) (Nat.le_of_ble_eq_true rfl) ?_
                    conv => whnf
                    refine .t (decide_eq_true (by omega)) ?_
                    conv => whnf
                    refine Spec.fn (lines_ok (s) [] (hs).len) [1] rfl rfl (fun _ => rfl) rfl ⟨⟨by decide, rfl, rfl, _, rfl, fun _ => rfl, Nat.le_refl _, fun _ => Nat.le_refl _, fun h => by cases h⟩, trivial⟩ (fun _ _ => ⟨rfl, rfl, rfl, trivial⟩) (fun y hy => ?_)
                    conv => whnf
                    refine Spec.fn (Fun.read (same_ok (preL (s) 4) y.1 b y.2 c (by have := preL_len (hs).len 4; omega)) rfl) [4, 2] rfl rfl (fun _ => by (try rw [hmap]) <;> rfl) rfl ⟨⟨by decide, rfl, rfl, _, rfl, fun _ => rfl, Nat.le_refl _, fun _ => Nat.le_refl _, fun h => by cases h⟩, ⟨by decide, rfl, rfl, _, rfl, fun _ => by rfl, by exact Nat.le_refl _, fun _ => Nat.le_refl _, fun h => by cases h⟩, trivial⟩ (fun _ _ => ⟨rfl, rfl, rfl, rfl, trivial⟩) (fun _ _ => ?_)
                    conv => whnf
                    exact ⟨(i + 1, s, (b, c)), to1 2 2, ⟨by show i + 1 ≤ A.length; omega, hs, hc⟩, by show A.length - (i + 1) < A.length - i; omega, to1_low (by decide), ⟨⟨_, rfl, fun _ => rfl⟩, ⟨_, rfl, fun _ => rfl⟩, ⟨_, rfl, fun _ => by (try rw [hmap]) <;> rfl⟩, ⟨_, rfl, fun _ => congrArg (fun x => Value.int .i64 x) (by rw [wrap_i64' _ (by omega) (by omega)]; omega)⟩, trivial⟩,
                      Part.same ⟨⟨by decide, rfl, rfl, _, rfl, fun _ => rfl, Nat.le_refl _, fun _ => Nat.le_refl _, id⟩, ⟨by decide, rfl, rfl, _, rfl, fun _ => rfl, Nat.le_refl _, fun _ => Nat.le_refl _, id⟩, ⟨by decide, rfl, rfl, _, rfl, fun _ => by rfl, by exact Nat.le_refl _, fun _ => Nat.le_refl _, id⟩, trivial⟩ (to1_inj (.inl rfl))⟩
                  · refine Spec.fn (refevict_ok ((preL s 4).map toRL) b c a.place (by omega) (by omega) (by rw [hmap]; exact hc)) [2] rfl rfl (fun _ => by rw [hmap]; rfl) rfl ⟨⟨by decide, rfl, rfl, _, rfl, fun _ => rfl, Nat.le_refl _, fun _ => Nat.le_refl _, fun h => by cases h⟩, trivial⟩ (fun _ _ => ⟨rfl, rfl, rfl, trivial⟩) (fun z hz => ?_)
                    obtain ⟨k1, _⟩ := evI_lt a.place (Nat.pos_of_ne_zero hz0)
                    obtain ⟨y, hy⟩ : ∃ y, (preL s 4)[evI a.place (preL s 4).length]? = some y := ⟨_, List.getElem?_eq_getElem k1⟩
                    have e : evS s a.place = fset s (q4 y.num) ((s (q4 y.num)).filter fun z => !isP y.asid y.num z) := by
                      unfold evS; rw [hy]
                    have hs2 := hs.filter (q := q4 y.num) fun z => !isP y.asid y.num z
                    have ep := evict_preL hs hy
                    rw [← e] at hs2 ep
                    rw [hmap, ← ep] at hz
                    rw [hmap, ← ep]
                    generalize evS s a.place = s2 at hs2 hz ⊢
                    conv => whnf
                    refine Spec.fn (lines_ok (s2) [] (hs2).len) [1] rfl rfl (fun _ => rfl) rfl ⟨⟨by decide, rfl, rfl, _, rfl, fun _ => rfl, Nat.le_refl _, fun _ => Nat.le_refl _, fun h => by cases h⟩, trivial⟩ (fun _ _ => ⟨rfl, rfl, rfl, trivial⟩) (fun y hy => ?_)
                    conv => whnf
                    refine Spec.fn (Fun.read (same_ok (preL (s2) 4) y.1 z.1 y.2 z.2 (by have := preL_len (hs2).len 4; omega)) rfl) [5, 4] rfl rfl (fun _ => by rw [List.length_map]; rfl) rfl ⟨⟨by decide, rfl, rfl, _, rfl, fun _ => rfl, Nat.le_refl _, fun _ => Nat.le_refl _, fun h => by cases h⟩, ⟨by decide, rfl, rfl, _, rfl, fun _ => by rfl, by exact Nat.le_refl _, fun _ => Nat.le_refl _, fun h => by cases h⟩, trivial⟩ (fun _ _ => ⟨rfl, rfl, rfl, rfl, trivial⟩) (fun _ _ => ?_)
                    conv => whnf
                    exact ⟨(i + 1, s2, (z.1, z.2)), to1 2 4, ⟨by show i + 1 ≤ A.length; omega, hs2, by rw [List.length_map] at hz; exact hz⟩, by show A.length - (i + 1) < A.length - i; omega, to1_low (by decide), ⟨⟨_, rfl, fun _ => rfl⟩, ⟨_, rfl, fun _ => rfl⟩, ⟨_, rfl, fun _ => by rw [List.length_map]; rfl⟩, ⟨_, rfl, fun _ => congrArg (fun x => Value.int .i64 x) (by rw [wrap_i64' _ (by omega) (by omega)]; omega)⟩, trivial⟩,
                      Part.same ⟨⟨by decide, rfl, rfl, _, rfl, fun _ => rfl, Nat.le_refl _, fun _ => Nat.le_refl _, id⟩, ⟨by decide, rfl, rfl, _, rfl, fun _ => rfl, Nat.le_refl _, fun _ => Nat.le_refl _, id⟩, ⟨by decide, rfl, rfl, _, rfl, fun _ => by rfl, by exact Nat.le_refl _, fun _ => Nat.le_refl _, id⟩, trivial⟩ (to1_inj (.inr (by decide)))⟩
                · conv => whnf
                  refine Spec.fn (lines_ok (s) [] (hs).len) [1] rfl rfl (fun _ => rfl) rfl ⟨⟨by decide, rfl, rfl, _, rfl, fun _ => rfl, Nat.le_refl _, fun _ => Nat.le_refl _, fun h => by cases h⟩, trivial⟩ (fun _ _ => ⟨rfl, rfl, rfl, trivial⟩) (fun y hy => ?_)
                  conv => whnf
                  refine Spec.fn (Fun.read (same_ok (preL (s) 4) y.1 b y.2 c (by have := preL_len (hs).len 4; omega)) rfl) [4, 2] rfl rfl (fun _ => by (try rw [hmap]) <;> rfl) rfl ⟨⟨by decide, rfl, rfl, _, rfl, fun _ => rfl, Nat.le_refl _, fun _ => Nat.le_refl _, fun h => by cases h⟩, ⟨by decide, rfl, rfl, _, rfl, fun _ => by rfl, by exact Nat.le_refl _, fun _ => Nat.le_refl _, fun h => by cases h⟩, trivial⟩ (fun _ _ => ⟨rfl, rfl, rfl, rfl, trivial⟩) (fun _ _ => ?_)
                  conv => whnf
                  exact ⟨(i + 1, s, (b, c)), to1 2 2, ⟨by show i + 1 ≤ A.length; omega, hs, hc⟩, by show A.length - (i + 1) < A.length - i; omega, to1_low (by decide), ⟨⟨_, rfl, fun _ => rfl⟩, ⟨_, rfl, fun _ => rfl⟩, ⟨_, rfl, fun _ => by (try rw [hmap]) <;> rfl⟩, ⟨_, rfl, fun _ => congrArg (fun x => Value.int .i64 x) (by rw [wrap_i64' _ (by omega) (by omega)]; omega)⟩, trivial⟩,
                    Part.same ⟨⟨by decide, rfl, rfl, _, rfl, fun _ => rfl, Nat.le_refl _, fun _ => Nat.le_refl _, id⟩, ⟨by decide, rfl, rfl, _, rfl, fun _ => rfl, Nat.le_refl _, fun _ => Nat.le_refl _, id⟩, ⟨by decide, rfl, rfl, _, rfl, fun _ => by rfl, by exact Nat.le_refl _, fun _ => Nat.le_refl _, id⟩, trivial⟩ (to1_inj (.inl rfl))⟩
    · conv => whnf
      refine Spec.fn (Fun.read one_ok rfl) [] rfl rfl (fun _ => rfl) rfl trivial (fun _ _ => ⟨rfl, rfl, trivial⟩) (fun _ _ => ?_)
      conv => whnf
      intro ρ
      rfl
  · conv => whnf
    refine Spec.fn (Fun.read one_ok rfl) [] rfl rfl (fun _ => rfl) rfl trivial (fun _ _ => ⟨rfl, rfl, trivial⟩) (fun _ _ => ?_)
    conv => whnf
    intro ρ
    rfl
end Go.Sh.Ytmfpndffepjcpaa

set_option linter.unusedVariables false
namespace Go.Sh.Ytmfpndffepjcpaa
open Go.Proofs Go.Sh Go.RowKit

theorem flat3 : FlatT Try.prog 3 [.int .i64] := FlatT.int Try.underlying3
theorem flat23 : FlatT Try.prog 23 [.int .u64] := FlatT.int Try.underlying23
theorem flat38 : FlatT Try.prog 38 [.int .i64, .int .i64, .int .u64, .int .u64, .int .u64] := FlatT.struct Try.underlying38 (by kernel_rfl) ⟨rfl, [.int .i64], _, rfl, flat3, by kernel_rfl, ⟨rfl, [.int .i64], _, rfl, flat3, by kernel_rfl, ⟨rfl, [.int .u64], _, rfl, flat23, by kernel_rfl, ⟨rfl, [.int .u64], _, rfl, flat23, by kernel_rfl, ⟨rfl, [.int .u64], _, rfl, flat23, by kernel_rfl, rfl⟩⟩⟩⟩⟩
theorem acts_of {n : Nat} {cells : List Value} (hl : cells.length = n * 5) (hf : ∀ i, i < n → Fits [.int .i64, .int .i64, .int .u64, .int .u64, .int .u64] ((cells.drop (i * 5)).take 5)) : ∃ A : List Act, A.length = n ∧ cells = actsV A ∧ ∀ a ∈ A, a.good := by
  refine rows_of actV Act.good hl fun i hi => ?_
  have h := hf i hi
  have hlen : ((cells.drop (i * 5)).take 5).length = 5 := by simp; omega
  generalize (cells.drop (i * 5)).take 5 = l at h hlen
  match l, hlen, h with
  | [c0, c1, c2, c3, c4], _, h =>
    obtain ⟨⟨n0, rfl, _⟩, ⟨n1, rfl, _⟩, ⟨n2, rfl, h2⟩, ⟨n3, rfl, h3⟩, ⟨n4, rfl, h4⟩, _⟩ := h
    refine ⟨⟨n0, n1, n2, n3, n4⟩, rfl, ?_⟩
    simp only [Lit.wf, Bool.and_eq_true, IntKind.min, IntKind.max, IntKind.bits, IntKind.signed] at h2 h3 h4
    simp at h2 h3 h4
    exact ⟨by show 0 ≤ n2; omega, by show 0 ≤ n3; omega, by show n3 < _; omega, by show 0 ≤ n4; omega⟩
theorem actV_one {A : List Act} : ∀ x ∈ actsV A, x.oneCell' = true := fun x hx => by
  obtain ⟨a, _, h⟩ := List.mem_flatMap.1 hx
  simp only [actV, List.mem_cons, List.not_mem_nil, or_false] at h
  rcases h with rfl | rfl | rfl | rfl | rfl <;> rfl

theorem plays_calls (w : World) {b : Bool} {blk off n c : Nat} {cells : List Value} (hm : n ≤ maxLen) (hl : cells.length = n * 5) (hc : ∀ j x, cells[j]? = some x → w.cell? ⟨blk, off + j, none⟩ = some x)
    (hf : ∀ i, i < n → Fits [.int .i64, .int .i64, .int .u64, .int .u64, .int .u64] ((cells.drop (i * 5)).take 5)) :
    Calls Try.prog 4 #[slzV b ⟨blk, off, none⟩ n c] w fun e w2 => e = .returned (.bool true) ∧ Below w.heap.size w w2 := by
  obtain ⟨A, rfl, rfl, hg⟩ := acts_of hl hf
  exact calls_slice (more := []) (r := .tt) (plays_ok A b c hm hg) rfl rfl hc actV_one
end Go.Sh.Ytmfpndffepjcpaa
