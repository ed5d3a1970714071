import Derived.Test.YtmfpndffepjcpaaC11c
set_option linter.unusedVariables false
namespace Go.Sh.Ytmfpndffepjcpaa
open Go.Proofs Go.Sh

def lookR : Option Ln → SV
  | some x => .tup [.agg (lnC x), .tt]
  | none => .tup [.agg (lnC ln0), .ff]
theorem look_ok (s : Nat → List Ln) (rest : List Value) (hs : okT s) (a n : Int) (hn : 0 ≤ n) : Spec Try.prog 9 [.ptr 0 0, .int .u64 a, .int .u64 n] [(0, .view (tlbC s rest))] 1 fun v _ _ => ∀ ρ, v.val ρ = (lookR ((s (q4 n)).find? (isP a n))).val ρ := by
  have hq := q4_lt n
  have hl := hs (q4 n)
  refine Spec.of_body tabOk Try.func9 rfl (ent Try.func9 rfl (by kernel_rfl)) Try.ntmps9 rfl (by kernel_rfl) (Nat.le_of_ble_eq_true rfl) ?_
  conv => whnf
  refine Spec.of_body tabOk Try.func21 rfl (ent Try.func21 rfl (by kernel_rfl)) Try.ntmps21 rfl (by kernel_rfl) (Nat.le_of_ble_eq_true rfl) ?_
  conv => whnf
  refine .there (q4 n) (q4_eq hn) (q4_lt n) ?_
  conv => whnf
  refine Spec.of_body tabOk Try.func23 rfl (ent Try.func23 rfl (by kernel_rfl)) Try.ntmps23 rfl (by kernel_rfl) (Nat.le_of_ble_eq_true rfl) ?_
  conv => whnf
  generalize q4 n = q at hq hl
  refine CodeL.draw tabOk Try.checked.mixed 14 (by kernel_rfl) rfl ?_
  conv => whnf
  refine .at1 (.int .i64 ((s q).length : Int)) (33 * q + 32) (by show 0 + 0 + q * 33 + 32 = _; omega) (tlbC_n hs rest hq) rfl ?_
  conv => whnf
  refine .at1 (.int .i64 ((s q).length : Int)) (33 * q + 32) (by show 0 + 0 + q * 33 + 32 = _; omega) (tlbC_n hs rest hq) rfl ?_
  conv => whnf
  refine VL.qop rfl (VL.slice tabOk ?_)
  conv => whnf
  refine ⟨0, (s q).length, (s q).length, rfl, rfl, rfl, rfl, Nat.zero_le _, Nat.le_refl _, hl, ?_⟩
  conv => whnf
  refine CodeL.loop tabOk (fun i : Nat => ([(6, .ptr 1 0), (7, .ff), (9, .func 28 [.ptr 2 0, .ptr 3 0]), (32, .slice 0 (sOff (s q).length 0 (0 + 0 + q * 33 + 0) 16) ((s q).length - 0) ((s q).length - 0)), (33, .int .i64 ((s q).length - 0 : Nat)), (34, .int .i64 (i : Int))], [(0, .view (tlbC s rest)), (1, .cells lnZ), (2, .cells [.int .u64 a]), (3, .cells [.int .u64 n])]))
    (fun i => (s q).length - i) (fun i => i ≤ (s q).length ∧ ∀ k y, k < i → (s q)[k]? = some y → isP a n y = false) rfl (fun i => ⟨rfl, rfl⟩) 0 ⟨Nat.zero_le _, fun k y hk => absurd hk (Nat.not_lt_zero _)⟩ ⟨⟨rfl, rfl, rfl, rfl, rfl, rfl, trivial⟩, ⟨rfl, rfl, rfl, rfl, trivial⟩⟩ ?_
  rintro i ⟨hi, hno⟩
  conv => whnf
  refine ⟨fun h => ?_, fun h => ?_⟩
  · have h : i < (s q).length := by have := of_decide_eq_true h; omega
    obtain ⟨x, hx⟩ : ∃ x, (s q)[i]? = some x := ⟨_, List.getElem?_eq_getElem h⟩
    conv => whnf
    refine .there i rfl (by omega) ?_
    conv => whnf
    refine .atN (lnC x) (33 * q + i * 16) (by show sOff (s q).length 0 (0 + 0 + q * 33 + 0) 16 + i * 16 = _; rw [sOff_zero]; omega) (by rw [tlbC_len hs]; show _ + 16 ≤ _; omega) (tlbC_line hs rest hq hx) rfl ?_
    conv => whnf
    refine Spec.fn (Fun.read (pageq_ok a n x) rfl) [2, 3] rfl rfl (fun _ => rfl) rfl ⟨⟨by decide, rfl, rfl, _, rfl, fun _ => rfl, Nat.le_refl _, fun _ => Nat.le_refl _, fun h => by cases h⟩, ⟨by decide, rfl, rfl, _, rfl, fun _ => rfl, Nat.le_refl _, fun _ => Nat.le_refl _, fun h => by cases h⟩, trivial⟩ (fun _ _ => ⟨rfl, rfl, rfl, rfl, trivial⟩) (fun _ _ => ?_)
    conv => whnf
    refine ⟨fun hp => ?_, fun hp => ?_⟩
    · conv => whnf
      intro ρ
      rw [find_hit hx hp hno]
      rfl
    · conv => whnf
      exact ⟨i + 1, ⟨by omega, fun k y hk hy => by
        by_cases e : k = i
        · subst e; rw [hx] at hy; injection hy with hy; subst hy; exact hp
        · exact hno k y (by omega) hy⟩, by omega, ⟨rfl, rfl, rfl, rfl, rfl, congrArg (fun x => some (SV.int .i64 x)) (by rw [wrap_i64' _ (by omega) (by omega)]; omega), trivial⟩, ⟨rfl, rfl, rfl, rfl, trivial⟩⟩
  · have h : i = (s q).length := by have := of_decide_eq_false h; omega
    subst h
    conv => whnf
    intro ρ
    rw [find_miss hno]
    rfl
end Go.Sh.Ytmfpndffepjcpaa
