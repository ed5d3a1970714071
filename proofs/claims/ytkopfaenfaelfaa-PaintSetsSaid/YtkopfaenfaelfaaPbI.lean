import Derived.Test.YtkopfaenfaelfaaPbH
import Derived.Test.YtkopfaenfaelfaaSh30
set_option linter.unusedVariables false
namespace Go.Sh.Ytkopfaenfaelfaa
open Go.Proofs Go.Sh

theorem flat22 : FlatT Try.prog 22 [.int .u64] := FlatT.int Try.underlying22
theorem flat24 : FlatT Try.prog 24 [.int .u64, .int .u64] := FlatT.struct Try.underlying24 (by kernel_rfl) ⟨rfl, [.int .u64], _, rfl, flat22, by kernel_rfl, ⟨rfl, [.int .u64], _, rfl, flat22, by kernel_rfl, rfl⟩⟩
theorem span_of {l : List Value} (h : Fits [.int .u64, .int .u64] l) : ∃ s : Nat × Nat, (s.1 < 2 ^ 64 ∧ s.2 < 2 ^ 64) ∧ l = [.int .u64 (s.1 : Int), .int .u64 (s.2 : Int)] := by
  obtain ⟨p, s0, rfl, hp, h⟩ := fits_int h
  obtain ⟨q, s1, rfl, hq, h⟩ := fits_int h
  obtain rfl := fits_nil h
  obtain ⟨a, ha, rfl⟩ := u64_of hp
  obtain ⟨b, hb, rfl⟩ := u64_of hq
  exact ⟨(a, b), ⟨ha, hb⟩, rfl⟩
end Go.Sh.Ytkopfaenfaelfaa
