/- Sets among the arguments. -/
import Derived.Test.YtjjnomafohpakaaSh22
import Derived.Test.YtjjnomafohpakaaSet2
namespace Go.Sh
theorem set_of {a b c d : Int} (ha : (Lit.int .u64 a).wf = true) (hb : (Lit.int .u64 b).wf = true) (hc : (Lit.int .u64 c).wf = true) (hd : (Lit.int .u64 d).wf = true) :
    ∃ s, s < 2 ^ 256 ∧ Value.agg #[.int .u64 a, .int .u64 b, .int .u64 c, .int .u64 d] = (setV s).val zenv := by
  obtain ⟨a, la, rfl⟩ := u64_of ha
  obtain ⟨b, lb, rfl⟩ := u64_of hb
  obtain ⟨c, lc, rfl⟩ := u64_of hc
  obtain ⟨d, ld, rfl⟩ := u64_of hd
  obtain ⟨s, hs, rfl, rfl, rfl, rfl⟩ := ofWords a b c d la lb lc ld
  exact ⟨s, hs, rfl⟩
end Go.Sh
