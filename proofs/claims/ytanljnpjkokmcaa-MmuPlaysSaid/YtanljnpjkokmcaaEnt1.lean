import Derived.Test.YtanljnpjkokmcaaSh30
import Derived.Test.YtanljnpjkokmcaaMB
/- An entry out of its cells. -/
set_option linter.unusedVariables false
namespace Go.Sh
open Go.RowKit

def entK : List Kd := [.bool, .bool, .bool, .bool, .bool, .bool, .bool, .bool, .bool, .bool, .bool, .bool, .int .u64]
theorem ent_of {l : List Value} (h : Fits entK l) : ∃ e : Ent, okE e ∧ l = [.bool e.v, .bool e.r, .bool e.w, .bool e.x, .bool e.u, .bool e.g, .bool e.a, .bool e.d, .bool e.cw, .bool e.cr, .bool e.cd, .bool e.gn, .int .u64 e.fr] := by
  obtain ⟨v, s0, rfl, h0⟩ := fits_bool h
  obtain ⟨r, s1, rfl, h1⟩ := fits_bool h0
  obtain ⟨w, s2, rfl, h2⟩ := fits_bool h1
  obtain ⟨x, s3, rfl, h3⟩ := fits_bool h2
  obtain ⟨u, s4, rfl, h4⟩ := fits_bool h3
  obtain ⟨g, s5, rfl, h5⟩ := fits_bool h4
  obtain ⟨a, s6, rfl, h6⟩ := fits_bool h5
  obtain ⟨d, s7, rfl, h7⟩ := fits_bool h6
  obtain ⟨cw, s8, rfl, h8⟩ := fits_bool h7
  obtain ⟨cr, s9, rfl, h9⟩ := fits_bool h8
  obtain ⟨cd, s10, rfl, h10⟩ := fits_bool h9
  obtain ⟨gn, s11, rfl, h11⟩ := fits_bool h10
  obtain ⟨fr, s12, rfl, hw, h12⟩ := fits_int h11
  obtain rfl := fits_nil h12
  obtain ⟨n, hn, rfl⟩ := u64_of hw
  exact ⟨⟨v, r, w, x, u, g, a, d, cw, cr, cd, gn, n⟩, ⟨by show (0 : Int) ≤ (n : Int); omega, by show (n : Int) < _; omega⟩, rfl⟩
end Go.Sh
