/- Seat a: limb.small. PRINTED BY smallgen.py. -/
import Derived.Test.YtafiechoplbieaaAmGA
set_option linter.unusedVariables false
set_option linter.unusedSimpArgs false
set_option maxRecDepth 100000
namespace Go.Proofs.Ytafiechoplbieaa
open Go.AM
def wrapq (x d : Int) : Int := IntKind.u64.wrap (x.tdiv d)
theorem dm {x d r : Int} (hd : 0 < d ∧ d < 4294967296) (hr : 0 ≤ r ∧ r < d) {p : Int} (hp : V p) (hx : x = r * 4294967296 + p) : ∃ q r2, wrapq x d = q ∧ x.tmod d = r2 ∧ V q ∧ (0 ≤ r2 ∧ r2 < d) ∧ x = q * d + r2 := by
  have h0 : 0 ≤ x := by unfold V at hp; omega
  have hlt : x < d * 4294967296 := by unfold V at hp; omega
  refine ⟨_, _, rfl, rfl, ?_⟩
  unfold wrapq
  rw [Int.tmod_eq_emod_of_nonneg h0, Int.tdiv_eq_ediv_of_nonneg h0]
  have h1 := Int.mul_ediv_add_emod x d
  have h2 : x / d < 4294967296 := Int.ediv_lt_of_lt_mul hd.1 (by rw [Int.mul_comm]; exact hlt)
  have h3 : 0 ≤ x / d := Int.ediv_nonneg h0 (by omega)
  have h4 := Int.emod_nonneg x (by omega : d ≠ 0)
  have h5 := Int.emod_lt_of_pos x hd.1
  rw [w64_id h3 (by omega)]
  refine ⟨⟨h3, h2⟩, ⟨h4, h5⟩, ?_⟩
  rw [Int.mul_comm]; omega

end Go.Proofs.Ytafiechoplbieaa

set_option linter.unusedVariables false
set_option linter.unusedSimpArgs false
set_option maxRecDepth 100000
namespace Go.Proofs.Ytafiechoplbieaa
open Go.AM
end Go.Proofs.Ytafiechoplbieaa

