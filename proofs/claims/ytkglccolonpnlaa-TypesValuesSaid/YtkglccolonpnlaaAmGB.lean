/- Seat a: limb.small. PRINTED BY smallgen.py. -/
import Derived.Test.YtkglccolonpnlaaAmGA
set_option linter.unusedVariables false
set_option linter.unusedSimpArgs false
set_option maxRecDepth 100000
namespace Go.Proofs.Ytkglccolonpnlaa
open Go.AM
def wrapq (x d : Int) : Int := IntKind.u64.wrap (x.tdiv d)
theorem dm {x d r : Int} (hd : 0 < d ∧ d < 4294967296) (hr : 0 ≤ r ∧ r < d) {p : Int} (hp : V p) (hx : x = r * 4294967296 + p) : ∃ q r2, wrapq x d = q ∧ x.tmod d = r2 ∧ V q ∧ (0 ≤ r2 ∧ r2 < d) ∧ x = q * d + r2 := by
  have h0 : 0 ≤ x := by unfold V at hp; omega
  have hlt : x < d * 4294967296 := by unfold V at hp; omega
  refine ⟨_, _, rfl, rfl, ?_⟩
  unfold wrapq
  rw [Int.tmod_eq_emod_of_nonneg h0, Int.tdiv_eq_ediv_of_nonneg h0]
  have h1 := Int.mul_ediv_add_emod x d
  have h2 : x / d < 4294967296 := Int.ediv_lt_of_lt_mul hd.1 (by rw [Int.mul_comm]; exact hlt)
  have h3 : 0 ≤ x / d := Int.ediv_nonneg h0 (by omega)
  have h4 := Int.emod_nonneg x (by omega : d ≠ 0)
  have h5 := Int.emod_lt_of_pos x hd.1
  rw [w64_id h3 (by omega)]
  refine ⟨⟨h3, h2⟩, ⟨h4, h5⟩, ?_⟩
  rw [Int.mul_comm]; omega

theorem small_hi {r p q d qa : Int} (hd : 0 < d ∧ d < 4294967296) (hr : 0 ≤ r ∧ r < d) (hp : V p) (hq : V q) (hqa : V qa) : ∃ x q1 q2 r2,
    IntKind.u64.wrap ((BitVec.ofInt IntKind.u64.bits (IntKind.u64.wrap (r * 2 ^ min (Int.toNat 32) IntKind.u64.bits)) ||| BitVec.ofInt IntKind.u64.bits (IntKind.u64.wrap ((BitVec.ofInt IntKind.u64.bits ((p + 4294967296 * q).fdiv (2 ^ min (Int.toNat 32) IntKind.u64.bits)) &&& BitVec.ofInt IntKind.u64.bits 4294967295).toNat : Int))).toNat : Int) = x ∧
    IntKind.u64.wrap ((BitVec.ofInt IntKind.u64.bits (IntKind.u64.wrap (qa * 2 ^ min (Int.toNat 32) IntKind.u64.bits)) ||| BitVec.ofInt IntKind.u64.bits (IntKind.u64.wrap (x.tdiv d))).toNat : Int) = q2 ∧
    x.tmod d = r2 ∧ q2 = q1 + 4294967296 * qa ∧ V q1 ∧ (0 ≤ r2 ∧ r2 < d) ∧ r * 4294967296 + q = q1 * d + r2 := by
  have e1 : (p + 4294967296 * q).fdiv (2 ^ min (Int.toNat 32) IntKind.u64.bits) = q := by
    rw [show (2 : Int) ^ min (Int.toNat 32) IntKind.u64.bits = 4294967296 from by decide, fdiv_pos _ (by decide)]; unfold V at *; omega
  have e2 : ∀ y : Int, IntKind.u64.wrap ((BitVec.ofInt IntKind.u64.bits (IntKind.u64.wrap (r * 2 ^ min (Int.toNat 32) IntKind.u64.bits)) ||| BitVec.ofInt IntKind.u64.bits (y % 4294967296)).toNat : Int) = r * 4294967296 + y % 4294967296 := fun y => by
    rw [or32]; omega
  rw [e1, and32, e2]
  have e3 : (q) % 4294967296 = q := by unfold V at *; omega
  rw [e3]
  obtain ⟨q1, r2, k1, k2, k3, k4, k5⟩ := dm hd hr (p := q) hq rfl
  unfold wrapq at k1
  refine ⟨_, q1, _, r2, rfl, rfl, k2, ?_, k3, k4, k5⟩
  rw [k1, show q1 = q1 % 4294967296 by unfold V at k3; omega, or32]
  unfold V at *; omega
theorem small_lo {r p q d qa : Int} (hd : 0 < d ∧ d < 4294967296) (hr : 0 ≤ r ∧ r < d) (hp : V p) (hq : V q) (hqa : V qa) : ∃ x q1 q2 r2,
    IntKind.u64.wrap ((BitVec.ofInt IntKind.u64.bits (IntKind.u64.wrap (r * 2 ^ min (Int.toNat 32) IntKind.u64.bits)) ||| BitVec.ofInt IntKind.u64.bits (IntKind.u64.wrap ((BitVec.ofInt IntKind.u64.bits ((p + 4294967296 * q).fdiv (2 ^ min (Int.toNat 0) IntKind.u64.bits)) &&& BitVec.ofInt IntKind.u64.bits 4294967295).toNat : Int))).toNat : Int) = x ∧
    IntKind.u64.wrap ((BitVec.ofInt IntKind.u64.bits (IntKind.u64.wrap (qa * 2 ^ min (Int.toNat 32) IntKind.u64.bits)) ||| BitVec.ofInt IntKind.u64.bits (IntKind.u64.wrap (x.tdiv d))).toNat : Int) = q2 ∧
    x.tmod d = r2 ∧ q2 = q1 + 4294967296 * qa ∧ V q1 ∧ (0 ≤ r2 ∧ r2 < d) ∧ r * 4294967296 + p = q1 * d + r2 := by
  have e1 : (p + 4294967296 * q).fdiv (2 ^ min (Int.toNat 0) IntKind.u64.bits) = p + 4294967296 * q := by
    rw [show (2 : Int) ^ min (Int.toNat 0) IntKind.u64.bits = 1 from by decide, fdiv_pos _ (by decide)]; unfold V at *; omega
  have e2 : ∀ y : Int, IntKind.u64.wrap ((BitVec.ofInt IntKind.u64.bits (IntKind.u64.wrap (r * 2 ^ min (Int.toNat 32) IntKind.u64.bits)) ||| BitVec.ofInt IntKind.u64.bits (y % 4294967296)).toNat : Int) = r * 4294967296 + y % 4294967296 := fun y => by
    rw [or32]; omega
  rw [e1, and32, e2]
  have e3 : (p + 4294967296 * q) % 4294967296 = p := by unfold V at *; omega
  rw [e3]
  obtain ⟨q1, r2, k1, k2, k3, k4, k5⟩ := dm hd hr (p := p) hp rfl
  unfold wrapq at k1
  refine ⟨_, q1, _, r2, rfl, rfl, k2, ?_, k3, k4, k5⟩
  rw [k1, show q1 = q1 % 4294967296 by unfold V at k3; omega, or32]
  unfold V at *; omega
end Go.Proofs.Ytkglccolonpnlaa
set_option linter.unusedVariables false
set_option linter.unusedSimpArgs false
set_option maxRecDepth 100000
namespace Go.Proofs.Ytkglccolonpnlaa
open Go.AM
theorem small_r {r p d : Int} (hd : 0 < d ∧ d < 4294967296) (hr : 0 ≤ r ∧ r < d) (hp : V p) : ∃ x q r2, IntKind.u64.wrap (IntKind.u64.wrap (r * 2 ^ min (Int.toNat 32) IntKind.u64.bits) + p) = x ∧
    IntKind.u64.wrap (x.tdiv d) = q ∧ x.tmod d = r2 ∧ V q ∧ (0 ≤ r2 ∧ r2 < d) ∧ r * 4294967296 + p = q * d + r2 := by
  have e1 : IntKind.u64.wrap (IntKind.u64.wrap (r * 2 ^ min (Int.toNat 32) IntKind.u64.bits) + p) = r * 4294967296 + p := by
    rw [show (2 : Int) ^ min (Int.toNat 32) IntKind.u64.bits = 4294967296 from by decide, w64, w64]; unfold V at hp; omega
  rw [e1]
  obtain ⟨q1, r2, k1, k2, k3, k4, k5⟩ := dm hd hr (p := p) hp rfl
  unfold wrapq at k1
  exact ⟨_, q1, r2, rfl, k1, k2, k3, k4, k5⟩
theorem shl32 {q : Int} (h : V q) : IntKind.u64.wrap (0 + IntKind.u64.wrap (q * 2 ^ min (Int.toNat 32) IntKind.u64.bits)) = 4294967296 * q := by
  rw [show (2 : Int) ^ min (Int.toNat 32) IntKind.u64.bits = 4294967296 from by decide, w64, w64]; unfold V at h; omega
theorem shl0 {p q : Int} (h : V q) (hp : V p) : IntKind.u64.wrap (4294967296 * q + IntKind.u64.wrap (p * 2 ^ min (Int.toNat 0) IntKind.u64.bits)) = p + 4294967296 * q := by
  rw [show (2 : Int) ^ min (Int.toNat 0) IntKind.u64.bits = 1 from by decide, w64, w64]; unfold V at *; omega
end Go.Proofs.Ytkglccolonpnlaa
