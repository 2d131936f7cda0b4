/- summary.AddWide, turned, Widen, Narrow. -/
import Derived.Test.YtlbocjcponegcaaGreatAmGH
import Derived.Test.YtlbocjcponegcaaGreatAmGV
set_option linter.unusedVariables false
set_option linter.unusedSimpArgs false
set_option maxRecDepth 100000
namespace Go.Proofs.YtlbocjcponegcaaGreat
open Go.AM
end Go.Proofs.YtlbocjcponegcaaGreat

set_option linter.unusedVariables false
set_option linter.unusedSimpArgs false
set_option maxRecDepth 100000
namespace Go.Proofs.YtlbocjcponegcaaGreat
open Go.AM
def bt (x : Int) (r : Nat) : Int := x / 2 ^ r % 2
theorem bt_01 (x : Int) (r : Nat) : bt x r = 0 ∨ bt x r = 1 := by unfold bt; omega
/-- a limb's sum, up to a bit -/
def LI (x z c0 : Int) (r : Nat) (y c : Int) : Prop := y + 2 ^ r * c = x % 2 ^ r + z % 2 ^ r + c0 ∧ (0 ≤ y ∧ y < 2 ^ r) ∧ (c = 0 ∨ c = 1)
theorem LI.start {x z c0 : Int} (h : c0 = 0 ∨ c0 = 1) : LI x z c0 0 0 c0 := by
  refine ⟨?_, by decide, h⟩
  have : (2 : Int) ^ 0 = 1 := rfl
  rw [this]; omega
theorem LI.done {x z c0 y c : Int} (hx : U x) (hz : U z) (h : LI x z c0 64 y c) : y + 18446744073709551616 * c = x + z + c0 ∧ U y ∧ (c = 0 ∨ c = 1) := by
  obtain ⟨h1, h2, h3⟩ := h
  have : (2 : Int) ^ 64 = 18446744073709551616 := by decide
  rw [this] at h1 h2
  unfold U at *
  refine ⟨by omega, h2, h3⟩
theorem LI.step {x z c0 y c : Int} {r : Nat} (h : LI x z c0 r y c) : LI x z c0 (r + 1) (y + (bt x r + bt z r + c) % 2 * 2 ^ r) ((bt x r + bt z r + c) / 2) := by
  obtain ⟨h1, h2, h3⟩ := h
  have hb := bt_01 x r; have hb2 := bt_01 z r
  have hp : (2 : Int) ^ (r + 1) = 2 * 2 ^ r := by rw [Int.pow_succ, Int.mul_comm]
  have hpos : (0 : Int) < 2 ^ r := Int.pow_pos (by decide)
  have key : ∀ w : Int, w % 2 ^ (r + 1) = w % 2 ^ r + 2 ^ r * bt w r := fun w => by
    unfold bt
    rw [hp]
    generalize (2 : Int) ^ r = P at *
    have e := Int.mul_ediv_add_emod w P
    have m0 := Int.emod_nonneg w (show P ≠ 0 by omega)
    have m1 := Int.emod_lt_of_pos w hpos
    generalize w % P = m at *
    generalize w / P = q at *
    have e2 : w = (m + P * (q % 2)) + (2 * P) * (q / 2) := by
      have e3 : P * q = P * (2 * (q / 2) + q % 2) := congrArg (P * ·) (by omega)
      rw [Int.mul_add, Int.mul_left_comm, ← Int.mul_assoc] at e3
      omega
    rw [e2, Int.add_mul_emod_self_left]
    rcases (by omega : q % 2 = 0 ∨ q % 2 = 1) with h | h <;> rw [h]
    · rw [Int.mul_zero, Int.emod_eq_of_lt (by omega) (by omega)]
    · rw [Int.mul_one, Int.emod_eq_of_lt (by omega) (by omega)]
  unfold LI
  rw [key, key, hp]
  generalize (2 : Int) ^ r = P at *
  generalize bt x r = p at *
  generalize bt z r = q at *
  generalize x % P = X at *
  generalize z % P = Z at *
  rcases hb with rfl | rfl <;> rcases hb2 with rfl | rfl <;> rcases h3 with rfl | rfl <;> refine ⟨by omega, by omega, by omega⟩
theorem or_low {y s : Int} {r : Nat} (hr : r < 64) (hy : 0 ≤ y ∧ y < 2 ^ r) (hs : 0 ≤ s) : IntKind.u64.wrap ((BitVec.ofInt IntKind.u64.bits y ||| BitVec.ofInt IntKind.u64.bits (IntKind.u64.wrap (s.tmod 2 * 2 ^ min (Int.toNat (r : Int)) IntKind.u64.bits))).toNat : Int) = y + s % 2 * 2 ^ r := by
  have e : min (Int.toNat (r : Int)) IntKind.u64.bits = r := by
    have : IntKind.u64.bits = 64 := rfl
    rw [this, Int.toNat_natCast]; omega
  have h : 2 ^ r < 2 ^ 64 := Nat.pow_lt_pow_right (by decide) hr
  have hc : ((2 : Int) ^ r) = ((2 ^ r : Nat) : Int) := (Int.natCast_pow 2 r).symm
  have hp : (0 : Int) < 2 ^ r := Int.pow_pos (by decide)
  have hu : U (s % 2 * 2 ^ r) := by
    unfold U
    rcases (by omega : s % 2 = 0 ∨ s % 2 = 1) with h1 | h1 <;> rw [h1]
    · omega
    · rw [Int.one_mul, hc]; omega
  have hw : IntKind.u64.wrap (s % 2 * 2 ^ r) = s % 2 * 2 ^ r := by rw [w64]; exact Int.emod_eq_of_lt hu.1 hu.2
  rw [e, Int.tmod_eq_emod_of_nonneg hs, hw, BitVec.or_comm, or_apart r hu (Int.mul_emod_left _ _) hy.1 hy.2 (by omega), Int.add_comm]
theorem half {s : Int} (h0 : 0 ≤ s) (h1 : s < 10) : IntKind.u64.wrap (s.tdiv 2) = s / 2 := by
  rw [Int.tdiv_eq_ediv_of_nonneg h0, w64]; omega
end Go.Proofs.YtlbocjcponegcaaGreat

set_option linter.unusedVariables false
set_option linter.unusedSimpArgs false
set_option maxRecDepth 100000
namespace Go.Proofs.YtlbocjcponegcaaGreat
open Go.AM
end Go.Proofs.YtlbocjcponegcaaGreat

set_option linter.unusedVariables false
set_option linter.unusedSimpArgs false
set_option maxRecDepth 100000
namespace Go.Proofs.YtlbocjcponegcaaGreat
open Go.AM
end Go.Proofs.YtlbocjcponegcaaGreat

