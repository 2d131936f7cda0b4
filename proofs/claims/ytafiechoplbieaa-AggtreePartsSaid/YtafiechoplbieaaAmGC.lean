/- limb.twice, limb.Div. -/
import Derived.Test.YtafiechoplbieaaAmGA
set_option linter.unusedVariables false
set_option linter.unusedSimpArgs false
set_option maxRecDepth 100000
namespace Go.Proofs.Ytafiechoplbieaa
open Go.AM
/-- or, where the bits are apart -/
theorem or_apart (r : Nat) {x y : Int} (hx : U x) (hd : x % 2 ^ r = 0) (hy0 : 0 ≤ y) (hy : y < 2 ^ r) (hr : r ≤ 64) : IntKind.u64.wrap ((BitVec.ofInt IntKind.u64.bits x ||| BitVec.ofInt IntKind.u64.bits y).toNat : Int) = x + y := by
  obtain ⟨n, rfl⟩ := Int.eq_ofNat_of_zero_le hx.1
  obtain ⟨m, rfl⟩ := Int.eq_ofNat_of_zero_le hy0
  have e1 : IntKind.u64.bits = 64 := rfl
  have hp : ((2 : Int) ^ r) = ((2 ^ r : Nat) : Int) := (Int.natCast_pow 2 r).symm
  rw [hp] at hd hy
  have hm : m < 2 ^ r := by omega
  have hn : n % 2 ^ r = 0 := by
    have : ((n % 2 ^ r : Nat) : Int) = 0 := by rw [Int.natCast_emod]; exact hd
    omega
  have h64 : 2 ^ r ≤ 2 ^ 64 := Nat.pow_le_pow_right (by decide) hr
  have hn64 : n < 2 ^ 64 := by have := hx.2; omega
  have e2 : n = 2 ^ r * (n / 2 ^ r) := by have := Nat.div_add_mod n (2 ^ r); omega
  rw [e1, BitVec.ofInt_natCast, BitVec.ofInt_natCast, BitVec.toNat_or, BitVec.toNat_ofNat, BitVec.toNat_ofNat, Nat.mod_eq_of_lt hn64, Nat.mod_eq_of_lt (by omega : m < 2 ^ 64)]
  have e3 : n ||| m = n + m := by
    rw [e2]
    exact (Nat.two_pow_add_eq_or_of_lt hm (n / 2 ^ r)).symm
  have e4 : n ||| m < 2 ^ 64 := Nat.or_lt_two_pow hn64 (by omega)
  rw [e3] at e4 ⊢
  rw [w64]
  omega
theorem div_step {high low dv p s m q h re : Int} (hps : p * (2 * s) = B4) (hp : 0 < p) (hs : 0 < s) (hm : 0 ≤ m ∧ m < 2 * s) (hq : 0 ≤ q ∧ q < p) (hl : low = h * (2 * s) + m) (he : high * p + h = q * dv + re) :
    ∃ t m', (t = 0 ∨ t = 1) ∧ m = t * s + m' ∧ (2 * (m * p + q)) / B4 = t ∧ (2 * (m * p + q)) % B4 = m' * (2 * p) + 2 * q ∧ 0 ≤ m' ∧ m' < s ∧ low = (2 * h + t) * s + m' ∧ high * (2 * p) + (2 * h + t) = (2 * q) * dv + (2 * re + t) := by
  have e1 : high * (2 * p) = 2 * (high * p) := Int.mul_left_comm _ _ _
  have e2 : 2 * q * dv = 2 * (q * dv) := Int.mul_assoc _ _ _
  have e3 : h * (2 * s) = 2 * (h * s) := Int.mul_left_comm _ _ _
  have bound : ∀ m', 0 ≤ m' → m' < s → 0 ≤ m' * (2 * p) + 2 * q ∧ m' * (2 * p) + 2 * q < B4 := fun m' h0 h1 => by
    have h2 : (m' + 1) * (2 * p) ≤ s * (2 * p) := Int.mul_le_mul_of_nonneg_right (by omega) (by omega)
    have h3 : s * (2 * p) = B4 := by rw [← hps, Int.mul_left_comm, Int.mul_comm s p, Int.mul_left_comm]
    have h4 : 0 ≤ m' * (2 * p) := Int.mul_nonneg h0 (by omega)
    rw [Int.add_mul, Int.one_mul] at h2
    omega
  rcases (by omega : m < s ∨ s ≤ m) with h1 | h1
  · have hb := bound m hm.1 h1
    have e4 : 2 * (m * p + q) = m * (2 * p) + 2 * q := by rw [Int.mul_add, Int.mul_left_comm]
    refine ⟨0, m, .inl rfl, by omega, ?_, ?_, hm.1, h1, by rw [Int.add_mul, Int.mul_assoc]; omega, by omega⟩
    · rw [e4]; exact Int.ediv_eq_zero_of_lt hb.1 hb.2
    · rw [e4]; exact Int.emod_eq_of_lt hb.1 hb.2
  · have hb := bound (m - s) (by omega) (by omega)
    have e4 : 2 * (m * p + q) = B4 + ((m - s) * (2 * p) + 2 * q) := by
      have h3 : s * (2 * p) = B4 := by rw [← hps, Int.mul_left_comm, Int.mul_comm s p, Int.mul_left_comm]
      rw [Int.mul_add, Int.mul_left_comm 2 m p, Int.sub_mul, h3]; omega
    refine ⟨1, m - s, .inr rfl, by omega, ?_, ?_, by omega, by omega, by rw [Int.add_mul, Int.mul_assoc]; omega, by omega⟩
    · rw [e4, Int.add_ediv_of_dvd_left (Int.dvd_refl _), Int.ediv_self (by decide), Int.ediv_eq_zero_of_lt hb.1 hb.2]; rfl
    · rw [e4, Int.add_emod_left, Int.emod_eq_of_lt hb.1 hb.2]
def DivInv (high low dv : Int) (k : Nat) (lo re : Int) : Prop := ∃ m q h p s, p * s = B4 ∧ s = 2 ^ k ∧ 0 < p ∧ 0 < s ∧ lo = m * p + q ∧ (0 ≤ m ∧ m < s) ∧ (0 ≤ q ∧ q < p) ∧ low = h * s + m ∧ high * p + h = q * dv + re ∧ (0 ≤ re ∧ re < dv)
theorem DivInv.start {high low dv : Int} (hh : 0 ≤ high ∧ high < dv) (hl : W low) : DivInv high low dv 256 low high :=
  ⟨low, 0, 0, 1, B4, rfl, by decide, by decide, by decide, by omega, hl, by decide, by omega, by omega, hh⟩
/-- One turn: what is doubled; then the two ways. -/
theorem DivInv.step {high low dv : Int} {k : Nat} {lo re : N} (hi : DivInv high low dv (k + 1) lo.v re.v) (hby : dv < B4) : ((2 * lo.v + 0) / B4 = 0 ∨ (2 * lo.v + 0) / B4 = 1) ∧ (2 * lo.v + 0) % B4 % 2 = 0 ∧
    (2 * re.v + (2 * lo.v + 0) / B4 < dv → DivInv high low dv k ((2 * lo.v + 0) % B4) (2 * re.v + (2 * lo.v + 0) / B4)) ∧
    (dv ≤ 2 * re.v + (2 * lo.v + 0) / B4 → DivInv high low dv k ((2 * lo.v + 0) % B4 + 1) (2 * re.v + (2 * lo.v + 0) / B4 - dv)) := by
  obtain ⟨m, q, h, p, s, h1, h2, h3, h4, h5, h6, h7, h8, h9, h10⟩ := hi
  have hs : s = 2 * 2 ^ k := by rw [h2, Int.pow_succ, Int.mul_comm]
  have hk : 0 < (2 : Int) ^ k := by omega
  rw [hs] at h1 h6 h8
  obtain ⟨t, m', g1, g0, g2, g3, g4, g5, g6, g7⟩ := div_step h1 h3 hk h6 h7 h8 h9
  have e : 2 * lo.v + 0 = 2 * (m * p + q) := by omega
  rw [e, g2, g3]
  have hp2 : 2 * p * 2 ^ k = B4 := by rw [← h1, Int.mul_assoc, Int.mul_left_comm]
  have ev : m' * (2 * p) = 2 * (m' * p) := Int.mul_left_comm _ _ _
  refine ⟨g1, by omega, fun hlt => ?_, fun hge => ?_⟩
  · exact ⟨m', 2 * q, 2 * h + t, 2 * p, 2 ^ k, hp2, rfl, by omega, hk, rfl, ⟨g4, g5⟩, by omega, g6, g7, by omega⟩
  · refine ⟨m', 2 * q + 1, 2 * h + t, 2 * p, 2 ^ k, hp2, rfl, by omega, hk, by omega, ⟨g4, g5⟩, by omega, g6, ?_, by omega⟩
    rw [Int.add_mul, Int.one_mul]; omega
theorem DivInv.done {high low dv lo re : Int} (h : DivInv high low dv 0 lo re) : lo = (high * B4 + low) / dv ∧ re = (high * B4 + low) % dv := by
  obtain ⟨m, q, h, p, s, h1, h2, h3, h4, h5, h6, h7, h8, h9, h10⟩ := h
  have hs : s = 1 := h2
  subst hs
  have hm : m = 0 := by omega
  subst hm
  have hp : p = B4 := by omega
  subst hp
  have e : high * B4 + low = re + dv * q := by rw [Int.mul_comm dv q]; omega
  rw [e, Int.add_mul_ediv_left _ _ (by omega), Int.ediv_eq_zero_of_lt h10.1 h10.2, Int.add_mul_emod_self_left, Int.emod_eq_of_lt h10.1 h10.2]
  omega
end Go.Proofs.Ytafiechoplbieaa

set_option linter.unusedVariables false
set_option linter.unusedSimpArgs false
set_option maxRecDepth 100000
namespace Go.Proofs.Ytafiechoplbieaa
open Go.AM
theorem and1 {x : Int} (h : 0 ≤ x ∧ x < 18446744073709551616) : IntKind.u64.wrap ((BitVec.ofInt IntKind.u64.bits x &&& BitVec.ofInt IntKind.u64.bits 1).toNat : Int) = x % 2 := by
  obtain ⟨n, rfl⟩ := Int.eq_ofNat_of_zero_le h.1
  have e1 : IntKind.u64.bits = 64 := rfl
  have e2 : BitVec.ofInt 64 1 = BitVec.ofNat 64 1 := by decide
  rw [e1, BitVec.ofInt_natCast, e2, BitVec.toNat_and, BitVec.toNat_ofNat, BitVec.toNat_ofNat, Nat.mod_eq_of_lt (by omega : n < 2 ^ 64), show 1 % 2 ^ 64 = 1 from by decide, Nat.and_one_is_mod, w64]
  omega
theorem tq (j r : Nat) (hr : r < 64) : Int.tdiv ((64 * j + r : Nat) : Int) 64 = (j : Int) := by
  rw [Int.tdiv_eq_ediv_of_nonneg (by omega)]; omega
theorem tr (j r : Nat) (hr : r < 64) : Int.tmod ((64 * j + r : Nat) : Int) 64 = (r : Int) := by
  rw [Int.tmod_eq_emod_of_nonneg (by omega)]; omega
theorem shr_r (x : Int) (r : Nat) (hr : r < 64) : x.fdiv (2 ^ min (Int.toNat (r : Int)) IntKind.u64.bits) = x / 2 ^ r := by
  have e : min (Int.toNat (r : Int)) IntKind.u64.bits = r := by
    have : IntKind.u64.bits = 64 := rfl
    rw [this, Int.toNat_natCast]; omega
  rw [e, fdiv_pos _ (Int.pow_pos (by decide))]
end Go.Proofs.Ytafiechoplbieaa

set_option linter.unusedVariables false
set_option linter.unusedSimpArgs false
set_option maxRecDepth 100000
namespace Go.Proofs.Ytafiechoplbieaa
open Go.AM
def RInv (high low dv : Int) (k : Nat) (q re : Int) : Prop := ∃ h m Q p s, p * s = B4 ∧ s = 2 ^ k ∧ 0 < p ∧ 0 < s ∧ low = h * s + m ∧ (0 ≤ m ∧ m < s) ∧ q = Q * s ∧ (0 ≤ Q ∧ Q < p) ∧ high * p + h = Q * dv + re ∧ (0 ≤ re ∧ re < dv)
theorem RInv.start {high low dv : Int} (hh : 0 ≤ high ∧ high < dv) (hl : W low) : RInv high low dv 256 0 high :=
  ⟨0, low, 0, 1, B4, rfl, by decide, by decide, by decide, by omega, hl, by omega, by decide, by omega, hh⟩
theorem RInv.done {high low dv q re : Int} (h : RInv high low dv 0 q re) : q = (high * B4 + low) / dv ∧ re = (high * B4 + low) % dv := by
  obtain ⟨h, m, Q, p, s, h1, h2, h3, h4, h5, h6, h7, h8, h9, h10⟩ := h
  have hs : s = 1 := h2
  subst hs
  have hm : m = 0 := by omega
  subst hm
  have hp : p = B4 := by omega
  subst hp
  have e : high * B4 + low = re + dv * Q := by rw [Int.mul_comm dv Q]; omega
  rw [e, Int.add_mul_ediv_left _ _ (by omega), Int.ediv_eq_zero_of_lt h10.1 h10.2, Int.add_mul_emod_self_left, Int.emod_eq_of_lt h10.1 h10.2]
  omega
theorem RInv.step {high low dv : Int} {k : Nat} {q re : Int} (hi : RInv high low dv (k + 1) q re) : (low / 2 ^ k % 2 = 0 ∨ low / 2 ^ k % 2 = 1) ∧ (2 * re + low / 2 ^ k % 2 < dv → RInv high low dv k q (2 * re + low / 2 ^ k % 2)) ∧
    (dv ≤ 2 * re + low / 2 ^ k % 2 → RInv high low dv k (q + 2 ^ k) (2 * re + low / 2 ^ k % 2 - dv)) ∧ (∃ Q, q = Q * 2 ^ (k + 1) ∧ 0 ≤ Q) ∧ q + 2 ^ k < B4 := by
  obtain ⟨h, m, Q, p, s, h1, h2, h3, h4, h5, h6, h7, h8, h9, h10⟩ := hi
  have hs : s = 2 * 2 ^ k := by rw [h2, Int.pow_succ, Int.mul_comm]
  have hk : 0 < (2 : Int) ^ k := by omega
  have e0 : Q * 2 ^ (k + 1) = q := by rw [← h2]; exact h7.symm
  rw [hs] at h1 h5 h6 h7
  generalize hS : (2 : Int) ^ k = S at *
  have e1 : high * (2 * p) = 2 * (high * p) := Int.mul_left_comm _ _ _
  have e3 : h * (2 * S) = 2 * (h * S) := Int.mul_left_comm _ _ _
  have e4 : Q * (2 * S) = 2 * (Q * S) := Int.mul_left_comm _ _ _
  have e5 : 2 * Q * dv = 2 * (Q * dv) := Int.mul_assoc _ _ _
  have e6 : 2 * Q * S = 2 * (Q * S) := Int.mul_assoc _ _ _
  have e7 : 2 * h * S = 2 * (h * S) := Int.mul_assoc _ _ _
  have hp2 : 2 * p * S = B4 := by rw [← h1, Int.mul_assoc, Int.mul_left_comm]
  have hQ : (Q + 1) * (2 * S) ≤ p * (2 * S) := Int.mul_le_mul_of_nonneg_right (by omega) (by omega)
  rw [Int.add_mul, Int.one_mul] at hQ
  obtain ⟨t, m', ht, hm', g1, g2⟩ : ∃ t m', (t = 0 ∨ t = 1) ∧ m = t * S + m' ∧ 0 ≤ m' ∧ m' < S := by
    rcases (by omega : m < S ∨ S ≤ m) with h | h
    · exact ⟨0, m, .inl rfl, by omega, by omega, h⟩
    · exact ⟨1, m - S, .inr rfl, by omega, by omega, by omega⟩
  have el : low = (2 * h + t) * S + m' := by rw [Int.add_mul]; omega
  have ed : low / S = 2 * h + t := by
    rw [el, Int.add_comm, Int.add_mul_ediv_right _ _ (by omega), Int.ediv_eq_zero_of_lt g1 g2, Int.zero_add]
  rw [ed]
  have et : (2 * h + t) % 2 = t := by omega
  rw [et]
  refine ⟨ht, fun hlt => ?_, fun hge => ?_, ⟨Q, e0.symm, h8.1⟩, by omega⟩
  · exact ⟨2 * h + t, m', 2 * Q, 2 * p, S, hp2, hS.symm, by omega, hk, el, ⟨g1, g2⟩, by omega, by omega, by omega, by omega⟩
  · refine ⟨2 * h + t, m', 2 * Q + 1, 2 * p, S, hp2, hS.symm, by omega, hk, el, ⟨g1, g2⟩, by rw [Int.add_mul]; omega, by omega, ?_, by omega⟩
    rw [Int.add_mul, Int.one_mul]; omega
end Go.Proofs.Ytafiechoplbieaa

set_option linter.unusedVariables false
set_option linter.unusedSimpArgs false
set_option maxRecDepth 100000
namespace Go.Proofs.Ytafiechoplbieaa
open Go.AM
end Go.Proofs.Ytafiechoplbieaa

