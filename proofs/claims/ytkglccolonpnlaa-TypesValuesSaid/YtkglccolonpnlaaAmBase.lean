/- Small laws for the walks: wrapping, bits, tuples. -/
import Derived.Test.YtkglccolonpnlaaAmSound8
set_option linter.unusedVariables false
set_option linter.unusedSimpArgs false
set_option maxRecDepth 100000
namespace Go.AM

theorem w64 (n : Int) : IntKind.u64.wrap n = n % 18446744073709551616 := by simp [IntKind.wrap, IntKind.bits, IntKind.signed]
theorem w8 (n : Int) : IntKind.u8.wrap n = n % 256 := by simp [IntKind.wrap, IntKind.bits, IntKind.signed]
theorem wi64 (n : Int) : IntKind.i64.wrap n = (n + 9223372036854775808) % 18446744073709551616 - 9223372036854775808 := by
  simp only [IntKind.wrap, IntKind.bits, IntKind.signed, Bool.true_and]
  split <;> simp_all <;> omega
theorem wi64_id {n : Int} (h0 : -9223372036854775808 ≤ n) (h1 : n < 9223372036854775808) : IntKind.i64.wrap n = n := by rw [wi64]; omega
theorem w64_id {n : Int} (h0 : 0 ≤ n) (h1 : n < 18446744073709551616) : IntKind.u64.wrap n = n := by rw [w64]; omega

theorem int_eq {k : IntKind} {x y : Int} (h : x = y) : Val.int k x = Val.int k y := by rw [h]
theorem cons_eq {x y : Val} {l m : List Val} (h : x = y) (k : l = m) : x :: l = y :: m := by rw [h, k]
theorem tup_eq {l m : List Val} (h : l = m) : Val.tup l = .tup m := by rw [h]
theorem agg_eq {l m : List Val} (h : l = m) : Val.agg l = .agg m := by rw [h]
theorem bool_eq {x y : Bool} (h : x = y) : Val.bool x = .bool y := by rw [h]

/-- x & (2^k - 1) -/
theorem and_mask (a : Int) (h0 : 0 ≤ a) (h1 : a < 18446744073709551616) : ((BitVec.ofInt 64 a &&& BitVec.ofInt 64 4294967295).toNat : Int) = a % 4294967296 := by
  obtain ⟨n, rfl⟩ := Int.eq_ofNat_of_zero_le h0
  have e : BitVec.ofInt 64 (n : Int) = BitVec.ofNat 64 n := BitVec.ofInt_natCast 64 n
  have e2 : BitVec.ofInt 64 4294967295 = BitVec.ofNat 64 4294967295 := by decide
  rw [e, e2, BitVec.toNat_and, BitVec.toNat_ofNat, BitVec.toNat_ofNat, Nat.mod_eq_of_lt (by omega : n < 2 ^ 64), Nat.mod_eq_of_lt (by omega : 4294967295 < 2 ^ 64)]
  have := Nat.and_two_pow_sub_one_eq_mod n 32
  rw [show (4294967295 : Nat) = 2 ^ 32 - 1 by decide, this]
  omega
/-- x | y, x a multiple of 2^32, y below it -/
theorem or_low (x y : Int) (h0 : 0 ≤ x) (h1 : x < 4294967296) (k0 : 0 ≤ y) (k1 : y < 4294967296) : ((BitVec.ofInt 64 (x * 4294967296) ||| BitVec.ofInt 64 y).toNat : Int) = x * 4294967296 + y := by
  obtain ⟨n, rfl⟩ := Int.eq_ofNat_of_zero_le h0
  obtain ⟨m, rfl⟩ := Int.eq_ofNat_of_zero_le k0
  have e : BitVec.ofInt 64 ((n : Int) * 4294967296) = BitVec.ofNat 64 (n * 4294967296) := by
    rw [← BitVec.ofInt_natCast 64 (n * 4294967296)]; congr 1
  have e2 : BitVec.ofInt 64 (m : Int) = BitVec.ofNat 64 m := BitVec.ofInt_natCast 64 m
  rw [e, e2, BitVec.toNat_or, BitVec.toNat_ofNat, BitVec.toNat_ofNat, Nat.mod_eq_of_lt (by omega : n * 4294967296 < 2 ^ 64), Nat.mod_eq_of_lt (by omega : m < 2 ^ 64)]
  have := Nat.two_pow_add_eq_or_of_lt (i := 32) (b := m) (by omega) n
  rw [show n * 4294967296 = 2 ^ 32 * n by omega, ← this]
  omega
theorem fdiv_pos (a : Int) {b : Int} (h : 0 < b) : a.fdiv b = a / b := Int.fdiv_eq_ediv_of_nonneg a (by omega)
theorem sh32 (a : Int) : a.fdiv (2 ^ min (Int.toNat 32) IntKind.u64.bits) = a / 4294967296 := fdiv_pos a (by decide)
theorem and32 (x : Int) : IntKind.u64.wrap ((BitVec.ofInt IntKind.u64.bits x &&& BitVec.ofInt IntKind.u64.bits 4294967295).toNat : Int) = x % 4294967296 := by
  have e : BitVec.ofInt 64 x = BitVec.ofInt 64 (x % 18446744073709551616) := by
    apply BitVec.eq_of_toNat_eq
    simp
  show IntKind.u64.wrap ((BitVec.ofInt 64 x &&& BitVec.ofInt 64 4294967295).toNat : Int) = x % 4294967296
  rw [e, and_mask (x % 18446744073709551616) (by omega) (by omega), w64]
  omega
theorem or32 (x y : Int) : IntKind.u64.wrap ((BitVec.ofInt IntKind.u64.bits (IntKind.u64.wrap (x * 2 ^ min (Int.toNat 32) IntKind.u64.bits)) ||| BitVec.ofInt IntKind.u64.bits (y % 4294967296)).toNat : Int) = x % 4294967296 * 4294967296 + y % 4294967296 := by
  have e : IntKind.u64.wrap (x * 2 ^ min (Int.toNat 32) IntKind.u64.bits) = (x % 4294967296) * 4294967296 := by
    have : (2 : Int) ^ min (Int.toNat 32) IntKind.u64.bits = 4294967296 := by decide
    rw [this, w64]; omega
  rw [e]
  show IntKind.u64.wrap ((BitVec.ofInt 64 (x % 4294967296 * 4294967296) ||| BitVec.ofInt 64 (y % 4294967296)).toNat : Int) = x % 4294967296 * 4294967296 + y % 4294967296
  rw [or_low (x % 4294967296) (y % 4294967296) (by omega) (by omega) (by omega) (by omega), w64]
  omega
theorem mul_lt {a b m n : Int} (h0 : 0 ≤ a) (h1 : a ≤ m) (k0 : 0 ≤ b) (k1 : b ≤ n) : 0 ≤ a * b ∧ a * b ≤ m * n := ⟨Int.mul_nonneg h0 k0, Int.mul_le_mul h1 k1 k0 (by omega)⟩
/-- The schoolbook product of halves. -/
theorem halves {a b : Int} (ha : 0 ≤ a ∧ a < 18446744073709551616) (hb : 0 ≤ b ∧ b < 18446744073709551616) : ∃ P Q R S : Int, a / 4294967296 * (b / 4294967296) = P ∧ a / 4294967296 * (b % 4294967296) = Q ∧ a % 4294967296 * (b / 4294967296) = R ∧ a % 4294967296 * (b % 4294967296) = S ∧
    a * b = P * 18446744073709551616 + (Q + R) * 4294967296 + S ∧ (0 ≤ P ∧ P ≤ 18446744065119617025) ∧ (0 ≤ Q ∧ Q ≤ 18446744065119617025) ∧ (0 ≤ R ∧ R ≤ 18446744065119617025) ∧ (0 ≤ S ∧ S ≤ 18446744065119617025) := by
  refine ⟨_, _, _, _, rfl, rfl, rfl, rfl, ?_, mul_lt (m := 4294967295) (n := 4294967295) (by omega) (by omega) (by omega) (by omega), mul_lt (m := 4294967295) (n := 4294967295) (by omega) (by omega) (by omega) (by omega),
    mul_lt (m := 4294967295) (n := 4294967295) (by omega) (by omega) (by omega) (by omega), mul_lt (m := 4294967295) (n := 4294967295) (by omega) (by omega) (by omega) (by omega)⟩
  have e1 : a = a / 4294967296 * 4294967296 + a % 4294967296 := by omega
  have e2 : b = b / 4294967296 * 4294967296 + b % 4294967296 := by omega
  generalize a / 4294967296 = x at *
  generalize a % 4294967296 = y at *
  generalize b / 4294967296 = z at *
  generalize b % 4294967296 = t at *
  subst e1; subst e2
  rw [Int.add_mul, Int.mul_add, Int.mul_add, Int.add_mul]
  have : x * 4294967296 * (z * 4294967296) = x * z * 18446744073709551616 := by
    rw [Int.mul_assoc, Int.mul_left_comm 4294967296 z, Int.mul_assoc]; rfl
  have h2 : x * 4294967296 * t = x * t * 4294967296 := by rw [Int.mul_assoc, Int.mul_comm 4294967296 t, ← Int.mul_assoc]
  have h3 : y * (z * 4294967296) = y * z * 4294967296 := by rw [Int.mul_assoc]
  omega

/-! ### numbers of four limbs -/
def U (x : Int) : Prop := 0 ≤ x ∧ x < 18446744073709551616
/-- 2^256 -/
abbrev B4 : Int := 115792089237316195423570985008687907853269984665640564039457584007913129639936
def W (n : Int) : Prop := 0 ≤ n ∧ n < B4
def val4 (x0 x1 x2 x3 : Int) : Int := x0 + 18446744073709551616 * (x1 + 18446744073709551616 * (x2 + 18446744073709551616 * x3))
def natI (n : Int) : Val := .agg [.int .u64 (n % 18446744073709551616), .int .u64 (n / 18446744073709551616 % 18446744073709551616), .int .u64 (n / 18446744073709551616 / 18446744073709551616 % 18446744073709551616),
  .int .u64 (n / 18446744073709551616 / 18446744073709551616 / 18446744073709551616 % 18446744073709551616)]
theorem div_limb {x y : Int} (h : U x) : (x + 18446744073709551616 * y) / 18446744073709551616 = y ∧ (x + 18446744073709551616 * y) % 18446744073709551616 = x := by
  unfold U at h; omega
theorem natI_val {x0 x1 x2 x3 : Int} (h0 : U x0) (h1 : U x1) (h2 : U x2) (h3 : U x3) : natI (val4 x0 x1 x2 x3) = .agg [.int .u64 x0, .int .u64 x1, .int .u64 x2, .int .u64 x3] := by
  unfold natI val4
  rw [(div_limb h0).1, (div_limb h0).2, (div_limb h1).1, (div_limb h1).2, (div_limb h2).1, (div_limb h2).2]
  unfold U at h3
  rw [Int.emod_eq_of_lt h3.1 h3.2]
theorem W_val {x0 x1 x2 x3 : Int} (h0 : U x0) (h1 : U x1) (h2 : U x2) (h3 : U x3) : W (val4 x0 x1 x2 x3) := by
  unfold U at *; unfold W val4 B4; omega
/-- Every number is its limbs. -/
theorem W_limbs {n : Int} (h : W n) : ∃ x0 x1 x2 x3, U x0 ∧ U x1 ∧ U x2 ∧ U x3 ∧ n = val4 x0 x1 x2 x3 := by
  unfold W B4 at h
  refine ⟨n % 18446744073709551616, n / 18446744073709551616 % 18446744073709551616, n / 18446744073709551616 / 18446744073709551616 % 18446744073709551616, n / 18446744073709551616 / 18446744073709551616 / 18446744073709551616, ?_, ?_, ?_, ?_, ?_⟩
  · unfold U; omega
  · unfold U; omega
  · unfold U; omega
  · have h1 : 0 ≤ n / 18446744073709551616 ∧ n / 18446744073709551616 < 6277101735386680763835789423207666416102355444464034512896 := by omega
    generalize n / 18446744073709551616 = m at *
    have h2 : 0 ≤ m / 18446744073709551616 ∧ m / 18446744073709551616 < 340282366920938463463374607431768211456 := by omega
    generalize m / 18446744073709551616 = k at *
    unfold U; omega
  · unfold val4
    generalize h1 : n / 18446744073709551616 = m
    generalize h2 : m / 18446744073709551616 = k
    omega
theorem mul_val4 (x y0 y1 y2 y3 : Int) : x * val4 y0 y1 y2 y3 = val4 (x * y0) (x * y1) (x * y2) (x * y3) := by
  simp only [val4, Int.mul_add, Int.mul_left_comm x 18446744073709551616]
theorem val4_mul (x0 x1 x2 x3 y : Int) : val4 x0 x1 x2 x3 * y = val4 (x0 * y) (x1 * y) (x2 * y) (x3 * y) := by
  rw [Int.mul_comm, mul_val4]; simp only [Int.mul_comm y]
/-- One step of the schoolbook product. -/
theorem mul_step {x y l c : Int} (hx : U x) (hy : U y) (hl : U l) (hc : U c) : ∃ hi lo s o d, x * y / 18446744073709551616 = hi ∧ x * y % 18446744073709551616 = lo ∧ (l + lo + c) % 18446744073709551616 = s ∧ (l + lo + c) / 18446744073709551616 = o ∧ IntKind.u64.wrap (hi + o) = d ∧
    U hi ∧ U lo ∧ U s ∧ U d ∧ x * y + l + c = s + 18446744073709551616 * d := by
  have h := mul_lt (m := 18446744073709551615) (n := 18446744073709551615) hx.1 (by unfold U at hx; omega) hy.1 (by unfold U at hy; omega)
  refine ⟨_, _, _, _, _, rfl, rfl, rfl, rfl, rfl, ?_⟩
  unfold U at hl hc ⊢
  rw [w64]
  generalize x * y = p at *
  omega
/-! numbers of eight digits -/
def V (x : Int) : Prop := 0 ≤ x ∧ x < 4294967296
def val8 (x0 x1 x2 x3 x4 x5 x6 x7 : Int) : Int := x0 + 4294967296 * (x1 + 4294967296 * (x2 + 4294967296 * (x3 + 4294967296 * (x4 + 4294967296 * (x5 + 4294967296 * (x6 + 4294967296 * x7))))))
theorem mul_val8 (x y0 y1 y2 y3 y4 y5 y6 y7 : Int) : x * val8 y0 y1 y2 y3 y4 y5 y6 y7 = val8 (x * y0) (x * y1) (x * y2) (x * y3) (x * y4) (x * y5) (x * y6) (x * y7) := by
  simp only [val8, Int.mul_add, Int.mul_left_comm x 4294967296]
theorem val8_mul (x0 x1 x2 x3 x4 x5 x6 x7 y : Int) : val8 x0 x1 x2 x3 x4 x5 x6 x7 * y = val8 (x0 * y) (x1 * y) (x2 * y) (x3 * y) (x4 * y) (x5 * y) (x6 * y) (x7 * y) := by
  rw [Int.mul_comm, mul_val8]; simp only [Int.mul_comm y]
theorem U_digits {x : Int} (h : U x) : ∃ p q, V p ∧ V q ∧ x = p + 4294967296 * q := ⟨x % 4294967296, x / 4294967296, by unfold V; omega, by unfold U at h; unfold V; omega, by omega⟩
theorem tmod32 {s : Int} (h : 0 ≤ s) : s.tmod 4294967296 = s % 4294967296 := Int.tmod_eq_emod_of_nonneg h
theorem mul_step32 {x y d c : Int} (hx : V x) (hy : V y) (hd : V d) (hc : V c) : ∃ s e f, IntKind.u64.wrap (IntKind.u64.wrap (d + IntKind.u64.wrap (x * y)) + c) = s ∧ s.tmod 4294967296 = e ∧ s.fdiv (2 ^ min (Int.toNat 32) IntKind.u64.bits) = f ∧
    V e ∧ V f ∧ x * y + d + c = e + 4294967296 * f := by
  have h := mul_lt (m := 4294967295) (n := 4294967295) hx.1 (by unfold V at hx; omega) hy.1 (by unfold V at hy; omega)
  refine ⟨_, _, _, rfl, rfl, rfl, ?_⟩
  unfold V at hd hc ⊢
  simp only [w64, sh32]
  generalize x * y = p at *
  have e : ((d + p % 18446744073709551616) % 18446744073709551616 + c) % 18446744073709551616 = p + d + c := by omega
  rw [e, tmod32 (by omega)]
  omega
theorem join32 {p q : Int} (hp : V p) (hq : V q) : IntKind.u64.wrap (p + IntKind.u64.wrap (q * 2 ^ min (Int.toNat 32) IntKind.u64.bits)) = p + 4294967296 * q ∧ U (p + 4294967296 * q) := by
  have : (2 : Int) ^ min (Int.toNat 32) IntKind.u64.bits = 4294967296 := by decide
  rw [this, w64, w64]
  unfold V at *; unfold U; omega
/-- A value that is four limbs, as a number's. -/
theorem natI_is {n x0 x1 x2 x3 : Int} (h0 : U x0) (h1 : U x1) (h2 : U x2) (h3 : U x3) (h : n = val4 x0 x1 x2 x3) : Val.agg [.int .u64 x0, .int .u64 x1, .int .u64 x2, .int .u64 x3] = natI n := by
  rw [h, natI_val h0 h1 h2 h3]
end Go.AM
namespace Go.AM
theorem not64 {x : Int} (h : 0 ≤ x ∧ x < 18446744073709551616) : IntKind.u64.wrap ((BitVec.ofInt IntKind.u64.bits (if IntKind.u64.signed then -1 else IntKind.u64.max) ^^^ BitVec.ofInt IntKind.u64.bits x).toNat : Int) = 18446744073709551615 - x := by
  obtain ⟨n, rfl⟩ := Int.eq_ofNat_of_zero_le h.1
  have e0 : IntKind.u64.signed = false := rfl
  have e1 : IntKind.u64.bits = 64 := rfl
  have e3 : IntKind.u64.max = 18446744073709551615 := rfl
  have e2 : BitVec.ofInt 64 (n : Int) = BitVec.ofNat 64 n := BitVec.ofInt_natCast 64 n
  rw [e0, e1, e3, e2]
  have e4 : BitVec.ofInt 64 18446744073709551615 = BitVec.allOnes 64 := by decide
  simp only [Bool.false_eq_true, if_false]
  rw [e4, BitVec.allOnes_xor, w64]
  have hn : n < 18446744073709551616 := by omega
  rw [BitVec.toNat_not, BitVec.toNat_ofNat, Nat.mod_eq_of_lt (by simpa using hn)]
  omega
end Go.AM
