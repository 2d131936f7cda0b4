/- Small laws for the walks: wrapping, bits, tuples. -/
import Derived.Test.YtafiechoplbieaaAmHf
set_option linter.unusedVariables false
set_option linter.unusedSimpArgs false
set_option maxRecDepth 100000
namespace Go.AM

theorem w64 (n : Int) : IntKind.u64.wrap n = n % 18446744073709551616 := by simp [IntKind.wrap, IntKind.bits, IntKind.signed]
theorem wi64 (n : Int) : IntKind.i64.wrap n = (n + 9223372036854775808) % 18446744073709551616 - 9223372036854775808 := by
  simp only [IntKind.wrap, IntKind.bits, IntKind.signed, Bool.true_and]
  split <;> simp_all <;> omega
theorem wi64_id {n : Int} (h0 : -9223372036854775808 ≤ n) (h1 : n < 9223372036854775808) : IntKind.i64.wrap n = n := by rw [wi64]; omega
theorem w64_id {n : Int} (h0 : 0 ≤ n) (h1 : n < 18446744073709551616) : IntKind.u64.wrap n = n := by rw [w64]; omega

theorem int_eq {k : IntKind} {x y : Int} (h : x = y) : Val.int k x = Val.int k y := by rw [h]
theorem cons_eq {x y : Val} {l m : List Val} (h : x = y) (k : l = m) : x :: l = y :: m := by rw [h, k]
theorem tup_eq {l m : List Val} (h : l = m) : Val.tup l = .tup m := by rw [h]
theorem bool_eq {x y : Bool} (h : x = y) : Val.bool x = .bool y := by rw [h]

/-- x & (2^k - 1) -/
theorem and_mask (a : Int) (h0 : 0 ≤ a) (h1 : a < 18446744073709551616) : ((BitVec.ofInt 64 a &&& BitVec.ofInt 64 4294967295).toNat : Int) = a % 4294967296 := by
  obtain ⟨n, rfl⟩ := Int.eq_ofNat_of_zero_le h0
  have e : BitVec.ofInt 64 (n : Int) = BitVec.ofNat 64 n := BitVec.ofInt_natCast 64 n
  have e2 : BitVec.ofInt 64 4294967295 = BitVec.ofNat 64 4294967295 := by decide
  rw [e, e2, BitVec.toNat_and, BitVec.toNat_ofNat, BitVec.toNat_ofNat, Nat.mod_eq_of_lt (by omega : n < 2 ^ 64), Nat.mod_eq_of_lt (by omega : 4294967295 < 2 ^ 64)]
  have := Nat.and_two_pow_sub_one_eq_mod n 32
  rw [show (4294967295 : Nat) = 2 ^ 32 - 1 by decide, this]
  omega
/-- x | y, x a multiple of 2^32, y below it -/
theorem or_low (x y : Int) (h0 : 0 ≤ x) (h1 : x < 4294967296) (k0 : 0 ≤ y) (k1 : y < 4294967296) : ((BitVec.ofInt 64 (x * 4294967296) ||| BitVec.ofInt 64 y).toNat : Int) = x * 4294967296 + y := by
  obtain ⟨n, rfl⟩ := Int.eq_ofNat_of_zero_le h0
  obtain ⟨m, rfl⟩ := Int.eq_ofNat_of_zero_le k0
  have e : BitVec.ofInt 64 ((n : Int) * 4294967296) = BitVec.ofNat 64 (n * 4294967296) := by
    rw [← BitVec.ofInt_natCast 64 (n * 4294967296)]; congr 1
  have e2 : BitVec.ofInt 64 (m : Int) = BitVec.ofNat 64 m := BitVec.ofInt_natCast 64 m
  rw [e, e2, BitVec.toNat_or, BitVec.toNat_ofNat, BitVec.toNat_ofNat, Nat.mod_eq_of_lt (by omega : n * 4294967296 < 2 ^ 64), Nat.mod_eq_of_lt (by omega : m < 2 ^ 64)]
  have := Nat.two_pow_add_eq_or_of_lt (i := 32) (b := m) (by omega) n
  rw [show n * 4294967296 = 2 ^ 32 * n by omega, ← this]
  omega
theorem fdiv_pos (a : Int) {b : Int} (h : 0 < b) : a.fdiv b = a / b := Int.fdiv_eq_ediv_of_nonneg a (by omega)
theorem sh32 (a : Int) : a.fdiv (2 ^ min (Int.toNat 32) IntKind.u64.bits) = a / 4294967296 := fdiv_pos a (by decide)
theorem and32 (x : Int) : IntKind.u64.wrap ((BitVec.ofInt IntKind.u64.bits x &&& BitVec.ofInt IntKind.u64.bits 4294967295).toNat : Int) = x % 4294967296 := by
  have e : BitVec.ofInt 64 x = BitVec.ofInt 64 (x % 18446744073709551616) := by
    apply BitVec.eq_of_toNat_eq
    simp
  show IntKind.u64.wrap ((BitVec.ofInt 64 x &&& BitVec.ofInt 64 4294967295).toNat : Int) = x % 4294967296
  rw [e, and_mask (x % 18446744073709551616) (by omega) (by omega), w64]
  omega
theorem or32 (x y : Int) : IntKind.u64.wrap ((BitVec.ofInt IntKind.u64.bits (IntKind.u64.wrap (x * 2 ^ min (Int.toNat 32) IntKind.u64.bits)) ||| BitVec.ofInt IntKind.u64.bits (y % 4294967296)).toNat : Int) = x % 4294967296 * 4294967296 + y % 4294967296 := by
  have e : IntKind.u64.wrap (x * 2 ^ min (Int.toNat 32) IntKind.u64.bits) = (x % 4294967296) * 4294967296 := by
    have : (2 : Int) ^ min (Int.toNat 32) IntKind.u64.bits = 4294967296 := by decide
    rw [this, w64]; omega
  rw [e]
  show IntKind.u64.wrap ((BitVec.ofInt 64 (x % 4294967296 * 4294967296) ||| BitVec.ofInt 64 (y % 4294967296)).toNat : Int) = x % 4294967296 * 4294967296 + y % 4294967296
  rw [or_low (x % 4294967296) (y % 4294967296) (by omega) (by omega) (by omega) (by omega), w64]
  omega
theorem mul_lt {a b m n : Int} (h0 : 0 ≤ a) (h1 : a ≤ m) (k0 : 0 ≤ b) (k1 : b ≤ n) : 0 ≤ a * b ∧ a * b ≤ m * n := ⟨Int.mul_nonneg h0 k0, Int.mul_le_mul h1 k1 k0 (by omega)⟩
/-- The schoolbook product of halves. -/
theorem halves {a b : Int} (ha : 0 ≤ a ∧ a < 18446744073709551616) (hb : 0 ≤ b ∧ b < 18446744073709551616) : ∃ P Q R S : Int, a / 4294967296 * (b / 4294967296) = P ∧ a / 4294967296 * (b % 4294967296) = Q ∧ a % 4294967296 * (b / 4294967296) = R ∧ a % 4294967296 * (b % 4294967296) = S ∧
    a * b = P * 18446744073709551616 + (Q + R) * 4294967296 + S ∧ (0 ≤ P ∧ P ≤ 18446744065119617025) ∧ (0 ≤ Q ∧ Q ≤ 18446744065119617025) ∧ (0 ≤ R ∧ R ≤ 18446744065119617025) ∧ (0 ≤ S ∧ S ≤ 18446744065119617025) := by
  refine ⟨_, _, _, _, rfl, rfl, rfl, rfl, ?_, mul_lt (m := 4294967295) (n := 4294967295) (by omega) (by omega) (by omega) (by omega), mul_lt (m := 4294967295) (n := 4294967295) (by omega) (by omega) (by omega) (by omega),
    mul_lt (m := 4294967295) (n := 4294967295) (by omega) (by omega) (by omega) (by omega), mul_lt (m := 4294967295) (n := 4294967295) (by omega) (by omega) (by omega) (by omega)⟩
  have e1 : a = a / 4294967296 * 4294967296 + a % 4294967296 := by omega
  have e2 : b = b / 4294967296 * 4294967296 + b % 4294967296 := by omega
  generalize a / 4294967296 = x at *
  generalize a % 4294967296 = y at *
  generalize b / 4294967296 = z at *
  generalize b % 4294967296 = t at *
  subst e1; subst e2
  rw [Int.add_mul, Int.mul_add, Int.mul_add, Int.add_mul]
  have : x * 4294967296 * (z * 4294967296) = x * z * 18446744073709551616 := by
    rw [Int.mul_assoc, Int.mul_left_comm 4294967296 z, Int.mul_assoc]; rfl
  have h2 : x * 4294967296 * t = x * t * 4294967296 := by rw [Int.mul_assoc, Int.mul_comm 4294967296 t, ← Int.mul_assoc]
  have h3 : y * (z * 4294967296) = y * z * 4294967296 := by rw [Int.mul_assoc]
  omega

/-! ### numbers of four limbs -/
def U (x : Int) : Prop := 0 ≤ x ∧ x < 18446744073709551616
/-- 2^256 -/
abbrev B4 : Int := 115792089237316195423570985008687907853269984665640564039457584007913129639936
def W (n : Int) : Prop := 0 ≤ n ∧ n < B4
def val4 (x0 x1 x2 x3 : Int) : Int := x0 + 18446744073709551616 * (x1 + 18446744073709551616 * (x2 + 18446744073709551616 * x3))
def natI (n : Int) : Val := .agg [.int .u64 (n % 18446744073709551616), .int .u64 (n / 18446744073709551616 % 18446744073709551616), .int .u64 (n / 18446744073709551616 / 18446744073709551616 % 18446744073709551616),
  .int .u64 (n / 18446744073709551616 / 18446744073709551616 / 18446744073709551616 % 18446744073709551616)]
theorem div_limb {x y : Int} (h : U x) : (x + 18446744073709551616 * y) / 18446744073709551616 = y ∧ (x + 18446744073709551616 * y) % 18446744073709551616 = x := by
  unfold U at h; omega
theorem natI_val {x0 x1 x2 x3 : Int} (h0 : U x0) (h1 : U x1) (h2 : U x2) (h3 : U x3) : natI (val4 x0 x1 x2 x3) = .agg [.int .u64 x0, .int .u64 x1, .int .u64 x2, .int .u64 x3] := by
  unfold natI val4
  rw [(div_limb h0).1, (div_limb h0).2, (div_limb h1).1, (div_limb h1).2, (div_limb h2).1, (div_limb h2).2]
  unfold U at h3
  rw [Int.emod_eq_of_lt h3.1 h3.2]
theorem W_val {x0 x1 x2 x3 : Int} (h0 : U x0) (h1 : U x1) (h2 : U x2) (h3 : U x3) : W (val4 x0 x1 x2 x3) := by
  unfold U at *; unfold W val4 B4; omega
/-- Every number is its limbs. -/
theorem W_limbs {n : Int} (h : W n) : ∃ x0 x1 x2 x3, U x0 ∧ U x1 ∧ U x2 ∧ U x3 ∧ n = val4 x0 x1 x2 x3 := by
  unfold W B4 at h
  refine ⟨n % 18446744073709551616, n / 18446744073709551616 % 18446744073709551616, n / 18446744073709551616 / 18446744073709551616 % 18446744073709551616, n / 18446744073709551616 / 18446744073709551616 / 18446744073709551616, ?_, ?_, ?_, ?_, ?_⟩
  · unfold U; omega
  · unfold U; omega
  · unfold U; omega
  · have h1 : 0 ≤ n / 18446744073709551616 ∧ n / 18446744073709551616 < 6277101735386680763835789423207666416102355444464034512896 := by omega
    generalize n / 18446744073709551616 = m at *
    have h2 : 0 ≤ m / 18446744073709551616 ∧ m / 18446744073709551616 < 340282366920938463463374607431768211456 := by omega
    generalize m / 18446744073709551616 = k at *
    unfold U; omega
  · unfold val4
    generalize h1 : n / 18446744073709551616 = m
    generalize h2 : m / 18446744073709551616 = k
    omega
theorem mul_val4 (x y0 y1 y2 y3 : Int) : x * val4 y0 y1 y2 y3 = val4 (x * y0) (x * y1) (x * y2) (x * y3) := by
  simp only [val4, Int.mul_add, Int.mul_left_comm x 18446744073709551616]
theorem val4_mul (x0 x1 x2 x3 y : Int) : val4 x0 x1 x2 x3 * y = val4 (x0 * y) (x1 * y) (x2 * y) (x3 * y) := by
  rw [Int.mul_comm, mul_val4]; simp only [Int.mul_comm y]
/-- One step of the schoolbook product. -/
theorem mul_step {x y l c : Int} (hx : U x) (hy : U y) (hl : U l) (hc : U c) : ∃ hi lo s o d, x * y / 18446744073709551616 = hi ∧ x * y % 18446744073709551616 = lo ∧ (l + lo + c) % 18446744073709551616 = s ∧ (l + lo + c) / 18446744073709551616 = o ∧ IntKind.u64.wrap (hi + o) = d ∧
    U hi ∧ U lo ∧ U s ∧ U d ∧ x * y + l + c = s + 18446744073709551616 * d := by
  have h := mul_lt (m := 18446744073709551615) (n := 18446744073709551615) hx.1 (by unfold U at hx; omega) hy.1 (by unfold U at hy; omega)
  refine ⟨_, _, _, _, _, rfl, rfl, rfl, rfl, rfl, ?_⟩
  unfold U at hl hc ⊢
  rw [w64]
  generalize x * y = p at *
  omega
/-! numbers of eight digits -/
def V (x : Int) : Prop := 0 ≤ x ∧ x < 4294967296
def val8 (x0 x1 x2 x3 x4 x5 x6 x7 : Int) : Int := x0 + 4294967296 * (x1 + 4294967296 * (x2 + 4294967296 * (x3 + 4294967296 * (x4 + 4294967296 * (x5 + 4294967296 * (x6 + 4294967296 * x7))))))
theorem mul_val8 (x y0 y1 y2 y3 y4 y5 y6 y7 : Int) : x * val8 y0 y1 y2 y3 y4 y5 y6 y7 = val8 (x * y0) (x * y1) (x * y2) (x * y3) (x * y4) (x * y5) (x * y6) (x * y7) := by
  simp only [val8, Int.mul_add, Int.mul_left_comm x 4294967296]
theorem val8_mul (x0 x1 x2 x3 x4 x5 x6 x7 y : Int) : val8 x0 x1 x2 x3 x4 x5 x6 x7 * y = val8 (x0 * y) (x1 * y) (x2 * y) (x3 * y) (x4 * y) (x5 * y) (x6 * y) (x7 * y) := by
  rw [Int.mul_comm, mul_val8]; simp only [Int.mul_comm y]
theorem U_digits {x : Int} (h : U x) : ∃ p q, V p ∧ V q ∧ x = p + 4294967296 * q := ⟨x % 4294967296, x / 4294967296, by unfold V; omega, by unfold U at h; unfold V; omega, by omega⟩
theorem tmod32 {s : Int} (h : 0 ≤ s) : s.tmod 4294967296 = s % 4294967296 := Int.tmod_eq_emod_of_nonneg h
theorem mul_step32 {x y d c : Int} (hx : V x) (hy : V y) (hd : V d) (hc : V c) : ∃ s e f, IntKind.u64.wrap (IntKind.u64.wrap (d + IntKind.u64.wrap (x * y)) + c) = s ∧ s.tmod 4294967296 = e ∧ s.fdiv (2 ^ min (Int.toNat 32) IntKind.u64.bits) = f ∧
    V e ∧ V f ∧ x * y + d + c = e + 4294967296 * f := by
  have h := mul_lt (m := 4294967295) (n := 4294967295) hx.1 (by unfold V at hx; omega) hy.1 (by unfold V at hy; omega)
  refine ⟨_, _, _, rfl, rfl, rfl, ?_⟩
  unfold V at hd hc ⊢
  simp only [w64, sh32]
  generalize x * y = p at *
  have e : ((d + p % 18446744073709551616) % 18446744073709551616 + c) % 18446744073709551616 = p + d + c := by omega
  rw [e, tmod32 (by omega)]
  omega
theorem join32 {p q : Int} (hp : V p) (hq : V q) : IntKind.u64.wrap (p + IntKind.u64.wrap (q * 2 ^ min (Int.toNat 32) IntKind.u64.bits)) = p + 4294967296 * q ∧ U (p + 4294967296 * q) := by
  have : (2 : Int) ^ min (Int.toNat 32) IntKind.u64.bits = 4294967296 := by decide
  rw [this, w64, w64]
  unfold V at *; unfold U; omega
/-- A value that is four limbs, as a number's. -/
theorem natI_is {n x0 x1 x2 x3 : Int} (h0 : U x0) (h1 : U x1) (h2 : U x2) (h3 : U x3) (h : n = val4 x0 x1 x2 x3) : Val.agg [.int .u64 x0, .int .u64 x1, .int .u64 x2, .int .u64 x3] = natI n := by
  rw [h, natI_val h0 h1 h2 h3]
end Go.AM
namespace Go.AM
theorem not64 {x : Int} (h : 0 ≤ x ∧ x < 18446744073709551616) : IntKind.u64.wrap ((BitVec.ofInt IntKind.u64.bits (if IntKind.u64.signed then -1 else IntKind.u64.max) ^^^ BitVec.ofInt IntKind.u64.bits x).toNat : Int) = 18446744073709551615 - x := by
  obtain ⟨n, rfl⟩ := Int.eq_ofNat_of_zero_le h.1
  have e0 : IntKind.u64.signed = false := rfl
  have e1 : IntKind.u64.bits = 64 := rfl
  have e3 : IntKind.u64.max = 18446744073709551615 := rfl
  have e2 : BitVec.ofInt 64 (n : Int) = BitVec.ofNat 64 n := BitVec.ofInt_natCast 64 n
  rw [e0, e1, e3, e2]
  have e4 : BitVec.ofInt 64 18446744073709551615 = BitVec.allOnes 64 := by decide
  simp only [Bool.false_eq_true, if_false]
  rw [e4, BitVec.allOnes_xor, w64]
  have hn : n < 18446744073709551616 := by omega
  rw [BitVec.toNat_not, BitVec.toNat_ofNat, Nat.mod_eq_of_lt (by simpa using hn)]
  omega
end Go.AM

set_option linter.unusedVariables false
set_option linter.unusedSimpArgs false
set_option maxRecDepth 100000
namespace Go.AM
noncomputable section
section
variable {β : Type}
def setBE : List Blk → Nat → Blk → (List Blk → Option β) → Option β
  | [], 0, x, K => K [x]
  | [], _ + 1, _, _ => none
  | _ :: l, 0, x, K => K (x :: l)
  | y :: l, n + 1, x, K => setBE l n x fun l' => K (y :: l')
def updE : List Blk → Upd → (List Blk → Option β) → Option β
  | hp, [], K => K hp
  | hp, (b, x) :: u, K => setBE hp b x fun hp' => updE hp' u K
def Prog.ev : Prog → List Blk → List Nat → (Val → Upd → List Nat → Option β) → Option β
  | .ret v u, _, r, K => K v u r
  | .get b k, hp, r, K => getBK hp b fun x => (k x).ev hp (b :: r) K
  | @Prog.need _ d k, hp, r, K => match d with
    | .isTrue _ => k.ev hp r K
    | .isFalse _ => none
  | .fail, _, _, _ => none
def lenE : List Blk → List Nat → (Nat → Option β) → Option β
  | [], i :: _, K => K i
  | _ :: l, _ :: is, K => lenE l is K
  | _, [], _ => none
def lentE (hp : List Blk) (r : List Nat) (v : Val) (K : Val → List Nat → Option β) : Option β :=
  match v with
  | .row b n => getBK hp b fun x => match x with
    | .row _ sz m g pr => match decide (n ≤ m ∧ n ≤ pr) with
      | true => K (.ext sz n g) (b :: r)
      | false => none
    | _ => none
  | v => K v r
def lentLE (hp : List Blk) (r : List Nat) : List Val → (List Val → List Nat → Option β) → Option β
  | [], K => K [] r
  | v :: vs, K => lentE hp r v fun v' r' => lentLE hp r' vs fun l r'' => K (v' :: l) r''
def lentAE (hp : List Blk) (r : List Nat) (v : Val) (K : Val → List Nat → Option β) : Option β :=
  match v with
  | .agg cs => lentLE hp r cs fun l r' => K (.agg l) r'
  | v => lentE hp r v K
def lentAsE (hp : List Blk) (r : List Nat) : List Val → (List Val → List Nat → Option β) → Option β
  | [], K => K [] r
  | v :: vs, K => lentAE hp r v fun v' r' => lentAsE hp r' vs fun l r'' => K (v' :: l) r''
mutual
def refsV : Val → List Nat → List Nat
  | .ptr b _, l => b :: l
  | .ep b _ _ _, l => b :: l
  | .row b _, l => b :: l
  | .asl b _ _, l => b :: l
  | .map b, l => b :: l
  | .fn _ fs cs, l => refsL fs (refsL cs l)
  | .ifc _ v, l => refsV v l
  | .agg cs, l => refsL cs l
  | .tup cs, l => refsL cs l
  | _, l => l
def refsL : List Val → List Nat → List Nat
  | [], l => l
  | v :: vs, l => refsV v (refsL vs l)
end
def refsE : List MEnt → List Nat → List Nat
  | [], l => l
  | p :: es, l => refsL p.2 (refsE es l)
def refsB : Blk → List Nat → List Nat
  | .cells cs, l => refsL cs l
  | .pmap _ _ es, l => refsE es l
  | _, l => l
def reach : Nat → List Blk → List Nat → List Nat → List Nat
  | 0, _, _, seen => seen
  | _ + 1, _, [], seen => seen
  | k + 1, hp, b :: todo, seen => match seen.elem b with
    | true => reach k hp todo seen
    | false => reach k hp (refsB (getBK hp b id) todo) (seen ++ [b])
abbrev FnE := FuncId → List Val → List Blk → Option (Val × List Blk)
def handE (fe : FnE) (f : FuncId) (as' : List Val) (hp : List Blk) (nid : Nat) (ks : List Nat) (K : Val → Upd → List Nat → Option β) : Option β :=
  match handB hp nid ks with
  | true => match fe f (renL (idx ks) as') (sel ks hp) with
    | some (v, h1) => match decide (ks.length ≤ h1.length) with
      | true => K (renV (back ks nid) v) (backUpd (back ks nid) ks nid h1) ks
      | false => none
    | none => none
  | false => none
def callE (fe : FnE) (fv : Val) (xs : List Val) (hp : List Blk) (nid : Nat) (K : Val → Upd → List Nat → Option β) : Option β :=
  match fv with
  | .fn f fs cs => appK fs xs fun a1 => appK a1 cs fun as => lentAsE hp [] as fun as' r => match closedAs as' with
    | true => match fe f as' [] with
      | some (v, h1) => newsK nid v h1 fun v u => K v u r
      | none => none
    | false => handE fe f as' hp nid (reach 1000 hp (refsL as' []) []) fun v u ks => K v u (ks ++ r)
  | _ => none
/-- are there rows among them? -/
def row1E (hp : List Blk) (v : Val) : Option Bool := match v with
  | .row b _ => getBK hp b fun x => match x with
    | .row .. => some true
    | _ => none
  | _ => some false
def orE (a : Option Bool) (b : Option Bool) : Option Bool := match a, b with
  | some x, some y => some (x || y)
  | _, _ => none
def rowLE (hp : List Blk) : List Val → Option Bool
  | [] => some false
  | v :: vs => orE (row1E hp v) (rowLE hp vs)
def rowAE (hp : List Blk) (v : Val) : Option Bool := match v with
  | .agg cs => rowLE hp cs
  | v => row1E hp v
def rowsE (hp : List Blk) : List Val → Option Bool
  | [] => some false
  | v :: vs => orE (rowAE hp v) (rowsE hp vs)
/-- a call that may read alone what it is handed; if it does not, the blocks are handed -/
def readE (fe : FnE) (f : FuncId) (as : List Val) (hp : List Blk) (nid : Nat) (K : Val → Upd → List Nat → Option β) : Option β :=
  match fe f (readAs hp as).1 [] with
  | some (v, []) => match plainV v with
    | true => K v [] (readAs hp as).2
    | false => handE fe f as hp nid (reach 1000 hp (refsL as []) []) K
  | _ => handE fe f as hp nid (reach 1000 hp (refsL as []) []) K
/-- a call: rows are handed as blocks -/
def callO (fe : FnE) (fv : Val) (xs : List Val) (hp : List Blk) (nid : Nat) (K : Val → Upd → List Nat → Option β) : Option β :=
  match fv with
  | .fn f fs cs => appK fs xs fun a1 => appK a1 cs fun as => match rowsE hp as with
    | some true => readE fe f as hp nid K
    | some false => match closedAs as with
      | true => match fe f as [] with
        | some (v, h1) => newsK nid v h1 fun v u => K v u []
        | none => none
      | false => readE fe f as hp nid fun v u ks => K v u (ks ++ [])
    | none => none
  | _ => none
def lentTE (hp : List Blk) : List Operand → List Nat → List Val → (List Val → List Nat → Option β) → Option β
  | [], r, tm, K => K tm r
  | .tmp t :: xs, r, tm, K => getK tm t fun v => lentAE hp r v fun v' r' => putK tm t v' fun tm' => lentTE hp xs r' tm' K
  | _ :: xs, r, tm, K => lentTE hp xs r tm K
def opE (fl : Bool) (fe : FnE) (T : TypeId → TD) (o : Oper) (tm : List Val) (hp : List Blk) (K : Val → Upd → List Nat → Option β) : Option β :=
  lenE hp ids fun nid => match o.op with
    | .call c => match c.callee with
      | .value x => evK tm x fun fv => evsK tm c.args.toList fun xs => match fl with
        | true => callE fe fv xs hp nid K
        | false => callO fe fv xs hp nid K
      | _ => (opP T o tm nid).ev hp [] K
    | _ => lentTE hp (putsOf o.op) [] tm fun tm' r => (opP T o tm' nid).ev hp r K
def wantE (all : List Oper) (o : Oper) (tm : List Val) (K : Bool → Option β) : Option β :=
  match o.guard with
  | none => K true
  | some (j, want) => dstK all j fun d => match d with
    | none => K false
    | some d => getK tm d fun v => match v with
      | .bool b => match b == want with
        | true => K true
        | false => K false
      | .tup [] => K false
      | _ => none
def stepE (fe : FnE) (T : TypeId → TD) (fl : Bool) (o : Oper) (b : Bool) (tm : List Val) (hp : List Blk) (C : List Val → List Blk → Option β) : Option β :=
  match b with
  | true => opE fl fe T o tm hp fun v u _ => raiseUK fl u fun u => updE hp u fun hp' => putDK tm o.dst v fun tm' => C tm' hp'
  | false => putDK tm o.dst (.tup []) fun tm' => C tm' hp
def regE (fe : FnE) (T : TypeId → TD) (fl : Bool) (all : List Oper) : List Oper → List Val → List Blk → (List Val → List Blk → Option β) → Option β
  | [], tm, hp, K => K tm hp
  | o :: rest, tm, hp, K => wantE all o tm fun b => stepE fe T fl o b tm hp fun tm' hp' => regE fe T fl all rest tm' hp' K
def stepDE (fe : FnE) (T : TypeId → TD) (fl : Bool) (o : Oper) (b : Bool) (tm : List Val) (hp : List Blk) (C : List Val → List Blk → Log → Option β) : Option β :=
  match b with
  | true => opE fl fe T o tm hp fun v u r => raiseUK fl u fun u => updE hp u fun hp' => putDK tm o.dst v fun tm' => domK u fun d => C tm' hp' (r, d)
  | false => putDK tm o.dst (.tup []) fun tm' => C tm' hp ([], [])
def drawE (fe : FnE) (T : TypeId → TD) (fl : Bool) (all : List Oper) : List Oper → List Val → List Blk → List Log → (List Val → List Blk → List Log → Option β) → Option β
  | [], tm, hp, lg, K => K tm hp lg
  | o :: rest, tm, hp, lg, K => wantE all o tm fun b => stepDE fe T fl o b tm hp fun tm' hp' g => drawE fe T fl all rest tm' hp' (g :: lg) K
abbrev KontE (β : Type) := Ex → List Val → List Blk → Option β
def goE (fe : FnE) (T : TypeId → TD) (fl : Bool) (ops : List Oper) (d : Bool) (tm : List Val) (K : KontE β) (hp : List Blk) : Option β :=
  match d with
  | false => regE fe T fl ops ops tm hp (K .normal)
  | true => drawE fe T fl ops ops tm hp [] fun tm hp lg => match regionB ops lg with
    | true => K .normal tm hp
    | false => none
def roots (n : Nat) (hp : List Blk) (l : List Nat) : List Nat := (hp.take n).foldr refsB l
/-- The blocks that are still seen. -/
def seen (n : Nat) (hp : List Blk) (l : List Nat) : List Nat := reach 1000 hp (roots n hp l) (List.range n)
def gcWith (n : Nat) (tm : List Val) (hp : List Blk) (K : List Val → List Blk → Option β) (ks : List Nat) : Option β :=
  match keepB n ks with
  | true => K (renL (idx ks) tm) (sel ks hp)
  | false => none
def gcE (n : Nat) (tm : List Val) (hp : List Blk) (K : List Val → List Blk → Option β) : Option β :=
  match decide (hp.length ≤ 30) with
  | true => K tm hp
  | false => gcWith n tm hp K (seen n hp (refsL tm []))
def loopE (n : Nat) (f : List Val → List Blk → KontE β → Option β) (K : KontE β) : Nat → List Val → List Blk → Option β
  | 0, _, _ => none
  | k + 1, tm, hp => gcE n tm hp fun tm hp => f tm hp fun e tm hp => match e with
    | .normal => loopE n f K k tm hp
    | e => K e tm hp
def scopeE (n : Nat) (f : Option Nat → List Val → List Blk → KontE β → Option β) (K : KontE β) : Nat → Option Nat → List Val → List Blk → Option β
  | 0, _, _, _ => none
  | k + 1, m, tm, hp => f m tm hp fun e tm hp => match e with
    | .goto l => gcE n tm hp fun tm hp => scopeE n f K k (some l) tm hp
    | e => K e tm hp
def thenE (f : List Val → List Blk → KontE β → Option β) (K : KontE β) : KontE β := fun e tm hp => match e with
  | .normal => f tm hp K
  | e => K e tm hp
def evW (fe : FnE) (T : TypeId → TD) (R : Nat → List Oper → Bool) (n fuel : Nat) : Code → Option Nat → List Val → List Blk → KontE β → Option β
  | .skip, none, tm, hp, K => K .normal tm hp
  | .region id ops d, none, tm, hp, K => (match R id ops.toList with
    | true => raiseK hp
    | false => fun go => go hp) (goE fe T (R id ops.toList) ops.toList d tm K)
  | .seq a b, none, tm, hp, K => evW fe T R n fuel a none tm hp (thenE (evW fe T R n fuel b none) K)
  | .seq a b, some l, tm, hp, K => match hasL a l with
    | true => evW fe T R n fuel a (some l) tm hp (thenE (evW fe T R n fuel b none) K)
    | false => evW fe T R n fuel b (some l) tm hp K
  | .cond c x y, none, tm, hp, K => evK tm c fun v => match v with
    | .bool b => match b with
      | true => evW fe T R n fuel x none tm hp K
      | false => evW fe T R n fuel y none tm hp K
    | _ => none
  | .block id c, none, tm, hp, K => evW fe T R n fuel c none tm hp fun e tm hp => K (match e with
    | .exit i => match i == id with
      | true => .normal
      | false => .exit i
    | e => e) tm hp
  | .loop c, none, tm, hp, K => loopE n (fun tm hp K => evW fe T R n fuel c none tm hp K) K fuel tm hp
  | .exit id, none, tm, hp, K => K (.exit id) tm hp
  | .scope c, none, tm, hp, K => scopeE n (fun m tm hp K => evW fe T R n fuel c m tm hp K) K fuel none tm hp
  | .label _, none, tm, hp, K => K .normal tm hp
  | .label l', some l, tm, hp, K => match l' == l with
    | true => K .normal tm hp
    | false => none
  | .goto l, none, tm, hp, K => K (.goto l) tm hp
  | .ret, none, tm, hp, K => K .ret tm hp
  | _, _, _, _, _ => none
def resE (T : TypeId → TD) (tm : List Val) (hp : List Blk) : List ResultVar → (List Val → Option β) → Option β
  | [], K => K []
  | .tmp t :: rs, K => getK tm t fun v => resE T tm hp rs fun vs => K (v :: vs)
  | .cell t ty :: rs, K => getK tm t fun a => (nb (T ty) fun d => loadP d a).ev hp [] fun v u _ => match u with
    | [] => resE T tm hp rs fun vs => K (v :: vs)
    | _ => none
end
def endWith (n : Nat) (v : Val) (hp : List Blk) (ks : List Nat) : Option (Val × List Blk) :=
  match keepB n ks with
  | true => some (renV (idx ks) v, sel ks hp)
  | false => none
def endE (n : Nat) (v : Val) (hp : List Blk) : Option (Val × List Blk) :=
  match n, closedR v with
  | 0, true => some (v, [])
  | n, _ => endWith n v hp (seen n hp (refsV v []))
/-- A function, evaluated: 'sm': what is known of some functions. -/
def fnE (P : Program) (T : TypeId → TD) (R : Nat → List Oper → Bool) (sm : FuncId → List Val → Option (Val × List Blk)) (fuel : Nat) : Nat → FnE
  | 0, _, _, _ => none
  | d + 1, f, args, h => match sm f args with
    | some r => match h with
      | [] => some r
      | _ => none
    | none => match P.funcs[f]? with
      | none => none
      | some fn => match fn.body with
        | none => none
        | some c => match fn.name == "runtime.NumGoroutine" with
          | true => none
          | false => padK args fn.ntmps fun tm => evW (fnE P T R sm fuel d) T R h.length fuel c none tm h fun e tm hp => match e with
            | .normal => resE T tm hp fn.results.toList fun vs => tupK vs fun x => endE h.length x hp
            | .ret => resE T tm hp fn.results.toList fun vs => tupK vs fun x => endE h.length x hp
            | _ => none

/-! ### it is right -/
section
variable {β : Type} {b : β}
theorem setBE_ok : ∀ {l : List Blk} {n : Nat} {x : Blk} {K : List Blk → Option β} {G : List Blk → Prop}, setBE l n x K = some b → (∀ l', K l' = some b → G l') → setBK l n x G
  | [], 0, x, K, G, h, g => g _ h
  | [], _ + 1, _, _, _, h, _ => by cases h
  | _ :: l, 0, x, K, G, h, g => g _ h
  | y :: l, n + 1, x, K, G, h, g => setBE_ok (l := l) (n := n) (x := x) (K := fun l' => K (y :: l')) h fun l' hl => g _ hl
theorem updE_ok : ∀ {u : Upd} {hp : List Blk} {K : List Blk → Option β} {G : List Blk → Prop}, updE hp u K = some b → (∀ l', K l' = some b → G l') → updK hp u G
  | [], hp, K, G, h, g => g _ h
  | (i, x) :: u, hp, K, G, h, g => setBE_ok (K := fun hp' => updE hp' u K) h fun l' hl => updE_ok hl g
theorem needC_mk {o : Option Prop} {A G : Prop} (ho : optP o) (g : G) : needC o A G := by
  unfold needC
  split
  · exact g
  · exact .mk ho g
theorem needK_mk {o : Option Prop} {G : Prop} (ho : optP o) (g : G) : needK o G := by
  cases o with
  | none => exact g
  | some p => exact ⟨ho, g⟩
theorem more_mk {o : Option Prop} {p : Prop} (ho : optP o) (hp : p) : optP (more o p) := by
  cases o with
  | none => exact hp
  | some q => exact ⟨ho, hp⟩
theorem Prog.ev_ok : ∀ (p : Prog) {hp : List Blk} {r : List Nat} {K : Val → Upd → List Nat → Option β} {o : Option Prop} {G : Val → Upd → List Nat → Option Prop → Prop}, p.ev hp r K = some b → optP o →
    (∀ v u r o', optP o' → K v u r = some b → G v u r o') → p.runL hp r o G
  | .ret v u, _, _, _, _, _, h, ho, g => g _ _ _ _ ho h
  | .get x k, hp, r, K, o, G, h, ho, g => by
    unfold Prog.ev at h
    unfold Prog.runL
    rw [getBK_eq] at h ⊢
    exact Prog.ev_ok (k (getH hp x)) h ho g
  | @Prog.need p d k, hp, r, K, o, G, h, ho, g => by
    unfold Prog.ev at h
    unfold Prog.runL
    split at h
    · rename_i hp'
      exact Prog.ev_ok k h (more_mk ho hp') g
    · cases h
  | .fail, _, _, _, _, _, h, _, _ => by cases h
theorem lenE_ok : ∀ {l : List Blk} {is : List Nat} {K : Nat → Option β} {G : Nat → Prop}, lenE l is K = some b → (∀ n, K n = some b → G n) → lenK l is G
  | [], i :: _, K, G, h, g => g _ h
  | x :: l, i :: is, K, G, h, g => by unfold lenE at h; unfold lenK; exact lenE_ok h g
  | [], [], _, _, h, _ => by cases h
  | _ :: _, [], _, _, h, _ => by cases h
theorem lentE_ok {hp : List Blk} {r : List Nat} {v : Val} {K : Val → List Nat → Option β} {o : Option Prop} {G : Val → List Nat → Option Prop → Prop} (h : lentE hp r v K = some b) (ho : optP o)
    (g : ∀ v r o', optP o' → K v r = some b → G v r o') : lentK hp r o v G := by
  cases v
  case row b n =>
    simp only [lentE, getBK_eq] at h
    simp only [lentK, getBK_eq]
    split at h
    · rename_i hb
      rw [hb]
      split at h
      · rename_i hd
        exact g _ _ _ (more_mk ho (of_decide_eq_true hd)) h
      · cases h
    · cases h
  all_goals exact g _ _ _ ho h
theorem lentLE_ok {hp : List Blk} : ∀ {vs : List Val} {r : List Nat} {K : List Val → List Nat → Option β} {o : Option Prop} {G : List Val → List Nat → Option Prop → Prop}, lentLE hp r vs K = some b → optP o →
    (∀ v r o', optP o' → K v r = some b → G v r o') → lentLK hp r o vs G
  | [], _, _, _, _, h, ho, g => g _ _ _ ho h
  | v :: vs, r, K, o, G, h, ho, g => by
    unfold lentLE at h
    unfold lentLK
    exact lentE_ok h ho fun v' r' o' ho' h' => lentLE_ok h' ho' fun l r'' o'' ho'' h'' => g _ _ _ ho'' h''
theorem lentAE_ok {hp : List Blk} {r : List Nat} {v : Val} {K : Val → List Nat → Option β} {o : Option Prop} {G : Val → List Nat → Option Prop → Prop} (h : lentAE hp r v K = some b) (ho : optP o)
    (g : ∀ v r o', optP o' → K v r = some b → G v r o') : lentAK hp r o v G := by
  cases v
  case agg cs => exact lentLE_ok h ho fun l r o ho h => g _ _ _ ho h
  all_goals
    unfold lentAE at h
    unfold lentAK
    exact lentE_ok h ho g
theorem lentAsE_ok {hp : List Blk} : ∀ {vs : List Val} {r : List Nat} {K : List Val → List Nat → Option β} {o : Option Prop} {G : List Val → List Nat → Option Prop → Prop}, lentAsE hp r vs K = some b → optP o →
    (∀ v r o', optP o' → K v r = some b → G v r o') → lentAsK hp r o vs G
  | [], _, _, _, _, h, ho, g => g _ _ _ ho h
  | v :: vs, r, K, o, G, h, ho, g => by
    unfold lentAsE at h
    unfold lentAsK
    exact lentAE_ok h ho fun v' r' o' ho' h' => lentAsE_ok h' ho' fun l r'' o'' ho'' h'' => g _ _ _ ho'' h''
def FnOk (P : Program) (fe : FnE) : Prop := ∀ f as h v h1, fe f as h = some (v, h1) → Ret P f as h v h1
variable {P : Program} {T : TypeId → TD} {fe : FnE} {fl : Bool}
theorem handE_ok (hfe : FnOk P fe) {f : FuncId} {as' : List Val} {hp : List Blk} {nid : Nat} {ks : List Nat} {K : Val → Upd → List Nat → Option β} {G : Val → Upd → List Nat → Prop} (h : handE fe f as' hp nid ks K = some b)
    (g : ∀ v u r, K v u r = some b → G v u r) : CalledH P f as' hp nid G := by
  unfold handE at h
  split at h
  · rename_i hb
    split at h
    · rename_i v h1 he
      split at h
      · rename_i hl
        exact .mk _ v h1 hb (of_decide_eq_true hl) (hfe _ _ _ _ _ he) (g _ _ _ h)
      · cases h
    · cases h
  · cases h
theorem callE_ok (hfe : FnOk P fe) {fv : Val} {xs : List Val} {hp : List Blk} {nid : Nat} {K : Val → Upd → List Nat → Option β} {G : Val → Upd → List Nat → Prop} (h : callE fe fv xs hp nid K = some b)
    (g : ∀ v u r, K v u r = some b → G v u r) : callRun P fv xs hp nid G := by
  cases fv
  case fn f fs cs =>
    simp only [callE, appK_eq] at h
    simp only [callRun, appK_eq]
    refine lentAsE_ok h trivial fun as' r o ho h => needC_mk ho ?_
    split at h
    · rename_i hcl
      rw [hcl]
      split at h
      · rename_i v h1 he
        refine .mk v h1 (hfe _ _ _ _ _ he) ?_
        unfold newsK at h ⊢
        cases h1 <;> exact g _ _ _ h
      · cases h
    · rename_i hcl
      rw [hcl]
      exact handE_ok hfe h fun v u r h => g _ _ _ h
  all_goals cases h
theorem orE_some {a c : Option Bool} {t : Bool} (h : orE a c = some t) : ∃ x y, a = some x ∧ c = some y ∧ t = (x || y) := by
  cases a <;> cases c <;> simp only [orE, reduceCtorEq, Option.some.injEq] at h
  exact ⟨_, _, rfl, rfl, h.symm⟩
theorem row1E_ok {hp : List Blk} {v : Val} {t : Bool} {r : List Nat} {o : Option Prop} {G : Val → List Nat → Option Prop → Prop} (h : row1E hp v = some t)
    (g : ∀ v' r' o', (t = true → o' ≠ none) → (t = false → v' = v ∧ r' = r ∧ o' = o) → (o ≠ none → o' ≠ none) → G v' r' o') : lentK hp r o v G := by
  cases v
  case row b n =>
    simp only [row1E, getBK_eq] at h
    simp only [lentK, getBK_eq]
    split at h
    · rename_i hb
      rw [hb]
      simp only [Option.some.injEq] at h; subst h
      have hm : ∀ p, more o p ≠ none := fun p => by cases o <;> simp [more]
      exact g _ _ _ (fun _ => hm _) (fun e => by cases e) (fun _ => hm _)
    · cases h
  all_goals
    simp only [row1E, Option.some.injEq] at h; subst h
    exact g _ _ _ (fun e => by cases e) (fun _ => ⟨rfl, rfl, rfl⟩) id
theorem rowLE_ok {hp : List Blk} : ∀ {vs : List Val} {t : Bool} {r : List Nat} {o : Option Prop} {G : List Val → List Nat → Option Prop → Prop}, rowLE hp vs = some t →
    (∀ v' r' o', (t = true → o' ≠ none) → (t = false → v' = vs ∧ r' = r ∧ o' = o) → (o ≠ none → o' ≠ none) → G v' r' o') → lentLK hp r o vs G
  | [], t, _, _, _, h, g => by
    simp only [rowLE, Option.some.injEq] at h; subst h
    exact g _ _ _ (fun e => by cases e) (fun _ => ⟨rfl, rfl, rfl⟩) id
  | v :: vs, t, r, o, G, h, g => by
    obtain ⟨x, y, h1, h2, rfl⟩ := orE_some h
    unfold lentLK
    refine row1E_ok h1 fun v' r' o' a1 a2 a3 => rowLE_ok h2 fun l r'' o'' b1 b2 b3 => g _ _ _ (fun e => ?_) (fun e => ?_) fun e => b3 (a3 e)
    · cases x
      · exact b1 (by simpa using e)
      · exact b3 (a1 rfl)
    · simp only [Bool.or_eq_false_iff] at e
      obtain ⟨rfl, rfl, rfl⟩ := a2 e.1
      obtain ⟨rfl, rfl, rfl⟩ := b2 e.2
      exact ⟨rfl, rfl, rfl⟩
theorem rowAE_ok {hp : List Blk} {v : Val} {t : Bool} {r : List Nat} {o : Option Prop} {G : Val → List Nat → Option Prop → Prop} (h : rowAE hp v = some t)
    (g : ∀ v' r' o', (t = true → o' ≠ none) → (t = false → v' = v ∧ r' = r ∧ o' = o) → (o ≠ none → o' ≠ none) → G v' r' o') : lentAK hp r o v G := by
  cases v
  case agg cs =>
    exact rowLE_ok h fun l r' o' a1 a2 a3 => g _ _ _ a1 (fun e => by obtain ⟨rfl, k⟩ := a2 e; exact ⟨rfl, k⟩) a3
  all_goals
    unfold rowAE at h
    unfold lentAK
    exact row1E_ok h g
theorem rowsE_ok {hp : List Blk} : ∀ {vs : List Val} {t : Bool} {r : List Nat} {o : Option Prop} {G : List Val → List Nat → Option Prop → Prop}, rowsE hp vs = some t →
    (∀ v' r' o', (t = true → o' ≠ none) → (t = false → v' = vs ∧ r' = r ∧ o' = o) → (o ≠ none → o' ≠ none) → G v' r' o') → lentAsK hp r o vs G
  | [], t, _, _, _, h, g => by
    simp only [rowsE, Option.some.injEq] at h; subst h
    exact g _ _ _ (fun e => by cases e) (fun _ => ⟨rfl, rfl, rfl⟩) id
  | v :: vs, t, r, o, G, h, g => by
    obtain ⟨x, y, h1, h2, rfl⟩ := orE_some h
    unfold lentAsK
    refine rowAE_ok h1 fun v' r' o' a1 a2 a3 => rowsE_ok h2 fun l r'' o'' b1 b2 b3 => g _ _ _ (fun e => ?_) (fun e => ?_) fun e => b3 (a3 e)
    · cases x
      · exact b1 (by simpa using e)
      · exact b3 (a1 rfl)
    · simp only [Bool.or_eq_false_iff] at e
      obtain ⟨rfl, rfl, rfl⟩ := a2 e.1
      obtain ⟨rfl, rfl, rfl⟩ := b2 e.2
      exact ⟨rfl, rfl, rfl⟩
theorem readE_ok (hfe : FnOk P fe) {f : FuncId} {as : List Val} {hp : List Blk} {nid : Nat} {K : Val → Upd → List Nat → Option β} {G : Val → Upd → List Nat → Prop} (h : readE fe f as hp nid K = some b)
    (g : ∀ v u r, K v u r = some b → G v u r) : CalledH P f as hp nid G := by
  unfold readE at h
  split at h
  · rename_i v e
    split at h
    · rename_i hv
      exact .read v (hfe _ _ _ _ _ e) hv (g _ _ _ h)
    · exact handE_ok hfe h g
  · exact handE_ok hfe h g
theorem callO_ok (hfe : FnOk P fe) {fv : Val} {xs : List Val} {hp : List Blk} {nid : Nat} {K : Val → Upd → List Nat → Option β} {G : Val → Upd → List Nat → Prop} (h : callO fe fv xs hp nid K = some b)
    (g : ∀ v u r, K v u r = some b → G v u r) : callRun P fv xs hp nid G := by
  cases fv
  case fn f fs cs =>
    simp only [callO, appK_eq] at h
    simp only [callRun, appK_eq]
    split at h
    · rename_i e
      refine rowsE_ok e fun as' r o h1 _ _ => ?_
      cases o with
      | none => exact absurd rfl (h1 rfl)
      | some p => exact .own (readE_ok hfe h g)
    · rename_i e
      refine rowsE_ok e fun as' r o _ h2 _ => ?_
      obtain ⟨rfl, rfl, rfl⟩ := h2 rfl
      show (match closedAs _ with
        | true => Called P f _ _ hp nid _ G
        | false => CalledH P f _ hp nid fun v u ks => G v u (ks ++ _))
      split at h
      · split at h
        · rename_i v h1 he
          refine .mk v h1 (hfe _ _ _ _ _ he) ?_
          unfold newsK at h ⊢
          cases h1 <;> exact g _ _ _ h
        · cases h
      · exact readE_ok hfe h fun v u r h => g _ _ _ h
    · cases h
  all_goals cases h
theorem lentTE_ok {hp : List Blk} : ∀ {xs : List Operand} {r : List Nat} {tm : List Val} {K : List Val → List Nat → Option β} {o : Option Prop} {G : List Val → List Nat → Option Prop → Prop}, lentTE hp xs r tm K = some b → optP o →
    (∀ tm r o', optP o' → K tm r = some b → G tm r o') → lentTK hp xs r o tm G
  | [], _, _, _, _, _, h, ho, g => g _ _ _ ho h
  | .tmp t :: xs, r, tm, K, o, G, h, ho, g => by
    unfold lentTE at h
    unfold lentTK
    rw [getK_eq] at h ⊢
    refine lentAE_ok h ho fun v' r' o' ho' h' => ?_
    rw [putK_eq] at h' ⊢
    exact lentTE_ok h' ho' g
  | .const c :: xs, r, tm, K, o, G, h, ho, g => lentTE_ok (xs := xs) h ho g
  | .global c :: xs, r, tm, K, o, G, h, ho, g => lentTE_ok (xs := xs) h ho g
  | .func c :: xs, r, tm, K, o, G, h, ho, g => lentTE_ok (xs := xs) h ho g
theorem opE_ok (hfe : FnOk P fe) {o : Oper} {tm : List Val} {hp : List Blk} {K : Val → Upd → List Nat → Option β} {G : Val → Upd → List Nat → Prop} (h : opE fl fe T o tm hp K = some b)
    (g : ∀ v u r, K v u r = some b → G v u r) : opRun P T o tm hp G := by
  unfold opE at h
  unfold opRun
  refine lenE_ok h fun nid h => ?_
  have plain : (opP T o tm nid).ev hp [] K = some b → (opP T o tm nid).runL hp [] none fun v u r o => needK o (G v u r) := fun h =>
    Prog.ev_ok _ h trivial fun v u r o' ho h => needK_mk ho (g _ _ _ h)
  split at h
  · rename_i c hc
    simp only [hc] at plain ⊢
    split at h
    · rename_i x hx
      simp only [hx]
      rw [evK_eq, evsK_eq] at h ⊢
      cases fl
      · exact callO_ok hfe h g
      · exact callE_ok hfe h g
    · rename_i hx
      have := plain h
      split
      · rename_i x hx2; exact absurd hx2 (hx x)
      · exact this
  · rename_i hc
    have : lentTK hp (putsOf o.op) [] none tm fun tm' r o' => (opP T o tm' nid).runL hp r o' fun v u r o => needK o (G v u r) :=
      lentTE_ok h trivial fun tm' r o' ho' h' => Prog.ev_ok _ h' ho' fun v u r o' ho h => needK_mk ho (g _ _ _ h)
    split
    · rename_i c hc2; exact absurd hc2 (hc c)
    · exact this
theorem wantE_ok {all : List Oper} {o : Oper} {tm : List Val} {K : Bool → Option β} {G : Bool → List Val → Prop} (h : wantE all o tm K = some b) (g : ∀ t, K t = some b → G t tm) : wantK all o tm G := by
  unfold wantE at h
  unfold wantK
  split at h
  · rename_i e; rw [e]; exact g _ h
  · rename_i e
    rw [e]
    rw [dstK_eq] at h
    simp only [dstK_eq]
    split at h
    · rename_i e; rw [e]; exact g _ h
    · rename_i e
      rw [e]
      simp only [getK_eq] at h ⊢
      split at h
      · rename_i want _ _ _ _ t e
        simp only [e]
        have h : K (t == want) = some b := by
          split at h
          · rename_i e; rw [e]; exact h
          · rename_i e; rw [e]; exact h
        exact ⟨fun e2 => by subst e2; rw [putK_eq, set_same e]; exact g _ h, fun e2 => by subst e2; rw [putK_eq, set_same e]; exact g _ h⟩
      · rename_i e; rw [e]; exact g _ h
      · cases h
theorem stepE_ok (hfe : FnOk P fe) {o : Oper} {t : Bool} {tm : List Val} {hp : List Blk} {K : List Val → List Blk → Option β} {G : List Val → List Blk → Prop} (h : stepE fe T fl o t tm hp K = some b)
    (g : ∀ tm hp, K tm hp = some b → G tm hp) : stepK P T fl o t tm hp G := by
  unfold stepE at h
  unfold stepK
  split at h
  · refine opE_ok hfe h fun v u r h => ?_
    rw [raiseUK_eq] at h ⊢
    refine updE_ok h fun hp' h => ?_
    rw [putDK_eq] at h ⊢
    exact g _ _ h
  · rw [putDK_eq] at h ⊢
    exact g _ _ h
theorem regE_ok (hfe : FnOk P fe) {all : List Oper} : ∀ {l : List Oper} {tm : List Val} {hp : List Blk} {K : List Val → List Blk → Option β} {G : List Val → List Blk → Prop}, regE fe T fl all l tm hp K = some b →
    (∀ tm hp, K tm hp = some b → G tm hp) → regK P T fl all l tm hp G
  | [], _, _, _, _, h, g => g _ _ h
  | o :: l, tm, hp, K, G, h, g => by
    unfold regE at h
    unfold regK
    exact wantE_ok h fun t h => stepE_ok hfe h fun tm hp h => regE_ok hfe h g
theorem stepDE_ok (hfe : FnOk P fe) {o : Oper} {t : Bool} {tm : List Val} {hp : List Blk} {K : List Val → List Blk → Log → Option β} {G : List Val → List Blk → Log → Prop} (h : stepDE fe T fl o t tm hp K = some b)
    (g : ∀ tm hp lg, K tm hp lg = some b → G tm hp lg) : stepDK P T fl o t tm hp G := by
  unfold stepDE at h
  unfold stepDK
  split at h
  · refine opE_ok hfe h fun v u r h => ?_
    rw [raiseUK_eq] at h ⊢
    refine updE_ok h fun hp' h => ?_
    rw [putDK_eq, domK_eq] at h ⊢
    exact g _ _ _ h
  · rw [putDK_eq] at h ⊢
    exact g _ _ _ h
theorem drawE_ok (hfe : FnOk P fe) {all : List Oper} : ∀ {l : List Oper} {tm : List Val} {hp : List Blk} {lg : List Log} {K : List Val → List Blk → List Log → Option β} {G : List Val → List Blk → List Log → Prop},
    drawE fe T fl all l tm hp lg K = some b → (∀ tm hp lg, K tm hp lg = some b → G tm hp lg) → drawK P T fl all l tm hp lg G
  | [], _, _, _, _, _, h, g => g _ _ _ h
  | o :: l, tm, hp, lg, K, G, h, g => by
    unfold drawE at h
    unfold drawK
    exact wantE_ok h fun t h => stepDE_ok hfe h fun tm hp lg h => drawE_ok hfe h g
theorem goE_ok (hfe : FnOk P fe) {ops : List Oper} {d : Bool} {tm : List Val} {hp : List Blk} {K : KontE β} {G : Kont} (h : goE fe T fl ops d tm K hp = some b) (g : ∀ e tm hp, K e tm hp = some b → G e tm hp) : goK P T fl ops d tm G hp := by
  unfold goE at h
  unfold goK
  split at h
  · exact regE_ok hfe h fun tm hp h => g _ _ _ h
  · refine drawE_ok hfe h fun tm hp lg h => ?_
    split at h
    · rename_i e; exact ⟨e, g _ _ _ h⟩
    · cases h
theorem maskK_all (σ : Nat → Option Nat) : ∀ (tm : List Val) (n : Nat) (K : List Val → Prop), tm.length ≤ n → maskK σ tm (List.replicate n true) K = K (renL σ tm)
  | [], n, K, _ => by cases n <;> rfl
  | v :: tm, n + 1, K, h => by
    simp only [List.replicate_succ, maskK, renL]
    exact maskK_all σ tm n _ (by simpa using h)
theorem gcE_ok {n : Nat} {tm : List Val} {hp : List Blk} {K : List Val → List Blk → Option β} {I : List Val → List Blk → Prop} (h : gcE n tm hp K = some b)
    (hw : ∀ ks m tm hp, keepB n ks = true → gcK ks m tm hp I → I tm hp) (g : ∀ tm hp, K tm hp = some b → I tm hp) : I tm hp := by
  unfold gcE at h
  split at h
  · exact g _ _ h
  · unfold gcWith at h
    split at h
    · rename_i hk
      refine hw _ (List.replicate tm.length true) tm hp hk ?_
      unfold gcK
      rw [pickK_eq, maskK_all _ _ _ _ (Nat.le_refl _), ← sel_eq]
      exact g _ _ h
    · cases h
theorem loopE_ok {n : Nat} {f : List Val → List Blk → KontE β → Option β} {F : List Val → List Blk → Kont → Prop} (hf : ∀ tm hp (K : KontE β) (G : Kont), f tm hp K = some b → (∀ e tm hp, K e tm hp = some b → G e tm hp) → F tm hp G)
    {K : KontE β} {G : Kont} (g : ∀ e tm hp, K e tm hp = some b → G e tm hp) {I : List Val → List Blk → Prop} (hw : ∀ ks m tm hp, keepB n ks = true → gcK ks m tm hp I → I tm hp) (hs : ∀ tm hp, F tm hp (loopK I G) → I tm hp) :
    ∀ {k : Nat} {tm : List Val} {hp : List Blk}, loopE n f K k tm hp = some b → I tm hp
  | 0, _, _, h => by cases h
  | k + 1, tm, hp, h => by
    unfold loopE at h
    refine gcE_ok h hw fun tm hp h => hs tm hp (hf _ _ _ _ h fun e tm hp h => ?_)
    cases e with
    | normal => exact loopE_ok hf g hw hs h
    | exit i => exact g _ _ _ h
    | goto l => exact g _ _ _ h
    | ret => exact g _ _ _ h
theorem scopeE_ok {n : Nat} {f : Option Nat → List Val → List Blk → KontE β → Option β} {F : Option Nat → List Val → List Blk → Kont → Prop}
    (hf : ∀ m tm hp (K : KontE β) (G : Kont), f m tm hp K = some b → (∀ e tm hp, K e tm hp = some b → G e tm hp) → F m tm hp G)
    {K : KontE β} {G : Kont} (g : ∀ e tm hp, K e tm hp = some b → G e tm hp) {J : Nat → List Val → List Blk → Prop} (hw : ∀ l ks m tm hp, keepB n ks = true → gcK ks m tm hp (J l) → J l tm hp)
    (hs : ∀ l tm hp, F (some l) tm hp (jumpK J G) → J l tm hp) : ∀ {k : Nat} {m : Option Nat} {tm : List Val} {hp : List Blk}, scopeE n f K k m tm hp = some b → F m tm hp (jumpK J G)
  | 0, _, _, _, h => by cases h
  | k + 1, m, tm, hp, h => by
    unfold scopeE at h
    refine hf _ _ _ _ _ h fun e tm hp h => ?_
    cases e with
    | normal => exact g _ _ _ h
    | exit i => exact g _ _ _ h
    | goto l => exact gcE_ok h (hw l) fun tm hp h => hs l tm hp (scopeE_ok hf g hw hs h)
    | ret => exact g _ _ _ h
theorem evW_ok (hfe : FnOk P fe) {R : Nat → List Oper → Bool} {n fuel : Nat} : ∀ (c : Code) {m : Option Nat} {tm : List Val} {hp : List Blk} {K : KontE β} {G : Kont}, evW fe T R n fuel c m tm hp K = some b →
    (∀ e tm hp, K e tm hp = some b → G e tm hp) → wp P T R n c m tm hp G := by
  intro c
  induction c with
  | skip =>
    intro m tm hp K G h g
    cases m with
    | none => exact g _ _ _ h
    | some l => cases h
  | region id ops d =>
    intro m tm hp K G h g
    cases m with
    | some l => cases h
    | none =>
      unfold evW at h
      unfold wp
      cases hR : R id ops.toList with
      | true =>
        rw [hR] at h
        have h : raiseK hp (goE fe T true ops.toList d tm K) = some b := h
        show raiseK hp (goK P T true ops.toList d tm G)
        rw [raiseK_eq] at h ⊢
        exact goE_ok hfe h g
      | false =>
        rw [hR] at h
        have h : goE fe T false ops.toList d tm K hp = some b := h
        show goK P T false ops.toList d tm G hp
        exact goE_ok hfe h g
  | seq x y ihx ihy =>
    intro m tm hp K G h g
    have next : ∀ (e : Ex) (tm : List Val) (hp : List Blk), (thenE (evW fe T R n fuel y none) K) e tm hp = some b → thenK (wp P T R n y none) G e tm hp := fun e tm hp h => by
      cases e with
      | normal => exact ihy h g
      | exit i => exact g _ _ _ h
      | goto l => exact g _ _ _ h
      | ret => exact g _ _ _ h
    cases m with
    | none => unfold evW at h; unfold wp; exact ihx h next
    | some l =>
      unfold evW at h
      unfold wp
      split at h
      · rename_i hl; rw [hl]; exact ihx h next
      · rename_i hl; rw [hl]; exact ihy h g
  | cond c x y ihx ihy =>
    intro m tm hp K G h g
    cases m with
    | some l => cases h
    | none =>
      unfold evW at h
      unfold wp
      rw [evK_eq] at h ⊢
      split at h
      · rename_i t e
        rw [e]
        split at h
        · exact ⟨fun _ => ihx h g, fun e => (by cases e)⟩
        · exact ⟨fun e => (by cases e), fun _ => ihy h g⟩
      · cases h
  | block id c ih =>
    intro m tm hp K G h g
    cases m with
    | some l => cases h
    | none => unfold evW at h; unfold wp; exact ih h fun e tm hp h => g _ _ _ h
  | loop c ih =>
    intro m tm hp K G h g
    cases m with
    | some l => cases h
    | none =>
      unfold evW at h
      unfold wp
      intro I hw hs
      exact loopE_ok (F := fun tm hp G => wp P T R n c none tm hp G) (fun tm hp K G h g => ih h g) g hw hs h
  | scope c ih =>
    intro m tm hp K G h g
    cases m with
    | some l => cases h
    | none =>
      unfold evW at h
      unfold wp
      intro J hw hs
      exact scopeE_ok (F := fun m tm hp G => wp P T R n c m tm hp G) (fun m tm hp K G h g => ih h g) g hw hs h
  | exit id =>
    intro m tm hp K G h g
    cases m with
    | none => exact g _ _ _ h
    | some l => cases h
  | label l' =>
    intro m tm hp K G h g
    cases m with
    | none => exact g _ _ _ h
    | some l =>
      unfold evW at h
      unfold wp
      split at h
      · rename_i e; rw [e]; exact g _ _ _ h
      · cases h
  | goto l' =>
    intro m tm hp K G h g
    cases m with
    | none => exact g _ _ _ h
    | some l => cases h
  | ret =>
    intro m tm hp K G h g
    cases m with
    | none => exact g _ _ _ h
    | some l => cases h
  | rangeFunc f ps x y _ _ => intro m tm hp K G h; cases m <;> cases h
  | refuse why => intro m tm hp K G h; cases m <;> cases h
theorem resE_ok {tm : List Val} {hp : List Blk} : ∀ {rs : List ResultVar} {K : List Val → Option β} {G : List Val → Prop}, resE T tm hp rs K = some b → (∀ vs, K vs = some b → G vs) → resK T tm hp rs G
  | [], _, _, h, g => g _ h
  | .tmp t :: rs, K, G, h, g => by
    unfold resE at h
    unfold resK
    rw [getK_eq] at h ⊢
    exact resE_ok h fun vs h => g _ h
  | .cell t ty :: rs, K, G, h, g => by
    unfold resE at h
    unfold resK
    rw [getK_eq] at h ⊢
    refine Prog.ev_ok _ h trivial fun v u r o ho h => needK_mk ho ?_
    split at h
    · exact resE_ok h fun vs h => g _ h
    · cases h
end
theorem endE_ok {n : Nat} {v vt : Val} {hp ht : List Blk} (h : endE n v hp = some (vt, ht)) : endK n v hp vt ht := by
  have other : endWith n v hp (seen n hp (refsV v [])) = some (vt, ht) → EndH n v hp vt ht := fun h => by
    unfold endWith at h
    split at h
    · rename_i hk
      injection h with h; injection h with h1 h2
      exact ⟨_, hk, h1, h2⟩
    · cases h
  unfold endE at h
  unfold endK
  cases n with
  | zero =>
    cases hc : closedR v with
    | true =>
      rw [hc] at h
      injection h with h; injection h with h1 h2; exact ⟨h1, h2.symm⟩
    | false => rw [hc] at h; exact other h
  | succ n => exact other h
theorem fnE_ok {P : Program} {T : TypeId → TD} {R : Nat → List Oper → Bool} {sm : FuncId → List Val → Option (Val × List Blk)} {fuel : Nat} (hT : TOk P T) (hm : P.follows .mixedOrders = true) (hsm : ∀ f as v l, sm f as = some (v, l) → Ret P f as [] v l) :
    ∀ d, FnOk P (fnE P T R sm fuel d)
  | 0 => fun _ _ _ _ _ h => by cases h
  | d + 1 => fun f as h v h1 he => by
    unfold fnE at he
    split at he
    · rename_i x hx
      split at he
      · injection he with he; subst he; exact hsm _ _ _ _ hx
      · cases he
    · split at he
      · cases he
      · rename_i fn hf
        split at he
        · cases he
        · rename_i c hb
          split at he
          · cases he
          · rename_i hn
            refine ret_of_body R hT hm hf hn hb rfl rfl ?_
            unfold body
            rw [padK_eq] at he ⊢
            refine evW_ok (fnE_ok hT hm hsm d) c he fun e tm hp h => ?_
            cases e with
            | normal =>
              refine resE_ok h fun vs h => ?_
              unfold tupK at h ⊢
              split at h <;> exact endE_ok h
            | ret =>
              refine resE_ok h fun vs h => ?_
              unfold tupK at h ⊢
              split at h <;> exact endE_ok h
            | exit i => cases h
            | goto l => cases h
end
end Go.AM

set_option linter.unusedVariables false
set_option linter.unusedSimpArgs false
set_option maxRecDepth 100000
namespace Go.AM

/-- A number of 256 bits. -/
structure N where
  v : Int
  h : W v
instance (x : Int) : Decidable (U x) := inferInstanceAs (Decidable (_ ∧ _))
instance (x : Int) : Decidable (W x) := inferInstanceAs (Decidable (_ ∧ _))
theorem N.eq {a b : N} (h : a.v = b.v) : a = b := by
  cases a; cases b; simp only at h; subst h; rfl
instance : DecidableEq N := fun a b => if h : a.v = b.v then .isTrue (N.eq h) else .isFalse fun e => h (by rw [e])
def mkN (x : Int) : N := ⟨x % B4, by unfold W B4; omega⟩
theorem mkN_v {x : Int} (h : W x) : (mkN x).v = x := Int.emod_eq_of_lt h.1 h.2
def N0 : N := ⟨0, by unfold W B4; omega⟩
def l0 (a : N) : Int := a.v % 18446744073709551616
def l1 (a : N) : Int := a.v / 18446744073709551616 % 18446744073709551616
def l2 (a : N) : Int := a.v / 18446744073709551616 / 18446744073709551616 % 18446744073709551616
def l3 (a : N) : Int := a.v / 18446744073709551616 / 18446744073709551616 / 18446744073709551616 % 18446744073709551616
theorem l0_U (a : N) : U (l0 a) := by unfold U l0; omega
theorem l1_U (a : N) : U (l1 a) := by unfold U l1; omega
theorem l2_U (a : N) : U (l2 a) := by unfold U l2; omega
theorem l3_U (a : N) : U (l3 a) := by unfold U l3; omega
def eN (a : N) : Val := .agg [.int .u64 (l0 a), .int .u64 (l1 a), .int .u64 (l2 a), .int .u64 (l3 a)]
theorem eN_natI (a : N) : eN a = natI a.v := rfl
theorem limbs_v (a : N) : a.v = val4 (l0 a) (l1 a) (l2 a) (l3 a) := by
  obtain ⟨v, h0, h1⟩ := a
  unfold B4 at h1
  unfold val4 l0 l1 l2 l3
  simp only
  have h2 : v / 18446744073709551616 < 6277101735386680763835789423207666416102355444464034512896 := by omega
  have h3 : 0 ≤ v / 18446744073709551616 := by omega
  generalize hm : v / 18446744073709551616 = m at *
  have h4 : m / 18446744073709551616 < 340282366920938463463374607431768211456 := by omega
  have h5 : 0 ≤ m / 18446744073709551616 := by omega
  generalize hk : m / 18446744073709551616 = k at *
  omega
theorem limbs_eq {a b : N} (h0 : l0 a = l0 b) (h1 : l1 a = l1 b) (h2 : l2 a = l2 b) (h3 : l3 a = l3 b) : a = b := N.eq (by rw [limbs_v a, limbs_v b, h0, h1, h2, h3])
/-- A number of its limbs. -/
def ofL (x0 x1 x2 x3 : Int) : N := mkN (val4 x0 x1 x2 x3)
theorem ofL_l {x0 x1 x2 x3 : Int} (h0 : U x0) (h1 : U x1) (h2 : U x2) (h3 : U x3) : l0 (ofL x0 x1 x2 x3) = x0 ∧ l1 (ofL x0 x1 x2 x3) = x1 ∧ l2 (ofL x0 x1 x2 x3) = x2 ∧ l3 (ofL x0 x1 x2 x3) = x3 := by
  have hv : (ofL x0 x1 x2 x3).v = val4 x0 x1 x2 x3 := mkN_v (W_val h0 h1 h2 h3)
  unfold l0 l1 l2 l3
  rw [hv]
  unfold val4
  rw [(div_limb h0).1, (div_limb h0).2, (div_limb h1).1, (div_limb h1).2, (div_limb h2).1, (div_limb h2).2]
  unfold U at h3
  rw [Int.emod_eq_of_lt h3.1 h3.2]
  exact ⟨rfl, rfl, rfl, rfl⟩
theorem ofL_agg {x0 x1 x2 x3 : Int} (h0 : U x0) (h1 : U x1) (h2 : U x2) (h3 : U x3) : Val.agg [.int .u64 x0, .int .u64 x1, .int .u64 x2, .int .u64 x3] = eN (ofL x0 x1 x2 x3) := by
  have h := ofL_l h0 h1 h2 h3
  unfold eN
  rw [h.1, h.2.1, h.2.2.1, h.2.2.2]
/-- Limbs compared, one by one. -/
theorem eqN_limbs (a b : N) : (l0 a == l0 b && (l1 a == l1 b && (l2 a == l2 b && (l3 a == l3 b && true)))) = decide (a = b) := by
  rw [Bool.eq_iff_iff]
  simp only [Bool.and_eq_true, beq_iff_eq, decide_eq_true_eq, and_true]
  constructor
  · rintro ⟨h0, h1, h2, h3⟩; exact limbs_eq h0 h1 h2 h3
  · rintro rfl; exact ⟨rfl, rfl, rfl, rfl⟩
theorem eqN_zero (a : N) : (l0 a == 0 && (l1 a == 0 && (l2 a == 0 && (l3 a == 0 && true)))) = decide (a = N0) := eqN_limbs a N0
theorem eqN_and (a b : N) (r : Bool) : (l0 a == l0 b && (l1 a == l1 b && (l2 a == l2 b && (l3 a == l3 b && r)))) = (decide (a = b) && r) := by
  rw [← eqN_limbs]; simp [Bool.and_assoc]
/-! ### what a walk does where it stands -/
theorem Cond.tt {b : Bool} {X Y : Option Nat → List Val → List Blk → Kont → Prop} {tm : List Val} {hp : List Blk} {K : Kont} (h : b = true) (k : X none tm hp K) : Cond b X Y tm hp K := ⟨fun _ => k, fun e => (by rw [h] at e; cases e)⟩
theorem Cond.ff {b : Bool} {X Y : Option Nat → List Val → List Blk → Kont → Prop} {tm : List Val} {hp : List Blk} {K : Kont} (h : b = false) (k : Y none tm hp K) : Cond b X Y tm hp K := ⟨fun e => (by rw [h] at e; cases e), fun _ => k⟩
theorem Pick.tt {b : Bool} {K : Bool → Prop} (h : b = true) (k : K true) : Pick b K := ⟨fun _ => k, fun e => (by rw [h] at e; cases e)⟩
theorem Pick.ff {b : Bool} {K : Bool → Prop} (h : b = false) (k : K false) : Pick b K := ⟨fun e => (by rw [h] at e; cases e), fun _ => k⟩
/- the walks' steps: what must be known is looked for by itself -/
theorem wN {p G : Prop} (g : G) (h : p := by first | decide | omega | (simp; done) | (simp; omega)) : Need p G := ⟨h, g⟩
theorem wNc {p G A : Prop} (g : G) (h : p := by first | decide | omega | (simp; done) | (simp; omega)) : NeedC p G A := .mk h g
theorem wA {b : Bool} {X Y : Option Nat → List Val → List Blk → Kont → Prop} {tm : List Val} {hp : List Blk} {K : Kont} (k : X none tm hp K) (h : b = true := by rfl) : Cond b X Y tm hp K := .tt h k
theorem wB {b : Bool} {X Y : Option Nat → List Val → List Blk → Kont → Prop} {tm : List Val} {hp : List Blk} {K : Kont} (k : Y none tm hp K) (h : b = false := by rfl) : Cond b X Y tm hp K := .ff h k
theorem wC {b : Bool} {K : Bool → Prop} (k : K true) (h : b = true := by rfl) : Pick b K := .tt h k
theorem wD {b : Bool} {K : Bool → Prop} (k : K false) (h : b = false := by rfl) : Pick b K := .ff h k

theorem eN_is {n x0 x1 x2 x3 : Int} (h0 : U x0) (h1 : U x1) (h2 : U x2) (h3 : U x3) (e : n % B4 = val4 x0 x1 x2 x3) : Val.agg [.int .u64 x0, .int .u64 x1, .int .u64 x2, .int .u64 x3] = eN (mkN n) := by
  rw [ofL_agg h0 h1 h2 h3]
  congr 1
  apply N.eq
  rw [ofL, mkN_v (W_val h0 h1 h2 h3), ← e]; rfl
end Go.AM

