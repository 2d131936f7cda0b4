/- Seat a: limb.small. PRINTED BY smallgen.py. -/
import Derived.Test.YtdpnhedbggnhiaaGreatAmGA
set_option linter.unusedVariables false
set_option linter.unusedSimpArgs false
set_option maxRecDepth 100000
namespace Go.Proofs.YtdpnhedbggnhiaaGreat
open Go.AM
def wrapq (x d : Int) : Int := IntKind.u64.wrap (x.tdiv d)
theorem dm {x d r : Int} (hd : 0 < d ∧ d < 4294967296) (hr : 0 ≤ r ∧ r < d) {p : Int} (hp : V p) (hx : x = r * 4294967296 + p) : ∃ q r2, wrapq x d = q ∧ x.tmod d = r2 ∧ V q ∧ (0 ≤ r2 ∧ r2 < d) ∧ x = q * d + r2 := by
  have h0 : 0 ≤ x := by unfold V at hp; omega
  have hlt : x < d * 4294967296 := by unfold V at hp; omega
  refine ⟨_, _, rfl, rfl, ?_⟩
  unfold wrapq
  rw [Int.tmod_eq_emod_of_nonneg h0, Int.tdiv_eq_ediv_of_nonneg h0]
  have h1 := Int.mul_ediv_add_emod x d
  have h2 : x / d < 4294967296 := Int.ediv_lt_of_lt_mul hd.1 (by rw [Int.mul_comm]; exact hlt)
  have h3 : 0 ≤ x / d := Int.ediv_nonneg h0 (by omega)
  have h4 := Int.emod_nonneg x (by omega : d ≠ 0)
  have h5 := Int.emod_lt_of_pos x hd.1
  rw [w64_id h3 (by omega)]
  refine ⟨⟨h3, h2⟩, ⟨h4, h5⟩, ?_⟩
  rw [Int.mul_comm]; omega

theorem small_hi {r p q d qa : Int} (hd : 0 < d ∧ d < 4294967296) (hr : 0 ≤ r ∧ r < d) (hp : V p) (hq : V q) (hqa : V qa) : ∃ x q1 q2 r2,
    IntKind.u64.wrap ((BitVec.ofInt IntKind.u64.bits (IntKind.u64.wrap (r * 2 ^ min (Int.toNat 32) IntKind.u64.bits)) ||| BitVec.ofInt IntKind.u64.bits (IntKind.u64.wrap ((BitVec.ofInt IntKind.u64.bits ((p + 4294967296 * q).fdiv (2 ^ min (Int.toNat 32) IntKind.u64.bits)) &&& BitVec.ofInt IntKind.u64.bits 4294967295).toNat : Int))).toNat : Int) = x ∧
    IntKind.u64.wrap ((BitVec.ofInt IntKind.u64.bits (IntKind.u64.wrap (qa * 2 ^ min (Int.toNat 32) IntKind.u64.bits)) ||| BitVec.ofInt IntKind.u64.bits (IntKind.u64.wrap (x.tdiv d))).toNat : Int) = q2 ∧
    x.tmod d = r2 ∧ q2 = q1 + 4294967296 * qa ∧ V q1 ∧ (0 ≤ r2 ∧ r2 < d) ∧ r * 4294967296 + q = q1 * d + r2 := by
  have e1 : (p + 4294967296 * q).fdiv (2 ^ min (Int.toNat 32) IntKind.u64.bits) = q := by
    rw [show (2 : Int) ^ min (Int.toNat 32) IntKind.u64.bits = 4294967296 from by decide, fdiv_pos _ (by decide)]; unfold V at *; omega
  have e2 : ∀ y : Int, IntKind.u64.wrap ((BitVec.ofInt IntKind.u64.bits (IntKind.u64.wrap (r * 2 ^ min (Int.toNat 32) IntKind.u64.bits)) ||| BitVec.ofInt IntKind.u64.bits (y % 4294967296)).toNat : Int) = r * 4294967296 + y % 4294967296 := fun y => by
    rw [or32]; omega
  rw [e1, and32, e2]
  have e3 : (q) % 4294967296 = q := by unfold V at *; omega
  rw [e3]
  obtain ⟨q1, r2, k1, k2, k3, k4, k5⟩ := dm hd hr (p := q) hq rfl
  unfold wrapq at k1
  refine ⟨_, q1, _, r2, rfl, rfl, k2, ?_, k3, k4, k5⟩
  rw [k1, show q1 = q1 % 4294967296 by unfold V at k3; omega, or32]
  unfold V at *; omega
theorem small_lo {r p q d qa : Int} (hd : 0 < d ∧ d < 4294967296) (hr : 0 ≤ r ∧ r < d) (hp : V p) (hq : V q) (hqa : V qa) : ∃ x q1 q2 r2,
    IntKind.u64.wrap ((BitVec.ofInt IntKind.u64.bits (IntKind.u64.wrap (r * 2 ^ min (Int.toNat 32) IntKind.u64.bits)) ||| BitVec.ofInt IntKind.u64.bits (IntKind.u64.wrap ((BitVec.ofInt IntKind.u64.bits ((p + 4294967296 * q).fdiv (2 ^ min (Int.toNat 0) IntKind.u64.bits)) &&& BitVec.ofInt IntKind.u64.bits 4294967295).toNat : Int))).toNat : Int) = x ∧
    IntKind.u64.wrap ((BitVec.ofInt IntKind.u64.bits (IntKind.u64.wrap (qa * 2 ^ min (Int.toNat 32) IntKind.u64.bits)) ||| BitVec.ofInt IntKind.u64.bits (IntKind.u64.wrap (x.tdiv d))).toNat : Int) = q2 ∧
    x.tmod d = r2 ∧ q2 = q1 + 4294967296 * qa ∧ V q1 ∧ (0 ≤ r2 ∧ r2 < d) ∧ r * 4294967296 + p = q1 * d + r2 := by
  have e1 : (p + 4294967296 * q).fdiv (2 ^ min (Int.toNat 0) IntKind.u64.bits) = p + 4294967296 * q := by
    rw [show (2 : Int) ^ min (Int.toNat 0) IntKind.u64.bits = 1 from by decide, fdiv_pos _ (by decide)]; unfold V at *; omega
  have e2 : ∀ y : Int, IntKind.u64.wrap ((BitVec.ofInt IntKind.u64.bits (IntKind.u64.wrap (r * 2 ^ min (Int.toNat 32) IntKind.u64.bits)) ||| BitVec.ofInt IntKind.u64.bits (y % 4294967296)).toNat : Int) = r * 4294967296 + y % 4294967296 := fun y => by
    rw [or32]; omega
  rw [e1, and32, e2]
  have e3 : (p + 4294967296 * q) % 4294967296 = p := by unfold V at *; omega
  rw [e3]
  obtain ⟨q1, r2, k1, k2, k3, k4, k5⟩ := dm hd hr (p := p) hp rfl
  unfold wrapq at k1
  refine ⟨_, q1, _, r2, rfl, rfl, k2, ?_, k3, k4, k5⟩
  rw [k1, show q1 = q1 % 4294967296 by unfold V at k3; omega, or32]
  unfold V at *; omega
set_option maxRecDepth 100000 in
theorem small_ret (a d : Int) (ha : W a) (hd : 0 < d ∧ d < 4294967296) : Ret Tryz.prog 55 [natI a, .int .u64 d] [] (.tup [natI (a / d), .int .u64 (a % d)]) [] := by
  obtain ⟨a0, a1, a2, a3, ha0, ha1, ha2, ha3, rfl⟩ := W_limbs ha
  rw [natI_val ha0 ha1 ha2 ha3]
  clear ha
  obtain ⟨x0, x1, hx0, hx1, rfl⟩ := U_digits ha0
  obtain ⟨x2, x3, hx2, hx3, rfl⟩ := U_digits ha1
  obtain ⟨x4, x5, hx4, hx5, rfl⟩ := U_digits ha2
  obtain ⟨x6, x7, hx6, hx7, rfl⟩ := U_digits ha3
  clear ha0 ha1 ha2 ha3
  have hz : V 0 := by unfold V; decide
  have hr8 : 0 ≤ (0 : Int) ∧ 0 < d := ⟨Int.le_refl _, hd.1⟩
  have hd0 : d ≠ 0 := by omega
  refine ret_of_body atNone tok mixed Tryz.func55 (by kernel_rfl) rfl (k := 42) (rs := [.cell 4 24, .tmp 5]) (by kernel_rfl) (by kernel_rfl) ?_
  conv => whnf
  (repeat (first | (refine Cond.tt rfl ?_; conv => whnf) | (refine Cond.ff rfl ?_; conv => whnf) | (refine Pick.tt rfl ?_; conv => whnf) | (refine Pick.ff rfl ?_; conv => whnf) | (refine Need.mk (by first | decide | exact hd0) ?_; conv => whnf)))
  intro I hw hs
  apply hs
  conv => whnf
  (repeat (first | (refine Cond.tt rfl ?_; conv => whnf) | (refine Cond.ff rfl ?_; conv => whnf) | (refine Pick.tt rfl ?_; conv => whnf) | (refine Pick.ff rfl ?_; conv => whnf) | (refine Need.mk (by first | decide | exact hd0) ?_; conv => whnf)))
  intro I3 hw3 hs3
  apply hs3
  conv => whnf
  (repeat (first | (refine Cond.tt rfl ?_; conv => whnf) | (refine Cond.ff rfl ?_; conv => whnf) | (refine Pick.tt rfl ?_; conv => whnf) | (refine Pick.ff rfl ?_; conv => whnf) | (refine Need.mk (by first | decide | exact hd0) ?_; conv => whnf)))
  obtain ⟨y7, q7, s7, r7, e1, e2, e3, e4, hq7, hr7, m7⟩ := small_hi hd hr8 hx6 hx7 hz
  rw [e1, e2, e3, show IntKind.i64.wrap (32 - 32) = 0 from by decide]
  obtain rfl : q7 = s7 := by omega
  clear e1 e2 e3 e4
  apply hs3
  conv => whnf
  (repeat (first | (refine Cond.tt rfl ?_; conv => whnf) | (refine Cond.ff rfl ?_; conv => whnf) | (refine Pick.tt rfl ?_; conv => whnf) | (refine Pick.ff rfl ?_; conv => whnf) | (refine Need.mk (by first | decide | exact hd0) ?_; conv => whnf)))
  obtain ⟨y6, q6, s6, r6, e1, e2, e3, e4, hq6, hr6, m6⟩ := small_lo hd hr7 hx6 hx7 hq7
  rw [e1, e2, e3, show IntKind.i64.wrap (0 - 32) = -32 from by decide]
  subst e4
  clear e1 e2 e3
  apply hs3
  conv => whnf
  (repeat (first | (refine Cond.tt rfl ?_; conv => whnf) | (refine Cond.ff rfl ?_; conv => whnf) | (refine Pick.tt rfl ?_; conv => whnf) | (refine Pick.ff rfl ?_; conv => whnf) | (refine Need.mk (by first | decide | exact hd0) ?_; conv => whnf)))
  clear hs3 hw3
  rw [show IntKind.i64.wrap (3 - 1) = 2 from by decide]
  apply hs
  conv => whnf
  (repeat (first | (refine Cond.tt rfl ?_; conv => whnf) | (refine Cond.ff rfl ?_; conv => whnf) | (refine Pick.tt rfl ?_; conv => whnf) | (refine Pick.ff rfl ?_; conv => whnf) | (refine Need.mk (by first | decide | exact hd0) ?_; conv => whnf)))
  intro I2 hw2 hs2
  apply hs2
  conv => whnf
  (repeat (first | (refine Cond.tt rfl ?_; conv => whnf) | (refine Cond.ff rfl ?_; conv => whnf) | (refine Pick.tt rfl ?_; conv => whnf) | (refine Pick.ff rfl ?_; conv => whnf) | (refine Need.mk (by first | decide | exact hd0) ?_; conv => whnf)))
  obtain ⟨y5, q5, s5, r5, e1, e2, e3, e4, hq5, hr5, m5⟩ := small_hi hd hr6 hx4 hx5 hz
  rw [e1, e2, e3, show IntKind.i64.wrap (32 - 32) = 0 from by decide]
  obtain rfl : q5 = s5 := by omega
  clear e1 e2 e3 e4
  apply hs2
  conv => whnf
  (repeat (first | (refine Cond.tt rfl ?_; conv => whnf) | (refine Cond.ff rfl ?_; conv => whnf) | (refine Pick.tt rfl ?_; conv => whnf) | (refine Pick.ff rfl ?_; conv => whnf) | (refine Need.mk (by first | decide | exact hd0) ?_; conv => whnf)))
  obtain ⟨y4, q4, s4, r4, e1, e2, e3, e4, hq4, hr4, m4⟩ := small_lo hd hr5 hx4 hx5 hq5
  rw [e1, e2, e3, show IntKind.i64.wrap (0 - 32) = -32 from by decide]
  subst e4
  clear e1 e2 e3
  apply hs2
  conv => whnf
  (repeat (first | (refine Cond.tt rfl ?_; conv => whnf) | (refine Cond.ff rfl ?_; conv => whnf) | (refine Pick.tt rfl ?_; conv => whnf) | (refine Pick.ff rfl ?_; conv => whnf) | (refine Need.mk (by first | decide | exact hd0) ?_; conv => whnf)))
  clear hs2 hw2
  rw [show IntKind.i64.wrap (2 - 1) = 1 from by decide]
  apply hs
  conv => whnf
  (repeat (first | (refine Cond.tt rfl ?_; conv => whnf) | (refine Cond.ff rfl ?_; conv => whnf) | (refine Pick.tt rfl ?_; conv => whnf) | (refine Pick.ff rfl ?_; conv => whnf) | (refine Need.mk (by first | decide | exact hd0) ?_; conv => whnf)))
  intro I1 hw1 hs1
  apply hs1
  conv => whnf
  (repeat (first | (refine Cond.tt rfl ?_; conv => whnf) | (refine Cond.ff rfl ?_; conv => whnf) | (refine Pick.tt rfl ?_; conv => whnf) | (refine Pick.ff rfl ?_; conv => whnf) | (refine Need.mk (by first | decide | exact hd0) ?_; conv => whnf)))
  obtain ⟨y3, q3, s3, r3, e1, e2, e3, e4, hq3, hr3, m3⟩ := small_hi hd hr4 hx2 hx3 hz
  rw [e1, e2, e3, show IntKind.i64.wrap (32 - 32) = 0 from by decide]
  obtain rfl : q3 = s3 := by omega
  clear e1 e2 e3 e4
  apply hs1
  conv => whnf
  (repeat (first | (refine Cond.tt rfl ?_; conv => whnf) | (refine Cond.ff rfl ?_; conv => whnf) | (refine Pick.tt rfl ?_; conv => whnf) | (refine Pick.ff rfl ?_; conv => whnf) | (refine Need.mk (by first | decide | exact hd0) ?_; conv => whnf)))
  obtain ⟨y2, q2, s2, r2, e1, e2, e3, e4, hq2, hr2, m2⟩ := small_lo hd hr3 hx2 hx3 hq3
  rw [e1, e2, e3, show IntKind.i64.wrap (0 - 32) = -32 from by decide]
  subst e4
  clear e1 e2 e3
  apply hs1
  conv => whnf
  (repeat (first | (refine Cond.tt rfl ?_; conv => whnf) | (refine Cond.ff rfl ?_; conv => whnf) | (refine Pick.tt rfl ?_; conv => whnf) | (refine Pick.ff rfl ?_; conv => whnf) | (refine Need.mk (by first | decide | exact hd0) ?_; conv => whnf)))
  clear hs1 hw1
  rw [show IntKind.i64.wrap (1 - 1) = 0 from by decide]
  apply hs
  conv => whnf
  (repeat (first | (refine Cond.tt rfl ?_; conv => whnf) | (refine Cond.ff rfl ?_; conv => whnf) | (refine Pick.tt rfl ?_; conv => whnf) | (refine Pick.ff rfl ?_; conv => whnf) | (refine Need.mk (by first | decide | exact hd0) ?_; conv => whnf)))
  intro I0 hw0 hs0
  apply hs0
  conv => whnf
  (repeat (first | (refine Cond.tt rfl ?_; conv => whnf) | (refine Cond.ff rfl ?_; conv => whnf) | (refine Pick.tt rfl ?_; conv => whnf) | (refine Pick.ff rfl ?_; conv => whnf) | (refine Need.mk (by first | decide | exact hd0) ?_; conv => whnf)))
  obtain ⟨y1, q1, s1, r1, e1, e2, e3, e4, hq1, hr1, m1⟩ := small_hi hd hr2 hx0 hx1 hz
  rw [e1, e2, e3, show IntKind.i64.wrap (32 - 32) = 0 from by decide]
  obtain rfl : q1 = s1 := by omega
  clear e1 e2 e3 e4
  apply hs0
  conv => whnf
  (repeat (first | (refine Cond.tt rfl ?_; conv => whnf) | (refine Cond.ff rfl ?_; conv => whnf) | (refine Pick.tt rfl ?_; conv => whnf) | (refine Pick.ff rfl ?_; conv => whnf) | (refine Need.mk (by first | decide | exact hd0) ?_; conv => whnf)))
  obtain ⟨y0, q0, s0, r0, e1, e2, e3, e4, hq0, hr0, m0⟩ := small_lo hd hr1 hx0 hx1 hq1
  rw [e1, e2, e3, show IntKind.i64.wrap (0 - 32) = -32 from by decide]
  subst e4
  clear e1 e2 e3
  apply hs0
  conv => whnf
  (repeat (first | (refine Cond.tt rfl ?_; conv => whnf) | (refine Cond.ff rfl ?_; conv => whnf) | (refine Pick.tt rfl ?_; conv => whnf) | (refine Pick.ff rfl ?_; conv => whnf) | (refine Need.mk (by first | decide | exact hd0) ?_; conv => whnf)))
  clear hs0 hw0
  rw [show IntKind.i64.wrap (0 - 1) = -1 from by decide]
  apply hs
  conv => whnf
  (repeat (first | (refine Cond.tt rfl ?_; conv => whnf) | (refine Cond.ff rfl ?_; conv => whnf) | (refine Pick.tt rfl ?_; conv => whnf) | (refine Pick.ff rfl ?_; conv => whnf) | (refine Need.mk (by first | decide | exact hd0) ?_; conv => whnf)))
  clear hs hw
  have hU : ∀ {p q : Int}, V p → V q → U (p + 4294967296 * q) := fun hp hq => by unfold V at *; unfold U; omega
  have h0 := hU hq0 hq1
  have h1 := hU hq2 hq3
  have h2 := hU hq4 hq5
  have h3 := hU hq6 hq7
  have key : val4 (x0 + 4294967296 * x1) (x2 + 4294967296 * x3) (x4 + 4294967296 * x5) (x6 + 4294967296 * x7) = r0 + d * val4 (q0 + 4294967296 * q1) (q2 + 4294967296 * q3) (q4 + 4294967296 * q5) (q6 + 4294967296 * q7) := by
    have ex : val4 (q0 + 4294967296 * q1) (q2 + 4294967296 * q3) (q4 + 4294967296 * q5) (q6 + 4294967296 * q7) = val8 q0 q1 q2 q3 q4 q5 q6 q7 := by unfold val4 val8; omega
    rw [ex, Int.mul_comm d, val8_mul]
    unfold val4 val8
    clear h0 h1 h2 h3 hU
    generalize q0 * d = P0 at *
    generalize q1 * d = P1 at *
    generalize q2 * d = P2 at *
    generalize q3 * d = P3 at *
    generalize q4 * d = P4 at *
    generalize q5 * d = P5 at *
    generalize q6 * d = P6 at *
    generalize q7 * d = P7 at *
    omega
  rw [key]
  refine End.mk (tup_eq (cons_eq (natI_is h0 h1 h2 h3 ?_) (cons_eq (int_eq ?_) rfl))) rfl
  · rw [Int.add_mul_ediv_left _ _ (by omega), Int.ediv_eq_zero_of_lt hr0.1 hr0.2, Int.zero_add]
  · rw [Int.add_mul_emod_self_left, Int.emod_eq_of_lt hr0.1 hr0.2]
theorem smallN (a : N) (d : Int) (hd : 0 < d ∧ d < 4294967296) : Ret Tryz.prog 55 [eN a, .int .u64 d] [] (.tup [eN (mkN (a.v / d)), .int .u64 (a.v % d)]) [] := by
  have h := small_ret a.v d a.h hd
  have hw : W (a.v / d) := ⟨Int.ediv_nonneg a.h.1 (by omega), Int.lt_of_le_of_lt (Int.ediv_le_self _ a.h.1) a.h.2⟩
  rwa [show natI (a.v / d) = eN (mkN (a.v / d)) by rw [eN_natI, mkN_v hw]] at h
end Go.Proofs.YtdpnhedbggnhiaaGreat

set_option linter.unusedVariables false
set_option linter.unusedSimpArgs false
set_option maxRecDepth 100000
namespace Go.Proofs.YtdpnhedbggnhiaaGreat
open Go.AM
theorem small_r {r p d : Int} (hd : 0 < d ∧ d < 4294967296) (hr : 0 ≤ r ∧ r < d) (hp : V p) : ∃ x q r2, IntKind.u64.wrap (IntKind.u64.wrap (r * 2 ^ min (Int.toNat 32) IntKind.u64.bits) + p) = x ∧
    IntKind.u64.wrap (x.tdiv d) = q ∧ x.tmod d = r2 ∧ V q ∧ (0 ≤ r2 ∧ r2 < d) ∧ r * 4294967296 + p = q * d + r2 := by
  have e1 : IntKind.u64.wrap (IntKind.u64.wrap (r * 2 ^ min (Int.toNat 32) IntKind.u64.bits) + p) = r * 4294967296 + p := by
    rw [show (2 : Int) ^ min (Int.toNat 32) IntKind.u64.bits = 4294967296 from by decide, w64, w64]; unfold V at hp; omega
  rw [e1]
  obtain ⟨q1, r2, k1, k2, k3, k4, k5⟩ := dm hd hr (p := p) hp rfl
  unfold wrapq at k1
  exact ⟨_, q1, r2, rfl, k1, k2, k3, k4, k5⟩
theorem shl32 {q : Int} (h : V q) : IntKind.u64.wrap (0 + IntKind.u64.wrap (q * 2 ^ min (Int.toNat 32) IntKind.u64.bits)) = 4294967296 * q := by
  rw [show (2 : Int) ^ min (Int.toNat 32) IntKind.u64.bits = 4294967296 from by decide, w64, w64]; unfold V at h; omega
theorem shl0 {p q : Int} (h : V q) (hp : V p) : IntKind.u64.wrap (4294967296 * q + IntKind.u64.wrap (p * 2 ^ min (Int.toNat 0) IntKind.u64.bits)) = p + 4294967296 * q := by
  rw [show (2 : Int) ^ min (Int.toNat 0) IntKind.u64.bits = 1 from by decide, w64, w64]; unfold V at *; omega
set_option maxRecDepth 100000 in
set_option maxHeartbeats 4000000 in
theorem rsmall_ret (a d : Int) (ha : W a) (hd : 0 < d ∧ d < 4294967296) : Ret Tryz.prog 79 [natI a, .int .u64 d] [] (.tup [natI (a / d), .int .u64 (a % d)]) [] := by
  obtain ⟨a0, a1, a2, a3, ha0, ha1, ha2, ha3, rfl⟩ := W_limbs ha
  rw [natI_val ha0 ha1 ha2 ha3]
  clear ha
  obtain ⟨x0, x1, hx0, hx1, rfl⟩ := U_digits ha0
  obtain ⟨x2, x3, hx2, hx3, rfl⟩ := U_digits ha1
  obtain ⟨x4, x5, hx4, hx5, rfl⟩ := U_digits ha2
  obtain ⟨x6, x7, hx6, hx7, rfl⟩ := U_digits ha3
  clear ha0 ha1 ha2 ha3
  have hr8 : 0 ≤ (0 : Int) ∧ 0 < d := ⟨Int.le_refl _, hd.1⟩
  have hd0 : d ≠ 0 := by omega
  refine ret_of_body atNone tok mixed Tryz.func79 (by kernel_rfl) rfl (k := 38) (rs := [.cell 4 24, .tmp 5]) (by kernel_rfl) (by kernel_rfl) ?_
  conv => whnf
  intro I hw hs
  apply hs
  conv => whnf
  (repeat (first | (refine Cond.tt rfl ?_; conv => whnf) | (refine Cond.ff rfl ?_; conv => whnf) | (refine Pick.tt rfl ?_; conv => whnf) | (refine Pick.ff rfl ?_; conv => whnf) | (refine Need.mk (by first | decide | exact hd0) ?_; conv => whnf)))
  refine Called.mk _ _ (rhalf7 hx6 hx7) ?_
  conv => whnf
  (repeat (first | (refine Cond.tt rfl ?_; conv => whnf) | (refine Cond.ff rfl ?_; conv => whnf) | (refine Pick.tt rfl ?_; conv => whnf) | (refine Pick.ff rfl ?_; conv => whnf) | (refine Need.mk (by first | decide | exact hd0) ?_; conv => whnf)))
  obtain ⟨y7, q7, r7, e1, e2, e3, hq7, hr7, m7⟩ := small_r hd hr8 hx7
  rw [e1, e2, e3, show IntKind.i64.wrap (7 - 1) = 6 from by decide]
  clear e1 e2 e3
  rw [show IntKind.i64.wrap (Int.tmod 7 2 * 32) = 32 from by decide, shl32 hq7]
  apply hs
  conv => whnf
  (repeat (first | (refine Cond.tt rfl ?_; conv => whnf) | (refine Cond.ff rfl ?_; conv => whnf) | (refine Pick.tt rfl ?_; conv => whnf) | (refine Pick.ff rfl ?_; conv => whnf) | (refine Need.mk (by first | decide | exact hd0) ?_; conv => whnf)))
  refine Called.mk _ _ (rhalf6 hx6 hx7) ?_
  conv => whnf
  (repeat (first | (refine Cond.tt rfl ?_; conv => whnf) | (refine Cond.ff rfl ?_; conv => whnf) | (refine Pick.tt rfl ?_; conv => whnf) | (refine Pick.ff rfl ?_; conv => whnf) | (refine Need.mk (by first | decide | exact hd0) ?_; conv => whnf)))
  obtain ⟨y6, q6, r6, e1, e2, e3, hq6, hr6, m6⟩ := small_r hd hr7 hx6
  rw [e1, e2, e3, show IntKind.i64.wrap (6 - 1) = 5 from by decide]
  clear e1 e2 e3
  rw [show IntKind.i64.wrap (Int.tmod 6 2 * 32) = 0 from by decide, shl0 hq7 hq6]
  apply hs
  conv => whnf
  (repeat (first | (refine Cond.tt rfl ?_; conv => whnf) | (refine Cond.ff rfl ?_; conv => whnf) | (refine Pick.tt rfl ?_; conv => whnf) | (refine Pick.ff rfl ?_; conv => whnf) | (refine Need.mk (by first | decide | exact hd0) ?_; conv => whnf)))
  refine Called.mk _ _ (rhalf5 hx4 hx5) ?_
  conv => whnf
  (repeat (first | (refine Cond.tt rfl ?_; conv => whnf) | (refine Cond.ff rfl ?_; conv => whnf) | (refine Pick.tt rfl ?_; conv => whnf) | (refine Pick.ff rfl ?_; conv => whnf) | (refine Need.mk (by first | decide | exact hd0) ?_; conv => whnf)))
  obtain ⟨y5, q5, r5, e1, e2, e3, hq5, hr5, m5⟩ := small_r hd hr6 hx5
  rw [e1, e2, e3, show IntKind.i64.wrap (5 - 1) = 4 from by decide]
  clear e1 e2 e3
  rw [show IntKind.i64.wrap (Int.tmod 5 2 * 32) = 32 from by decide, shl32 hq5]
  apply hs
  conv => whnf
  (repeat (first | (refine Cond.tt rfl ?_; conv => whnf) | (refine Cond.ff rfl ?_; conv => whnf) | (refine Pick.tt rfl ?_; conv => whnf) | (refine Pick.ff rfl ?_; conv => whnf) | (refine Need.mk (by first | decide | exact hd0) ?_; conv => whnf)))
  refine Called.mk _ _ (rhalf4 hx4 hx5) ?_
  conv => whnf
  (repeat (first | (refine Cond.tt rfl ?_; conv => whnf) | (refine Cond.ff rfl ?_; conv => whnf) | (refine Pick.tt rfl ?_; conv => whnf) | (refine Pick.ff rfl ?_; conv => whnf) | (refine Need.mk (by first | decide | exact hd0) ?_; conv => whnf)))
  obtain ⟨y4, q4, r4, e1, e2, e3, hq4, hr4, m4⟩ := small_r hd hr5 hx4
  rw [e1, e2, e3, show IntKind.i64.wrap (4 - 1) = 3 from by decide]
  clear e1 e2 e3
  rw [show IntKind.i64.wrap (Int.tmod 4 2 * 32) = 0 from by decide, shl0 hq5 hq4]
  apply hs
  conv => whnf
  (repeat (first | (refine Cond.tt rfl ?_; conv => whnf) | (refine Cond.ff rfl ?_; conv => whnf) | (refine Pick.tt rfl ?_; conv => whnf) | (refine Pick.ff rfl ?_; conv => whnf) | (refine Need.mk (by first | decide | exact hd0) ?_; conv => whnf)))
  refine Called.mk _ _ (rhalf3 hx2 hx3) ?_
  conv => whnf
  (repeat (first | (refine Cond.tt rfl ?_; conv => whnf) | (refine Cond.ff rfl ?_; conv => whnf) | (refine Pick.tt rfl ?_; conv => whnf) | (refine Pick.ff rfl ?_; conv => whnf) | (refine Need.mk (by first | decide | exact hd0) ?_; conv => whnf)))
  obtain ⟨y3, q3, r3, e1, e2, e3, hq3, hr3, m3⟩ := small_r hd hr4 hx3
  rw [e1, e2, e3, show IntKind.i64.wrap (3 - 1) = 2 from by decide]
  clear e1 e2 e3
  rw [show IntKind.i64.wrap (Int.tmod 3 2 * 32) = 32 from by decide, shl32 hq3]
  apply hs
  conv => whnf
  (repeat (first | (refine Cond.tt rfl ?_; conv => whnf) | (refine Cond.ff rfl ?_; conv => whnf) | (refine Pick.tt rfl ?_; conv => whnf) | (refine Pick.ff rfl ?_; conv => whnf) | (refine Need.mk (by first | decide | exact hd0) ?_; conv => whnf)))
  refine Called.mk _ _ (rhalf2 hx2 hx3) ?_
  conv => whnf
  (repeat (first | (refine Cond.tt rfl ?_; conv => whnf) | (refine Cond.ff rfl ?_; conv => whnf) | (refine Pick.tt rfl ?_; conv => whnf) | (refine Pick.ff rfl ?_; conv => whnf) | (refine Need.mk (by first | decide | exact hd0) ?_; conv => whnf)))
  obtain ⟨y2, q2, r2, e1, e2, e3, hq2, hr2, m2⟩ := small_r hd hr3 hx2
  rw [e1, e2, e3, show IntKind.i64.wrap (2 - 1) = 1 from by decide]
  clear e1 e2 e3
  rw [show IntKind.i64.wrap (Int.tmod 2 2 * 32) = 0 from by decide, shl0 hq3 hq2]
  apply hs
  conv => whnf
  (repeat (first | (refine Cond.tt rfl ?_; conv => whnf) | (refine Cond.ff rfl ?_; conv => whnf) | (refine Pick.tt rfl ?_; conv => whnf) | (refine Pick.ff rfl ?_; conv => whnf) | (refine Need.mk (by first | decide | exact hd0) ?_; conv => whnf)))
  refine Called.mk _ _ (rhalf1 hx0 hx1) ?_
  conv => whnf
  (repeat (first | (refine Cond.tt rfl ?_; conv => whnf) | (refine Cond.ff rfl ?_; conv => whnf) | (refine Pick.tt rfl ?_; conv => whnf) | (refine Pick.ff rfl ?_; conv => whnf) | (refine Need.mk (by first | decide | exact hd0) ?_; conv => whnf)))
  obtain ⟨y1, q1, r1, e1, e2, e3, hq1, hr1, m1⟩ := small_r hd hr2 hx1
  rw [e1, e2, e3, show IntKind.i64.wrap (1 - 1) = 0 from by decide]
  clear e1 e2 e3
  rw [show IntKind.i64.wrap (Int.tmod 1 2 * 32) = 32 from by decide, shl32 hq1]
  apply hs
  conv => whnf
  (repeat (first | (refine Cond.tt rfl ?_; conv => whnf) | (refine Cond.ff rfl ?_; conv => whnf) | (refine Pick.tt rfl ?_; conv => whnf) | (refine Pick.ff rfl ?_; conv => whnf) | (refine Need.mk (by first | decide | exact hd0) ?_; conv => whnf)))
  refine Called.mk _ _ (rhalf0 hx0 hx1) ?_
  conv => whnf
  (repeat (first | (refine Cond.tt rfl ?_; conv => whnf) | (refine Cond.ff rfl ?_; conv => whnf) | (refine Pick.tt rfl ?_; conv => whnf) | (refine Pick.ff rfl ?_; conv => whnf) | (refine Need.mk (by first | decide | exact hd0) ?_; conv => whnf)))
  obtain ⟨y0, q0, r0, e1, e2, e3, hq0, hr0, m0⟩ := small_r hd hr1 hx0
  rw [e1, e2, e3, show IntKind.i64.wrap (0 - 1) = -1 from by decide]
  clear e1 e2 e3
  rw [show IntKind.i64.wrap (Int.tmod 0 2 * 32) = 0 from by decide, shl0 hq1 hq0]
  apply hs
  conv => whnf
  (repeat (first | (refine Cond.tt rfl ?_; conv => whnf) | (refine Cond.ff rfl ?_; conv => whnf) | (refine Pick.tt rfl ?_; conv => whnf) | (refine Pick.ff rfl ?_; conv => whnf) | (refine Need.mk (by first | decide | exact hd0) ?_; conv => whnf)))
  clear hs hw
  have hU : ∀ {p q : Int}, V p → V q → U (p + 4294967296 * q) := fun hp hq => by unfold V at *; unfold U; omega
  have h0 := hU hq0 hq1
  have h1 := hU hq2 hq3
  have h2 := hU hq4 hq5
  have h3 := hU hq6 hq7
  have key : val4 (x0 + 4294967296 * x1) (x2 + 4294967296 * x3) (x4 + 4294967296 * x5) (x6 + 4294967296 * x7) = r0 + d * val4 (q0 + 4294967296 * q1) (q2 + 4294967296 * q3) (q4 + 4294967296 * q5) (q6 + 4294967296 * q7) := by
    have ex : val4 (q0 + 4294967296 * q1) (q2 + 4294967296 * q3) (q4 + 4294967296 * q5) (q6 + 4294967296 * q7) = val8 q0 q1 q2 q3 q4 q5 q6 q7 := by unfold val4 val8; omega
    rw [ex, Int.mul_comm d, val8_mul]
    unfold val4 val8
    clear h0 h1 h2 h3 hU
    generalize q0 * d = P0 at *
    generalize q1 * d = P1 at *
    generalize q2 * d = P2 at *
    generalize q3 * d = P3 at *
    generalize q4 * d = P4 at *
    generalize q5 * d = P5 at *
    generalize q6 * d = P6 at *
    generalize q7 * d = P7 at *
    omega
  rw [key]
  refine End.mk (tup_eq (cons_eq (natI_is h0 h1 h2 h3 ?_) (cons_eq (int_eq ?_) rfl))) rfl
  · rw [Int.add_mul_ediv_left _ _ (by omega), Int.ediv_eq_zero_of_lt hr0.1 hr0.2, Int.zero_add]
  · rw [Int.add_mul_emod_self_left, Int.emod_eq_of_lt hr0.1 hr0.2]
theorem rsmallN (a : N) (d : Int) (hd : 0 < d ∧ d < 4294967296) : Ret Tryz.prog 79 [eN a, .int .u64 d] [] (.tup [eN (mkN (a.v / d)), .int .u64 (a.v % d)]) [] := by
  have h := rsmall_ret a.v d a.h hd
  have hw : W (a.v / d) := ⟨Int.ediv_nonneg a.h.1 (by omega), Int.lt_of_le_of_lt (Int.ediv_le_self _ a.h.1) a.h.2⟩
  rwa [show natI (a.v / d) = eN (mkN (a.v / d)) by rw [eN_natI, mkN_v hw]] at h
end Go.Proofs.YtdpnhedbggnhiaaGreat

set_option linter.unusedVariables false
set_option linter.unusedSimpArgs false
set_option maxRecDepth 100000
namespace Go.Proofs.YtdpnhedbggnhiaaGreat
open Go.AM
end Go.Proofs.YtdpnhedbggnhiaaGreat

