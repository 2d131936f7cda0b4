/- exciseref01.Div. -/
import Derived.Test.YtenlkhlkohnmkaaAmC1
set_option linter.unusedVariables false
set_option linter.unusedSimpArgs false
set_option maxRecDepth 100000
namespace Go.Proofs.Ytenlkhlkohnmkaa
open Go.AM
def RInv (high low dv : Int) (k : Nat) (q re : Int) : Prop := ∃ h m Q p s, p * s = B4 ∧ s = 2 ^ k ∧ 0 < p ∧ 0 < s ∧ low = h * s + m ∧ (0 ≤ m ∧ m < s) ∧ q = Q * s ∧ (0 ≤ Q ∧ Q < p) ∧ high * p + h = Q * dv + re ∧ (0 ≤ re ∧ re < dv)
theorem RInv.start {high low dv : Int} (hh : 0 ≤ high ∧ high < dv) (hl : W low) : RInv high low dv 256 0 high :=
  ⟨0, low, 0, 1, B4, rfl, by decide, by decide, by decide, by omega, hl, by omega, by decide, by omega, hh⟩
theorem RInv.done {high low dv q re : Int} (h : RInv high low dv 0 q re) : q = (high * B4 + low) / dv ∧ re = (high * B4 + low) % dv := by
  obtain ⟨h, m, Q, p, s, h1, h2, h3, h4, h5, h6, h7, h8, h9, h10⟩ := h
  have hs : s = 1 := h2
  subst hs
  have hm : m = 0 := by omega
  subst hm
  have hp : p = B4 := by omega
  subst hp
  have e : high * B4 + low = re + dv * Q := by rw [Int.mul_comm dv Q]; omega
  rw [e, Int.add_mul_ediv_left _ _ (by omega), Int.ediv_eq_zero_of_lt h10.1 h10.2, Int.add_mul_emod_self_left, Int.emod_eq_of_lt h10.1 h10.2]
  omega
theorem RInv.step {high low dv : Int} {k : Nat} {q re : Int} (hi : RInv high low dv (k + 1) q re) : (low / 2 ^ k % 2 = 0 ∨ low / 2 ^ k % 2 = 1) ∧ (2 * re + low / 2 ^ k % 2 < dv → RInv high low dv k q (2 * re + low / 2 ^ k % 2)) ∧
    (dv ≤ 2 * re + low / 2 ^ k % 2 → RInv high low dv k (q + 2 ^ k) (2 * re + low / 2 ^ k % 2 - dv)) ∧ (∃ Q, q = Q * 2 ^ (k + 1) ∧ 0 ≤ Q) ∧ q + 2 ^ k < B4 := by
  obtain ⟨h, m, Q, p, s, h1, h2, h3, h4, h5, h6, h7, h8, h9, h10⟩ := hi
  have hs : s = 2 * 2 ^ k := by rw [h2, Int.pow_succ, Int.mul_comm]
  have hk : 0 < (2 : Int) ^ k := by omega
  have e0 : Q * 2 ^ (k + 1) = q := by rw [← h2]; exact h7.symm
  rw [hs] at h1 h5 h6 h7
  generalize hS : (2 : Int) ^ k = S at *
  have e1 : high * (2 * p) = 2 * (high * p) := Int.mul_left_comm _ _ _
  have e3 : h * (2 * S) = 2 * (h * S) := Int.mul_left_comm _ _ _
  have e4 : Q * (2 * S) = 2 * (Q * S) := Int.mul_left_comm _ _ _
  have e5 : 2 * Q * dv = 2 * (Q * dv) := Int.mul_assoc _ _ _
  have e6 : 2 * Q * S = 2 * (Q * S) := Int.mul_assoc _ _ _
  have e7 : 2 * h * S = 2 * (h * S) := Int.mul_assoc _ _ _
  have hp2 : 2 * p * S = B4 := by rw [← h1, Int.mul_assoc, Int.mul_left_comm]
  have hQ : (Q + 1) * (2 * S) ≤ p * (2 * S) := Int.mul_le_mul_of_nonneg_right (by omega) (by omega)
  rw [Int.add_mul, Int.one_mul] at hQ
  obtain ⟨t, m', ht, hm', g1, g2⟩ : ∃ t m', (t = 0 ∨ t = 1) ∧ m = t * S + m' ∧ 0 ≤ m' ∧ m' < S := by
    rcases (by omega : m < S ∨ S ≤ m) with h | h
    · exact ⟨0, m, .inl rfl, by omega, by omega, h⟩
    · exact ⟨1, m - S, .inr rfl, by omega, by omega, by omega⟩
  have el : low = (2 * h + t) * S + m' := by rw [Int.add_mul]; omega
  have ed : low / S = 2 * h + t := by
    rw [el, Int.add_comm, Int.add_mul_ediv_right _ _ (by omega), Int.ediv_eq_zero_of_lt g1 g2, Int.zero_add]
  rw [ed]
  have et : (2 * h + t) % 2 = t := by omega
  rw [et]
  refine ⟨ht, fun hlt => ?_, fun hge => ?_, ⟨Q, e0.symm, h8.1⟩, by omega⟩
  · exact ⟨2 * h + t, m', 2 * Q, 2 * p, S, hp2, hS.symm, by omega, hk, el, ⟨g1, g2⟩, by omega, by omega, by omega, by omega⟩
  · refine ⟨2 * h + t, m', 2 * Q + 1, 2 * p, S, hp2, hS.symm, by omega, hk, el, ⟨g1, g2⟩, by rw [Int.add_mul]; omega, by omega, ?_, by omega⟩
    rw [Int.add_mul, Int.one_mul]; omega
theorem or_even (X : N) (h : X.v % 2 = 0) {t : Int} (ht : t = 0 ∨ t = 1) : IntKind.u64.wrap ((BitVec.ofInt IntKind.u64.bits (l0 X) ||| BitVec.ofInt IntKind.u64.bits t).toNat : Int) = l0 (mkN (X.v + t)) ∧ l1 X = l1 (mkN (X.v + t)) ∧ l2 X = l2 (mkN (X.v + t)) ∧ l3 X = l3 (mkN (X.v + t)) := by
  have hX := X.h
  have hW : W (X.v + t) := by unfold W B4 at *; omega
  have e : (mkN (X.v + t)).v = X.v + t := mkN_v hW
  have h0 : l0 X % 2 = 0 := by unfold l0; omega
  have hu := l0_U X
  rw [or_apart 1 hu (by omega) (by omega) (by omega) (by decide)]
  unfold l0 l1 l2 l3 at *
  rw [e]
  have e0 : (X.v + t) / 18446744073709551616 = X.v / 18446744073709551616 := by omega
  rw [e0]
  refine ⟨by omega, rfl, rfl, rfl⟩
theorem limb_even {x : Int} {q : N} {j r : Nat} (hr : r < 64) {Q : Int} (hQ : 0 ≤ Q) (e : q.v = Q * 2 ^ (64 * j + r + 1)) (hx : x = ((q.v.toNat / 2 ^ (64 * j) % 2 ^ 64 : Nat) : Int)) : x % 2 ^ (r + 1) = 0 := by
  obtain ⟨n, rfl⟩ := Int.eq_ofNat_of_zero_le hQ
  have hc : ∀ k : Nat, ((2 : Int) ^ k) = ((2 ^ k : Nat) : Int) := fun k => (Int.natCast_pow 2 k).symm
  have en : q.v.toNat = n * 2 ^ (64 * j + r + 1) := by rw [e, hc, ← Int.natCast_mul, Int.toNat_natCast]
  have e1 : q.v.toNat / 2 ^ (64 * j) = n * 2 ^ (r + 1) := by
    rw [en, Nat.add_assoc, Nat.pow_add, ← Nat.mul_assoc, Nat.mul_right_comm, Nat.mul_div_cancel _ (Nat.pow_pos (by decide))]
  rw [hx, e1, hc, ← Int.natCast_emod, Nat.mod_mod_of_dvd _ (Nat.pow_dvd_pow 2 (by omega)), Nat.mul_mod_left]
  rfl
theorem fits_bit {x : Int} {r : Nat} (hr : r < 64) (hx : U x) (h : x % 2 ^ (r + 1) = 0) : U (x + 2 ^ r) := by
  have hc : ∀ k : Nat, ((2 : Int) ^ k) = ((2 ^ k : Nat) : Int) := fun k => (Int.natCast_pow 2 k).symm
  have hp : (2 : Int) ^ (r + 1) = 2 * 2 ^ r := by rw [Int.pow_succ, Int.mul_comm]
  have h64 : (18446744073709551616 : Int) % 2 ^ (r + 1) = 0 := by
    have : (18446744073709551616 : Int) = ((2 ^ 64 : Nat) : Int) := by decide
    rw [this, hc, ← Int.natCast_emod, Nat.mod_eq_zero_of_dvd (Nat.pow_dvd_pow 2 (by omega))]; rfl
  have hpos : (0 : Int) < 2 ^ r := Int.pow_pos (by decide)
  rw [hp] at h h64
  generalize (2 : Int) ^ r = z at *
  have h1 : 18446744073709551616 = 2 * z * (18446744073709551616 / (2 * z)) := by have := Int.mul_ediv_add_emod 18446744073709551616 (2 * z); omega
  have h2 : x = 2 * z * (x / (2 * z)) := by have := Int.mul_ediv_add_emod x (2 * z); omega
  unfold U at *
  generalize 18446744073709551616 / (2 * z) = A at *
  generalize x / (2 * z) = b at *
  have h3 : b < A := by
    rcases (by omega : b < A ∨ A ≤ b) with h | h
    · exact h
    · have := Int.mul_le_mul_of_nonneg_left h (show 0 ≤ 2 * z by omega); omega
  have h4 : 2 * z * (b + 1) ≤ 2 * z * A := Int.mul_le_mul_of_nonneg_left (by omega) (by omega)
  rw [Int.mul_add, Int.mul_one] at h4
  omega

theorem qbit0 {q : N} {r : Nat} (hr : r < 64) {Q : Int} (hQ : 0 ≤ Q) (e : q.v = Q * 2 ^ (64 * 0 + r + 1)) : IntKind.u64.wrap ((BitVec.ofInt IntKind.u64.bits (l0 q) ||| BitVec.ofInt IntKind.u64.bits (IntKind.u64.wrap (1 * 2 ^ min (Int.toNat (r : Int)) IntKind.u64.bits))).toNat : Int) = l0 q + 2 ^ r ∧
    cN (mkN (q.v + 2 ^ (64 * 0 + r))) = [.int .u64 (l0 q + 2 ^ r), .int .u64 (l1 q), .int .u64 (l2 q), .int .u64 (l3 q)] := by
  have h1 := limb_even hr hQ e (l0_nat q)
  have hp : (2 : Int) ^ (r + 1) = 2 * 2 ^ r := by rw [Int.pow_succ, Int.mul_comm]
  have hpos : (0 : Int) < 2 ^ r := Int.pow_pos (by decide)
  have hu := fits_bit hr (l0_U q) h1
  refine ⟨by rw [shl_r r hr, or_apart (r + 1) (l0_U q) h1 (by omega) (by omega) (by omega)], ?_⟩
  have g0 := l0_U q; have g1 := l1_U q; have g2 := l2_U q; have g3 := l3_U q
  have hl := ofL_l (x0 := l0 q + 2 ^ r) (x1 := l1 q) (x2 := l2 q) (x3 := l3 q) (by assumption) (by assumption) (by assumption) (by assumption)
  have hv : mkN (q.v + 2 ^ (64 * 0 + r)) = ofL (l0 q + 2 ^ r) (l1 q) (l2 q) (l3 q) := by
    unfold ofL
    congr 1
    rw [Int.pow_add, show (2 : Int) ^ (64 * 0) = 1 by decide]
    have := limbs_v q
    generalize (2 : Int) ^ r = z at *
    unfold val4 at *
    omega
  rw [hv]
  unfold cN
  rw [hl.1, hl.2.1, hl.2.2.1, hl.2.2.2]
theorem qbit1 {q : N} {r : Nat} (hr : r < 64) {Q : Int} (hQ : 0 ≤ Q) (e : q.v = Q * 2 ^ (64 * 1 + r + 1)) : IntKind.u64.wrap ((BitVec.ofInt IntKind.u64.bits (l1 q) ||| BitVec.ofInt IntKind.u64.bits (IntKind.u64.wrap (1 * 2 ^ min (Int.toNat (r : Int)) IntKind.u64.bits))).toNat : Int) = l1 q + 2 ^ r ∧
    cN (mkN (q.v + 2 ^ (64 * 1 + r))) = [.int .u64 (l0 q), .int .u64 (l1 q + 2 ^ r), .int .u64 (l2 q), .int .u64 (l3 q)] := by
  have h1 := limb_even hr hQ e (l1_nat q)
  have hp : (2 : Int) ^ (r + 1) = 2 * 2 ^ r := by rw [Int.pow_succ, Int.mul_comm]
  have hpos : (0 : Int) < 2 ^ r := Int.pow_pos (by decide)
  have hu := fits_bit hr (l1_U q) h1
  refine ⟨by rw [shl_r r hr, or_apart (r + 1) (l1_U q) h1 (by omega) (by omega) (by omega)], ?_⟩
  have g0 := l0_U q; have g1 := l1_U q; have g2 := l2_U q; have g3 := l3_U q
  have hl := ofL_l (x0 := l0 q) (x1 := l1 q + 2 ^ r) (x2 := l2 q) (x3 := l3 q) (by assumption) (by assumption) (by assumption) (by assumption)
  have hv : mkN (q.v + 2 ^ (64 * 1 + r)) = ofL (l0 q) (l1 q + 2 ^ r) (l2 q) (l3 q) := by
    unfold ofL
    congr 1
    rw [Int.pow_add, show (2 : Int) ^ (64 * 1) = 18446744073709551616 by decide]
    have := limbs_v q
    generalize (2 : Int) ^ r = z at *
    unfold val4 at *
    omega
  rw [hv]
  unfold cN
  rw [hl.1, hl.2.1, hl.2.2.1, hl.2.2.2]
theorem qbit2 {q : N} {r : Nat} (hr : r < 64) {Q : Int} (hQ : 0 ≤ Q) (e : q.v = Q * 2 ^ (64 * 2 + r + 1)) : IntKind.u64.wrap ((BitVec.ofInt IntKind.u64.bits (l2 q) ||| BitVec.ofInt IntKind.u64.bits (IntKind.u64.wrap (1 * 2 ^ min (Int.toNat (r : Int)) IntKind.u64.bits))).toNat : Int) = l2 q + 2 ^ r ∧
    cN (mkN (q.v + 2 ^ (64 * 2 + r))) = [.int .u64 (l0 q), .int .u64 (l1 q), .int .u64 (l2 q + 2 ^ r), .int .u64 (l3 q)] := by
  have h1 := limb_even hr hQ e (l2_nat q)
  have hp : (2 : Int) ^ (r + 1) = 2 * 2 ^ r := by rw [Int.pow_succ, Int.mul_comm]
  have hpos : (0 : Int) < 2 ^ r := Int.pow_pos (by decide)
  have hu := fits_bit hr (l2_U q) h1
  refine ⟨by rw [shl_r r hr, or_apart (r + 1) (l2_U q) h1 (by omega) (by omega) (by omega)], ?_⟩
  have g0 := l0_U q; have g1 := l1_U q; have g2 := l2_U q; have g3 := l3_U q
  have hl := ofL_l (x0 := l0 q) (x1 := l1 q) (x2 := l2 q + 2 ^ r) (x3 := l3 q) (by assumption) (by assumption) (by assumption) (by assumption)
  have hv : mkN (q.v + 2 ^ (64 * 2 + r)) = ofL (l0 q) (l1 q) (l2 q + 2 ^ r) (l3 q) := by
    unfold ofL
    congr 1
    rw [Int.pow_add, show (2 : Int) ^ (64 * 2) = 340282366920938463463374607431768211456 by decide]
    have := limbs_v q
    generalize (2 : Int) ^ r = z at *
    unfold val4 at *
    omega
  rw [hv]
  unfold cN
  rw [hl.1, hl.2.1, hl.2.2.1, hl.2.2.2]
theorem qbit3 {q : N} {r : Nat} (hr : r < 64) {Q : Int} (hQ : 0 ≤ Q) (e : q.v = Q * 2 ^ (64 * 3 + r + 1)) : IntKind.u64.wrap ((BitVec.ofInt IntKind.u64.bits (l3 q) ||| BitVec.ofInt IntKind.u64.bits (IntKind.u64.wrap (1 * 2 ^ min (Int.toNat (r : Int)) IntKind.u64.bits))).toNat : Int) = l3 q + 2 ^ r ∧
    cN (mkN (q.v + 2 ^ (64 * 3 + r))) = [.int .u64 (l0 q), .int .u64 (l1 q), .int .u64 (l2 q), .int .u64 (l3 q + 2 ^ r)] := by
  have h1 := limb_even hr hQ e (l3_nat q)
  have hp : (2 : Int) ^ (r + 1) = 2 * 2 ^ r := by rw [Int.pow_succ, Int.mul_comm]
  have hpos : (0 : Int) < 2 ^ r := Int.pow_pos (by decide)
  have hu := fits_bit hr (l3_U q) h1
  refine ⟨by rw [shl_r r hr, or_apart (r + 1) (l3_U q) h1 (by omega) (by omega) (by omega)], ?_⟩
  have g0 := l0_U q; have g1 := l1_U q; have g2 := l2_U q; have g3 := l3_U q
  have hl := ofL_l (x0 := l0 q) (x1 := l1 q) (x2 := l2 q) (x3 := l3 q + 2 ^ r) (by assumption) (by assumption) (by assumption) (by assumption)
  have hv : mkN (q.v + 2 ^ (64 * 3 + r)) = ofL (l0 q) (l1 q) (l2 q) (l3 q + 2 ^ r) := by
    unfold ofL
    congr 1
    rw [Int.pow_add, show (2 : Int) ^ (64 * 3) = 6277101735386680763835789423207666416102355444464034512896 by decide]
    have := limbs_v q
    generalize (2 : Int) ^ r = z at *
    unfold val4 at *
    omega
  rw [hv]
  unfold cN
  rw [hl.1, hl.2.1, hl.2.2.1, hl.2.2.2]
set_option maxRecDepth 100000 in
theorem rDiv_bad (x l b : N) (hb : b.v ≤ x.v) : Ret Try.prog 35 [eN x, eN l, eN b] [] (.tup [eN N0, eN N0, .bool false]) [] := by
  refine ret_of_body atNone tok mixed Try.func35 (by kernel_rfl) rfl (k := 63) (rs := [.cell 6 24, .cell 7 24, .tmp 8]) (by kernel_rfl) (by kernel_rfl) ?_
  (conv => whnf) <;> repeat' (first | (refine Need.mk (by first | decide | omega | (simp; done) | (simp; omega)) ?_; conv => whnf) | (refine Cond.tt rfl ?_; conv => whnf) | (refine Cond.ff rfl ?_; conv => whnf) | (refine Pick.tt rfl ?_; conv => whnf) | (refine Pick.ff rfl ?_; conv => whnf) | (refine Called.mk _ _ (rCmp_ret x b) ?_; conv => whnf) | (refine Pick.mk (fun h => ?_) (fun h => ?_) <;> conv => whnf) | (refine Cond.mk (fun h => ?_) (fun h => ?_) <;> conv => whnf))
  · exact End.mk rfl rfl
  · exfalso
    rw [decide_eq_false_iff_not] at h
    unfold cmpI at h
    split at h <;> omega
set_option maxRecDepth 100000 in
set_option maxHeartbeats 4000000 in
theorem rDiv_ok (x l b : N) (hb : x.v < b.v) : Ret Try.prog 35 [eN x, eN l, eN b] [] (.tup [eN (mkN ((x.v * B4 + l.v) / b.v)), eN (mkN ((x.v * B4 + l.v) % b.v)), .bool true]) [] := by
  have hbW := b.h
  refine ret_of_body atNone tok mixed Try.func35 (by kernel_rfl) rfl (k := 63) (rs := [.cell 6 24, .cell 7 24, .tmp 8]) (by kernel_rfl) (by kernel_rfl) ?_
  (conv => whnf) <;> repeat' (first | (refine Need.mk (by first | decide | omega | (simp; done) | (simp; omega)) ?_; conv => whnf) | (refine Cond.tt rfl ?_; conv => whnf) | (refine Cond.ff rfl ?_; conv => whnf) | (refine Pick.tt rfl ?_; conv => whnf) | (refine Pick.ff rfl ?_; conv => whnf) | (refine Called.mk _ _ (rCmp_ret x b) ?_; conv => whnf) | (refine Pick.mk (fun h => ?_) (fun h => ?_) <;> conv => whnf) | (refine Cond.mk (fun h => ?_) (fun h => ?_) <;> conv => whnf))
  · exfalso
    rw [decide_eq_true_eq] at h
    unfold cmpI at h
    split at h <;> omega
  clear h
  intro I hw hs
  have key : ∀ (k : Nat) (q re : N), k ≤ 256 → RInv x.v l.v b.v k q.v re.v →
      I [.und, .und, .und, .ptr 0 0, .ptr 1 0, .ptr 2 0, .ptr 3 0, .ptr 4 0, .bool false, .ptr 5 0, .ptr 6 0, .int .i64 ((k : Int) - 1), .und, .und, .und, .und, .und, .und, .und, .und, .und, .und, .und, .und, .und, .und, .und, .und, .und, .und, .und, .und, .und, .und, .und, .und, .und, .und, .und, .und, .und, .und, .und, .und, .und, .und, .und, .und, .und, .und, .und, .und, .und, .und, .und, .und, .und, .und, .und, .und, .und, .und, .und] [.cells (cN x), .cells (cN l), .cells (cN b), .cells (cN N0), .cells (cN N0), .cells (cN re), .cells (cN q)] := by
    intro k
    induction k with
    | zero =>
      intro q re _ hI
      apply hs
      conv => whnf
      refine Cond.ff (decF (by omega)) ?_
      (conv => whnf) <;> repeat' (first | (refine Need.mk (by first | decide | omega | (simp; done) | (simp; omega)) ?_; conv => whnf) | (refine Cond.tt rfl ?_; conv => whnf) | (refine Cond.ff rfl ?_; conv => whnf) | (refine Pick.tt rfl ?_; conv => whnf) | (refine Pick.ff rfl ?_; conv => whnf) | (refine Pick.mk (fun h => ?_) (fun h => ?_) <;> conv => whnf) | (refine Cond.mk (fun h => ?_) (fun h => ?_) <;> conv => whnf))
      obtain ⟨e1, e2⟩ := hI.done
      have : mkN ((x.v * B4 + l.v) / b.v) = q := by rw [← e1]; exact mkN_val q
      rw [this]
      have : mkN ((x.v * B4 + l.v) % b.v) = re := by rw [← e2]; exact mkN_val re
      rw [this]
      exact End.mk rfl rfl
    | succ k ih =>
      intro q re hk hI
      obtain ⟨ht, hlt, hge, ⟨Q, hQ, hQ0⟩, hfit⟩ := hI.step
      have hre := re.h
      have hq0 := q.h
      have hk0 : (0 : Int) < 2 ^ k := Int.pow_pos (by decide)
      have eR : (mkN (re.v + re.v)).v = (re.v + re.v) % B4 := rfl
      obtain ⟨o0, o1, o2, o3⟩ := or_even (mkN (re.v + re.v)) (by rw [eR]; unfold B4; omega) ht
      have sub : b.v ≤ 2 * re.v + l.v / 2 ^ k % 2 → RInv x.v l.v b.v k (mkN (q.v + 2 ^ k)).v (mkN ((mkN ((mkN (re.v + re.v)).v + l.v / 2 ^ k % 2)).v - b.v)).v := fun hc => by
        have hD := hge hc
        have hb2 : 0 ≤ 2 * re.v + l.v / 2 ^ k % 2 - b.v ∧ 2 * re.v + l.v / 2 ^ k % 2 - b.v < b.v := by obtain ⟨_, _, _, _, _, _, _, _, _, _, _, _, _, _, hr⟩ := hD; exact hr
        rw [mkN_v (x := q.v + 2 ^ k) ⟨by unfold W at hq0; omega, hfit⟩]
        have e2 : (mkN ((mkN ((mkN (re.v + re.v)).v + l.v / 2 ^ k % 2)).v - b.v)).v = 2 * re.v + l.v / 2 ^ k % 2 - b.v := by
          simp only [mkN]
          generalize l.v / 2 ^ k % 2 = t at *
          unfold W B4 at *; omega
        rw [e2]; exact hD
      have stay : ¬ B4 ≤ re.v + re.v → ¬ cmpI (mkN ((mkN (re.v + re.v)).v + l.v / 2 ^ k % 2)).v b.v ≥ 0 → RInv x.v l.v b.v k q.v (mkN ((mkN (re.v + re.v)).v + l.v / 2 ^ k % 2)).v := fun ho hc => by
        have e2 : (mkN ((mkN (re.v + re.v)).v + l.v / 2 ^ k % 2)).v = 2 * re.v + l.v / 2 ^ k % 2 := by
          simp only [mkN]
          generalize l.v / 2 ^ k % 2 = t at *
          unfold W B4 at *; omega
        rw [e2] at hc ⊢
        refine hlt ?_
        unfold cmpI at hc
        split at hc
        · assumption
        · split at hc <;> omega
      have over : B4 ≤ re.v + re.v → b.v ≤ 2 * re.v + l.v / 2 ^ k % 2 := fun h => by
        generalize l.v / 2 ^ k % 2 = t at *
        unfold W at *; omega
      have cmp : ¬ B4 ≤ re.v + re.v → cmpI (mkN ((mkN (re.v + re.v)).v + l.v / 2 ^ k % 2)).v b.v ≥ 0 → b.v ≤ 2 * re.v + l.v / 2 ^ k % 2 := fun ho hc => by
        have e2 : (mkN ((mkN (re.v + re.v)).v + l.v / 2 ^ k % 2)).v = 2 * re.v + l.v / 2 ^ k % 2 := by
          simp only [mkN]
          generalize l.v / 2 ^ k % 2 = t at *
          unfold W B4 at *; omega
        rw [e2] at hc
        unfold cmpI at hc
        split at hc <;> omega
      have ek : ((k + 1 : Nat) : Int) - 1 = (k : Int) := by omega
      rw [ek]
      have hw1 : IntKind.i64.wrap ((k : Int) - 1) = (k : Int) - 1 := wi64_id (by omega) (by omega)
      obtain ⟨j, r, hj, hr, hjr⟩ : ∃ j r, j < 4 ∧ r < 64 ∧ k = 64 * j + r := ⟨k / 64, k % 64, by omega, by omega, by omega⟩
      have hq := tq j r hr
      have hm := tr j r hr
      rw [← hjr] at hq hm
      rcases (by omega : j = 0 ∨ j = 1 ∨ j = 2 ∨ j = 3) with rfl | rfl | rfl | rfl
      · have hb := qbit0 (q := q) hr hQ0 (by rw [← hjr]; exact hQ)
        rw [← hjr] at hb
        have go1 := fun (h : b.v ≤ 2 * re.v + l.v / 2 ^ k % 2) => ih (mkN (q.v + 2 ^ k)) (mkN ((mkN ((mkN (re.v + re.v)).v + l.v / 2 ^ k % 2)).v - b.v)) (by omega) (sub h)
        rw [hb.2] at go1
        apply hs
        conv => whnf
        refine Cond.tt (decT (by omega)) ?_
        (conv => whnf) <;> repeat' (first | (rw [o0, o1, o2, o3]; conv => whnf) | (rw [hq]; conv => whnf) | (rw [hm]; conv => whnf) | (rw [hb.1]; conv => whnf) | (refine Need.mk (by first | decide | omega | (simp; done) | (simp; omega)) ?_; conv => whnf) | (refine Cond.tt rfl ?_; conv => whnf) | (refine Cond.ff rfl ?_; conv => whnf) | (refine Pick.tt rfl ?_; conv => whnf) | (refine Pick.ff rfl ?_; conv => whnf) | (refine Called.mk _ _ (rAdd_ret re re) ?_; conv => whnf) | (refine Called.mk _ _ (Bit_ret l k (by omega)) ?_; conv => whnf) | (refine Called.mk _ _ (rCmp_ret (mkN ((mkN (re.v + re.v)).v + l.v / 2 ^ k % 2)) b) ?_; conv => whnf) | (refine Called.mk _ _ (rSub_ret (mkN ((mkN (re.v + re.v)).v + l.v / 2 ^ k % 2)) b) ?_; conv => whnf) | (refine Pick.mk (fun h => ?_) (fun h => ?_) <;> conv => whnf) | (refine Cond.mk (fun h => ?_) (fun h => ?_) <;> conv => whnf))
        all_goals
          rw [hw1]
          apply hw [0, 1, 2, 3, 4, 5, 6] [false, false, false, true, true, true, true, true, true, true, true, true] _ _ (by decide)
        · exact go1 (over (of_decide_eq_true h))
        · rename_i h1
          exact go1 (cmp (of_decide_eq_false h1) (by rw [cond_false] at h; exact of_decide_eq_true h))
        · rename_i h1
          exact ih q _ (by omega) (stay (of_decide_eq_false h1) (by rw [cond_false] at h; exact of_decide_eq_false h))
      · have hb := qbit1 (q := q) hr hQ0 (by rw [← hjr]; exact hQ)
        rw [← hjr] at hb
        have go1 := fun (h : b.v ≤ 2 * re.v + l.v / 2 ^ k % 2) => ih (mkN (q.v + 2 ^ k)) (mkN ((mkN ((mkN (re.v + re.v)).v + l.v / 2 ^ k % 2)).v - b.v)) (by omega) (sub h)
        rw [hb.2] at go1
        apply hs
        conv => whnf
        refine Cond.tt (decT (by omega)) ?_
        (conv => whnf) <;> repeat' (first | (rw [o0, o1, o2, o3]; conv => whnf) | (rw [hq]; conv => whnf) | (rw [hm]; conv => whnf) | (rw [hb.1]; conv => whnf) | (refine Need.mk (by first | decide | omega | (simp; done) | (simp; omega)) ?_; conv => whnf) | (refine Cond.tt rfl ?_; conv => whnf) | (refine Cond.ff rfl ?_; conv => whnf) | (refine Pick.tt rfl ?_; conv => whnf) | (refine Pick.ff rfl ?_; conv => whnf) | (refine Called.mk _ _ (rAdd_ret re re) ?_; conv => whnf) | (refine Called.mk _ _ (Bit_ret l k (by omega)) ?_; conv => whnf) | (refine Called.mk _ _ (rCmp_ret (mkN ((mkN (re.v + re.v)).v + l.v / 2 ^ k % 2)) b) ?_; conv => whnf) | (refine Called.mk _ _ (rSub_ret (mkN ((mkN (re.v + re.v)).v + l.v / 2 ^ k % 2)) b) ?_; conv => whnf) | (refine Pick.mk (fun h => ?_) (fun h => ?_) <;> conv => whnf) | (refine Cond.mk (fun h => ?_) (fun h => ?_) <;> conv => whnf))
        all_goals
          rw [hw1]
          apply hw [0, 1, 2, 3, 4, 5, 6] [false, false, false, true, true, true, true, true, true, true, true, true] _ _ (by decide)
        · exact go1 (over (of_decide_eq_true h))
        · rename_i h1
          exact go1 (cmp (of_decide_eq_false h1) (by rw [cond_false] at h; exact of_decide_eq_true h))
        · rename_i h1
          exact ih q _ (by omega) (stay (of_decide_eq_false h1) (by rw [cond_false] at h; exact of_decide_eq_false h))
      · have hb := qbit2 (q := q) hr hQ0 (by rw [← hjr]; exact hQ)
        rw [← hjr] at hb
        have go1 := fun (h : b.v ≤ 2 * re.v + l.v / 2 ^ k % 2) => ih (mkN (q.v + 2 ^ k)) (mkN ((mkN ((mkN (re.v + re.v)).v + l.v / 2 ^ k % 2)).v - b.v)) (by omega) (sub h)
        rw [hb.2] at go1
        apply hs
        conv => whnf
        refine Cond.tt (decT (by omega)) ?_
        (conv => whnf) <;> repeat' (first | (rw [o0, o1, o2, o3]; conv => whnf) | (rw [hq]; conv => whnf) | (rw [hm]; conv => whnf) | (rw [hb.1]; conv => whnf) | (refine Need.mk (by first | decide | omega | (simp; done) | (simp; omega)) ?_; conv => whnf) | (refine Cond.tt rfl ?_; conv => whnf) | (refine Cond.ff rfl ?_; conv => whnf) | (refine Pick.tt rfl ?_; conv => whnf) | (refine Pick.ff rfl ?_; conv => whnf) | (refine Called.mk _ _ (rAdd_ret re re) ?_; conv => whnf) | (refine Called.mk _ _ (Bit_ret l k (by omega)) ?_; conv => whnf) | (refine Called.mk _ _ (rCmp_ret (mkN ((mkN (re.v + re.v)).v + l.v / 2 ^ k % 2)) b) ?_; conv => whnf) | (refine Called.mk _ _ (rSub_ret (mkN ((mkN (re.v + re.v)).v + l.v / 2 ^ k % 2)) b) ?_; conv => whnf) | (refine Pick.mk (fun h => ?_) (fun h => ?_) <;> conv => whnf) | (refine Cond.mk (fun h => ?_) (fun h => ?_) <;> conv => whnf))
        all_goals
          rw [hw1]
          apply hw [0, 1, 2, 3, 4, 5, 6] [false, false, false, true, true, true, true, true, true, true, true, true] _ _ (by decide)
        · exact go1 (over (of_decide_eq_true h))
        · rename_i h1
          exact go1 (cmp (of_decide_eq_false h1) (by rw [cond_false] at h; exact of_decide_eq_true h))
        · rename_i h1
          exact ih q _ (by omega) (stay (of_decide_eq_false h1) (by rw [cond_false] at h; exact of_decide_eq_false h))
      · have hb := qbit3 (q := q) hr hQ0 (by rw [← hjr]; exact hQ)
        rw [← hjr] at hb
        have go1 := fun (h : b.v ≤ 2 * re.v + l.v / 2 ^ k % 2) => ih (mkN (q.v + 2 ^ k)) (mkN ((mkN ((mkN (re.v + re.v)).v + l.v / 2 ^ k % 2)).v - b.v)) (by omega) (sub h)
        rw [hb.2] at go1
        apply hs
        conv => whnf
        refine Cond.tt (decT (by omega)) ?_
        (conv => whnf) <;> repeat' (first | (rw [o0, o1, o2, o3]; conv => whnf) | (rw [hq]; conv => whnf) | (rw [hm]; conv => whnf) | (rw [hb.1]; conv => whnf) | (refine Need.mk (by first | decide | omega | (simp; done) | (simp; omega)) ?_; conv => whnf) | (refine Cond.tt rfl ?_; conv => whnf) | (refine Cond.ff rfl ?_; conv => whnf) | (refine Pick.tt rfl ?_; conv => whnf) | (refine Pick.ff rfl ?_; conv => whnf) | (refine Called.mk _ _ (rAdd_ret re re) ?_; conv => whnf) | (refine Called.mk _ _ (Bit_ret l k (by omega)) ?_; conv => whnf) | (refine Called.mk _ _ (rCmp_ret (mkN ((mkN (re.v + re.v)).v + l.v / 2 ^ k % 2)) b) ?_; conv => whnf) | (refine Called.mk _ _ (rSub_ret (mkN ((mkN (re.v + re.v)).v + l.v / 2 ^ k % 2)) b) ?_; conv => whnf) | (refine Pick.mk (fun h => ?_) (fun h => ?_) <;> conv => whnf) | (refine Cond.mk (fun h => ?_) (fun h => ?_) <;> conv => whnf))
        all_goals
          rw [hw1]
          apply hw [0, 1, 2, 3, 4, 5, 6] [false, false, false, true, true, true, true, true, true, true, true, true] _ _ (by decide)
        · exact go1 (over (of_decide_eq_true h))
        · rename_i h1
          exact go1 (cmp (of_decide_eq_false h1) (by rw [cond_false] at h; exact of_decide_eq_true h))
        · rename_i h1
          exact ih q _ (by omega) (stay (of_decide_eq_false h1) (by rw [cond_false] at h; exact of_decide_eq_false h))
  apply hw [0, 1, 2, 3, 4, 5, 6] [false, false, false, true, true, true, true, true, true, true, true, true] _ _ (by decide)
  exact key 256 N0 x (by omega) (RInv.start ⟨x.h.1, hb⟩ l.h)
end Go.Proofs.Ytenlkhlkohnmkaa
