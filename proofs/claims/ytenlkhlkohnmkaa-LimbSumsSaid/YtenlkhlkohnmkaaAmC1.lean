/- exciseref01.Bit, Div. -/
import Derived.Test.YtenlkhlkohnmkaaAmC0
set_option linter.unusedVariables false
set_option linter.unusedSimpArgs false
set_option maxRecDepth 100000
namespace Go.Proofs.Ytenlkhlkohnmkaa
open Go.AM
theorem and1 {x : Int} (h : 0 ≤ x ∧ x < 18446744073709551616) : IntKind.u64.wrap ((BitVec.ofInt IntKind.u64.bits x &&& BitVec.ofInt IntKind.u64.bits 1).toNat : Int) = x % 2 := by
  obtain ⟨n, rfl⟩ := Int.eq_ofNat_of_zero_le h.1
  have e1 : IntKind.u64.bits = 64 := rfl
  have e2 : BitVec.ofInt 64 1 = BitVec.ofNat 64 1 := by decide
  rw [e1, BitVec.ofInt_natCast, e2, BitVec.toNat_and, BitVec.toNat_ofNat, BitVec.toNat_ofNat, Nat.mod_eq_of_lt (by omega : n < 2 ^ 64), show 1 % 2 ^ 64 = 1 from by decide, Nat.and_one_is_mod, w64]
  omega
theorem bit_mod (n r : Nat) (hr : r < 64) : (n % 2 ^ 64) / 2 ^ r % 2 = n / 2 ^ r % 2 := by
  have h := Nat.testBit_mod_two_pow n 64 r
  rw [Nat.testBit_eq_decide_div_mod_eq, Nat.testBit_eq_decide_div_mod_eq, decide_eq_true hr, Bool.true_and, decide_eq_decide] at h
  have h1 := Nat.mod_two_eq_zero_or_one (n % 2 ^ 64 / 2 ^ r)
  have h2 := Nat.mod_two_eq_zero_or_one (n / 2 ^ r)
  omega
/-- bit 64 j + r of a number, in its limb -/
theorem limb_bit (n j r : Nat) (hr : r < 64) : n / 2 ^ (64 * j) % 2 ^ 64 / 2 ^ r % 2 = n / 2 ^ (64 * j + r) % 2 := by
  rw [bit_mod _ _ hr, Nat.div_div_eq_div_mul, ← Nat.pow_add]
theorem tq (j r : Nat) (hr : r < 64) : Int.tdiv ((64 * j + r : Nat) : Int) 64 = (j : Int) := by
  rw [Int.tdiv_eq_ediv_of_nonneg (by omega)]; omega
theorem tr (j r : Nat) (hr : r < 64) : Int.tmod ((64 * j + r : Nat) : Int) 64 = (r : Int) := by
  rw [Int.tmod_eq_emod_of_nonneg (by omega)]; omega
theorem shr_r (x : Int) (r : Nat) (hr : r < 64) : x.fdiv (2 ^ min (Int.toNat (r : Int)) IntKind.u64.bits) = x / 2 ^ r := by
  have e : min (Int.toNat (r : Int)) IntKind.u64.bits = r := by
    have : IntKind.u64.bits = 64 := rfl
    rw [this, Int.toNat_natCast]; omega
  rw [e, fdiv_pos _ (Int.pow_pos (by decide))]
theorem shl_r (r : Nat) (hr : r < 64) : IntKind.u64.wrap (1 * 2 ^ min (Int.toNat (r : Int)) IntKind.u64.bits) = 2 ^ r := by
  have e : min (Int.toNat (r : Int)) IntKind.u64.bits = r := by
    have : IntKind.u64.bits = 64 := rfl
    rw [this, Int.toNat_natCast]; omega
  have h : 2 ^ r < 2 ^ 64 := Nat.pow_lt_pow_right (by decide) hr
  have hc : ((2 : Int) ^ r) = ((2 ^ r : Nat) : Int) := (Int.natCast_pow 2 r).symm
  rw [e, Int.one_mul, hc, w64]
  exact Int.emod_eq_of_lt (Int.natCast_nonneg _) (Int.ofNat_lt.2 h)
theorem bit_of {x : Int} {a : N} {j r : Nat} (hr : r < 64) (hx : x = ((a.v.toNat / 2 ^ (64 * j) % 2 ^ 64 : Nat) : Int)) : IntKind.u64.wrap ((BitVec.ofInt IntKind.u64.bits (x.fdiv (2 ^ min (Int.toNat (r : Int)) IntKind.u64.bits)) &&& BitVec.ofInt IntKind.u64.bits 1).toNat : Int) = a.v / 2 ^ (64 * j + r) % 2 := by
  have hc : ∀ k : Nat, ((2 : Int) ^ k) = ((2 ^ k : Nat) : Int) := fun k => (Int.natCast_pow 2 k).symm
  have ha : a.v = (a.v.toNat : Int) := (Int.toNat_of_nonneg a.h.1).symm
  rw [shr_r _ _ hr, hx, hc r, ← Int.natCast_ediv]
  have hlt : a.v.toNat / 2 ^ (64 * j) % 2 ^ 64 / 2 ^ r < 2 ^ 64 := Nat.lt_of_le_of_lt (Nat.div_le_self _ _) (Nat.mod_lt _ (by decide))
  rw [and1 ⟨Int.natCast_nonneg _, Int.ofNat_lt.2 hlt⟩]
  have h := limb_bit a.v.toNat j r hr
  generalize hb : a.v.toNat / 2 ^ (64 * j) % 2 ^ 64 / 2 ^ r = y at *
  have e2 : a.v / 2 ^ (64 * j + r) = ((a.v.toNat / 2 ^ (64 * j + r) : Nat) : Int) := by rw [hc, Int.natCast_ediv, ← ha]
  rw [e2]
  omega
theorem l0_nat (a : N) : l0 a = ((a.v.toNat / 2 ^ (64 * 0) % 2 ^ 64 : Nat) : Int) := by
  have ha := a.h.1
  have : 2 ^ (64 * 0) = 1 := rfl
  rw [this, Nat.div_one]; unfold l0; omega
theorem l1_nat (a : N) : l1 a = ((a.v.toNat / 2 ^ (64 * 1) % 2 ^ 64 : Nat) : Int) := by
  have ha := a.h.1
  have : 2 ^ (64 * 1) = 18446744073709551616 := by decide
  rw [this]; unfold l1; omega
theorem l2_nat (a : N) : l2 a = ((a.v.toNat / 2 ^ (64 * 2) % 2 ^ 64 : Nat) : Int) := by
  have ha := a.h.1
  have : 2 ^ (64 * 2) = 18446744073709551616 * 18446744073709551616 := by decide
  rw [this, ← Nat.div_div_eq_div_mul]; unfold l2; omega
theorem l3_nat (a : N) : l3 a = ((a.v.toNat / 2 ^ (64 * 3) % 2 ^ 64 : Nat) : Int) := by
  have ha := a.h.1
  have : 2 ^ (64 * 3) = 18446744073709551616 * 18446744073709551616 * 18446744073709551616 := by decide
  rw [this, ← Nat.div_div_eq_div_mul, ← Nat.div_div_eq_div_mul]; unfold l3; omega
theorem Bit_ret (a : N) (k : Nat) (hk : k < 256) : Ret Try.prog 56 [eN a, .int .i64 k] [] (.int .u64 (a.v / 2 ^ k % 2)) [] := by
  obtain ⟨j, r, hj, hr, rfl⟩ : ∃ j r, j < 4 ∧ r < 64 ∧ k = 64 * j + r := ⟨k / 64, k % 64, by omega, by omega, by omega⟩
  have hq := tq j r hr
  have hm := tr j r hr
  rcases (by omega : j = 0 ∨ j = 1 ∨ j = 2 ∨ j = 3) with rfl | rfl | rfl | rfl
  all_goals
    refine ret_of_body atNone tok mixed Try.func56 (by kernel_rfl) rfl (k := 13) (rs := [.tmp 4]) (by kernel_rfl) (by kernel_rfl) ?_
    (conv => whnf) <;> repeat' (first | (rw [hq]; conv => whnf) | (rw [hm]; conv => whnf) | (refine Need.mk (by first | decide | omega | (simp; done) | (simp; omega)) ?_; conv => whnf) | (refine Cond.tt rfl ?_; conv => whnf) | (refine Cond.ff rfl ?_; conv => whnf) | (refine Pick.tt rfl ?_; conv => whnf) | (refine Pick.ff rfl ?_; conv => whnf) | (refine Pick.mk (fun h => ?_) (fun h => ?_) <;> conv => whnf) | (refine Cond.mk (fun h => ?_) (fun h => ?_) <;> conv => whnf))
    refine End.mk (int_eq ?_) rfl
  · exact bit_of hr (l0_nat a)
  · exact bit_of hr (l1_nat a)
  · exact bit_of hr (l2_nat a)
  · exact bit_of hr (l3_nat a)
end Go.Proofs.Ytenlkhlkohnmkaa
