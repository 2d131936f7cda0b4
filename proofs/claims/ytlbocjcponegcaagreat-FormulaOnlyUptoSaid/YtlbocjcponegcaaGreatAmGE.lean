/- exciselaw01: live. -/
import Derived.Test.YtlbocjcponegcaaGreatAmGB
import Derived.Test.YtlbocjcponegcaaGreatAmGC
set_option linter.unusedVariables false
set_option linter.unusedSimpArgs false
set_option maxRecDepth 100000
namespace Go.Proofs.YtlbocjcponegcaaGreat
open Go.AM
end Go.Proofs.YtlbocjcponegcaaGreat

set_option linter.unusedVariables false
set_option linter.unusedSimpArgs false
set_option maxRecDepth 100000
namespace Go.Proofs.YtlbocjcponegcaaGreat
open Go.AM
end Go.Proofs.YtlbocjcponegcaaGreat

set_option linter.unusedVariables false
set_option linter.unusedSimpArgs false
set_option maxRecDepth 100000
namespace Go.Proofs.YtlbocjcponegcaaGreat
open Go.AM
end Go.Proofs.YtlbocjcponegcaaGreat

set_option linter.unusedVariables false
set_option linter.unusedSimpArgs false
set_option maxRecDepth 100000
namespace Go.Proofs.YtlbocjcponegcaaGreat
open Go.AM
/-- how many bits -/
def blen (n : Nat) : Nat := if n = 0 then 0 else n.log2 + 1
theorem blen_of {n k : Nat} (h0 : 2 ^ k ≤ n) (h1 : n < 2 ^ (k + 1)) : blen n = k + 1 := by
  have hn : n ≠ 0 := by have := Nat.pow_pos (n := k) (show 0 < 2 by decide); omega
  unfold blen
  rw [if_neg hn]
  have a := (Nat.le_log2 hn).2 h0
  have b := (Nat.log2_lt hn).2 h1
  omega
theorem blen_bounds {n : Nat} (hn : n ≠ 0) : ∃ k, blen n = k + 1 ∧ 2 ^ k ≤ n ∧ n < 2 ^ (k + 1) := by
  refine ⟨n.log2, by unfold blen; rw [if_neg hn], Nat.log2_self_le hn, Nat.lt_log2_self⟩
theorem blen_half {n : Nat} (hn : n ≠ 0) : blen n = 1 + blen (n / 2) := by
  obtain ⟨k, e, h0, h1⟩ := blen_bounds hn
  cases k with
  | zero =>
    have : n = 1 := by simp at h0 h1; omega
    subst this; rfl
  | succ k =>
    rw [e, blen_of (n := n / 2) (k := k)]
    · omega
    · rw [Nat.pow_succ] at h0; omega
    · rw [Nat.pow_succ] at h1; omega
theorem blen_join {x y : Nat} (hy : y < 18446744073709551616) : blen (y + 18446744073709551616 * x) = if x = 0 then blen y else 64 + blen x := by
  split
  · rename_i h; subst h; rw [Nat.mul_zero, Nat.add_zero]
  · rename_i h
    obtain ⟨k, e, h0, h1⟩ := blen_bounds h
    rw [e, show 64 + (k + 1) = (64 + k) + 1 by omega]
    have e64 : (18446744073709551616 : Nat) = 2 ^ 64 := by decide
    apply blen_of
    · rw [Nat.pow_add, e64]
      have := Nat.mul_le_mul_left (2 ^ 64) h0; omega
    · rw [show 64 + k + 1 = 64 + (k + 1) by omega, Nat.pow_add]
      have : 2 ^ 64 * (x + 1) ≤ 2 ^ 64 * 2 ^ (k + 1) := Nat.mul_le_mul_left _ (by omega)
      rw [Nat.mul_add, Nat.mul_one] at this
      rw [e64] at hy ⊢
      omega
def bfin (x k n : Nat) : Nat := if x = 0 then n else k + blen x
set_option maxHeartbeats 2000000 in
theorem Bits_ret (a : N) : Ret Tryz.prog 73 [eN a] [] (.int .i64 (blen a.v.toNat : Nat)) [] := by
  have g0 := l0_U a; have g1 := l1_U a; have g2 := l2_U a; have g3 := l3_U a
  have ea := limbs_v a
  obtain ⟨x0, ex0⟩ := Int.eq_ofNat_of_zero_le g0.1
  obtain ⟨x1, ex1⟩ := Int.eq_ofNat_of_zero_le g1.1
  obtain ⟨x2, ex2⟩ := Int.eq_ofNat_of_zero_le g2.1
  obtain ⟨x3, ex3⟩ := Int.eq_ofNat_of_zero_le g3.1
  have total : blen a.v.toNat = bfin x3 192 (bfin x2 128 (bfin x1 64 (bfin x0 0 0))) := by
    have e : a.v.toNat = x0 + 18446744073709551616 * (x1 + 18446744073709551616 * (x2 + 18446744073709551616 * x3)) := by
      rw [ea]; unfold val4; omega
    unfold U at *
    rw [e, blen_join (by omega), blen_join (by omega), blen_join (by omega)]
    unfold bfin
    repeat' split
    all_goals simp_all [blen] <;> omega
  refine ret_of_body atNone tok mixed Tryz.func73 (by kernel_rfl) rfl (k := 23) (rs := [.tmp 2]) (by kernel_rfl) (by kernel_rfl) ?_
  (conv => whnf) <;> repeat' (first | ((first | refine wN ?_ | refine wNc ?_ | refine wA ?_ | refine wB ?_ | refine wC ?_ | refine wD ?_); conv => whnf) | ((first | apply Pick.mk | apply Cond.mk) <;> intro h <;> conv => whnf))
  intro I hw hs
  have o4 : ∀ n : Nat, blen a.v.toNat = n → I [.und, .und, .und, .int .i64 (n : Nat), .und, .und, .und, eN a, .int .i64 4, .und, .und, .und, .und, .und, .und, .und, .und, .und, .und, .und, .und, .und, .und] [.cells (cN a)] := by
    intro n hn
    apply hs
    conv => whnf
    (repeat (first | (refine Cond.tt rfl ?_; conv => whnf) | (refine Cond.ff rfl ?_; conv => whnf) | (refine Pick.tt rfl ?_; conv => whnf) | (refine Pick.ff rfl ?_; conv => whnf) | (refine Need.mk (by decide) ?_; conv => whnf)))
    rw [hn]
    exact End.mk rfl rfl
  have o3 : ∀ n : Nat, blen a.v.toNat = bfin x3 192 (n) → I [.und, .und, .und, .int .i64 (n : Nat), .und, .und, .und, eN a, .int .i64 3, .und, .und, .und, .und, .und, .und, .und, .und, .und, .und, .und, .und, .und, .und] [.cells (cN a)] := by
    intro n hn
    apply hs
    conv => whnf
    (repeat (first | (refine Cond.tt rfl ?_; conv => whnf) | (refine Cond.ff rfl ?_; conv => whnf) | (refine Pick.tt rfl ?_; conv => whnf) | (refine Pick.ff rfl ?_; conv => whnf) | (refine Need.mk (by decide) ?_; conv => whnf)))
    rw [show IntKind.i64.wrap (64 * 3) = ((192 : Nat) : Int) from by decide]
    intro J jw js
    have inner : ∀ (m : Nat) (x k n : Nat), x < 2 ^ m → k + m ≤ 256 → (∀ k', J [.und, .und, .und, .int .i64 (bfin x k n : Nat), .und, .int .u64 0, .int .i64 k', eN a, .int .i64 3, .und, .und, .und, .und, .und, .und, .und, .und, .und, .und, .und, .und, .und, .und] [.cells (cN a)]) →
        J [.und, .und, .und, .int .i64 (n : Nat), .und, .int .u64 (x : Nat), .int .i64 (k : Nat), eN a, .int .i64 3, .und, .und, .und, .und, .und, .und, .und, .und, .und, .und, .und, .und, .und, .und] [.cells (cN a)] := by
      intro m
      induction m with
      | zero =>
        intro x k n hx _ hJ
        have : x = 0 := by simpa using hx
        subst this
        exact hJ _
      | succ m ih =>
        intro x k n hx hk hJ
        rcases Nat.eq_zero_or_pos x with h0 | h0
        · subst h0; exact hJ _
        · apply js
          conv => whnf
          refine Cond.tt (decT (by omega)) ?_
          (conv => whnf) <;> repeat' (first | ((first | refine wN ?_ | refine wNc ?_ | refine wA ?_ | refine wB ?_ | refine wC ?_ | refine wD ?_); conv => whnf) | ((first | apply Pick.mk | apply Cond.mk) <;> intro h <;> conv => whnf))
          rw [show (x : Int).fdiv (2 ^ min (Int.toNat 1) IntKind.u64.bits) = ((x / 2 : Nat) : Int) by rw [show (2 : Int) ^ min (Int.toNat 1) IntKind.u64.bits = 2 from by decide, fdiv_pos _ (by decide)]; omega,
            show IntKind.i64.wrap ((k : Int) + 1) = ((k + 1 : Nat) : Int) by rw [wi64_id (by omega) (by omega)]; omega]
          apply jw [0] [false, false, false, true, false, true, true, true, true] _ _ (by decide)
          refine ih (x / 2) (k + 1) (k + 1) (by have := Nat.pow_pos (n := m) (show 0 < 2 by decide); rw [Nat.pow_succ] at hx; omega) (by omega) ?_
          have e : bfin (x / 2) (k + 1) (k + 1) = bfin x k n := by
            have e2 : bfin x k n = k + blen x := if_neg (by omega)
            rw [e2, blen_half (by omega : x ≠ 0)]
            unfold bfin
            split
            · rename_i h; rw [h]; simp [blen]
            · omega
          rw [e]; exact hJ
    have fin : ∀ k', J [.und, .und, .und, .int .i64 (bfin x3 192 n : Nat), .und, .int .u64 0, .int .i64 k', eN a, .int .i64 3, .und, .und, .und, .und, .und, .und, .und, .und, .und, .und, .und, .und, .und, .und] [.cells (cN a)] := fun k' => by
      apply js
      conv => whnf
      (repeat (first | (refine Cond.tt rfl ?_; conv => whnf) | (refine Cond.ff rfl ?_; conv => whnf) | (refine Pick.tt rfl ?_; conv => whnf) | (refine Pick.ff rfl ?_; conv => whnf) | (refine Need.mk (by decide) ?_; conv => whnf)))
      apply hw [0] [false, false, false, true, false, false, false, true, true] _ _ (by decide)
      exact o4 (bfin x3 192 n) hn
    have start := inner 64 x3 192 n (by unfold U at g3; omega) (by omega) fin
    rw [← ex3] at start
    apply jw [0] [false, false, false, true, false, true, true, true, true] _ _ (by decide)
    exact start
  have o2 : ∀ n : Nat, blen a.v.toNat = bfin x3 192 (bfin x2 128 (n)) → I [.und, .und, .und, .int .i64 (n : Nat), .und, .und, .und, eN a, .int .i64 2, .und, .und, .und, .und, .und, .und, .und, .und, .und, .und, .und, .und, .und, .und] [.cells (cN a)] := by
    intro n hn
    apply hs
    conv => whnf
    (repeat (first | (refine Cond.tt rfl ?_; conv => whnf) | (refine Cond.ff rfl ?_; conv => whnf) | (refine Pick.tt rfl ?_; conv => whnf) | (refine Pick.ff rfl ?_; conv => whnf) | (refine Need.mk (by decide) ?_; conv => whnf)))
    rw [show IntKind.i64.wrap (64 * 2) = ((128 : Nat) : Int) from by decide]
    intro J jw js
    have inner : ∀ (m : Nat) (x k n : Nat), x < 2 ^ m → k + m ≤ 256 → (∀ k', J [.und, .und, .und, .int .i64 (bfin x k n : Nat), .und, .int .u64 0, .int .i64 k', eN a, .int .i64 2, .und, .und, .und, .und, .und, .und, .und, .und, .und, .und, .und, .und, .und, .und] [.cells (cN a)]) →
        J [.und, .und, .und, .int .i64 (n : Nat), .und, .int .u64 (x : Nat), .int .i64 (k : Nat), eN a, .int .i64 2, .und, .und, .und, .und, .und, .und, .und, .und, .und, .und, .und, .und, .und, .und] [.cells (cN a)] := by
      intro m
      induction m with
      | zero =>
        intro x k n hx _ hJ
        have : x = 0 := by simpa using hx
        subst this
        exact hJ _
      | succ m ih =>
        intro x k n hx hk hJ
        rcases Nat.eq_zero_or_pos x with h0 | h0
        · subst h0; exact hJ _
        · apply js
          conv => whnf
          refine Cond.tt (decT (by omega)) ?_
          (conv => whnf) <;> repeat' (first | ((first | refine wN ?_ | refine wNc ?_ | refine wA ?_ | refine wB ?_ | refine wC ?_ | refine wD ?_); conv => whnf) | ((first | apply Pick.mk | apply Cond.mk) <;> intro h <;> conv => whnf))
          rw [show (x : Int).fdiv (2 ^ min (Int.toNat 1) IntKind.u64.bits) = ((x / 2 : Nat) : Int) by rw [show (2 : Int) ^ min (Int.toNat 1) IntKind.u64.bits = 2 from by decide, fdiv_pos _ (by decide)]; omega,
            show IntKind.i64.wrap ((k : Int) + 1) = ((k + 1 : Nat) : Int) by rw [wi64_id (by omega) (by omega)]; omega]
          apply jw [0] [false, false, false, true, false, true, true, true, true] _ _ (by decide)
          refine ih (x / 2) (k + 1) (k + 1) (by have := Nat.pow_pos (n := m) (show 0 < 2 by decide); rw [Nat.pow_succ] at hx; omega) (by omega) ?_
          have e : bfin (x / 2) (k + 1) (k + 1) = bfin x k n := by
            have e2 : bfin x k n = k + blen x := if_neg (by omega)
            rw [e2, blen_half (by omega : x ≠ 0)]
            unfold bfin
            split
            · rename_i h; rw [h]; simp [blen]
            · omega
          rw [e]; exact hJ
    have fin : ∀ k', J [.und, .und, .und, .int .i64 (bfin x2 128 n : Nat), .und, .int .u64 0, .int .i64 k', eN a, .int .i64 2, .und, .und, .und, .und, .und, .und, .und, .und, .und, .und, .und, .und, .und, .und] [.cells (cN a)] := fun k' => by
      apply js
      conv => whnf
      (repeat (first | (refine Cond.tt rfl ?_; conv => whnf) | (refine Cond.ff rfl ?_; conv => whnf) | (refine Pick.tt rfl ?_; conv => whnf) | (refine Pick.ff rfl ?_; conv => whnf) | (refine Need.mk (by decide) ?_; conv => whnf)))
      apply hw [0] [false, false, false, true, false, false, false, true, true] _ _ (by decide)
      exact o3 (bfin x2 128 n) hn
    have start := inner 64 x2 128 n (by unfold U at g2; omega) (by omega) fin
    rw [← ex2] at start
    apply jw [0] [false, false, false, true, false, true, true, true, true] _ _ (by decide)
    exact start
  have o1 : ∀ n : Nat, blen a.v.toNat = bfin x3 192 (bfin x2 128 (bfin x1 64 (n))) → I [.und, .und, .und, .int .i64 (n : Nat), .und, .und, .und, eN a, .int .i64 1, .und, .und, .und, .und, .und, .und, .und, .und, .und, .und, .und, .und, .und, .und] [.cells (cN a)] := by
    intro n hn
    apply hs
    conv => whnf
    (repeat (first | (refine Cond.tt rfl ?_; conv => whnf) | (refine Cond.ff rfl ?_; conv => whnf) | (refine Pick.tt rfl ?_; conv => whnf) | (refine Pick.ff rfl ?_; conv => whnf) | (refine Need.mk (by decide) ?_; conv => whnf)))
    rw [show IntKind.i64.wrap (64 * 1) = ((64 : Nat) : Int) from by decide]
    intro J jw js
    have inner : ∀ (m : Nat) (x k n : Nat), x < 2 ^ m → k + m ≤ 256 → (∀ k', J [.und, .und, .und, .int .i64 (bfin x k n : Nat), .und, .int .u64 0, .int .i64 k', eN a, .int .i64 1, .und, .und, .und, .und, .und, .und, .und, .und, .und, .und, .und, .und, .und, .und] [.cells (cN a)]) →
        J [.und, .und, .und, .int .i64 (n : Nat), .und, .int .u64 (x : Nat), .int .i64 (k : Nat), eN a, .int .i64 1, .und, .und, .und, .und, .und, .und, .und, .und, .und, .und, .und, .und, .und, .und] [.cells (cN a)] := by
      intro m
      induction m with
      | zero =>
        intro x k n hx _ hJ
        have : x = 0 := by simpa using hx
        subst this
        exact hJ _
      | succ m ih =>
        intro x k n hx hk hJ
        rcases Nat.eq_zero_or_pos x with h0 | h0
        · subst h0; exact hJ _
        · apply js
          conv => whnf
          refine Cond.tt (decT (by omega)) ?_
          (conv => whnf) <;> repeat' (first | ((first | refine wN ?_ | refine wNc ?_ | refine wA ?_ | refine wB ?_ | refine wC ?_ | refine wD ?_); conv => whnf) | ((first | apply Pick.mk | apply Cond.mk) <;> intro h <;> conv => whnf))
          rw [show (x : Int).fdiv (2 ^ min (Int.toNat 1) IntKind.u64.bits) = ((x / 2 : Nat) : Int) by rw [show (2 : Int) ^ min (Int.toNat 1) IntKind.u64.bits = 2 from by decide, fdiv_pos _ (by decide)]; omega,
            show IntKind.i64.wrap ((k : Int) + 1) = ((k + 1 : Nat) : Int) by rw [wi64_id (by omega) (by omega)]; omega]
          apply jw [0] [false, false, false, true, false, true, true, true, true] _ _ (by decide)
          refine ih (x / 2) (k + 1) (k + 1) (by have := Nat.pow_pos (n := m) (show 0 < 2 by decide); rw [Nat.pow_succ] at hx; omega) (by omega) ?_
          have e : bfin (x / 2) (k + 1) (k + 1) = bfin x k n := by
            have e2 : bfin x k n = k + blen x := if_neg (by omega)
            rw [e2, blen_half (by omega : x ≠ 0)]
            unfold bfin
            split
            · rename_i h; rw [h]; simp [blen]
            · omega
          rw [e]; exact hJ
    have fin : ∀ k', J [.und, .und, .und, .int .i64 (bfin x1 64 n : Nat), .und, .int .u64 0, .int .i64 k', eN a, .int .i64 1, .und, .und, .und, .und, .und, .und, .und, .und, .und, .und, .und, .und, .und, .und] [.cells (cN a)] := fun k' => by
      apply js
      conv => whnf
      (repeat (first | (refine Cond.tt rfl ?_; conv => whnf) | (refine Cond.ff rfl ?_; conv => whnf) | (refine Pick.tt rfl ?_; conv => whnf) | (refine Pick.ff rfl ?_; conv => whnf) | (refine Need.mk (by decide) ?_; conv => whnf)))
      apply hw [0] [false, false, false, true, false, false, false, true, true] _ _ (by decide)
      exact o2 (bfin x1 64 n) hn
    have start := inner 64 x1 64 n (by unfold U at g1; omega) (by omega) fin
    rw [← ex1] at start
    apply jw [0] [false, false, false, true, false, true, true, true, true] _ _ (by decide)
    exact start
  have o0 : ∀ n : Nat, blen a.v.toNat = bfin x3 192 (bfin x2 128 (bfin x1 64 (bfin x0 0 (n)))) → I [.und, .und, .und, .int .i64 (n : Nat), .und, .und, .und, eN a, .int .i64 0, .und, .und, .und, .und, .und, .und, .und, .und, .und, .und, .und, .und, .und, .und] [.cells (cN a)] := by
    intro n hn
    apply hs
    conv => whnf
    (repeat (first | (refine Cond.tt rfl ?_; conv => whnf) | (refine Cond.ff rfl ?_; conv => whnf) | (refine Pick.tt rfl ?_; conv => whnf) | (refine Pick.ff rfl ?_; conv => whnf) | (refine Need.mk (by decide) ?_; conv => whnf)))
    rw [show IntKind.i64.wrap (64 * 0) = ((0 : Nat) : Int) from by decide]
    intro J jw js
    have inner : ∀ (m : Nat) (x k n : Nat), x < 2 ^ m → k + m ≤ 256 → (∀ k', J [.und, .und, .und, .int .i64 (bfin x k n : Nat), .und, .int .u64 0, .int .i64 k', eN a, .int .i64 0, .und, .und, .und, .und, .und, .und, .und, .und, .und, .und, .und, .und, .und, .und] [.cells (cN a)]) →
        J [.und, .und, .und, .int .i64 (n : Nat), .und, .int .u64 (x : Nat), .int .i64 (k : Nat), eN a, .int .i64 0, .und, .und, .und, .und, .und, .und, .und, .und, .und, .und, .und, .und, .und, .und] [.cells (cN a)] := by
      intro m
      induction m with
      | zero =>
        intro x k n hx _ hJ
        have : x = 0 := by simpa using hx
        subst this
        exact hJ _
      | succ m ih =>
        intro x k n hx hk hJ
        rcases Nat.eq_zero_or_pos x with h0 | h0
        · subst h0; exact hJ _
        · apply js
          conv => whnf
          refine Cond.tt (decT (by omega)) ?_
          (conv => whnf) <;> repeat' (first | ((first | refine wN ?_ | refine wNc ?_ | refine wA ?_ | refine wB ?_ | refine wC ?_ | refine wD ?_); conv => whnf) | ((first | apply Pick.mk | apply Cond.mk) <;> intro h <;> conv => whnf))
          rw [show (x : Int).fdiv (2 ^ min (Int.toNat 1) IntKind.u64.bits) = ((x / 2 : Nat) : Int) by rw [show (2 : Int) ^ min (Int.toNat 1) IntKind.u64.bits = 2 from by decide, fdiv_pos _ (by decide)]; omega,
            show IntKind.i64.wrap ((k : Int) + 1) = ((k + 1 : Nat) : Int) by rw [wi64_id (by omega) (by omega)]; omega]
          apply jw [0] [false, false, false, true, false, true, true, true, true] _ _ (by decide)
          refine ih (x / 2) (k + 1) (k + 1) (by have := Nat.pow_pos (n := m) (show 0 < 2 by decide); rw [Nat.pow_succ] at hx; omega) (by omega) ?_
          have e : bfin (x / 2) (k + 1) (k + 1) = bfin x k n := by
            have e2 : bfin x k n = k + blen x := if_neg (by omega)
            rw [e2, blen_half (by omega : x ≠ 0)]
            unfold bfin
            split
            · rename_i h; rw [h]; simp [blen]
            · omega
          rw [e]; exact hJ
    have fin : ∀ k', J [.und, .und, .und, .int .i64 (bfin x0 0 n : Nat), .und, .int .u64 0, .int .i64 k', eN a, .int .i64 0, .und, .und, .und, .und, .und, .und, .und, .und, .und, .und, .und, .und, .und, .und] [.cells (cN a)] := fun k' => by
      apply js
      conv => whnf
      (repeat (first | (refine Cond.tt rfl ?_; conv => whnf) | (refine Cond.ff rfl ?_; conv => whnf) | (refine Pick.tt rfl ?_; conv => whnf) | (refine Pick.ff rfl ?_; conv => whnf) | (refine Need.mk (by decide) ?_; conv => whnf)))
      apply hw [0] [false, false, false, true, false, false, false, true, true] _ _ (by decide)
      exact o1 (bfin x0 0 n) hn
    have start := inner 64 x0 0 n (by unfold U at g0; omega) (by omega) fin
    rw [← ex0] at start
    apply jw [0] [false, false, false, true, false, true, true, true, true] _ _ (by decide)
    exact start
  apply hw [0] [false, false, false, true, false, false, false, true, true] _ _ (by decide)
  exact o0 0 total
end Go.Proofs.YtlbocjcponegcaaGreat

