/- limb.twice, limb.Div. -/
import Derived.Test.YtenlkhlkohnmkaaAmB1
set_option linter.unusedVariables false
set_option linter.unusedSimpArgs false
set_option maxRecDepth 100000
namespace Go.Proofs.Ytenlkhlkohnmkaa
open Go.AM
theorem sh63 (x : Int) : x.fdiv (2 ^ min (Int.toNat 63) IntKind.u64.bits) = x / 9223372036854775808 := fdiv_pos x (by decide)
theorem shl1 (x : Int) : IntKind.u64.wrap (x * 2 ^ min (Int.toNat 1) IntKind.u64.bits) = 2 * x % 18446744073709551616 := by
  rw [show (2 : Int) ^ min (Int.toNat 1) IntKind.u64.bits = 2 from by decide, w64, Int.mul_comm]
/-- or, where the bits are apart -/
theorem or_apart (r : Nat) {x y : Int} (hx : U x) (hd : x % 2 ^ r = 0) (hy0 : 0 ≤ y) (hy : y < 2 ^ r) (hr : r ≤ 64) : IntKind.u64.wrap ((BitVec.ofInt IntKind.u64.bits x ||| BitVec.ofInt IntKind.u64.bits y).toNat : Int) = x + y := by
  obtain ⟨n, rfl⟩ := Int.eq_ofNat_of_zero_le hx.1
  obtain ⟨m, rfl⟩ := Int.eq_ofNat_of_zero_le hy0
  have e1 : IntKind.u64.bits = 64 := rfl
  have hp : ((2 : Int) ^ r) = ((2 ^ r : Nat) : Int) := (Int.natCast_pow 2 r).symm
  rw [hp] at hd hy
  have hm : m < 2 ^ r := by omega
  have hn : n % 2 ^ r = 0 := by
    have : ((n % 2 ^ r : Nat) : Int) = 0 := by rw [Int.natCast_emod]; exact hd
    omega
  have h64 : 2 ^ r ≤ 2 ^ 64 := Nat.pow_le_pow_right (by decide) hr
  have hn64 : n < 2 ^ 64 := by have := hx.2; omega
  have e2 : n = 2 ^ r * (n / 2 ^ r) := by have := Nat.div_add_mod n (2 ^ r); omega
  rw [e1, BitVec.ofInt_natCast, BitVec.ofInt_natCast, BitVec.toNat_or, BitVec.toNat_ofNat, BitVec.toNat_ofNat, Nat.mod_eq_of_lt hn64, Nat.mod_eq_of_lt (by omega : m < 2 ^ 64)]
  have e3 : n ||| m = n + m := by
    rw [e2]
    exact (Nat.two_pow_add_eq_or_of_lt hm (n / 2 ^ r)).symm
  have e4 : n ||| m < 2 ^ 64 := Nat.or_lt_two_pow hn64 (by omega)
  rw [e3] at e4 ⊢
  rw [w64]
  omega
theorem or_bit {x b : Int} (hb : b = 0 ∨ b = 1) : IntKind.u64.wrap ((BitVec.ofInt IntKind.u64.bits (2 * x % 18446744073709551616) ||| BitVec.ofInt IntKind.u64.bits b).toNat : Int) = 2 * x % 18446744073709551616 + b :=
  or_apart 1 (by unfold U; omega) (by omega) (by omega) (by omega) (by decide)
theorem top_bit {x : Int} (h : U x) : x / 9223372036854775808 = 0 ∨ x / 9223372036854775808 = 1 := by unfold U at h; omega
set_option maxRecDepth 100000 in
theorem twice_ret (a : N) (b : Int) (hb : b = 0 ∨ b = 1) : Ret Try.prog 59 [eN a, .int .u64 b] [] (.tup [eN (mkN (2 * a.v + b)), .int .u64 ((2 * a.v + b) / B4)]) [] := by
  have ea := limbs_v a
  have a0 := l0_U a; have a1 := l1_U a; have a2 := l2_U a; have a3 := l3_U a
  refine ret_of_body atNone tok mixed Try.func59 (by kernel_rfl) rfl (k := 27) (rs := [.cell 4 24, .tmp 5]) (by kernel_rfl) (by kernel_rfl) ?_
  (conv => whnf) <;> repeat' (first | (intro I hw hs; apply hs; conv => whnf) | (apply hs; conv => whnf) | (refine Need.mk (by first | decide | omega | (simp; done) | (simp; omega)) ?_; conv => whnf) | (refine Cond.tt rfl ?_; conv => whnf) | (refine Cond.ff rfl ?_; conv => whnf) | (refine Pick.tt rfl ?_; conv => whnf) | (refine Pick.ff rfl ?_; conv => whnf) | (refine Pick.mk (fun h => ?_) (fun h => ?_) <;> conv => whnf) | (refine Cond.mk (fun h => ?_) (fun h => ?_) <;> conv => whnf))
  clear hs hw
  simp only [sh63, shl1]
  rw [or_bit hb, or_bit (top_bit a0), or_bit (top_bit a1), or_bit (top_bit a2)]
  unfold U at *
  refine End.mk (tup_eq (cons_eq (eN_is (by unfold U; omega) (by unfold U; omega) (by unfold U; omega) (by unfold U; omega) ?_) (cons_eq (int_eq ?_) rfl))) rfl
  · rw [ea]; unfold val4 B4; omega
  · rw [ea]; unfold val4 B4; omega
theorem div_step {high low dv p s m q h re : Int} (hps : p * (2 * s) = B4) (hp : 0 < p) (hs : 0 < s) (hm : 0 ≤ m ∧ m < 2 * s) (hq : 0 ≤ q ∧ q < p) (hl : low = h * (2 * s) + m) (he : high * p + h = q * dv + re) :
    ∃ t m', (t = 0 ∨ t = 1) ∧ m = t * s + m' ∧ (2 * (m * p + q)) / B4 = t ∧ (2 * (m * p + q)) % B4 = m' * (2 * p) + 2 * q ∧ 0 ≤ m' ∧ m' < s ∧ low = (2 * h + t) * s + m' ∧ high * (2 * p) + (2 * h + t) = (2 * q) * dv + (2 * re + t) := by
  have e1 : high * (2 * p) = 2 * (high * p) := Int.mul_left_comm _ _ _
  have e2 : 2 * q * dv = 2 * (q * dv) := Int.mul_assoc _ _ _
  have e3 : h * (2 * s) = 2 * (h * s) := Int.mul_left_comm _ _ _
  have bound : ∀ m', 0 ≤ m' → m' < s → 0 ≤ m' * (2 * p) + 2 * q ∧ m' * (2 * p) + 2 * q < B4 := fun m' h0 h1 => by
    have h2 : (m' + 1) * (2 * p) ≤ s * (2 * p) := Int.mul_le_mul_of_nonneg_right (by omega) (by omega)
    have h3 : s * (2 * p) = B4 := by rw [← hps, Int.mul_left_comm, Int.mul_comm s p, Int.mul_left_comm]
    have h4 : 0 ≤ m' * (2 * p) := Int.mul_nonneg h0 (by omega)
    rw [Int.add_mul, Int.one_mul] at h2
    omega
  rcases (by omega : m < s ∨ s ≤ m) with h1 | h1
  · have hb := bound m hm.1 h1
    have e4 : 2 * (m * p + q) = m * (2 * p) + 2 * q := by rw [Int.mul_add, Int.mul_left_comm]
    refine ⟨0, m, .inl rfl, by omega, ?_, ?_, hm.1, h1, by rw [Int.add_mul, Int.mul_assoc]; omega, by omega⟩
    · rw [e4]; exact Int.ediv_eq_zero_of_lt hb.1 hb.2
    · rw [e4]; exact Int.emod_eq_of_lt hb.1 hb.2
  · have hb := bound (m - s) (by omega) (by omega)
    have e4 : 2 * (m * p + q) = B4 + ((m - s) * (2 * p) + 2 * q) := by
      have h3 : s * (2 * p) = B4 := by rw [← hps, Int.mul_left_comm, Int.mul_comm s p, Int.mul_left_comm]
      rw [Int.mul_add, Int.mul_left_comm 2 m p, Int.sub_mul, h3]; omega
    refine ⟨1, m - s, .inr rfl, by omega, ?_, ?_, by omega, by omega, by rw [Int.add_mul, Int.mul_assoc]; omega, by omega⟩
    · rw [e4, Int.add_ediv_of_dvd_left (Int.dvd_refl _), Int.ediv_self (by decide), Int.ediv_eq_zero_of_lt hb.1 hb.2]; rfl
    · rw [e4, Int.add_emod_left, Int.emod_eq_of_lt hb.1 hb.2]
theorem or_odd (X : N) (h : X.v % 2 = 0) : IntKind.u64.wrap ((BitVec.ofInt IntKind.u64.bits (l0 X) ||| BitVec.ofInt IntKind.u64.bits 1).toNat : Int) = l0 (mkN (X.v + 1)) ∧ l1 X = l1 (mkN (X.v + 1)) ∧ l2 X = l2 (mkN (X.v + 1)) ∧ l3 X = l3 (mkN (X.v + 1)) := by
  have hX := X.h
  have hW : W (X.v + 1) := by unfold W B4 at *; omega
  have e : (mkN (X.v + 1)).v = X.v + 1 := mkN_v hW
  have h0 : l0 X % 2 = 0 := by unfold l0; omega
  have hu := l0_U X
  rw [or_apart 1 hu (by omega) (by omega) (by omega) (by decide)]
  unfold l0 l1 l2 l3 at *
  rw [e]
  have e0 : (X.v + 1) / 18446744073709551616 = X.v / 18446744073709551616 := by omega
  rw [e0]
  refine ⟨by omega, rfl, rfl, rfl⟩
def DivInv (high low dv : Int) (k : Nat) (lo re : Int) : Prop := ∃ m q h p s, p * s = B4 ∧ s = 2 ^ k ∧ 0 < p ∧ 0 < s ∧ lo = m * p + q ∧ (0 ≤ m ∧ m < s) ∧ (0 ≤ q ∧ q < p) ∧ low = h * s + m ∧ high * p + h = q * dv + re ∧ (0 ≤ re ∧ re < dv)
theorem DivInv.start {high low dv : Int} (hh : 0 ≤ high ∧ high < dv) (hl : W low) : DivInv high low dv 256 low high :=
  ⟨low, 0, 0, 1, B4, rfl, by decide, by decide, by decide, by omega, hl, by decide, by omega, by omega, hh⟩
/-- One turn: what is doubled; then the two ways. -/
theorem DivInv.step {high low dv : Int} {k : Nat} {lo re : N} (hi : DivInv high low dv (k + 1) lo.v re.v) (hby : dv < B4) : ((2 * lo.v + 0) / B4 = 0 ∨ (2 * lo.v + 0) / B4 = 1) ∧ (2 * lo.v + 0) % B4 % 2 = 0 ∧
    (2 * re.v + (2 * lo.v + 0) / B4 < dv → DivInv high low dv k ((2 * lo.v + 0) % B4) (2 * re.v + (2 * lo.v + 0) / B4)) ∧
    (dv ≤ 2 * re.v + (2 * lo.v + 0) / B4 → DivInv high low dv k ((2 * lo.v + 0) % B4 + 1) (2 * re.v + (2 * lo.v + 0) / B4 - dv)) := by
  obtain ⟨m, q, h, p, s, h1, h2, h3, h4, h5, h6, h7, h8, h9, h10⟩ := hi
  have hs : s = 2 * 2 ^ k := by rw [h2, Int.pow_succ, Int.mul_comm]
  have hk : 0 < (2 : Int) ^ k := by omega
  rw [hs] at h1 h6 h8
  obtain ⟨t, m', g1, g0, g2, g3, g4, g5, g6, g7⟩ := div_step h1 h3 hk h6 h7 h8 h9
  have e : 2 * lo.v + 0 = 2 * (m * p + q) := by omega
  rw [e, g2, g3]
  have hp2 : 2 * p * 2 ^ k = B4 := by rw [← h1, Int.mul_assoc, Int.mul_left_comm]
  have ev : m' * (2 * p) = 2 * (m' * p) := Int.mul_left_comm _ _ _
  refine ⟨g1, by omega, fun hlt => ?_, fun hge => ?_⟩
  · exact ⟨m', 2 * q, 2 * h + t, 2 * p, 2 ^ k, hp2, rfl, by omega, hk, rfl, ⟨g4, g5⟩, by omega, g6, g7, by omega⟩
  · refine ⟨m', 2 * q + 1, 2 * h + t, 2 * p, 2 ^ k, hp2, rfl, by omega, hk, by omega, ⟨g4, g5⟩, by omega, g6, ?_, by omega⟩
    rw [Int.add_mul, Int.one_mul]; omega
theorem DivInv.done {high low dv lo re : Int} (h : DivInv high low dv 0 lo re) : lo = (high * B4 + low) / dv ∧ re = (high * B4 + low) % dv := by
  obtain ⟨m, q, h, p, s, h1, h2, h3, h4, h5, h6, h7, h8, h9, h10⟩ := h
  have hs : s = 1 := h2
  subst hs
  have hm : m = 0 := by omega
  subst hm
  have hp : p = B4 := by omega
  subst hp
  have e : high * B4 + low = re + dv * q := by rw [Int.mul_comm dv q]; omega
  rw [e, Int.add_mul_ediv_left _ _ (by omega), Int.ediv_eq_zero_of_lt h10.1 h10.2, Int.add_mul_emod_self_left, Int.emod_eq_of_lt h10.1 h10.2]
  omega
set_option maxRecDepth 100000 in
theorem Div_bad (x l b : N) (hb : b.v ≤ x.v) : Ret Try.prog 34 [eN x, eN l, eN b] [] (.tup [eN N0, eN N0, .bool false]) [] := by
  refine ret_of_body atNone tok mixed Try.func34 (by kernel_rfl) rfl (k := 53) (rs := [.cell 6 24, .cell 7 24, .tmp 8]) (by kernel_rfl) (by kernel_rfl) ?_
  (conv => whnf) <;> repeat' (first | (refine Need.mk (by first | decide | omega | (simp; done) | (simp; omega)) ?_; conv => whnf) | (refine Cond.tt rfl ?_; conv => whnf) | (refine Cond.ff rfl ?_; conv => whnf) | (refine Pick.tt rfl ?_; conv => whnf) | (refine Pick.ff rfl ?_; conv => whnf) | (refine Called.mk _ _ (Cmp_ret x b) ?_; conv => whnf) | (refine Pick.mk (fun h => ?_) (fun h => ?_) <;> conv => whnf) | (refine Cond.mk (fun h => ?_) (fun h => ?_) <;> conv => whnf))
  · exact End.mk rfl rfl
  · exfalso
    rw [decide_eq_false_iff_not] at h
    unfold cmpI at h
    split at h <;> omega
set_option maxRecDepth 100000 in
set_option maxHeartbeats 1000000 in
theorem Div_ok (x l b : N) (hb : x.v < b.v) : Ret Try.prog 34 [eN x, eN l, eN b] [] (.tup [eN (mkN ((x.v * B4 + l.v) / b.v)), eN (mkN ((x.v * B4 + l.v) % b.v)), .bool true]) [] := by
  have hbW := b.h
  refine ret_of_body atNone tok mixed Try.func34 (by kernel_rfl) rfl (k := 53) (rs := [.cell 6 24, .cell 7 24, .tmp 8]) (by kernel_rfl) (by kernel_rfl) ?_
  (conv => whnf) <;> repeat' (first | (refine Need.mk (by first | decide | omega | (simp; done) | (simp; omega)) ?_; conv => whnf) | (refine Cond.tt rfl ?_; conv => whnf) | (refine Cond.ff rfl ?_; conv => whnf) | (refine Pick.tt rfl ?_; conv => whnf) | (refine Pick.ff rfl ?_; conv => whnf) | (refine Called.mk _ _ (Cmp_ret x b) ?_; conv => whnf) | (refine Pick.mk (fun h => ?_) (fun h => ?_) <;> conv => whnf) | (refine Cond.mk (fun h => ?_) (fun h => ?_) <;> conv => whnf))
  · exfalso
    rw [decide_eq_true_eq] at h
    unfold cmpI at h
    split at h <;> omega
  intro I hw hs
  have key : ∀ (k : Nat) (i : Int) (lo re : N), 0 ≤ i → i + k = 256 → DivInv x.v l.v b.v k lo.v re.v →
      I [.und, .und, .und, .ptr 0 0, .ptr 1 0, .ptr 2 0, .ptr 3 0, .ptr 4 0, .bool false, .ptr 5 0, .und, .und, .und, .und, .und, .und, .und, .und, .und, .int .i64 i, .und, .und, .und, .und, .und, .und, .und, .und, .und, .und, .und, .und, .und, .und, .und, .und, .und, .und, .und, .und, .und, .und, .und, .und, .und, .und, .und, .und, .und, .und, .und, .und, .und] [.cells (cN x), .cells (cN lo), .cells (cN b), .cells (cN N0), .cells (cN N0), .cells (cN re)] := by
    intro k
    induction k with
    | zero =>
      intro i lo re hi hin hI
      apply hs
      conv => whnf
      refine Cond.ff (decF (by omega)) ?_
      (conv => whnf) <;> repeat' (first | (refine Need.mk (by first | decide | omega | (simp; done) | (simp; omega)) ?_; conv => whnf) | (refine Cond.tt rfl ?_; conv => whnf) | (refine Cond.ff rfl ?_; conv => whnf) | (refine Pick.tt rfl ?_; conv => whnf) | (refine Pick.ff rfl ?_; conv => whnf) | (refine Pick.mk (fun h => ?_) (fun h => ?_) <;> conv => whnf) | (refine Cond.mk (fun h => ?_) (fun h => ?_) <;> conv => whnf))
      obtain ⟨e1, e2⟩ := hI.done
      have : mkN ((x.v * B4 + l.v) / b.v) = lo := by rw [← e1]; exact mkN_val lo
      rw [this]
      have : mkN ((x.v * B4 + l.v) % b.v) = re := by rw [← e2]; exact mkN_val re
      rw [this]
      exact End.mk rfl rfl
    | succ k ih =>
      intro i lo re hi hin hI
      obtain ⟨ht, hev, hlt, hge⟩ := hI.step hbW.2
      have hre := re.h
      have eX : (mkN (2 * lo.v + 0)).v = (2 * lo.v + 0) % B4 := rfl
      have hX : W ((mkN (2 * lo.v + 0)).v + 1) := by have := (mkN (2 * lo.v + 0)).h; unfold W at *; rw [eX] at *; unfold B4 at *; omega
      have sub : b.v ≤ 2 * re.v + (2 * lo.v + 0) / B4 → DivInv x.v l.v b.v k (mkN ((mkN (2 * lo.v + 0)).v + 1)).v (mkN ((mkN (2 * re.v + (2 * lo.v + 0) / B4)).v - b.v)).v := fun hc => by
        have hD := hge hc
        have hb2 : 0 ≤ 2 * re.v + (2 * lo.v + 0) / B4 - b.v ∧ 2 * re.v + (2 * lo.v + 0) / B4 - b.v < b.v := by obtain ⟨_, _, _, _, _, _, _, _, _, _, _, _, _, _, hr⟩ := hD; exact hr
        rw [mkN_v hX, eX]
        have e2 : (mkN ((mkN (2 * re.v + (2 * lo.v + 0) / B4)).v - b.v)).v = 2 * re.v + (2 * lo.v + 0) / B4 - b.v := by
          simp only [mkN]
          unfold W B4 at *; omega
        rw [e2]; exact hD
      have go1 : b.v ≤ 2 * re.v + (2 * lo.v + 0) / B4 → I [.und, .und, .und, .ptr 0 0, .ptr 1 0, .ptr 2 0, .ptr 3 0, .ptr 4 0, .bool false, .ptr 5 0, .und, .und, .und, .und, .und, .und, .und, .und, .und, .int .i64 (i + 1), .und, .und, .und, .und, .und, .und, .und, .und, .und, .und, .und, .und, .und, .und, .und, .und, .und, .und, .und, .und, .und, .und, .und, .und, .und, .und, .und, .und, .und, .und, .und, .und, .und] [.cells (cN x), .cells [.int .u64 (IntKind.u64.wrap ((BitVec.ofInt IntKind.u64.bits (l0 (mkN (2 * lo.v + 0))) ||| BitVec.ofInt IntKind.u64.bits 1).toNat : Int)), .int .u64 (l1 (mkN (2 * lo.v + 0))), .int .u64 (l2 (mkN (2 * lo.v + 0))), .int .u64 (l3 (mkN (2 * lo.v + 0)))], .cells (cN b), .cells (cN N0), .cells (cN N0), .cells (cN (mkN ((mkN (2 * re.v + (2 * lo.v + 0) / B4)).v - b.v)))] := fun hc => by
        obtain ⟨o0, o1, o2, o3⟩ := or_odd (mkN (2 * lo.v + 0)) hev
        rw [o0, o1, o2, o3]
        exact ih (i + 1) (mkN ((mkN (2 * lo.v + 0)).v + 1)) _ (by omega) (by omega) (sub hc)
      apply hs
      conv => whnf
      refine Cond.tt (decT (by omega)) ?_
      (conv => whnf) <;> repeat' (first | (refine Need.mk (by first | decide | omega | (simp; done) | (simp; omega)) ?_; conv => whnf) | (refine Cond.tt rfl ?_; conv => whnf) | (refine Cond.ff rfl ?_; conv => whnf) | (refine Pick.tt rfl ?_; conv => whnf) | (refine Pick.ff rfl ?_; conv => whnf) | (refine Called.mk _ _ (twice_ret lo 0 (.inl rfl)) ?_; conv => whnf) | (refine Called.mk _ _ (twice_ret re ((2 * lo.v + 0) / B4) ht) ?_; conv => whnf) | (refine Called.mk _ _ (Cmp_ret (mkN (2 * re.v + (2 * lo.v + 0) / B4)) b) ?_; conv => whnf) | (refine Called.mk _ _ (Sub_ret (mkN (2 * re.v + (2 * lo.v + 0) / B4)) b) ?_; conv => whnf) | (refine Pick.mk (fun h => ?_) (fun h => ?_) <;> conv => whnf) | (refine Cond.mk (fun h => ?_) (fun h => ?_) <;> conv => whnf))
      all_goals
        rw [wi64_id (n := i + 1) (by omega) (by omega)]
        apply hw [0, 1, 2, 3, 4, 5] [false, false, false, true, true, true, true, true, true, true, false, false, false, false, false, false, false, false, false, true] _ _ (by decide)
      · refine go1 ?_
        rw [beq_iff_eq] at h
        unfold W B4 at *; omega
      · refine go1 ?_
        have eY : (mkN (2 * re.v + (2 * lo.v + 0) / B4)).v = (2 * re.v + (2 * lo.v + 0) / B4) % B4 := rfl
        rw [cond_false, decide_eq_true_eq, eY] at h
        unfold cmpI at h
        split at h
        · omega
        · unfold W B4 at *; omega
      · have eY : (mkN (2 * re.v + (2 * lo.v + 0) / B4)).v = (2 * re.v + (2 * lo.v + 0) / B4) % B4 := rfl
        rename_i h1
        rw [beq_eq_false_iff_ne] at h1
        rw [cond_false, decide_eq_false_iff_not, eY] at h
        have hc : 2 * re.v + (2 * lo.v + 0) / B4 < b.v := by
          unfold cmpI at h
          split at h
          · unfold W B4 at *; omega
          · split at h <;> omega
        refine ih (i + 1) (mkN (2 * lo.v + 0)) (mkN (2 * re.v + (2 * lo.v + 0) / B4)) (by omega) (by omega) ?_
        rw [mkN_v (x := 2 * re.v + (2 * lo.v + 0) / B4) ⟨by unfold W B4 at *; omega, by unfold W B4 at *; omega⟩, eX]
        exact hlt hc
  apply hw [0, 1, 2, 3, 4, 5] [false, false, false, true, true, true, true, true, true, true, false, false, false, false, false, false, false, false, false, true] _ _ (by decide)
  exact key 256 0 l x (by omega) (by omega) (DivInv.start ⟨x.h.1, hb⟩ l.h)
end Go.Proofs.Ytenlkhlkohnmkaa
