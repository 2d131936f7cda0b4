/- Numbers of 256 bits as values; lists as slices. -/
import Derived.Test.YtkglccolonpnlaaAmBase
import Derived.Test.YtkglccolonpnlaaAmEv
set_option linter.unusedVariables false
set_option linter.unusedSimpArgs false
set_option maxRecDepth 100000
namespace Go.AM

/-- A number of 256 bits. -/
structure N where
  v : Int
  h : W v
instance (x : Int) : Decidable (U x) := inferInstanceAs (Decidable (_ ∧ _))
instance (x : Int) : Decidable (W x) := inferInstanceAs (Decidable (_ ∧ _))
theorem N.eq {a b : N} (h : a.v = b.v) : a = b := by
  cases a; cases b; simp only at h; subst h; rfl
instance : DecidableEq N := fun a b => if h : a.v = b.v then .isTrue (N.eq h) else .isFalse fun e => h (by rw [e])
def mkN (x : Int) : N := ⟨x % B4, by unfold W B4; omega⟩
theorem mkN_v {x : Int} (h : W x) : (mkN x).v = x := Int.emod_eq_of_lt h.1 h.2
theorem mkN_val (a : N) : mkN a.v = a := N.eq (mkN_v a.h)
def N0 : N := ⟨0, by unfold W B4; omega⟩
theorem mkN_0 : mkN 0 = N0 := N.eq (by rfl)
def l0 (a : N) : Int := a.v % 18446744073709551616
def l1 (a : N) : Int := a.v / 18446744073709551616 % 18446744073709551616
def l2 (a : N) : Int := a.v / 18446744073709551616 / 18446744073709551616 % 18446744073709551616
def l3 (a : N) : Int := a.v / 18446744073709551616 / 18446744073709551616 / 18446744073709551616 % 18446744073709551616
theorem l0_U (a : N) : U (l0 a) := by unfold U l0; omega
theorem l1_U (a : N) : U (l1 a) := by unfold U l1; omega
theorem l2_U (a : N) : U (l2 a) := by unfold U l2; omega
theorem l3_U (a : N) : U (l3 a) := by unfold U l3; omega
def eN (a : N) : Val := .agg [.int .u64 (l0 a), .int .u64 (l1 a), .int .u64 (l2 a), .int .u64 (l3 a)]
theorem eN_natI (a : N) : eN a = natI a.v := rfl
theorem limbs_v (a : N) : a.v = val4 (l0 a) (l1 a) (l2 a) (l3 a) := by
  obtain ⟨v, h0, h1⟩ := a
  unfold B4 at h1
  unfold val4 l0 l1 l2 l3
  simp only
  have h2 : v / 18446744073709551616 < 6277101735386680763835789423207666416102355444464034512896 := by omega
  have h3 : 0 ≤ v / 18446744073709551616 := by omega
  generalize hm : v / 18446744073709551616 = m at *
  have h4 : m / 18446744073709551616 < 340282366920938463463374607431768211456 := by omega
  have h5 : 0 ≤ m / 18446744073709551616 := by omega
  generalize hk : m / 18446744073709551616 = k at *
  omega
theorem limbs_eq {a b : N} (h0 : l0 a = l0 b) (h1 : l1 a = l1 b) (h2 : l2 a = l2 b) (h3 : l3 a = l3 b) : a = b := N.eq (by rw [limbs_v a, limbs_v b, h0, h1, h2, h3])
/-- A number of its limbs. -/
def ofL (x0 x1 x2 x3 : Int) : N := mkN (val4 x0 x1 x2 x3)
theorem ofL_l {x0 x1 x2 x3 : Int} (h0 : U x0) (h1 : U x1) (h2 : U x2) (h3 : U x3) : l0 (ofL x0 x1 x2 x3) = x0 ∧ l1 (ofL x0 x1 x2 x3) = x1 ∧ l2 (ofL x0 x1 x2 x3) = x2 ∧ l3 (ofL x0 x1 x2 x3) = x3 := by
  have hv : (ofL x0 x1 x2 x3).v = val4 x0 x1 x2 x3 := mkN_v (W_val h0 h1 h2 h3)
  unfold l0 l1 l2 l3
  rw [hv]
  unfold val4
  rw [(div_limb h0).1, (div_limb h0).2, (div_limb h1).1, (div_limb h1).2, (div_limb h2).1, (div_limb h2).2]
  unfold U at h3
  rw [Int.emod_eq_of_lt h3.1 h3.2]
  exact ⟨rfl, rfl, rfl, rfl⟩
theorem ofL_self (a : N) : ofL (l0 a) (l1 a) (l2 a) (l3 a) = a := N.eq (by
  have h := ofL_l (l0_U a) (l1_U a) (l2_U a) (l3_U a)
  rw [limbs_v (ofL _ _ _ _), limbs_v a, h.1, h.2.1, h.2.2.1, h.2.2.2])
theorem ofL_agg {x0 x1 x2 x3 : Int} (h0 : U x0) (h1 : U x1) (h2 : U x2) (h3 : U x3) : Val.agg [.int .u64 x0, .int .u64 x1, .int .u64 x2, .int .u64 x3] = eN (ofL x0 x1 x2 x3) := by
  have h := ofL_l h0 h1 h2 h3
  unfold eN
  rw [h.1, h.2.1, h.2.2.1, h.2.2.2]
/-- Limbs compared, one by one. -/
theorem eqN_limbs (a b : N) : (l0 a == l0 b && (l1 a == l1 b && (l2 a == l2 b && (l3 a == l3 b && true)))) = decide (a = b) := by
  rw [Bool.eq_iff_iff]
  simp only [Bool.and_eq_true, beq_iff_eq, decide_eq_true_eq, and_true]
  constructor
  · rintro ⟨h0, h1, h2, h3⟩; exact limbs_eq h0 h1 h2 h3
  · rintro rfl; exact ⟨rfl, rfl, rfl, rfl⟩
theorem eqN_zero (a : N) : (l0 a == 0 && (l1 a == 0 && (l2 a == 0 && (l3 a == 0 && true)))) = decide (a = N0) := eqN_limbs a N0
theorem eqN_zero_and (a : N) (r : Bool) : (l0 a == 0 && (l1 a == 0 && (l2 a == 0 && (l3 a == 0 && r)))) = (decide (a = N0) && r) := by
  rw [← eqN_zero]; simp [Bool.and_assoc]
theorem eqN_and (a b : N) (r : Bool) : (l0 a == l0 b && (l1 a == l1 b && (l2 a == l2 b && (l3 a == l3 b && r)))) = (decide (a = b) && r) := by
  rw [← eqN_limbs]; simp [Bool.and_assoc]
theorem ret_N {P : Program} {f : FuncId} {v : Val} {as : List Val} (h : Ret P f as [] v []) {v' : Val} (e : v = v') : Ret P f as [] v' [] := e ▸ h

/-! ### what a walk does where it stands -/
theorem Cond.tt {b : Bool} {X Y : Option Nat → List Val → List Blk → Kont → Prop} {tm : List Val} {hp : List Blk} {K : Kont} (h : b = true) (k : X none tm hp K) : Cond b X Y tm hp K := ⟨fun _ => k, fun e => (by rw [h] at e; cases e)⟩
theorem Cond.ff {b : Bool} {X Y : Option Nat → List Val → List Blk → Kont → Prop} {tm : List Val} {hp : List Blk} {K : Kont} (h : b = false) (k : Y none tm hp K) : Cond b X Y tm hp K := ⟨fun e => (by rw [h] at e; cases e), fun _ => k⟩
theorem Pick.tt {b : Bool} {K : Bool → Prop} (h : b = true) (k : K true) : Pick b K := ⟨fun _ => k, fun e => (by rw [h] at e; cases e)⟩
theorem Pick.ff {b : Bool} {K : Bool → Prop} (h : b = false) (k : K false) : Pick b K := ⟨fun e => (by rw [h] at e; cases e), fun _ => k⟩

theorem eN_is {n x0 x1 x2 x3 : Int} (h0 : U x0) (h1 : U x1) (h2 : U x2) (h3 : U x3) (e : n % B4 = val4 x0 x1 x2 x3) : Val.agg [.int .u64 x0, .int .u64 x1, .int .u64 x2, .int .u64 x3] = eN (mkN n) := by
  rw [ofL_agg h0 h1 h2 h3]
  congr 1
  apply N.eq
  rw [ofL, mkN_v (W_val h0 h1 h2 h3), ← e]; rfl
theorem U_nat {x : Int} (h0 : 0 ≤ x) (h1 : x < 18446744073709551616) : U x := ⟨h0, h1⟩
end Go.AM
