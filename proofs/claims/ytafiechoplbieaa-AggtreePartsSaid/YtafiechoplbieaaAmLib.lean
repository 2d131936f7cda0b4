/- More small laws. -/
import Derived.Test.YtafiechoplbieaaAmHg
set_option linter.unusedVariables false
set_option linter.unusedSimpArgs false
set_option maxRecDepth 100000
namespace Go.AM
def cN (a : N) : List Val := [.int .u64 (l0 a), .int .u64 (l1 a), .int .u64 (l2 a), .int .u64 (l3 a)]
theorem ten_lt {i : Nat} (h : i ≤ 77) : (10 : Int) ^ i < B4 ∧ 0 < (10 : Int) ^ i := by
  have e : (10 : Int) ^ i = ((10 ^ i : Nat) : Int) := (Int.natCast_pow 10 i).symm
  have h1 : 10 ^ i ≤ 10 ^ 77 := Nat.pow_le_pow_right (by decide) h
  have h2 : 10 ^ 77 < 115792089237316195423570985008687907853269984665640564039457584007913129639936 := by decide
  have h3 : 0 < 10 ^ i := Nat.pow_pos (by decide)
  rw [e]
  unfold B4
  omega
theorem ten_W {n : Int} (h1 : n ≤ 77) : W (10 ^ n.toNat) := by
  have := ten_lt (i := n.toNat) (by omega)
  exact ⟨by omega, this.1⟩
/-- ten times a power of ten -/
theorem ten_step {i : Int} (h0 : 0 ≤ i) (h1 : i < 77) : mkN ((mkN (10 ^ i.toNat)).v * (mkN 10).v) = mkN (10 ^ (i + 1).toNat) := by
  have e1 : (mkN (10 ^ i.toNat)).v = 10 ^ i.toNat := mkN_v (ten_W (by omega))
  have e2 : (mkN 10).v = 10 := by decide
  rw [e1, e2, show (i + 1).toNat = i.toNat + 1 by omega, Int.pow_succ]
theorem decT {p : Prop} [Decidable p] (h : p) : decide p = true := decide_eq_true h
theorem decF {p : Prop} [Decidable p] (h : ¬ p) : decide p = false := decide_eq_false h
end Go.AM
namespace Go.AM
/-! ### what is known of functions, for the evaluator -/
abbrev KnownS := List (FuncId × (List Val → Option Val))
def known : KnownS → FuncId → List Val → Option (Val × List Blk)
  | [], _, _ => none
  | (g, s) :: l, f, xs => match g == f with
    | true => match s xs with
      | some v => some (v, [])
      | none => known l f xs
    | false => known l f xs
def KnownSOk (P : Program) : KnownS → Prop
  | [] => True
  | (f, s) :: l => (∀ xs v, s xs = some v → Ret P f xs [] v []) ∧ KnownSOk P l
theorem known_ok {P : Program} : ∀ {l : KnownS}, KnownSOk P l → ∀ f xs v l', known l f xs = some (v, l') → Ret P f xs [] v l'
  | [], _, _, _, _, _, h => by cases h
  | (g, s) :: l, hk, f, xs, v, l', h => by
    unfold known at h
    split at h
    · rename_i e
      rw [beq_iff_eq] at e; subst e
      split at h
      · rename_i hs
        injection h with h; injection h with h1 h2; subst h1; subst h2
        exact hk.1 _ _ hs
      · exact known_ok hk.2 _ _ _ _ h
    · exact known_ok hk.2 _ _ _ _ h
end Go.AM

