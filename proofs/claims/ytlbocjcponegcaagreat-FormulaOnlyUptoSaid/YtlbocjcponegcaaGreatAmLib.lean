/- More small laws. -/
import Derived.Test.YtlbocjcponegcaaGreatAmHg
set_option linter.unusedVariables false
set_option linter.unusedSimpArgs false
set_option maxRecDepth 100000
namespace Go.AM
def cN (a : N) : List Val := [.int .u64 (l0 a), .int .u64 (l1 a), .int .u64 (l2 a), .int .u64 (l3 a)]
theorem ten_lt {i : Nat} (h : i ≤ 77) : (10 : Int) ^ i < B4 ∧ 0 < (10 : Int) ^ i := by
  have e : (10 : Int) ^ i = ((10 ^ i : Nat) : Int) := (Int.natCast_pow 10 i).symm
  have h1 : 10 ^ i ≤ 10 ^ 77 := Nat.pow_le_pow_right (by decide) h
  have h2 : 10 ^ 77 < 115792089237316195423570985008687907853269984665640564039457584007913129639936 := by decide
  have h3 : 0 < 10 ^ i := Nat.pow_pos (by decide)
  rw [e]
  unfold B4
  omega
theorem ten_W {n : Int} (h1 : n ≤ 77) : W (10 ^ n.toNat) := by
  have := ten_lt (i := n.toNat) (by omega)
  exact ⟨by omega, this.1⟩
/-- ten times a power of ten -/
theorem ten_step {i : Int} (h0 : 0 ≤ i) (h1 : i < 77) : mkN ((mkN (10 ^ i.toNat)).v * (mkN 10).v) = mkN (10 ^ (i + 1).toNat) := by
  have e1 : (mkN (10 ^ i.toNat)).v = 10 ^ i.toNat := mkN_v (ten_W (by omega))
  have e2 : (mkN 10).v = 10 := by decide
  rw [e1, e2, show (i + 1).toNat = i.toNat + 1 by omega, Int.pow_succ]
theorem decT {p : Prop} [Decidable p] (h : p) : decide p = true := decide_eq_true h
theorem decF {p : Prop} [Decidable p] (h : ¬ p) : decide p = false := decide_eq_false h
end Go.AM
namespace Go.AM
/-! ### what is known of functions, for the evaluator -/
def toN : Val → Option N
  | .agg [.int .u64 a, .int .u64 b, .int .u64 c, .int .u64 d] => match decide (U a ∧ U b ∧ U c ∧ U d) with
    | true => some (ofL a b c d)
    | false => none
  | _ => none
theorem toN_ok {v : Val} {n : N} (h : toN v = some n) : v = eN n := by
  unfold toN at h
  split at h
  · split at h
    · rename_i hd
      have hd := of_decide_eq_true hd
      injection h with h; subst h
      exact ofL_agg hd.1 hd.2.1 hd.2.2.1 hd.2.2.2
    · cases h
  · cases h
def sm2 (g : N → N → Val) : List Val → Option Val
  | [x, y] => match toN x, toN y with
    | some a, some b => some (g a b)
    | _, _ => none
  | _ => none
theorem sm2_ok {P : Program} {f : FuncId} {g : N → N → Val} (h : ∀ a b, Ret P f [eN a, eN b] [] (g a b) []) {xs : List Val} {v : Val} (e : sm2 g xs = some v) : Ret P f xs [] v [] := by
  unfold sm2 at e
  split at e
  · split at e
    · rename_i ha hb
      injection e with e; subst e
      rw [toN_ok ha, toN_ok hb]; exact h _ _
    · cases e
  · cases e
def sm3 (g : N → N → N → Val) : List Val → Option Val
  | [x, y, z] => match toN x, toN y, toN z with
    | some a, some b, some c => some (g a b c)
    | _, _, _ => none
  | _ => none
theorem sm3_ok {P : Program} {f : FuncId} {g : N → N → N → Val} (h : ∀ a b c, Ret P f [eN a, eN b, eN c] [] (g a b c) []) {xs : List Val} {v : Val} (e : sm3 g xs = some v) : Ret P f xs [] v [] := by
  unfold sm3 at e
  split at e
  · split at e
    · rename_i ha hb hc
      injection e with e; subst e
      rw [toN_ok ha, toN_ok hb, toN_ok hc]; exact h _ _ _
    · cases e
  · cases e
def smTen : List Val → Option Val
  | [.int .i64 n] => match decide (0 ≤ n ∧ n ≤ 77) with
    | true => some (.tup [eN (mkN (10 ^ n.toNat)), .bool true])
    | false => none
  | _ => none
theorem smTen_ok {P : Program} {f : FuncId} (h : ∀ n, 0 ≤ n → n ≤ 77 → Ret P f [.int .i64 n] [] (.tup [eN (mkN (10 ^ n.toNat)), .bool true]) []) {xs : List Val} {v : Val} (e : smTen xs = some v) : Ret P f xs [] v [] := by
  unfold smTen at e
  split at e
  · split at e
    · rename_i hd
      have hd := of_decide_eq_true hd
      injection e with e; subst e
      exact h _ hd.1 hd.2
    · cases e
  · cases e
abbrev KnownS := List (FuncId × (List Val → Option Val))
def known : KnownS → FuncId → List Val → Option (Val × List Blk)
  | [], _, _ => none
  | (g, s) :: l, f, xs => match g == f with
    | true => match s xs with
      | some v => some (v, [])
      | none => known l f xs
    | false => known l f xs
def KnownSOk (P : Program) : KnownS → Prop
  | [] => True
  | (f, s) :: l => (∀ xs v, s xs = some v → Ret P f xs [] v []) ∧ KnownSOk P l
theorem known_ok {P : Program} : ∀ {l : KnownS}, KnownSOk P l → ∀ f xs v l', known l f xs = some (v, l') → Ret P f xs [] v l'
  | [], _, _, _, _, _, h => by cases h
  | (g, s) :: l, hk, f, xs, v, l', h => by
    unfold known at h
    split at h
    · rename_i e
      rw [beq_iff_eq] at e; subst e
      split at h
      · rename_i hs
        injection h with h; injection h with h1 h2; subst h1; subst h2
        exact hk.1 _ _ hs
      · exact known_ok hk.2 _ _ _ _ h
    · exact known_ok hk.2 _ _ _ _ h
end Go.AM

