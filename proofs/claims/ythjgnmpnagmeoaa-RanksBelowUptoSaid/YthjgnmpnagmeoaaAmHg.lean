/- Small laws for the walks: wrapping, bits, tuples. -/
import Derived.Test.YthjgnmpnagmeoaaAmHf
set_option linter.unusedVariables false
set_option linter.unusedSimpArgs false
set_option maxRecDepth 100000
namespace Go.AM

theorem w64 (n : Int) : IntKind.u64.wrap n = n % 18446744073709551616 := by simp [IntKind.wrap, IntKind.bits, IntKind.signed]
theorem wi64 (n : Int) : IntKind.i64.wrap n = (n + 9223372036854775808) % 18446744073709551616 - 9223372036854775808 := by
  simp only [IntKind.wrap, IntKind.bits, IntKind.signed, Bool.true_and]
  split <;> simp_all <;> omega
theorem wi64_id {n : Int} (h0 : -9223372036854775808 ≤ n) (h1 : n < 9223372036854775808) : IntKind.i64.wrap n = n := by rw [wi64]; omega
theorem w64_id {n : Int} (h0 : 0 ≤ n) (h1 : n < 18446744073709551616) : IntKind.u64.wrap n = n := by rw [w64]; omega

theorem int_eq {k : IntKind} {x y : Int} (h : x = y) : Val.int k x = Val.int k y := by rw [h]
theorem cons_eq {x y : Val} {l m : List Val} (h : x = y) (k : l = m) : x :: l = y :: m := by rw [h, k]
theorem tup_eq {l m : List Val} (h : l = m) : Val.tup l = .tup m := by rw [h]
theorem bool_eq {x y : Bool} (h : x = y) : Val.bool x = .bool y := by rw [h]

/-! ### numbers of four limbs -/
def U (x : Int) : Prop := 0 ≤ x ∧ x < 18446744073709551616
/-- 2^256 -/
abbrev B4 : Int := 115792089237316195423570985008687907853269984665640564039457584007913129639936
def W (n : Int) : Prop := 0 ≤ n ∧ n < B4
def val4 (x0 x1 x2 x3 : Int) : Int := x0 + 18446744073709551616 * (x1 + 18446744073709551616 * (x2 + 18446744073709551616 * x3))
theorem div_limb {x y : Int} (h : U x) : (x + 18446744073709551616 * y) / 18446744073709551616 = y ∧ (x + 18446744073709551616 * y) % 18446744073709551616 = x := by
  unfold U at h; omega
theorem W_val {x0 x1 x2 x3 : Int} (h0 : U x0) (h1 : U x1) (h2 : U x2) (h3 : U x3) : W (val4 x0 x1 x2 x3) := by
  unfold U at *; unfold W val4 B4; omega
/-! numbers of eight digits -/
def V (x : Int) : Prop := 0 ≤ x ∧ x < 4294967296
end Go.AM
namespace Go.AM
end Go.AM

set_option linter.unusedVariables false
set_option linter.unusedSimpArgs false
set_option maxRecDepth 100000
namespace Go.AM
noncomputable section
section
variable {β : Type}
def Prog.ev : Prog → List Blk → List Nat → (Val → Upd → List Nat → Option β) → Option β
  | .ret v u, _, r, K => K v u r
  | .get b k, hp, r, K => getBK hp b fun x => (k x).ev hp (b :: r) K
  | @Prog.need _ d k, hp, r, K => match d with
    | .isTrue _ => k.ev hp r K
    | .isFalse _ => none
  | .fail, _, _, _ => none
mutual
def refsV : Val → List Nat → List Nat
  | .ptr b _, l => b :: l
  | .ep b _ _ _, l => b :: l
  | .row b _, l => b :: l
  | .asl b _ _, l => b :: l
  | .map b, l => b :: l
  | .fn _ fs cs, l => refsL fs (refsL cs l)
  | .ifc _ v, l => refsV v l
  | .agg cs, l => refsL cs l
  | .tup cs, l => refsL cs l
  | _, l => l
def refsL : List Val → List Nat → List Nat
  | [], l => l
  | v :: vs, l => refsV v (refsL vs l)
end
def refsB : Blk → List Nat → List Nat
  | .cells cs, l => refsL cs l
  | _, l => l
def reach : Nat → List Blk → List Nat → List Nat → List Nat
  | 0, _, _, seen => seen
  | _ + 1, _, [], seen => seen
  | k + 1, hp, b :: todo, seen => match seen.elem b with
    | true => reach k hp todo seen
    | false => reach k hp (refsB (getBK hp b id) todo) (seen ++ [b])
abbrev FnE := FuncId → List Val → List Blk → Option (Val × List Blk)
def roots (n : Nat) (hp : List Blk) (l : List Nat) : List Nat := (hp.take n).foldr refsB l
/-- The blocks that are still seen. -/
def seen (n : Nat) (hp : List Blk) (l : List Nat) : List Nat := reach 1000 hp (roots n hp l) (List.range n)
end
/-! ### it is right -/
section
variable {β : Type} {b : β}
variable {P : Program} {T : TypeId → TD} {fe : FnE} {fl : Bool}
end
end
end Go.AM

set_option linter.unusedVariables false
set_option linter.unusedSimpArgs false
set_option maxRecDepth 100000
namespace Go.AM

/-- A number of 256 bits. -/
structure N where
  v : Int
  h : W v
instance (x : Int) : Decidable (U x) := inferInstanceAs (Decidable (_ ∧ _))
instance (x : Int) : Decidable (W x) := inferInstanceAs (Decidable (_ ∧ _))
theorem N.eq {a b : N} (h : a.v = b.v) : a = b := by
  cases a; cases b; simp only at h; subst h; rfl
instance : DecidableEq N := fun a b => if h : a.v = b.v then .isTrue (N.eq h) else .isFalse fun e => h (by rw [e])
def mkN (x : Int) : N := ⟨x % B4, by unfold W B4; omega⟩
theorem mkN_v {x : Int} (h : W x) : (mkN x).v = x := Int.emod_eq_of_lt h.1 h.2
def N0 : N := ⟨0, by unfold W B4; omega⟩
def l0 (a : N) : Int := a.v % 18446744073709551616
def l1 (a : N) : Int := a.v / 18446744073709551616 % 18446744073709551616
def l2 (a : N) : Int := a.v / 18446744073709551616 / 18446744073709551616 % 18446744073709551616
def l3 (a : N) : Int := a.v / 18446744073709551616 / 18446744073709551616 / 18446744073709551616 % 18446744073709551616
/-- A number of its limbs. -/
def ofL (x0 x1 x2 x3 : Int) : N := mkN (val4 x0 x1 x2 x3)
theorem ofL_l {x0 x1 x2 x3 : Int} (h0 : U x0) (h1 : U x1) (h2 : U x2) (h3 : U x3) : l0 (ofL x0 x1 x2 x3) = x0 ∧ l1 (ofL x0 x1 x2 x3) = x1 ∧ l2 (ofL x0 x1 x2 x3) = x2 ∧ l3 (ofL x0 x1 x2 x3) = x3 := by
  have hv : (ofL x0 x1 x2 x3).v = val4 x0 x1 x2 x3 := mkN_v (W_val h0 h1 h2 h3)
  unfold l0 l1 l2 l3
  rw [hv]
  unfold val4
  rw [(div_limb h0).1, (div_limb h0).2, (div_limb h1).1, (div_limb h1).2, (div_limb h2).1, (div_limb h2).2]
  unfold U at h3
  rw [Int.emod_eq_of_lt h3.1 h3.2]
  exact ⟨rfl, rfl, rfl, rfl⟩
/-! ### what a walk does where it stands -/
theorem Cond.tt {b : Bool} {X Y : Option Nat → List Val → List Blk → Kont → Prop} {tm : List Val} {hp : List Blk} {K : Kont} (h : b = true) (k : X none tm hp K) : Cond b X Y tm hp K := ⟨fun _ => k, fun e => (by rw [h] at e; cases e)⟩
theorem Cond.ff {b : Bool} {X Y : Option Nat → List Val → List Blk → Kont → Prop} {tm : List Val} {hp : List Blk} {K : Kont} (h : b = false) (k : Y none tm hp K) : Cond b X Y tm hp K := ⟨fun e => (by rw [h] at e; cases e), fun _ => k⟩
theorem Pick.tt {b : Bool} {K : Bool → Prop} (h : b = true) (k : K true) : Pick b K := ⟨fun _ => k, fun e => (by rw [h] at e; cases e)⟩
theorem Pick.ff {b : Bool} {K : Bool → Prop} (h : b = false) (k : K false) : Pick b K := ⟨fun e => (by rw [h] at e; cases e), fun _ => k⟩
/- the walks' steps: what must be known is looked for by itself -/
theorem wN {p G : Prop} (g : G) (h : p := by first | decide | omega | (simp; done) | (simp; omega)) : Need p G := ⟨h, g⟩
theorem wNc {p G A : Prop} (g : G) (h : p := by first | decide | omega | (simp; done) | (simp; omega)) : NeedC p G A := .mk h g
theorem wA {b : Bool} {X Y : Option Nat → List Val → List Blk → Kont → Prop} {tm : List Val} {hp : List Blk} {K : Kont} (k : X none tm hp K) (h : b = true := by rfl) : Cond b X Y tm hp K := .tt h k
theorem wB {b : Bool} {X Y : Option Nat → List Val → List Blk → Kont → Prop} {tm : List Val} {hp : List Blk} {K : Kont} (k : Y none tm hp K) (h : b = false := by rfl) : Cond b X Y tm hp K := .ff h k
theorem wC {b : Bool} {K : Bool → Prop} (k : K true) (h : b = true := by rfl) : Pick b K := .tt h k
theorem wD {b : Bool} {K : Bool → Prop} (k : K false) (h : b = false := by rfl) : Pick b K := .ff h k

end Go.AM

