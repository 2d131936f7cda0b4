/- Walks that part by propositions; bytes. -/
import Derived.Test.YtafiechoplbieaaAmLib
import Derived.Laws.Strings
set_option linter.unusedVariables false
set_option linter.unusedSimpArgs false
set_option maxRecDepth 100000
namespace Go.AM
theorem Cond.dec {p : Prop} [Decidable p] {X Y : Option Nat → List Val → List Blk → Kont → Prop} {tm : List Val} {hp : List Blk} {K : Kont} (hy : p → X none tm hp K) (hn : ¬ p → Y none tm hp K) : Cond (decide p) X Y tm hp K :=
  ⟨fun h => hy (of_decide_eq_true h), fun h => hn (of_decide_eq_false h)⟩
theorem Cond.beq {x y : Int} {X Y : Option Nat → List Val → List Blk → Kont → Prop} {tm : List Val} {hp : List Blk} {K : Kont} (hy : x = y → X none tm hp K) (hn : x ≠ y → Y none tm hp K) : Cond (x == y) X Y tm hp K :=
  ⟨fun h => hy (beq_iff_eq.1 h), fun h => hn (beq_eq_false_iff_ne.1 h)⟩
theorem Pick.dec {p : Prop} [Decidable p] {K : Bool → Prop} (hy : p → K true) (hn : ¬ p → K false) : Pick (decide p) K := ⟨fun h => hy (of_decide_eq_true h), fun h => hn (of_decide_eq_false h)⟩
theorem Pick.beq {x y : Int} {K : Bool → Prop} (hy : x = y → K true) (hn : x ≠ y → K false) : Pick (x == y) K := ⟨fun h => hy (beq_iff_eq.1 h), fun h => hn (beq_eq_false_iff_ne.1 h)⟩
theorem Cond.nd {p : Prop} [Decidable p] {X Y : Option Nat → List Val → List Blk → Kont → Prop} {tm : List Val} {hp : List Blk} {K : Kont} (hy : ¬ p → X none tm hp K) (hn : p → Y none tm hp K) : Cond (!decide p) X Y tm hp K :=
  ⟨fun h => hy (by simpa using h), fun h => hn (by simpa using h)⟩
theorem Pick.nd {p : Prop} [Decidable p] {K : Bool → Prop} (hy : ¬ p → K true) (hn : p → K false) : Pick (!decide p) K := ⟨fun h => hy (by simpa using h), fun h => hn (by simpa using h)⟩
theorem decNT {p : Prop} [Decidable p] (h : ¬ p) : (!decide p) = true := by simp [h]
theorem decNF {p : Prop} [Decidable p] (h : p) : (!decide p) = false := by simp [h]
theorem vA {b : Bool} {X Y : Option Nat → List Val → List Blk → Kont → Prop} {tm : List Val} {hp : List Blk} {K : Kont} (k : X none tm hp K) (h : b = true := by first | assumption | exact decT (by first | assumption | omega)) : Cond b X Y tm hp K := .tt h k
theorem vB {b : Bool} {X Y : Option Nat → List Val → List Blk → Kont → Prop} {tm : List Val} {hp : List Blk} {K : Kont} (k : Y none tm hp K) (h : b = false := by first | assumption | exact decF (by first | assumption | omega)) : Cond b X Y tm hp K := .ff h k
theorem vC {b : Bool} {K : Bool → Prop} (k : K true) (h : b = true := by first | assumption | exact decT (by first | assumption | omega)) : Pick b K := .tt h k
theorem vD {b : Bool} {K : Bool → Prop} (k : K false) (h : b = false := by first | assumption | exact decF (by first | assumption | omega)) : Pick b K := .ff h k
theorem uA {b : Bool} {X Y : Option Nat → List Val → List Blk → Kont → Prop} {tm : List Val} {hp : List Blk} {K : Kont} (k : X none tm hp K) (h : b = true := by exact decNT (by first | assumption | omega)) : Cond b X Y tm hp K := .tt h k
theorem uB {b : Bool} {X Y : Option Nat → List Val → List Blk → Kont → Prop} {tm : List Val} {hp : List Blk} {K : Kont} (k : Y none tm hp K) (h : b = false := by exact decNF (by first | assumption | omega)) : Cond b X Y tm hp K := .ff h k
theorem uC {b : Bool} {K : Bool → Prop} (k : K true) (h : b = true := by exact decNT (by first | assumption | omega)) : Pick b K := .tt h k
theorem uD {b : Bool} {K : Bool → Prop} (k : K false) (h : b = false := by exact decNF (by first | assumption | omega)) : Pick b K := .ff h k
theorem toList_eq (a b : ByteArray) : (a.toList == b.toList) = decide (a = b) := by
  rw [Bool.eq_iff_iff, beq_iff_eq, decide_eq_true_eq]
  constructor
  · intro h
    have e : ∀ s : ByteArray, s.toList = s.data.toList := fun s => ByteArray.toList_eq s
    rw [e, e] at h
    cases a; cases b
    simp only [ByteArray.mk.injEq] at h ⊢
    exact Array.toList_inj.1 h
  · rintro rfl; rfl
end Go.AM

