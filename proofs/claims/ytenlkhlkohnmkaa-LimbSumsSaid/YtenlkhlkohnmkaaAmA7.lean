/- limb and exciseref01: Ten, Odd, Sub. -/
import Derived.Test.YtenlkhlkohnmkaaAmA6
import Derived.Test.YtenlkhlkohnmkaaAmLib
set_option linter.unusedVariables false
set_option linter.unusedSimpArgs false
set_option maxRecDepth 100000
namespace Go.Proofs.Ytenlkhlkohnmkaa
open Go.AM
theorem rSub_ret (a b : N) : Ret Try.prog 21 [eN a, eN b] [] (.tup [eN (mkN (a.v - b.v)), .bool (decide (a.v < b.v))]) [] := by
  refine ret_of_body atNone tok mixed Try.func21 (by kernel_rfl) rfl (k := 26) (rs := [.cell 4 24, .tmp 5]) (by kernel_rfl) (by kernel_rfl) ?_
  (conv => whnf) <;> repeat' (first | (refine Need.mk (by first | decide | omega | (simp; done) | (simp; omega)) ?_; conv => whnf) | (refine Cond.tt rfl ?_; conv => whnf) | (refine Cond.ff rfl ?_; conv => whnf) | (refine Pick.tt rfl ?_; conv => whnf) | (refine Pick.ff rfl ?_; conv => whnf) | (refine Called.mk _ _ (not_ret b) ?_; conv => whnf) | (refine Called.mk _ _ (rAdd_ret a (mkN (B4 - 1 - b.v))) ?_; conv => whnf) | (refine Called.mk _ _ (rFrom_ret 1 (by decide)) ?_; conv => whnf) | (refine Called.mk _ _ (rAdd_ret (mkN (a.v + (mkN (B4 - 1 - b.v)).v)) (mkN 1)) ?_; conv => whnf) | (refine Called.mk _ _ (rCmp_ret a b) ?_; conv => whnf) | (refine Pick.mk (fun h => ?_) (fun h => ?_) <;> conv => whnf) | (refine Cond.mk (fun h => ?_) (fun h => ?_) <;> conv => whnf))
  refine End.mk (tup_eq (cons_eq (congrArg eN ?_) (cons_eq (bool_eq ?_) rfl))) rfl
  · apply N.eq
    have ha := a.h; have hb := b.h
    simp only [mkN]
    unfold W B4 at *
    omega
  · rw [decide_eq_decide]; unfold cmpI
    split <;> simp_all
    split <;> simp_all
theorem Ten_ret (n : Int) (h0 : 0 ≤ n) (h1 : n ≤ 77) : Ret Try.prog 30 [.int .i64 n] [] (.tup [eN (mkN (10 ^ n.toNat)), .bool true]) [] := by
  refine ret_of_body atNone tok mixed Try.func30 (by kernel_rfl) rfl (k := 24) (rs := [.cell 2 24, .tmp 3]) (by kernel_rfl) (by kernel_rfl) ?_
  (conv => whnf) <;> repeat' (first | (refine Need.mk (by first | decide | omega | (simp; done) | (simp; omega)) ?_; conv => whnf) | (refine Cond.tt rfl ?_; conv => whnf) | (refine Cond.ff rfl ?_; conv => whnf) | (refine Pick.tt rfl ?_; conv => whnf) | (refine Pick.ff rfl ?_; conv => whnf) | (refine Called.mk _ _ (From_ret _ (by decide)) ?_; conv => whnf) | (refine Pick.mk (fun h => ?_) (fun h => ?_) <;> conv => whnf) | (refine Cond.mk (fun h => ?_) (fun h => ?_) <;> conv => whnf))
  · rw [decF (by omega)] at h; cases h
  · simp at h; omega
  intro I hw hs
  have key : ∀ (k : Nat) (i : Int), 0 ≤ i → i + k = n → I [.und, .und, .ptr 0 0, .und, .ptr 1 0, .und, .und, .und, .und, .und, .und, .und, .und, .int .i64 n, .int .i64 i, .und, .und, .und, .und, .und, .und, .und, .und, .und] [.cells (cN N0), .cells (cN (mkN (10 ^ i.toNat)))] := by
    intro k
    induction k with
    | zero =>
      intro i hi hin
      apply hs
      conv => whnf
      refine Cond.ff (decF (by omega)) ?_
      (conv => whnf) <;> repeat' (first | (refine Need.mk (by first | decide | omega | (simp; done) | (simp; omega)) ?_; conv => whnf) | (refine Cond.tt rfl ?_; conv => whnf) | (refine Cond.ff rfl ?_; conv => whnf) | (refine Pick.tt rfl ?_; conv => whnf) | (refine Pick.ff rfl ?_; conv => whnf) | (refine Pick.mk (fun h => ?_) (fun h => ?_) <;> conv => whnf) | (refine Cond.mk (fun h => ?_) (fun h => ?_) <;> conv => whnf))
      obtain rfl : i = n := by omega
      exact End.mk rfl rfl
    | succ k ih =>
      intro i hi hin
      apply hs
      conv => whnf
      refine Cond.tt (decT (by omega)) ?_
      (conv => whnf) <;> repeat' (first | (refine Need.mk (by first | decide | omega | (simp; done) | (simp; omega)) ?_; conv => whnf) | (refine Cond.tt rfl ?_; conv => whnf) | (refine Cond.ff rfl ?_; conv => whnf) | (refine Pick.tt rfl ?_; conv => whnf) | (refine Pick.ff rfl ?_; conv => whnf) | (refine Called.mk _ _ (From_ret _ (by decide)) ?_; conv => whnf) | (refine Called.mk _ _ (MulN (mkN (10 ^ i.toNat)) (mkN 10)) ?_; conv => whnf) | (refine Pick.mk (fun h => ?_) (fun h => ?_) <;> conv => whnf) | (refine Cond.mk (fun h => ?_) (fun h => ?_) <;> conv => whnf))
      rw [ten_step hi (by omega), wi64_id (n := i + 1) (by omega) (by omega)]
      apply hw [0, 1] [false, false, true, false, true, false, false, false, false, false, false, false, false, true, true] _ _ (by decide)
      exact ih (i + 1) (by omega) (by omega)
  apply hw [0, 1] [false, false, true, false, true, false, false, false, false, false, false, false, false, true, true] _ _ (by decide)
  exact key n.toNat 0 (by omega) (by omega)
theorem rTen_ret (n : Int) (h0 : 0 ≤ n) (h1 : n ≤ 77) : Ret Try.prog 31 [.int .i64 n] [] (.tup [eN (mkN (10 ^ n.toNat)), .bool true]) [] := by
  refine ret_of_body atNone tok mixed Try.func31 (by kernel_rfl) rfl (k := 26) (rs := [.cell 2 24, .tmp 3]) (by kernel_rfl) (by kernel_rfl) ?_
  (conv => whnf) <;> repeat' (first | (refine Need.mk (by first | decide | omega | (simp; done) | (simp; omega)) ?_; conv => whnf) | (refine Cond.tt rfl ?_; conv => whnf) | (refine Cond.ff rfl ?_; conv => whnf) | (refine Pick.tt rfl ?_; conv => whnf) | (refine Pick.ff rfl ?_; conv => whnf) | (refine Called.mk _ _ (rFrom_ret _ (by decide)) ?_; conv => whnf) | (refine Pick.mk (fun h => ?_) (fun h => ?_) <;> conv => whnf) | (refine Cond.mk (fun h => ?_) (fun h => ?_) <;> conv => whnf))
  · rw [decF (by omega)] at h; cases h
  · simp at h; omega
  intro I hw hs
  have key : ∀ (k : Nat) (i : Int), 0 ≤ i → i + k = n → I [.int .i64 n, .und, .ptr 0 0, .und, .ptr 1 0, .int .i64 i, .und, .und, .und, .und, .und, .und, .und, .und, .und, .und, .und, .und, .und, .und, .und, .und, .und, .und, .und, .und] [.cells (cN N0), .cells (cN (mkN (10 ^ i.toNat)))] := by
    intro k
    induction k with
    | zero =>
      intro i hi hin
      apply hs
      conv => whnf
      refine Cond.ff (decF (by omega)) ?_
      (conv => whnf) <;> repeat' (first | (refine Need.mk (by first | decide | omega | (simp; done) | (simp; omega)) ?_; conv => whnf) | (refine Cond.tt rfl ?_; conv => whnf) | (refine Cond.ff rfl ?_; conv => whnf) | (refine Pick.tt rfl ?_; conv => whnf) | (refine Pick.ff rfl ?_; conv => whnf) | (refine Pick.mk (fun h => ?_) (fun h => ?_) <;> conv => whnf) | (refine Cond.mk (fun h => ?_) (fun h => ?_) <;> conv => whnf))
      obtain rfl : i = n := by omega
      exact End.mk rfl rfl
    | succ k ih =>
      intro i hi hin
      apply hs
      conv => whnf
      refine Cond.tt (decT (by omega)) ?_
      (conv => whnf) <;> repeat' (first | (refine Need.mk (by first | decide | omega | (simp; done) | (simp; omega)) ?_; conv => whnf) | (refine Cond.tt rfl ?_; conv => whnf) | (refine Cond.ff rfl ?_; conv => whnf) | (refine Pick.tt rfl ?_; conv => whnf) | (refine Pick.ff rfl ?_; conv => whnf) | (refine Called.mk _ _ (rFrom_ret _ (by decide)) ?_; conv => whnf) | (refine Called.mk _ _ (rMulN (mkN (10 ^ i.toNat)) (mkN 10)) ?_; conv => whnf) | (refine Pick.mk (fun h => ?_) (fun h => ?_) <;> conv => whnf) | (refine Cond.mk (fun h => ?_) (fun h => ?_) <;> conv => whnf))
      rw [ten_step hi (by omega), wi64_id (n := i + 1) (by omega) (by omega)]
      apply hw [0, 1] [true, false, true, false, true, true] _ _ (by decide)
      exact ih (i + 1) (by omega) (by omega)
  apply hw [0, 1] [true, false, true, false, true, true] _ _ (by decide)
  exact key n.toNat 0 (by omega) (by omega)
theorem Ten_bad (n : Int) (h : n < 0 ∨ n > 77) : Ret Try.prog 30 [.int .i64 n] [] (.tup [eN N0, .bool false]) [] := by
  refine ret_of_body atNone tok mixed Try.func30 (by kernel_rfl) rfl (k := 24) (rs := [.cell 2 24, .tmp 3]) (by kernel_rfl) (by kernel_rfl) ?_
  (conv => whnf) <;> repeat' (first | (refine Need.mk (by first | decide | omega | (simp; done) | (simp; omega)) ?_; conv => whnf) | (refine Cond.tt rfl ?_; conv => whnf) | (refine Cond.ff rfl ?_; conv => whnf) | (refine Pick.tt rfl ?_; conv => whnf) | (refine Pick.ff rfl ?_; conv => whnf) | (refine Pick.mk (fun h => ?_) (fun h => ?_) <;> conv => whnf) | (refine Cond.mk (fun h => ?_) (fun h => ?_) <;> conv => whnf))
  · exact End.mk rfl rfl
  · exact End.mk rfl rfl
  · simp at *; omega
theorem rTen_bad (n : Int) (h : n < 0 ∨ n > 77) : Ret Try.prog 31 [.int .i64 n] [] (.tup [eN N0, .bool false]) [] := by
  refine ret_of_body atNone tok mixed Try.func31 (by kernel_rfl) rfl (k := 26) (rs := [.cell 2 24, .tmp 3]) (by kernel_rfl) (by kernel_rfl) ?_
  (conv => whnf) <;> repeat' (first | (refine Need.mk (by first | decide | omega | (simp; done) | (simp; omega)) ?_; conv => whnf) | (refine Cond.tt rfl ?_; conv => whnf) | (refine Cond.ff rfl ?_; conv => whnf) | (refine Pick.tt rfl ?_; conv => whnf) | (refine Pick.ff rfl ?_; conv => whnf) | (refine Pick.mk (fun h => ?_) (fun h => ?_) <;> conv => whnf) | (refine Cond.mk (fun h => ?_) (fun h => ?_) <;> conv => whnf))
  · exact End.mk rfl rfl
  · exact End.mk rfl rfl
  · simp at *; omega
end Go.Proofs.Ytenlkhlkohnmkaa
