/- exciseref13: Not, Blank, Neg. -/
import Derived.Test.YtdpnhedbggnhiaaGreatAmGY
set_option linter.unusedVariables false
set_option linter.unusedSimpArgs false
set_option maxRecDepth 100000
namespace Go.Proofs.YtdpnhedbggnhiaaGreat
open Go.AM
theorem rvNot_ret (v : Vl) : Ret Tryz.prog 12 [eV v] [] (eV (notV v)) [] := by
  have hc := rvone_ret v 2
  by_cases h : (ofV' v 2).2 = true
  · obtain ⟨h1, h2, h3⟩ := ofV'_t h
    rw [h3] at hc
    simp only at hc
    rw [show notV v = flagV (!v.flag) from if_pos h]
    refine ret_of_body atNone tok mixed Tryz.func12 (by kernel_rfl) rfl (k := 13) (rs := [.cell 2 28]) (by kernel_rfl) (by kernel_rfl) ?_
    (conv => whnf) <;> repeat' (first | ((first | refine wN ?_ | refine wA ?_ | refine wB ?_ | refine wC ?_ | refine wD ?_ | refine Called.mk _ _ (hc) ?_ | refine Called.mk _ _ (rvflag_ret (!v.flag)) ?_ | refine vA ?_ | refine vB ?_ | refine vC ?_ | refine vD ?_ | refine uA ?_ | refine uB ?_ | refine uC ?_ | refine uD ?_); conv => whnf) | ((first | apply Pick.dec | apply Pick.beq | apply Cond.dec | apply Cond.beq | apply Cond.nd | apply Pick.nd | apply Pick.mk | apply Cond.mk) <;> intro h <;> conv => whnf))
    exact End.mk rfl rfl
  · have h' : (ofV' v 2).2 = false := by simpa using h
    have h4 := ofV'_k4 h'
    rw [show notV v = (ofV' v 2).1 from if_neg h]
    generalize (ofV' v 2).1 = x at *
    refine ret_of_body atNone tok mixed Tryz.func12 (by kernel_rfl) rfl (k := 13) (rs := [.cell 2 28]) (by kernel_rfl) (by kernel_rfl) ?_
    (conv => whnf) <;> repeat' (first | ((first | refine wN ?_ | refine wA ?_ | refine wB ?_ | refine wC ?_ | refine wD ?_ | refine Called.mk _ _ (hc) ?_ | refine vA ?_ | refine vB ?_ | refine vC ?_ | refine vD ?_ | refine uA ?_ | refine uB ?_ | refine uC ?_ | refine uD ?_); conv => whnf) | ((first | apply Pick.dec | apply Pick.beq | apply Cond.dec | apply Cond.beq | apply Cond.nd | apply Pick.nd | apply Pick.mk | apply Cond.mk) <;> intro h <;> conv => whnf))
    exact End.mk rfl rfl
theorem rvBlank_ret (v : Vl) : Ret Tryz.prog 14 [eV v] [] (eV (blankV v)) [] := by
  have hm := rvmay_ret v
  by_cases h : v.valid
  · rw [show mayV v = v from if_pos h] at hm
    rw [show blankV v = if v.kind = 4 then v else flagV (decide (v.kind = 0)) from if_pos h]
    refine ret_of_body atNone tok mixed Tryz.func14 (by kernel_rfl) rfl (k := 13) (rs := [.cell 2 28]) (by kernel_rfl) (by kernel_rfl) ?_
    (conv => whnf) <;> repeat' (first | ((first | refine wN ?_ | refine wA ?_ | refine wB ?_ | refine wC ?_ | refine wD ?_ | refine Called.mk _ _ (hm) ?_ | refine Called.mk _ _ (rvflag_ret (v.kind == 0)) ?_ | refine vA ?_ | refine vB ?_ | refine vC ?_ | refine vD ?_ | refine uA ?_ | refine uB ?_ | refine uC ?_ | refine uD ?_); conv => whnf) | ((first | apply Pick.dec | apply Pick.beq | apply Cond.dec | apply Cond.beq | apply Cond.nd | apply Pick.nd | apply Pick.mk | apply Cond.mk) <;> intro h <;> conv => whnf))
    · rw [if_pos h]; exact End.mk rfl rfl
    · rw [if_neg h]
      have : (v.kind == 0) = decide (v.kind = 0) := by rw [Bool.eq_iff_iff]; simp
      rw [← this]; exact End.mk rfl rfl
  · rw [show mayV v = errV 2 from if_neg h] at hm
    rw [show blankV v = errV 2 from if_neg h]
    refine ret_of_body atNone tok mixed Tryz.func14 (by kernel_rfl) rfl (k := 13) (rs := [.cell 2 28]) (by kernel_rfl) (by kernel_rfl) ?_
    (conv => whnf) <;> repeat' (first | ((first | refine wN ?_ | refine wA ?_ | refine wB ?_ | refine wC ?_ | refine wD ?_ | refine Called.mk _ _ (hm) ?_ | refine vA ?_ | refine vB ?_ | refine vC ?_ | refine vD ?_ | refine uA ?_ | refine uB ?_ | refine uC ?_ | refine uD ?_); conv => whnf) | ((first | apply Pick.dec | apply Pick.beq | apply Cond.dec | apply Cond.beq | apply Cond.nd | apply Pick.nd | apply Pick.mk | apply Cond.mk) <;> intro h <;> conv => whnf))
    exact End.mk rfl rfl
theorem numberV_neg {d : D} (h : d.ok) : numberV (negOf d) = numV ⟨!d.neg && decide (d.n ≠ N0), d.n, d.scale⟩ := by
  have e1 : negOf d = madeZ (- d.sv) d.scale := if_pos h
  have e2 : - d.sv = sgd (!d.neg) d.n.v := by unfold D.sv sgd; cases d.neg <;> simp
  have e3 : ¬ B4 ≤ d.n.v := by have := d.n.h.2; omega
  have e4 : mkN d.n.v = d.n := mkN_val d.n
  rw [e1, e2, ← made_sg _ d.n.h.1]
  unfold made
  rw [if_neg e3, numberV_0 rfl, e4]
theorem rvNeg_ret (v : Vl) : Ret Tryz.prog 10 [eV v] [] (eV (negV v)) [] := by
  have hc := rvone_ret v 1
  by_cases h : (ofV' v 1).2 = true
  · obtain ⟨h1, h2, h3⟩ := ofV'_t h
    obtain ⟨_, hd⟩ := h1.num h2
    rw [h3] at hc
    simp only at hc
    rw [show negV v = numV ⟨!v.num.neg && decide (v.num.n ≠ N0), v.num.n, v.num.scale⟩ from if_pos h, ← numberV_neg hd]
    have hN := rNeg_ret v.num
    have hT := rvtold_ret (negOf v.num).1 (negOf v.num).2
    refine ret_of_body atNone tok mixed Tryz.func10 (by kernel_rfl) rfl (k := 15) (rs := [.cell 2 28]) (by kernel_rfl) (by kernel_rfl) ?_
    (conv => whnf) <;> repeat' (first | ((first | refine wN ?_ | refine wA ?_ | refine wB ?_ | refine wC ?_ | refine wD ?_ | refine Called.mk _ _ (hc) ?_ | refine Called.mk _ _ (hN) ?_ | refine Called.mk _ _ (hT) ?_ | refine vA ?_ | refine vB ?_ | refine vC ?_ | refine vD ?_ | refine uA ?_ | refine uB ?_ | refine uC ?_ | refine uD ?_); conv => whnf) | ((first | apply Pick.dec | apply Pick.beq | apply Cond.dec | apply Cond.beq | apply Cond.nd | apply Pick.nd | apply Pick.mk | apply Cond.mk) <;> intro h <;> conv => whnf))
    exact End.mk rfl rfl
  · have h' : (ofV' v 1).2 = false := by simpa using h
    have h4 := ofV'_k4 h'
    rw [show negV v = (ofV' v 1).1 from if_neg h]
    generalize (ofV' v 1).1 = x at *
    refine ret_of_body atNone tok mixed Tryz.func10 (by kernel_rfl) rfl (k := 15) (rs := [.cell 2 28]) (by kernel_rfl) (by kernel_rfl) ?_
    (conv => whnf) <;> repeat' (first | ((first | refine wN ?_ | refine wA ?_ | refine wB ?_ | refine wC ?_ | refine wD ?_ | refine Called.mk _ _ (hc) ?_ | refine vA ?_ | refine vB ?_ | refine vC ?_ | refine vD ?_ | refine uA ?_ | refine uB ?_ | refine uC ?_ | refine uD ?_); conv => whnf) | ((first | apply Pick.dec | apply Pick.beq | apply Cond.dec | apply Cond.beq | apply Cond.nd | apply Pick.nd | apply Pick.mk | apply Cond.mk) <;> intro h <;> conv => whnf))
    exact End.mk rfl rfl
end Go.Proofs.YtdpnhedbggnhiaaGreat

