/- value: Not, If, Round, Blank, Fit, Neg; exciseref13's; live. -/
import Derived.Test.YtlbocjcponegcaaGreatAmGW
import Derived.Test.YtlbocjcponegcaaGreatAmGX
import Derived.Test.YtlbocjcponegcaaGreatAmQ0
import Derived.Test.YtlbocjcponegcaaGreatAmGE
set_option linter.unusedVariables false
set_option linter.unusedSimpArgs false
set_option maxRecDepth 100000
namespace Go.Proofs.YtlbocjcponegcaaGreat
open Go.AM
theorem vNot_ret (v : Vl) : Ret Tryz.prog 35 [eV v] [] (eV (notV v)) [] := by
  have hc := vof_ret v 2
  by_cases h : (ofV' v 2).2 = true
  · obtain ⟨h1, h2, h3⟩ := ofV'_t h
    have e := h1.flag_ h2
    rw [h3] at hc
    simp only at hc
    rw [show notV v = flagV (!v.flag) from if_pos h]
    generalize v.flag = p at *
    subst e
    refine ret_of_body atNone tok mixed Tryz.func35 (by kernel_rfl) rfl (k := 16) (rs := [.cell 2 28]) (by kernel_rfl) (by kernel_rfl) ?_
    (conv => whnf) <;> repeat' (first | ((first | refine wN ?_ | refine wNc ?_ | refine wA ?_ | refine wB ?_ | refine wC ?_ | refine wD ?_ | refine Called.mk _ _ (hc) ?_ | refine vA ?_ | refine vB ?_ | refine vC ?_ | refine vD ?_ | refine uA ?_ | refine uB ?_ | refine uC ?_ | refine uD ?_); conv => whnf) | ((first | apply Pick.dec | apply Pick.beq | apply Cond.dec | apply Cond.beq | apply Cond.nd | apply Pick.nd | apply Pick.mk | apply Cond.mk) <;> intro h <;> conv => whnf))
    exact End.mk rfl rfl
  · have h' : (ofV' v 2).2 = false := by simpa using h
    rw [show notV v = (ofV' v 2).1 from if_neg h]
    rw [h'] at hc
    refine ret_of_body atNone tok mixed Tryz.func35 (by kernel_rfl) rfl (k := 16) (rs := [.cell 2 28]) (by kernel_rfl) (by kernel_rfl) ?_
    (conv => whnf) <;> repeat' (first | ((first | refine wN ?_ | refine wNc ?_ | refine wA ?_ | refine wB ?_ | refine wC ?_ | refine wD ?_ | refine Called.mk _ _ (hc) ?_ | refine vA ?_ | refine vB ?_ | refine vC ?_ | refine vD ?_ | refine uA ?_ | refine uB ?_ | refine uC ?_ | refine uD ?_); conv => whnf) | ((first | apply Pick.dec | apply Pick.beq | apply Cond.dec | apply Cond.beq | apply Cond.nd | apply Pick.nd | apply Pick.mk | apply Cond.mk) <;> intro h <;> conv => whnf))
    exact End.mk rfl rfl
theorem vNeg_ret (v : Vl) : Ret Tryz.prog 34 [eV v] [] (eV (negV v)) [] := by
  have hc := vof_ret v 1
  by_cases h : (ofV' v 1).2 = true
  · obtain ⟨h1, h2, h3⟩ := ofV'_t h
    have e := (h1.num h2).1
    rw [h3] at hc
    simp only at hc
    rw [show negV v = numV ⟨!v.num.neg && decide (v.num.n ≠ N0), v.num.n, v.num.scale⟩ from if_pos h]
    generalize v.num = p at *
    subst e
    have hb := Bits_ret p.n
    refine ret_of_body atNone tok mixed Tryz.func34 (by kernel_rfl) rfl (k := 25) (rs := [.cell 2 28]) (by kernel_rfl) (by kernel_rfl) ?_
    (conv => whnf) <;> repeat' (first | ((first | refine wN ?_ | refine wNc ?_ | refine wA ?_ | refine wB ?_ | refine wC ?_ | refine wD ?_ | refine Called.mk _ _ (hc) ?_ | refine Called.mk _ _ (hb) ?_ | refine vA ?_ | refine vB ?_ | refine vC ?_ | refine vD ?_ | refine uA ?_ | refine uB ?_ | refine uC ?_ | refine uD ?_); conv => whnf) | ((first | apply Pick.dec | apply Pick.beq | apply Cond.dec | apply Cond.beq | apply Cond.nd | apply Pick.nd | apply Pick.mk | apply Cond.mk) <;> intro h <;> conv => whnf))
    · refine End.mk (agg_eq (cons_eq rfl (cons_eq (bool_eq ?_) rfl))) rfl
      replace h : (!p.neg) = true := h
      show decide ((blen p.n.v.toNat : Int) > 0) = (!p.neg && decide (p.n ≠ N0))
      rw [h, Bool.true_and]
      have h0 := p.n.h.1
      have hz := N0_iff p.n
      rw [decide_eq_decide]
      unfold blen
      constructor
      · intro hb e
        rw [if_pos (by have := hz.1 e; omega)] at hb
        exact absurd hb (by decide)
      · intro hb
        rw [if_neg (fun e => hb (hz.2 (by omega)))]
        omega
    · refine End.mk (agg_eq (cons_eq rfl (cons_eq (bool_eq ?_) rfl))) rfl
      replace h : (!p.neg) = false := h
      show false = (!p.neg && decide (p.n ≠ N0))
      rw [h]; rfl
  · have h' : (ofV' v 1).2 = false := by simpa using h
    rw [show negV v = (ofV' v 1).1 from if_neg h]
    rw [h'] at hc
    refine ret_of_body atNone tok mixed Tryz.func34 (by kernel_rfl) rfl (k := 25) (rs := [.cell 2 28]) (by kernel_rfl) (by kernel_rfl) ?_
    (conv => whnf) <;> repeat' (first | ((first | refine wN ?_ | refine wNc ?_ | refine wA ?_ | refine wB ?_ | refine wC ?_ | refine wD ?_ | refine Called.mk _ _ (hc) ?_ | refine vA ?_ | refine vB ?_ | refine vC ?_ | refine vD ?_ | refine uA ?_ | refine uB ?_ | refine uC ?_ | refine uD ?_); conv => whnf) | ((first | apply Pick.dec | apply Pick.beq | apply Cond.dec | apply Cond.beq | apply Cond.nd | apply Pick.nd | apply Pick.mk | apply Cond.mk) <;> intro h <;> conv => whnf))
    exact End.mk rfl rfl
theorem vIf_ret (c a b : Vl) : Ret Tryz.prog 39 [eV c, eV a, eV b] [] (eV (ifV c a b)) [] := by
  have hc := vof_ret c 2
  have hA := vmay_ret a; have hB := vmay_ret b
  by_cases h : (ofV' c 2).2 = true
  · obtain ⟨h1, h2, h3⟩ := ofV'_t h
    rw [h3] at hc
    simp only at hc
    rw [show ifV c a b = if c.flag = true then mayV a else mayV b from if_pos h]
    refine ret_of_body atNone tok mixed Tryz.func39 (by kernel_rfl) rfl (k := 25) (rs := [.cell 6 28]) (by kernel_rfl) (by kernel_rfl) ?_
    (conv => whnf) <;> repeat' (first | ((first | refine wN ?_ | refine wNc ?_ | refine wA ?_ | refine wB ?_ | refine wC ?_ | refine wD ?_ | refine Called.mk _ _ (hc) ?_ | refine Called.mk _ _ (hA) ?_ | refine Called.mk _ _ (hB) ?_ | refine vA ?_ | refine vB ?_ | refine vC ?_ | refine vD ?_ | refine uA ?_ | refine uB ?_ | refine uC ?_ | refine uD ?_); conv => whnf) | ((first | apply Pick.dec | apply Pick.beq | apply Cond.dec | apply Cond.beq | apply Cond.nd | apply Pick.nd | apply Pick.mk | apply Cond.mk) <;> intro h <;> conv => whnf))
    · rw [if_pos h]; exact End.mk rfl rfl
    · rw [if_neg (by simpa using h)]; exact End.mk rfl rfl
  · have h' : (ofV' c 2).2 = false := by simpa using h
    rw [show ifV c a b = (ofV' c 2).1 from if_neg h]
    rw [h'] at hc
    refine ret_of_body atNone tok mixed Tryz.func39 (by kernel_rfl) rfl (k := 25) (rs := [.cell 6 28]) (by kernel_rfl) (by kernel_rfl) ?_
    (conv => whnf) <;> repeat' (first | ((first | refine wN ?_ | refine wNc ?_ | refine wA ?_ | refine wB ?_ | refine wC ?_ | refine wD ?_ | refine Called.mk _ _ (hc) ?_ | refine vA ?_ | refine vB ?_ | refine vC ?_ | refine vD ?_ | refine uA ?_ | refine uB ?_ | refine uC ?_ | refine uD ?_); conv => whnf) | ((first | apply Pick.dec | apply Pick.beq | apply Cond.dec | apply Cond.beq | apply Cond.nd | apply Pick.nd | apply Pick.mk | apply Cond.mk) <;> intro h <;> conv => whnf))
    exact End.mk rfl rfl
theorem vRound_ret (v : Vl) (s p : Int) : Ret Tryz.prog 37 [eV v, .int .i64 s, .int .i64 p] [] (eV (roundV v s p)) [] := by
  have hc := vof_ret v 1
  by_cases h : (ofV' v 1).2 = true
  · obtain ⟨h1, h2, h3⟩ := ofV'_t h
    rw [h3] at hc
    simp only at hc
    rw [show roundV v s p = numberV (rescaleD v.num s p) from if_pos h]
    refine ret_of_body atNone tok mixed Tryz.func37 (by kernel_rfl) rfl (k := 25) (rs := [.cell 6 28]) (by kernel_rfl) (by kernel_rfl) ?_
    (conv => whnf) <;> repeat' (first | ((first | refine wN ?_ | refine wNc ?_ | refine wA ?_ | refine wB ?_ | refine wC ?_ | refine wD ?_ | refine Called.mk _ _ (hc) ?_ | refine Called.mk _ _ (dRescale_ret v.num s p) ?_ | refine Called.mk _ _ (vnumber_ret (rescaleD v.num s p).1 (rescaleD v.num s p).2) ?_ | refine vA ?_ | refine vB ?_ | refine vC ?_ | refine vD ?_ | refine uA ?_ | refine uB ?_ | refine uC ?_ | refine uD ?_); conv => whnf) | ((first | apply Pick.dec | apply Pick.beq | apply Cond.dec | apply Cond.beq | apply Cond.nd | apply Pick.nd | apply Pick.mk | apply Cond.mk) <;> intro h <;> conv => whnf))
    exact End.mk rfl rfl
  · have h' : (ofV' v 1).2 = false := by simpa using h
    rw [show roundV v s p = (ofV' v 1).1 from if_neg h]
    rw [h'] at hc
    refine ret_of_body atNone tok mixed Tryz.func37 (by kernel_rfl) rfl (k := 25) (rs := [.cell 6 28]) (by kernel_rfl) (by kernel_rfl) ?_
    (conv => whnf) <;> repeat' (first | ((first | refine wN ?_ | refine wNc ?_ | refine wA ?_ | refine wB ?_ | refine wC ?_ | refine wD ?_ | refine Called.mk _ _ (hc) ?_ | refine vA ?_ | refine vB ?_ | refine vC ?_ | refine vD ?_ | refine uA ?_ | refine uB ?_ | refine uC ?_ | refine uD ?_); conv => whnf) | ((first | apply Pick.dec | apply Pick.beq | apply Cond.dec | apply Cond.beq | apply Cond.nd | apply Pick.nd | apply Pick.mk | apply Cond.mk) <;> intro h <;> conv => whnf))
    exact End.mk rfl rfl
theorem vBlank_ret (v : Vl) : Ret Tryz.prog 36 [eV v] [] (eV (blankV v)) [] := by
  have hm := vmay_ret v
  by_cases h : v.valid
  · rw [show mayV v = v from if_pos h] at hm
    rw [show blankV v = if v.kind = 4 then v else flagV (decide (v.kind = 0)) from if_pos h]
    refine ret_of_body atNone tok mixed Tryz.func36 (by kernel_rfl) rfl (k := 13) (rs := [.cell 2 28]) (by kernel_rfl) (by kernel_rfl) ?_
    (conv => whnf) <;> repeat' (first | ((first | refine wN ?_ | refine wNc ?_ | refine wA ?_ | refine wB ?_ | refine wC ?_ | refine wD ?_ | refine Called.mk _ _ (hm) ?_ | refine Called.mk _ _ (vflag_ret (v.kind == 0)) ?_ | refine vA ?_ | refine vB ?_ | refine vC ?_ | refine vD ?_ | refine uA ?_ | refine uB ?_ | refine uC ?_ | refine uD ?_); conv => whnf) | ((first | apply Pick.dec | apply Pick.beq | apply Cond.dec | apply Cond.beq | apply Cond.nd | apply Pick.nd | apply Pick.mk | apply Cond.mk) <;> intro h <;> conv => whnf))
    · rw [if_pos h]; exact End.mk rfl rfl
    · rw [if_neg h]
      have : (v.kind == 0) = decide (v.kind = 0) := by rw [Bool.eq_iff_iff]; simp
      rw [← this]; exact End.mk rfl rfl
  · rw [show mayV v = errV 2 from if_neg h] at hm
    rw [show blankV v = errV 2 from if_neg h]
    refine ret_of_body atNone tok mixed Tryz.func36 (by kernel_rfl) rfl (k := 13) (rs := [.cell 2 28]) (by kernel_rfl) (by kernel_rfl) ?_
    (conv => whnf) <;> repeat' (first | ((first | refine wN ?_ | refine wNc ?_ | refine wA ?_ | refine wB ?_ | refine wC ?_ | refine wD ?_ | refine Called.mk _ _ (hm) ?_ | refine vA ?_ | refine vB ?_ | refine vC ?_ | refine vD ?_ | refine uA ?_ | refine uB ?_ | refine uC ?_ | refine uD ?_); conv => whnf) | ((first | apply Pick.dec | apply Pick.beq | apply Cond.dec | apply Cond.beq | apply Cond.nd | apply Pick.nd | apply Pick.mk | apply Cond.mk) <;> intro h <;> conv => whnf))
    exact End.mk rfl rfl
end Go.Proofs.YtlbocjcponegcaaGreat

