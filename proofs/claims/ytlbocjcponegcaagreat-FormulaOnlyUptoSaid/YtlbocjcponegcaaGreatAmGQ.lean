/- decimal: away, may, round; exciseref02: up, may, round. -/
import Derived.Test.YtlbocjcponegcaaGreatAmGP
import Derived.Test.YtlbocjcponegcaaGreatAmGU
set_option linter.unusedVariables false
set_option linter.unusedSimpArgs false
set_option maxRecDepth 100000
namespace Go.Proofs.YtlbocjcponegcaaGreat
open Go.AM
theorem cmpI_ge {x y : Int} : cmpI x y ≥ 0 ↔ y ≤ x := by unfold cmpI; repeat' split
                                                         all_goals omega
theorem cmpI_gt {x y : Int} : cmpI x y > 0 ↔ y < x := by unfold cmpI; repeat' split
                                                         all_goals omega
theorem cmpI_eq {x y : Int} : cmpI x y = 0 ↔ x = y := by unfold cmpI; repeat' split
                                                         all_goals omega
theorem away_ret (p : Int) (neg : Bool) (q r d : N) (h : r.v < d.v) : Ret Tryz.prog 147 [.int .i64 p, .bool neg, eN q, eN r, eN d] [] (.bool (upD p neg q.v r.v d.v)) [] := by
  have hr := r.h; have hd := d.h
  have e : (mkN (d.v - r.v)).v = d.v - r.v := mkN_v ⟨by omega, by unfold W at *; omega⟩
  have hz := N0_iff r
  refine ret_of_body atNone tok mixed Tryz.func147 (by kernel_rfl) rfl (k := 48) (rs := [.tmp 10]) (by kernel_rfl) (by kernel_rfl) ?_
  (conv => whnf) <;> repeat' (first | (rw [eqN_zero]; conv => whnf) | ((first | refine wN ?_ | refine wNc ?_ | refine wA ?_ | refine wB ?_ | refine wC ?_ | refine wD ?_ | refine Called.mk _ _ (Sub_ret d r) ?_ | refine Called.mk _ _ (Cmp_ret r (mkN (d.v - r.v))) ?_ | refine Called.mk _ _ (Odd_ret q) ?_ | refine vA ?_ | refine vB ?_ | refine vC ?_ | refine vD ?_); conv => whnf) | ((first | apply Pick.dec | apply Pick.beq | apply Cond.dec | apply Cond.beq | apply Cond.nd | apply Pick.nd | apply Pick.mk | apply Cond.mk) <;> intro h <;> conv => whnf))
  all_goals
    refine End.mk (bool_eq ?_) rfl
    simp only [N0_iff] at *
    unfold upD
    repeat' split
    all_goals
      first
        | rfl
        | (exfalso; omega)
        | (rw [decide_eq_decide, cmpI_ge, e]; omega)
        | (rw [Bool.eq_iff_iff]
           simp only [e, Bool.or_eq_true, Bool.and_eq_true, decide_eq_true_eq, beq_iff_eq, cond_true, cond_false, if_true, if_false, Bool.false_eq_true, true_iff, iff_true, false_iff, iff_false, cmpI_ge, cmpI_gt, cmpI_eq] at *
           omega)
theorem dmay_ret (s p : Int) : Ret Tryz.prog 115 [.int .i64 s, .int .i64 p] [] (.int .i64 (mayD s p)) [] := by
  refine ret_of_body atNone tok mixed Tryz.func115 (by kernel_rfl) rfl (k := 19) (rs := [.tmp 4]) (by kernel_rfl) (by kernel_rfl) ?_
  (conv => whnf) <;> repeat' (first | ((first | refine wN ?_ | refine wNc ?_ | refine wA ?_ | refine wB ?_ | refine wC ?_ | refine wD ?_ | refine vA ?_ | refine vB ?_ | refine vC ?_ | refine vD ?_); conv => whnf) | ((first | apply Pick.dec | apply Pick.beq | apply Cond.dec | apply Cond.beq | apply Cond.nd | apply Pick.nd | apply Pick.mk | apply Cond.mk) <;> intro h <;> conv => whnf))
  all_goals
    refine End.mk (int_eq ?_) rfl
    unfold mayD
    repeat' split
    all_goals omega
end Go.Proofs.YtlbocjcponegcaaGreat

set_option linter.unusedVariables false
set_option linter.unusedSimpArgs false
set_option maxRecDepth 100000
namespace Go.Proofs.YtlbocjcponegcaaGreat
open Go.AM
theorem WW_split {X : Int} (h : WW X) : (mkN (X / B4)).v * B4 + (mkN X).v = X := by
  rw [WW_hi h, mkN_lo, Int.mul_comm]; exact Int.mul_ediv_add_emod X B4
theorem ten_v {p : Int} (h : p ≤ 77) : (mkN (10 ^ p.toNat)).v = tenP p := mkN_v (ten_W h)
theorem emod_W {X d : Int} (hd : 0 < d) (h : d < B4) : (mkN (X % d)).v = X % d := mkN_v ⟨Int.emod_nonneg _ (by omega), by have := Int.emod_lt_of_pos X hd; unfold B4 at *; omega⟩
theorem ten36 {p : Int} (h : p ≤ 36) : 2 * tenP p < B4 := by
  have h2 : (10 : Int) ^ p.toNat ≤ 10 ^ 36 := by
    have := Nat.pow_le_pow_right (n := 10) (by decide) (show p.toNat ≤ 36 by omega)
    exact_mod_cast this
  have h3 : (10 : Int) ^ 36 = 1000000000000000000000000000000000000 := by decide
  unfold tenP B4; omega
theorem dround_ret (neg : Bool) (X f s p : Int) (hX : WW X) (hf : 0 ≤ f ∧ f ≤ 36) (hs : 0 ≤ s ∧ s ≤ 18) : Ret Tryz.prog 116 [.bool neg, eW X, .int .i64 f, .int .i64 s, .int .i64 p] []
    (.tup [eD (roundD neg X f s p).1, .int .i64 (roundD neg X f s p).2]) [] := by
  have e1 : IntKind.i64.wrap (s - f) = s - f := wi64_id (by omega) (by omega)
  have e2 : IntKind.i64.wrap (f - s) = f - s := wi64_id (by omega) (by omega)
  have hz := WW_zero_hi hX
  by_cases h1 : f ≤ s
  · by_cases h2 : B4 ≤ X
    · rw [show roundD neg X f s p = (D0, 7) from by unfold roundD; rw [if_pos h1, if_pos h2]]
      have h3 : ¬ mkN (X / B4) = N0 := fun h => by have := hz.1 h; omega
      refine ret_of_body atNone tok mixed Tryz.func116 (by kernel_rfl) rfl (k := 75) (rs := [.cell 10 26, .tmp 11]) (by kernel_rfl) (by kernel_rfl) ?_
      (conv => whnf) <;> repeat' (first | (rw [eqN_zero]; conv => whnf) | ((first | refine wN ?_ | refine wNc ?_ | refine wA ?_ | refine wB ?_ | refine wC ?_ | refine wD ?_ | refine vA ?_ | refine vB ?_ | refine vC ?_ | refine vD ?_ | refine uA ?_ | refine uB ?_ | refine uC ?_ | refine uD ?_); conv => whnf) | ((first | apply Pick.dec | apply Pick.beq | apply Cond.dec | apply Cond.beq | apply Cond.nd | apply Pick.nd | apply Pick.mk | apply Cond.mk) <;> intro h <;> conv => whnf))
      exact End.mk rfl rfl
    · rw [show roundD neg X f s p = made neg (X * tenP (s - f)) s from by unfold roundD; rw [if_pos h1, if_neg h2]]
      have h3 : mkN (X / B4) = N0 := hz.2 (by omega)
      have h4 : (mkN X).v = X := mkN_v ⟨hX.1, by omega⟩
      have ht := times_ret (mkN X) (s - f) (by omega) (by omega)
      rw [h4] at ht
      have hw := WW_times (mkN X) (p := s - f) (by omega) (by omega)
      rw [h4] at hw
      refine ret_of_body atNone tok mixed Tryz.func116 (by kernel_rfl) rfl (k := 75) (rs := [.cell 10 26, .tmp 11]) (by kernel_rfl) (by kernel_rfl) ?_
      (conv => whnf) <;> repeat' (first | (rw [eqN_zero]; conv => whnf) | (rw [e1]; conv => whnf) | ((first | refine wN ?_ | refine wNc ?_ | refine wA ?_ | refine wB ?_ | refine wC ?_ | refine wD ?_ | refine Called.mk _ _ (ht) ?_ | refine Called.mk _ _ (made_ret neg _ s hw) ?_ | refine vA ?_ | refine vB ?_ | refine vC ?_ | refine vD ?_ | refine uA ?_ | refine uB ?_ | refine uC ?_ | refine uD ?_); conv => whnf) | ((first | apply Pick.dec | apply Pick.beq | apply Cond.dec | apply Cond.beq | apply Cond.nd | apply Pick.nd | apply Pick.mk | apply Cond.mk) <;> intro h <;> conv => whnf))
      exact End.mk rfl rfl
  · have hd0 := tenP_pos (f - s)
    have hd1 : tenP (f - s) < B4 := tenP_lt (by omega)
    have hd2 := ten36 (p := f - s) (by omega)
    have hT := Ten_ret (f - s) (by omega) (by omega)
    have ed := ten_v (p := f - s) (by omega)
    generalize hRD : roundD neg X f s p = RD
    unfold roundD at hRD
    rw [if_neg h1] at hRD
    generalize mkN (10 ^ (f - s).toNat) = t at *
    generalize tenP (f - s) = d at *
    by_cases h2 : d ≤ X / B4
    · rw [if_pos h2] at hRD; subst hRD
      have hv := Div_bad (mkN (X / B4)) (mkN X) t (by rw [ed, WW_hi hX]; exact h2)
      refine ret_of_body atNone tok mixed Tryz.func116 (by kernel_rfl) rfl (k := 75) (rs := [.cell 10 26, .tmp 11]) (by kernel_rfl) (by kernel_rfl) ?_
      (conv => whnf) <;> repeat' (first | (rw [e2]; conv => whnf) | ((first | refine wN ?_ | refine wNc ?_ | refine wA ?_ | refine wB ?_ | refine wC ?_ | refine wD ?_ | refine Called.mk _ _ (hT) ?_ | refine Called.mk _ _ (hv) ?_ | refine vA ?_ | refine vB ?_ | refine vC ?_ | refine vD ?_ | refine uA ?_ | refine uB ?_ | refine uC ?_ | refine uD ?_); conv => whnf) | ((first | apply Pick.dec | apply Pick.beq | apply Cond.dec | apply Cond.beq | apply Cond.nd | apply Pick.nd | apply Pick.mk | apply Cond.mk) <;> intro h <;> conv => whnf))
      exact End.mk rfl rfl
    · rw [if_neg h2] at hRD; subst hRD
      have hv := Div_ok (mkN (X / B4)) (mkN X) t (by rw [ed, WW_hi hX]; omega)
      rw [WW_split hX, ed] at hv
      obtain ⟨q0, q1, q2, q3⟩ := quoD_le (p := p) (neg := neg) hX.1 hd0 (by omega) hX.2
      have eq : (mkN (X / d)).v = X / d := mkN_v ⟨q0, q1⟩
      have er := emod_W (X := X) hd0 hd1
      have hlt := Int.emod_lt_of_pos X hd0
      have ha := away_ret p neg (mkN (X / d)) (mkN (X % d)) t (by rw [er, ed]; exact hlt)
      rw [eq, er, ed] at ha
      have hm := made_ret neg (quoD p neg X d) s ⟨q2, by unfold B8; unfold B4 at q3; omega⟩
      by_cases hu : upD p neg (X / d) (X % d) d = true
      · rw [hu] at ha
        have eQ : quoD p neg X d = X / d + 1 := by unfold quoD; rw [if_pos hu]
        rw [eQ] at hm ⊢
        have hpl := dplus_ret (X / d) 1 (WW_low q0 q1) (WW_low (by decide) (by decide))
        rw [eW_low q0 q1, eW_low (u := 1) (by decide) (by decide)] at hpl
        refine ret_of_body atNone tok mixed Tryz.func116 (by kernel_rfl) rfl (k := 75) (rs := [.cell 10 26, .tmp 11]) (by kernel_rfl) (by kernel_rfl) ?_
        (conv => whnf) <;> repeat' (first | (rw [e2]; conv => whnf) | ((first | refine wN ?_ | refine wNc ?_ | refine wA ?_ | refine wB ?_ | refine wC ?_ | refine wD ?_ | refine Called.mk _ _ (hT) ?_ | refine Called.mk _ _ (hv) ?_ | refine Called.mk _ _ (ha) ?_ | refine Called.mk _ _ (From_ret 1 (by decide)) ?_ | refine Called.mk _ _ (hpl) ?_ | refine Called.mk _ _ (hm) ?_ | refine vA ?_ | refine vB ?_ | refine vC ?_ | refine vD ?_ | refine uA ?_ | refine uB ?_ | refine uC ?_ | refine uD ?_); conv => whnf) | ((first | apply Pick.dec | apply Pick.beq | apply Cond.dec | apply Cond.beq | apply Cond.nd | apply Pick.nd | apply Pick.mk | apply Cond.mk) <;> intro h <;> conv => whnf))
        exact End.mk rfl rfl
      · have hu' : upD p neg (X / d) (X % d) d = false := by simpa using hu
        rw [hu'] at ha
        have eQ : quoD p neg X d = X / d := by unfold quoD; rw [hu']; simp
        rw [eQ] at hm ⊢
        rw [eW_low q0 q1] at hm
        refine ret_of_body atNone tok mixed Tryz.func116 (by kernel_rfl) rfl (k := 75) (rs := [.cell 10 26, .tmp 11]) (by kernel_rfl) (by kernel_rfl) ?_
        (conv => whnf) <;> repeat' (first | (rw [e2]; conv => whnf) | ((first | refine wN ?_ | refine wNc ?_ | refine wA ?_ | refine wB ?_ | refine wC ?_ | refine wD ?_ | refine Called.mk _ _ (hT) ?_ | refine Called.mk _ _ (hv) ?_ | refine Called.mk _ _ (ha) ?_ | refine Called.mk _ _ (hm) ?_ | refine vA ?_ | refine vB ?_ | refine vC ?_ | refine vD ?_ | refine uA ?_ | refine uB ?_ | refine uC ?_ | refine uD ?_); conv => whnf) | ((first | apply Pick.dec | apply Pick.beq | apply Cond.dec | apply Cond.beq | apply Cond.nd | apply Pick.nd | apply Pick.mk | apply Cond.mk) <;> intro h <;> conv => whnf))
        exact End.mk rfl rfl
end Go.Proofs.YtlbocjcponegcaaGreat

set_option linter.unusedVariables false
set_option linter.unusedSimpArgs false
set_option maxRecDepth 100000
namespace Go.Proofs.YtlbocjcponegcaaGreat
open Go.AM
theorem mayD_0 {s p : Int} (h : mayD s p = 0) : 0 ≤ s ∧ s ≤ 18 ∧ 1 ≤ p ∧ p ≤ 5 := by
  unfold mayD at h
  split at h
  · omega
  · split at h <;> omega
theorem dRescale_ret (a : D) (s p : Int) : Ret Tryz.prog 77 [eD a, .int .i64 s, .int .i64 p] [] (.tup [eD (rescaleD a s p).1, .int .i64 (rescaleD a s p).2]) [] := by
  have hc := Check_ret a
  by_cases ha : a.ok
  · rw [check_ok ha] at hc
    have hm := dmay_ret s p
    by_cases h : mayD s p = 0
    · rw [show rescaleD a s p = roundD a.neg a.n.v a.scale s p from by unfold rescaleD; rw [if_pos ha, if_pos h]]
      rw [h] at hm
      obtain ⟨h1, h2, h3, h4⟩ := mayD_0 h
      obtain ⟨a1, a2, _⟩ := id ha
      have hr := dround_ret a.neg a.n.v a.scale s p (WW_low a.n.h.1 a.n.h.2) ⟨a1, by omega⟩ ⟨h1, h2⟩
      rw [eW_low a.n.h.1 a.n.h.2, mkN_val] at hr
      refine ret_of_body atNone tok mixed Tryz.func77 (by kernel_rfl) rfl (k := 35) (rs := [.cell 6 26, .tmp 7]) (by kernel_rfl) (by kernel_rfl) ?_
      (conv => whnf) <;> repeat' (first | ((first | refine wN ?_ | refine wNc ?_ | refine wA ?_ | refine wB ?_ | refine wC ?_ | refine wD ?_ | refine Called.mk _ _ (hc) ?_ | refine Called.mk _ _ (hm) ?_ | refine Called.mk _ _ (hr) ?_ | refine vA ?_ | refine vB ?_ | refine vC ?_ | refine vD ?_ | refine uA ?_ | refine uB ?_ | refine uC ?_ | refine uD ?_); conv => whnf) | ((first | apply Pick.dec | apply Pick.beq | apply Cond.dec | apply Cond.beq | apply Cond.nd | apply Pick.nd | apply Pick.mk | apply Cond.mk) <;> intro h <;> conv => whnf))
      exact End.mk rfl rfl
    · rw [show rescaleD a s p = (D0, mayD s p) from by unfold rescaleD; rw [if_pos ha, if_neg h]]
      refine ret_of_body atNone tok mixed Tryz.func77 (by kernel_rfl) rfl (k := 35) (rs := [.cell 6 26, .tmp 7]) (by kernel_rfl) (by kernel_rfl) ?_
      (conv => whnf) <;> repeat' (first | ((first | refine wN ?_ | refine wNc ?_ | refine wA ?_ | refine wB ?_ | refine wC ?_ | refine wD ?_ | refine Called.mk _ _ (hc) ?_ | refine Called.mk _ _ (hm) ?_ | refine vA ?_ | refine vB ?_ | refine vC ?_ | refine vD ?_ | refine uA ?_ | refine uB ?_ | refine uC ?_ | refine uD ?_); conv => whnf) | ((first | apply Pick.dec | apply Pick.beq | apply Cond.dec | apply Cond.beq | apply Cond.nd | apply Pick.nd | apply Pick.mk | apply Cond.mk) <;> intro h <;> conv => whnf))
      exact End.mk rfl rfl
  · rw [check_bad ha] at hc
    rw [show rescaleD a s p = (D0, 20) from if_neg ha]
    refine ret_of_body atNone tok mixed Tryz.func77 (by kernel_rfl) rfl (k := 35) (rs := [.cell 6 26, .tmp 7]) (by kernel_rfl) (by kernel_rfl) ?_
    (conv => whnf) <;> repeat' (first | ((first | refine wN ?_ | refine wNc ?_ | refine wA ?_ | refine wB ?_ | refine wC ?_ | refine wD ?_ | refine Called.mk _ _ (hc) ?_ | refine vA ?_ | refine vB ?_ | refine vC ?_ | refine vD ?_ | refine uA ?_ | refine uB ?_ | refine uC ?_ | refine uD ?_); conv => whnf) | ((first | apply Pick.dec | apply Pick.beq | apply Cond.dec | apply Cond.beq | apply Cond.nd | apply Pick.nd | apply Pick.mk | apply Cond.mk) <;> intro h <;> conv => whnf))
    exact End.mk rfl rfl
theorem dMulTo_ret (a b : D) (s p : Int) : Ret Tryz.prog 120 [eD a, eD b, .int .i64 s, .int .i64 p] [] (.tup [eD (mulToD a b s p).1, .int .i64 (mulToD a b s p).2]) [] := by
  have hc := checks_ret a b
  by_cases ha : a.ok ∧ b.ok
  · rw [show check2 a b = 0 from if_pos ha] at hc
    have hm := dmay_ret s p
    by_cases h : mayD s p = 0
    · rw [show mulToD a b s p = roundD (a.neg != b.neg) (a.n.v * b.n.v) (a.scale + b.scale) s p from by unfold mulToD; rw [if_pos ha, if_pos h]]
      rw [h] at hm
      obtain ⟨h1, h2, h3, h4⟩ := mayD_0 h
      obtain ⟨⟨a1, a2, _⟩, ⟨b1, b2, _⟩⟩ := id ha
      have es : IntKind.i64.wrap (a.scale + b.scale) = a.scale + b.scale := wi64_id (by omega) (by omega)
      have hr := dround_ret (a.neg != b.neg) (a.n.v * b.n.v) (a.scale + b.scale) s p (WW_mul a.n b.n) ⟨by omega, by omega⟩ ⟨h1, h2⟩
      refine ret_of_body atCalls tok mixed Tryz.func120 (by kernel_rfl) rfl (k := 55) (rs := [.cell 8 26, .tmp 9]) (by kernel_rfl) (by kernel_rfl) ?_
      (conv => whnf) <;> repeat' (first | (rw [es]; conv => whnf) | ((first | refine wN ?_ | refine wNc ?_ | refine wA ?_ | refine wB ?_ | refine wC ?_ | refine wD ?_ | refine Called.mk _ _ (hc) ?_ | refine Called.mk _ _ (hm) ?_ | refine Called.mk _ _ (MulN a.n b.n) ?_ | refine Called.mk _ _ (hr) ?_ | refine vA ?_ | refine vB ?_ | refine vC ?_ | refine vD ?_ | refine uA ?_ | refine uB ?_ | refine uC ?_ | refine uD ?_); conv => whnf) | ((first | apply Pick.dec | apply Pick.beq | apply Cond.dec | apply Cond.beq | apply Cond.nd | apply Pick.nd | apply Pick.mk | apply Cond.mk) <;> intro h <;> conv => whnf))
      all_goals exact End.mk rfl rfl
    · rw [show mulToD a b s p = (D0, mayD s p) from by unfold mulToD; rw [if_pos ha, if_neg h]]
      refine ret_of_body atCalls tok mixed Tryz.func120 (by kernel_rfl) rfl (k := 55) (rs := [.cell 8 26, .tmp 9]) (by kernel_rfl) (by kernel_rfl) ?_
      (conv => whnf) <;> repeat' (first | ((first | refine wN ?_ | refine wNc ?_ | refine wA ?_ | refine wB ?_ | refine wC ?_ | refine wD ?_ | refine Called.mk _ _ (hc) ?_ | refine Called.mk _ _ (hm) ?_ | refine vA ?_ | refine vB ?_ | refine vC ?_ | refine vD ?_ | refine uA ?_ | refine uB ?_ | refine uC ?_ | refine uD ?_); conv => whnf) | ((first | apply Pick.dec | apply Pick.beq | apply Cond.dec | apply Cond.beq | apply Cond.nd | apply Pick.nd | apply Pick.mk | apply Cond.mk) <;> intro h <;> conv => whnf))
      exact End.mk rfl rfl
  · rw [show check2 a b = 20 from if_neg ha] at hc
    rw [show mulToD a b s p = (D0, 20) from if_neg ha]
    refine ret_of_body atCalls tok mixed Tryz.func120 (by kernel_rfl) rfl (k := 55) (rs := [.cell 8 26, .tmp 9]) (by kernel_rfl) (by kernel_rfl) ?_
    (conv => whnf) <;> repeat' (first | ((first | refine wN ?_ | refine wNc ?_ | refine wA ?_ | refine wB ?_ | refine wC ?_ | refine wD ?_ | refine Called.mk _ _ (hc) ?_ | refine vA ?_ | refine vB ?_ | refine vC ?_ | refine vD ?_ | refine uA ?_ | refine uB ?_ | refine uC ?_ | refine uD ?_); conv => whnf) | ((first | apply Pick.dec | apply Pick.beq | apply Cond.dec | apply Cond.beq | apply Cond.nd | apply Pick.nd | apply Pick.mk | apply Cond.mk) <;> intro h <;> conv => whnf))
    exact End.mk rfl rfl
end Go.Proofs.YtlbocjcponegcaaGreat

set_option linter.unusedVariables false
set_option linter.unusedSimpArgs false
set_option maxRecDepth 100000
namespace Go.Proofs.YtlbocjcponegcaaGreat
open Go.AM
end Go.Proofs.YtlbocjcponegcaaGreat

set_option linter.unusedVariables false
set_option linter.unusedSimpArgs false
set_option maxRecDepth 100000
namespace Go.Proofs.YtlbocjcponegcaaGreat
open Go.AM
end Go.Proofs.YtlbocjcponegcaaGreat

