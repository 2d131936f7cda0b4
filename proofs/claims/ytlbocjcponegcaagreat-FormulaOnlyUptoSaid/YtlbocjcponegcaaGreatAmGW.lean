/- value: Check, Bad, flag, number, asked, of, may; exciseref13's. -/
import Derived.Test.YtlbocjcponegcaaGreatAmGQ
import Derived.Test.YtlbocjcponegcaaGreatAmGX
set_option linter.unusedVariables false
set_option linter.unusedSimpArgs false
set_option maxRecDepth 100000
namespace Go.Proofs.YtlbocjcponegcaaGreat
open Go.AM
theorem nt {X : Bool} (h : (!X) = true) : X = false := by simpa using h
theorem nf {X : Bool} (h : (!X) = false) : X = true := by simpa using h
/-- a value is not what is made of a part of it -/
theorem bad_of {v w : Vl} (h : (!(eqCV v w)) = true) (hw : v.valid → v = w) : checkV v = 1 := checkV_1 fun hv => eqCV_f (nt h) (hw hv)
theorem vCheck_ret (v : Vl) : Ret Tryz.prog 59 [eV v] [] (.int .i64 (checkV v)) [] := by
  have hc := Check_ret v.num
  by_cases k0 : v.kind = 0
  · refine ret_of_body atNone tok mixed Tryz.func59 (by kernel_rfl) rfl (k := 50) (rs := [.tmp 2]) (by kernel_rfl) (by kernel_rfl) ?_
    (conv => whnf) <;> repeat' (first | ((first | refine wN ?_ | refine wNc ?_ | refine wA ?_ | refine wB ?_ | refine wC ?_ | refine wD ?_ | refine vA ?_ | refine vB ?_ | refine vC ?_ | refine vD ?_ | refine uA ?_ | refine uB ?_ | refine uC ?_ | refine uD ?_); conv => whnf) | ((first | apply Pick.dec | apply Pick.beq | apply Cond.dec | apply Cond.beq | apply Cond.nd | apply Pick.nd | apply Pick.mk | apply Cond.mk) <;> intro h <;> conv => whnf))
    · exact End.mk (int_eq (bad_of (w := ⟨v.kind, D0, false, ByteArray.empty, 0⟩) h fun hv => by rw [hv.blank k0]; rfl).symm) rfl
    · refine End.mk (int_eq (checkV_0 (.inl ⟨k0, ?_⟩)).symm) rfl
      have := eqCV_t (b := ⟨v.kind, D0, false, ByteArray.empty, 0⟩) (nf h)
      rw [this, k0]; rfl
  by_cases k1 : v.kind = 1
  · by_cases hd : v.num.ok
    · rw [check_ok hd] at hc
      refine ret_of_body atNone tok mixed Tryz.func59 (by kernel_rfl) rfl (k := 50) (rs := [.tmp 2]) (by kernel_rfl) (by kernel_rfl) ?_
      (conv => whnf) <;> repeat' (first | ((first | refine wN ?_ | refine wNc ?_ | refine wA ?_ | refine wB ?_ | refine wC ?_ | refine wD ?_ | refine Called.mk _ _ (hc) ?_ | refine vA ?_ | refine vB ?_ | refine vC ?_ | refine vD ?_ | refine uA ?_ | refine uB ?_ | refine uC ?_ | refine uD ?_); conv => whnf) | ((first | apply Pick.dec | apply Pick.beq | apply Cond.dec | apply Cond.beq | apply Cond.nd | apply Pick.nd | apply Pick.mk | apply Cond.mk) <;> intro h <;> conv => whnf))
      · exact End.mk (int_eq (bad_of (w := ⟨v.kind, v.num, false, ByteArray.empty, 0⟩) h fun hv => by
          obtain ⟨e, _⟩ := hv.num k1
          rw [k1]; exact e).symm) rfl
      · refine End.mk (int_eq (checkV_0 (.inr (.inl ⟨k1, ?_, hd⟩))).symm) rfl
        have := eqCV_t (b := ⟨v.kind, v.num, false, ByteArray.empty, 0⟩) (nf h)
        rw [k1] at this; exact this
    · rw [check_bad hd] at hc
      refine ret_of_body atNone tok mixed Tryz.func59 (by kernel_rfl) rfl (k := 50) (rs := [.tmp 2]) (by kernel_rfl) (by kernel_rfl) ?_
      (conv => whnf) <;> repeat' (first | ((first | refine wN ?_ | refine wNc ?_ | refine wA ?_ | refine wB ?_ | refine wC ?_ | refine wD ?_ | refine Called.mk _ _ (hc) ?_ | refine vA ?_ | refine vB ?_ | refine vC ?_ | refine vD ?_ | refine uA ?_ | refine uB ?_ | refine uC ?_ | refine uD ?_); conv => whnf) | ((first | apply Pick.dec | apply Pick.beq | apply Cond.dec | apply Cond.beq | apply Cond.nd | apply Pick.nd | apply Pick.mk | apply Cond.mk) <;> intro h <;> conv => whnf))
      exact End.mk (int_eq (checkV_1 fun hv => hd (hv.num k1).2).symm) rfl
  by_cases k2 : v.kind = 2
  · refine ret_of_body atNone tok mixed Tryz.func59 (by kernel_rfl) rfl (k := 50) (rs := [.tmp 2]) (by kernel_rfl) (by kernel_rfl) ?_
    (conv => whnf) <;> repeat' (first | ((first | refine wN ?_ | refine wNc ?_ | refine wA ?_ | refine wB ?_ | refine wC ?_ | refine wD ?_ | refine vA ?_ | refine vB ?_ | refine vC ?_ | refine vD ?_ | refine uA ?_ | refine uB ?_ | refine uC ?_ | refine uD ?_); conv => whnf) | ((first | apply Pick.dec | apply Pick.beq | apply Cond.dec | apply Cond.beq | apply Cond.nd | apply Pick.nd | apply Pick.mk | apply Cond.mk) <;> intro h <;> conv => whnf))
    · exact End.mk (int_eq (bad_of (w := ⟨v.kind, D0, v.flag, ByteArray.empty, 0⟩) h fun hv => by
        have e := hv.flag_ k2
        rw [k2]; exact e).symm) rfl
    · refine End.mk (int_eq (checkV_0 (.inr (.inr (.inl ⟨k2, ?_⟩)))).symm) rfl
      have := eqCV_t (b := ⟨v.kind, D0, v.flag, ByteArray.empty, 0⟩) (nf h)
      rw [k2] at this; exact this
  by_cases k3 : v.kind = 3
  · have ht : v.valid → v = textV v.text ∧ v.text.size ≤ 64 := fun hv => by
      rcases hv with ⟨h, _⟩ | ⟨h, _⟩ | ⟨h, _⟩ | ⟨_, h⟩ | ⟨h, _⟩
      · omega
      · omega
      · omega
      · exact h
      · omega
    refine ret_of_body atNone tok mixed Tryz.func59 (by kernel_rfl) rfl (k := 50) (rs := [.tmp 2]) (by kernel_rfl) (by kernel_rfl) ?_
    (conv => whnf) <;> repeat' (first | ((first | refine wN ?_ | refine wNc ?_ | refine wA ?_ | refine wB ?_ | refine wC ?_ | refine wD ?_ | refine vA ?_ | refine vB ?_ | refine vC ?_ | refine vD ?_ | refine uA ?_ | refine uB ?_ | refine uC ?_ | refine uD ?_); conv => whnf) | ((first | apply Pick.dec | apply Pick.beq | apply Cond.dec | apply Cond.beq | apply Cond.nd | apply Pick.nd | apply Pick.mk | apply Cond.mk) <;> intro h <;> conv => whnf))
    · exact End.mk (int_eq (checkV_1 fun hv => by have := (ht hv).2; omega).symm) rfl
    · exact End.mk (int_eq (bad_of (w := ⟨v.kind, D0, false, v.text, 0⟩) h fun hv => by
        have e := (ht hv).1
        rw [k3]; exact e).symm) rfl
    · refine End.mk (int_eq (checkV_0 (.inr (.inr (.inr (.inl ⟨k3, ?_, by omega⟩))))).symm) rfl
      have := eqCV_t (b := ⟨v.kind, D0, false, v.text, 0⟩) (nf h)
      rw [k3] at this; exact this
  by_cases k4 : v.kind = 4
  · refine ret_of_body atNone tok mixed Tryz.func59 (by kernel_rfl) rfl (k := 50) (rs := [.tmp 2]) (by kernel_rfl) (by kernel_rfl) ?_
    (conv => whnf) <;> repeat' (first | ((first | refine wN ?_ | refine wNc ?_ | refine wA ?_ | refine wB ?_ | refine wC ?_ | refine wD ?_ | refine vA ?_ | refine vB ?_ | refine vC ?_ | refine vD ?_ | refine uA ?_ | refine uB ?_ | refine uC ?_ | refine uD ?_); conv => whnf) | ((first | apply Pick.dec | apply Pick.beq | apply Cond.dec | apply Cond.beq | apply Cond.nd | apply Pick.nd | apply Pick.mk | apply Cond.mk) <;> intro h <;> conv => whnf))
    · exact End.mk (int_eq (checkV_1 fun hv => by have := (hv.err_ k4).2; omega).symm) rfl
    · exact End.mk (int_eq (checkV_1 fun hv => by have := (hv.err_ k4).2; omega).symm) rfl
    · exact End.mk (int_eq (bad_of (w := ⟨v.kind, D0, false, ByteArray.empty, v.err⟩) h fun hv => by
        have e := (hv.err_ k4).1
        rw [k4]; exact e).symm) rfl
    · refine End.mk (int_eq (checkV_0 (.inr (.inr (.inr (.inr ⟨k4, ?_, by omega, by omega⟩))))).symm) rfl
      have := eqCV_t (b := ⟨v.kind, D0, false, ByteArray.empty, v.err⟩) (nf h)
      rw [k4] at this; exact this
  · refine ret_of_body atNone tok mixed Tryz.func59 (by kernel_rfl) rfl (k := 50) (rs := [.tmp 2]) (by kernel_rfl) (by kernel_rfl) ?_
    (conv => whnf) <;> repeat' (first | ((first | refine wN ?_ | refine wNc ?_ | refine wA ?_ | refine wB ?_ | refine wC ?_ | refine wD ?_ | refine vA ?_ | refine vB ?_ | refine vC ?_ | refine vD ?_ | refine uA ?_ | refine uB ?_ | refine uC ?_ | refine uD ?_); conv => whnf) | ((first | apply Pick.dec | apply Pick.beq | apply Cond.dec | apply Cond.beq | apply Cond.nd | apply Pick.nd | apply Pick.mk | apply Cond.mk) <;> intro h <;> conv => whnf))
    exact End.mk (int_eq (checkV_1 fun hv => by have := hv.kinds; omega).symm) rfl
theorem vBad_ret (e : Int) : Ret Tryz.prog 32 [.int .i64 e] [] (eV (badV e)) [] := by
  refine ret_of_body atNone tok mixed Tryz.func32 (by kernel_rfl) rfl (k := 11) (rs := [.cell 2 28]) (by kernel_rfl) (by kernel_rfl) ?_
  (conv => whnf) <;> repeat' (first | ((first | refine wN ?_ | refine wNc ?_ | refine wA ?_ | refine wB ?_ | refine wC ?_ | refine wD ?_ | refine vA ?_ | refine vB ?_ | refine vC ?_ | refine vD ?_ | refine uA ?_ | refine uB ?_ | refine uC ?_ | refine uD ?_); conv => whnf) | ((first | apply Pick.dec | apply Pick.beq | apply Cond.dec | apply Cond.beq | apply Cond.nd | apply Pick.nd | apply Pick.mk | apply Cond.mk) <;> intro h <;> conv => whnf))
  all_goals
    unfold badV
    first
      | (rw [if_pos (by omega)]; exact End.mk rfl rfl)
      | (rw [if_neg (by omega)]; exact End.mk rfl rfl)
theorem vBad1 : Ret Tryz.prog 32 [.int .i64 1] [] (eV (errV 1)) [] := vBad_ret 1
theorem vBad2 : Ret Tryz.prog 32 [.int .i64 2] [] (eV (errV 2)) [] := vBad_ret 2
theorem vBad3 : Ret Tryz.prog 32 [.int .i64 3] [] (eV (errV 3)) [] := vBad_ret 3
theorem vflag_ret (b : Bool) : Ret Tryz.prog 75 [.bool b] [] (eV (flagV b)) [] := by
  refine ret_of_body atNone tok mixed Tryz.func75 (by kernel_rfl) rfl (k := 5) (rs := [.cell 2 28]) (by kernel_rfl) (by kernel_rfl) ?_
  (conv => whnf) <;> repeat' (first | ((first | refine wN ?_ | refine wNc ?_ | refine wA ?_ | refine wB ?_ | refine wC ?_ | refine wD ?_ | refine vA ?_ | refine vB ?_ | refine vC ?_ | refine vD ?_ | refine uA ?_ | refine uB ?_ | refine uC ?_ | refine uD ?_); conv => whnf) | ((first | apply Pick.dec | apply Pick.beq | apply Cond.dec | apply Cond.beq | apply Cond.nd | apply Pick.nd | apply Pick.mk | apply Cond.mk) <;> intro h <;> conv => whnf))
  exact End.mk rfl rfl
theorem numberV_0 {d : D} {e : Int} (h : e = 0) : numberV (d, e) = numV d := if_pos h
theorem numberV_7 {d : D} {e : Int} (h : e = 7) : numberV (d, e) = errV 1 := by unfold numberV; rw [if_neg (by simp only; omega), if_pos h]
theorem numberV_x {d : D} {e : Int} (h : ¬ e = 0) (h7 : ¬ e = 7) : numberV (d, e) = errV 2 := by unfold numberV; rw [if_neg h, if_neg h7]
theorem vnumber_ret (d : D) (e : Int) : Ret Tryz.prog 76 [eD d, .int .i64 e] [] (eV (numberV (d, e))) [] := by
  refine ret_of_body atNone tok mixed Tryz.func76 (by kernel_rfl) rfl (k := 14) (rs := [.cell 4 28]) (by kernel_rfl) (by kernel_rfl) ?_
  (conv => whnf) <;> repeat' (first | ((first | refine wN ?_ | refine wNc ?_ | refine wA ?_ | refine wB ?_ | refine wC ?_ | refine wD ?_ | refine Called.mk _ _ (vBad1) ?_ | refine Called.mk _ _ (vBad2) ?_ | refine vA ?_ | refine vB ?_ | refine vC ?_ | refine vD ?_ | refine uA ?_ | refine uB ?_ | refine uC ?_ | refine uD ?_); conv => whnf) | ((first | apply Pick.dec | apply Pick.beq | apply Cond.dec | apply Cond.beq | apply Cond.nd | apply Pick.nd | apply Pick.mk | apply Cond.mk) <;> intro h <;> conv => whnf))
  · rw [numberV_0 h]; exact End.mk rfl rfl
  · rw [numberV_7 h]; exact End.mk rfl rfl
  · rename_i h1; rw [numberV_x h1 h]; exact End.mk rfl rfl
theorem vmay_ret (v : Vl) : Ret Tryz.prog 74 [eV v] [] (eV (mayV v)) [] := by
  have hc := vCheck_ret v
  by_cases h : v.valid
  · rw [checkV_0 h] at hc
    rw [show mayV v = v from if_pos h]
    refine ret_of_body atNone tok mixed Tryz.func74 (by kernel_rfl) rfl (k := 8) (rs := [.cell 2 28]) (by kernel_rfl) (by kernel_rfl) ?_
    (conv => whnf) <;> repeat' (first | ((first | refine wN ?_ | refine wNc ?_ | refine wA ?_ | refine wB ?_ | refine wC ?_ | refine wD ?_ | refine Called.mk _ _ (hc) ?_ | refine Called.mk _ _ (vBad2) ?_ | refine vA ?_ | refine vB ?_ | refine vC ?_ | refine vD ?_ | refine uA ?_ | refine uB ?_ | refine uC ?_ | refine uD ?_); conv => whnf) | ((first | apply Pick.dec | apply Pick.beq | apply Cond.dec | apply Cond.beq | apply Cond.nd | apply Pick.nd | apply Pick.mk | apply Cond.mk) <;> intro h <;> conv => whnf))
    exact End.mk rfl rfl
  · rw [checkV_1 h] at hc
    rw [show mayV v = errV 2 from if_neg h]
    refine ret_of_body atNone tok mixed Tryz.func74 (by kernel_rfl) rfl (k := 8) (rs := [.cell 2 28]) (by kernel_rfl) (by kernel_rfl) ?_
    (conv => whnf) <;> repeat' (first | ((first | refine wN ?_ | refine wNc ?_ | refine wA ?_ | refine wB ?_ | refine wC ?_ | refine wD ?_ | refine Called.mk _ _ (hc) ?_ | refine Called.mk _ _ (vBad2) ?_ | refine vA ?_ | refine vB ?_ | refine vC ?_ | refine vD ?_ | refine uA ?_ | refine uB ?_ | refine uC ?_ | refine uD ?_); conv => whnf) | ((first | apply Pick.dec | apply Pick.beq | apply Cond.dec | apply Cond.beq | apply Cond.nd | apply Pick.nd | apply Pick.mk | apply Cond.mk) <;> intro h <;> conv => whnf))
    exact End.mk rfl rfl
theorem vasked_ret (v : Vl) : Ret Tryz.prog 78 [eV v] [] (.tup [eV (askV v).1, .bool (askV v).2]) [] := by
  have hc := vCheck_ret v
  by_cases h : v.valid
  · rw [checkV_0 h] at hc
    rw [show askV v = if v.kind = 4 then (v, false) else if v.kind = 0 then (errV 3, false) else (v, true) from if_pos h]
    refine ret_of_body atNone tok mixed Tryz.func78 (by kernel_rfl) rfl (k := 20) (rs := [.cell 2 28, .tmp 3]) (by kernel_rfl) (by kernel_rfl) ?_
    (conv => whnf) <;> repeat' (first | ((first | refine wN ?_ | refine wNc ?_ | refine wA ?_ | refine wB ?_ | refine wC ?_ | refine wD ?_ | refine Called.mk _ _ (hc) ?_ | refine Called.mk _ _ (vBad2) ?_ | refine Called.mk _ _ (vBad3) ?_ | refine vA ?_ | refine vB ?_ | refine vC ?_ | refine vD ?_ | refine uA ?_ | refine uB ?_ | refine uC ?_ | refine uD ?_); conv => whnf) | ((first | apply Pick.dec | apply Pick.beq | apply Cond.dec | apply Cond.beq | apply Cond.nd | apply Pick.nd | apply Pick.mk | apply Cond.mk) <;> intro h <;> conv => whnf))
    · rw [if_pos h]; exact End.mk rfl rfl
    · rename_i h4; rw [if_neg h4, if_pos h]; exact End.mk rfl rfl
    · rename_i h4; rw [if_neg h4, if_neg h]; exact End.mk rfl rfl
  · rw [checkV_1 h] at hc
    rw [show askV v = (errV 2, false) from if_neg h]
    refine ret_of_body atNone tok mixed Tryz.func78 (by kernel_rfl) rfl (k := 20) (rs := [.cell 2 28, .tmp 3]) (by kernel_rfl) (by kernel_rfl) ?_
    (conv => whnf) <;> repeat' (first | ((first | refine wN ?_ | refine wNc ?_ | refine wA ?_ | refine wB ?_ | refine wC ?_ | refine wD ?_ | refine Called.mk _ _ (hc) ?_ | refine Called.mk _ _ (vBad2) ?_ | refine vA ?_ | refine vB ?_ | refine vC ?_ | refine vD ?_ | refine uA ?_ | refine uB ?_ | refine uC ?_ | refine uD ?_); conv => whnf) | ((first | apply Pick.dec | apply Pick.beq | apply Cond.dec | apply Cond.beq | apply Cond.nd | apply Pick.nd | apply Pick.mk | apply Cond.mk) <;> intro h <;> conv => whnf))
    exact End.mk rfl rfl
end Go.Proofs.YtlbocjcponegcaaGreat

set_option linter.unusedVariables false
set_option linter.unusedSimpArgs false
set_option maxRecDepth 100000
namespace Go.Proofs.YtlbocjcponegcaaGreat
open Go.AM
theorem vof_ret (v : Vl) (k : Int) : Ret Tryz.prog 72 [eV v, .int .i64 k] [] (.tup [eV (ofV' v k).1, .bool (ofV' v k).2]) [] := by
  have ha := vasked_ret v
  by_cases h : (askV v).2 = true
  · obtain ⟨h1, h2, h3⟩ := askV_t h
    rw [askV_ok h1 h2 h3] at ha
    rw [show ofV' v k = if v.kind = k then (v, true) else (errV 2, false) from if_pos h]
    refine ret_of_body atNone tok mixed Tryz.func72 (by kernel_rfl) rfl (k := 23) (rs := [.cell 4 28, .tmp 5]) (by kernel_rfl) (by kernel_rfl) ?_
    (conv => whnf) <;> repeat' (first | ((first | refine wN ?_ | refine wNc ?_ | refine wA ?_ | refine wB ?_ | refine wC ?_ | refine wD ?_ | refine Called.mk _ _ (ha) ?_ | refine Called.mk _ _ (vBad2) ?_ | refine vA ?_ | refine vB ?_ | refine vC ?_ | refine vD ?_ | refine uA ?_ | refine uB ?_ | refine uC ?_ | refine uD ?_); conv => whnf) | ((first | apply Pick.dec | apply Pick.beq | apply Cond.dec | apply Cond.beq | apply Cond.nd | apply Pick.nd | apply Pick.mk | apply Cond.mk) <;> intro h <;> conv => whnf))
    · rw [if_neg (by omega)]; exact End.mk rfl rfl
    · rw [if_pos (by omega)]; exact End.mk rfl rfl
  · rw [show ofV' v k = askV v from if_neg h]
    have h' : (askV v).2 = false := by simpa using h
    rw [h'] at ha
    refine ret_of_body atNone tok mixed Tryz.func72 (by kernel_rfl) rfl (k := 23) (rs := [.cell 4 28, .tmp 5]) (by kernel_rfl) (by kernel_rfl) ?_
    (conv => whnf) <;> repeat' (first | ((first | refine wN ?_ | refine wNc ?_ | refine wA ?_ | refine wB ?_ | refine wC ?_ | refine wD ?_ | refine Called.mk _ _ (ha) ?_ | refine Called.mk _ _ (vBad2) ?_ | refine vA ?_ | refine vB ?_ | refine vC ?_ | refine vD ?_ | refine uA ?_ | refine uB ?_ | refine uC ?_ | refine uD ?_); conv => whnf) | ((first | apply Pick.dec | apply Pick.beq | apply Cond.dec | apply Cond.beq | apply Cond.nd | apply Pick.nd | apply Pick.mk | apply Cond.mk) <;> intro h <;> conv => whnf))
    exact End.mk (tup_eq (cons_eq rfl (cons_eq (bool_eq h'.symm) rfl))) rfl
theorem vsame_ret (a b : Vl) : Ret Tryz.prog 80 [eV a, eV b] [] (.bool (sameV a b)) [] := by
  by_cases h : a.kind = 1
  · rw [show sameV a b = decide (cmpD a.num b.num = 0) from if_pos h]
    refine ret_of_body atNone tok mixed Tryz.func80 (by kernel_rfl) rfl (k := 17) (rs := [.tmp 4]) (by kernel_rfl) (by kernel_rfl) ?_
    (conv => whnf) <;> repeat' (first | ((first | refine wN ?_ | refine wNc ?_ | refine wA ?_ | refine wB ?_ | refine wC ?_ | refine wD ?_ | refine Called.mk _ _ (DCmp_ret a.num b.num) ?_ | refine vA ?_ | refine vB ?_ | refine vC ?_ | refine vD ?_ | refine uA ?_ | refine uB ?_ | refine uC ?_ | refine uD ?_); conv => whnf) | ((first | apply Pick.dec | apply Pick.beq | apply Cond.dec | apply Cond.beq | apply Cond.nd | apply Pick.nd | apply Pick.mk | apply Cond.mk) <;> intro h <;> conv => whnf))
    refine End.mk (bool_eq ?_) rfl
    rw [Bool.eq_iff_iff]; simp
  · rw [show sameV a b = decide (a = b) from if_neg h]
    refine ret_of_body atNone tok mixed Tryz.func80 (by kernel_rfl) rfl (k := 17) (rs := [.tmp 4]) (by kernel_rfl) (by kernel_rfl) ?_
    (conv => whnf) <;> repeat' (first | (rw [eqV]; conv => whnf) | ((first | refine wN ?_ | refine wNc ?_ | refine wA ?_ | refine wB ?_ | refine wC ?_ | refine wD ?_ | refine vA ?_ | refine vB ?_ | refine vC ?_ | refine vD ?_ | refine uA ?_ | refine uB ?_ | refine uC ?_ | refine uD ?_); conv => whnf) | ((first | apply Pick.dec | apply Pick.beq | apply Cond.dec | apply Cond.beq | apply Cond.nd | apply Pick.nd | apply Pick.mk | apply Cond.mk) <;> intro h <;> conv => whnf))
    exact End.mk rfl rfl
theorem vnumbers_ret (op : Int) (a b : D) (ha : a.ok) (hb : b.ok) (hop : (1 ≤ op ∧ op ≤ 3) ∨ (6 ≤ op ∧ op ≤ 9)) : Ret Tryz.prog 81 [.int .i64 op, eD a, eD b] [] (eV (numbersV op a b)) [] := by
  have hc := DCmp_ret a b
  have es : IntKind.i64.wrap (a.scale + b.scale) = a.scale + b.scale := wi64_id (by have := ha.1; have := hb.1; omega) (by have := ha.2.1; have := hb.2.1; omega)
  rcases (by omega : op = 1 ∨ op = 2 ∨ op = 3 ∨ op = 6 ∨ op = 7 ∨ op = 8 ∨ op = 9) with rfl | rfl | rfl | rfl | rfl | rfl | rfl
  · refine ret_of_body atNone tok mixed Tryz.func81 (by kernel_rfl) rfl (k := 60) (rs := [.cell 6 28]) (by kernel_rfl) (by kernel_rfl) ?_
    (conv => whnf) <;> repeat' (first | ((first | refine wN ?_ | refine wNc ?_ | refine wA ?_ | refine wB ?_ | refine wC ?_ | refine wD ?_ | refine Called.mk _ _ (hc) ?_ | refine Called.mk _ _ (dAdd_ret a b) ?_ | refine Called.mk _ _ (vnumber_ret (addD a b).1 (addD a b).2) ?_ | refine vA ?_ | refine vB ?_ | refine vC ?_ | refine vD ?_ | refine uA ?_ | refine uB ?_ | refine uC ?_ | refine uD ?_); conv => whnf) | ((first | apply Pick.dec | apply Pick.beq | apply Cond.dec | apply Cond.beq | apply Cond.nd | apply Pick.nd | apply Pick.mk | apply Cond.mk) <;> intro h <;> conv => whnf))
    exact End.mk rfl rfl
  · refine ret_of_body atNone tok mixed Tryz.func81 (by kernel_rfl) rfl (k := 60) (rs := [.cell 6 28]) (by kernel_rfl) (by kernel_rfl) ?_
    (conv => whnf) <;> repeat' (first | ((first | refine wN ?_ | refine wNc ?_ | refine wA ?_ | refine wB ?_ | refine wC ?_ | refine wD ?_ | refine Called.mk _ _ (hc) ?_ | refine Called.mk _ _ (dSub_ret a b) ?_ | refine Called.mk _ _ (vnumber_ret (subD a b).1 (subD a b).2) ?_ | refine vA ?_ | refine vB ?_ | refine vC ?_ | refine vD ?_ | refine uA ?_ | refine uB ?_ | refine uC ?_ | refine uD ?_); conv => whnf) | ((first | apply Pick.dec | apply Pick.beq | apply Cond.dec | apply Cond.beq | apply Cond.nd | apply Pick.nd | apply Pick.mk | apply Cond.mk) <;> intro h <;> conv => whnf))
    exact End.mk rfl rfl
  · refine ret_of_body atNone tok mixed Tryz.func81 (by kernel_rfl) rfl (k := 60) (rs := [.cell 6 28]) (by kernel_rfl) (by kernel_rfl) ?_
    (conv => whnf) <;> repeat' (first | (rw [es, pick_min]; conv => whnf) | ((first | refine wN ?_ | refine wNc ?_ | refine wA ?_ | refine wB ?_ | refine wC ?_ | refine wD ?_ | refine Called.mk _ _ (hc) ?_ | refine Called.mk _ _ (dMulTo_ret a b (min 18 (a.scale + b.scale)) 2) ?_ | refine Called.mk _ _ (vnumber_ret (mulToD a b (min 18 (a.scale + b.scale)) 2).1 (mulToD a b (min 18 (a.scale + b.scale)) 2).2) ?_ | refine vA ?_ | refine vB ?_ | refine vC ?_ | refine vD ?_ | refine uA ?_ | refine uB ?_ | refine uC ?_ | refine uD ?_); conv => whnf) | ((first | apply Pick.dec | apply Pick.beq | apply Cond.dec | apply Cond.beq | apply Cond.nd | apply Pick.nd | apply Pick.mk | apply Cond.mk) <;> intro h <;> conv => whnf))
    exact End.mk rfl rfl
  · refine ret_of_body atNone tok mixed Tryz.func81 (by kernel_rfl) rfl (k := 60) (rs := [.cell 6 28]) (by kernel_rfl) (by kernel_rfl) ?_
    (conv => whnf) <;> repeat' (first | ((first | refine wN ?_ | refine wNc ?_ | refine wA ?_ | refine wB ?_ | refine wC ?_ | refine wD ?_ | refine Called.mk _ _ (hc) ?_ | refine Called.mk _ _ (vflag_ret (decide (cmpD a b < 0))) ?_ | refine vA ?_ | refine vB ?_ | refine vC ?_ | refine vD ?_ | refine uA ?_ | refine uB ?_ | refine uC ?_ | refine uD ?_); conv => whnf) | ((first | apply Pick.dec | apply Pick.beq | apply Cond.dec | apply Cond.beq | apply Cond.nd | apply Pick.nd | apply Pick.mk | apply Cond.mk) <;> intro h <;> conv => whnf))
    exact End.mk rfl rfl
  · refine ret_of_body atNone tok mixed Tryz.func81 (by kernel_rfl) rfl (k := 60) (rs := [.cell 6 28]) (by kernel_rfl) (by kernel_rfl) ?_
    (conv => whnf) <;> repeat' (first | ((first | refine wN ?_ | refine wNc ?_ | refine wA ?_ | refine wB ?_ | refine wC ?_ | refine wD ?_ | refine Called.mk _ _ (hc) ?_ | refine Called.mk _ _ (vflag_ret (decide (cmpD a b ≤ 0))) ?_ | refine vA ?_ | refine vB ?_ | refine vC ?_ | refine vD ?_ | refine uA ?_ | refine uB ?_ | refine uC ?_ | refine uD ?_); conv => whnf) | ((first | apply Pick.dec | apply Pick.beq | apply Cond.dec | apply Cond.beq | apply Cond.nd | apply Pick.nd | apply Pick.mk | apply Cond.mk) <;> intro h <;> conv => whnf))
    exact End.mk rfl rfl
  · refine ret_of_body atNone tok mixed Tryz.func81 (by kernel_rfl) rfl (k := 60) (rs := [.cell 6 28]) (by kernel_rfl) (by kernel_rfl) ?_
    (conv => whnf) <;> repeat' (first | ((first | refine wN ?_ | refine wNc ?_ | refine wA ?_ | refine wB ?_ | refine wC ?_ | refine wD ?_ | refine Called.mk _ _ (hc) ?_ | refine Called.mk _ _ (vflag_ret (decide (cmpD a b > 0))) ?_ | refine vA ?_ | refine vB ?_ | refine vC ?_ | refine vD ?_ | refine uA ?_ | refine uB ?_ | refine uC ?_ | refine uD ?_); conv => whnf) | ((first | apply Pick.dec | apply Pick.beq | apply Cond.dec | apply Cond.beq | apply Cond.nd | apply Pick.nd | apply Pick.mk | apply Cond.mk) <;> intro h <;> conv => whnf))
    exact End.mk rfl rfl
  · refine ret_of_body atNone tok mixed Tryz.func81 (by kernel_rfl) rfl (k := 60) (rs := [.cell 6 28]) (by kernel_rfl) (by kernel_rfl) ?_
    (conv => whnf) <;> repeat' (first | ((first | refine wN ?_ | refine wNc ?_ | refine wA ?_ | refine wB ?_ | refine wC ?_ | refine wD ?_ | refine Called.mk _ _ (hc) ?_ | refine Called.mk _ _ (vflag_ret (decide (cmpD a b ≥ 0))) ?_ | refine vA ?_ | refine vB ?_ | refine vC ?_ | refine vD ?_ | refine uA ?_ | refine uB ?_ | refine uC ?_ | refine uD ?_); conv => whnf) | ((first | apply Pick.dec | apply Pick.beq | apply Cond.dec | apply Cond.beq | apply Cond.nd | apply Pick.nd | apply Pick.mk | apply Cond.mk) <;> intro h <;> conv => whnf))
    exact End.mk rfl rfl
theorem vOp1_ret (a b : Vl) (k : Int) : Ret Tryz.prog 79 [.int .i64 k, .ptr 0 0, .ptr 1 0] [.cells (cV a), .cells (cV b)] (.bool (decide (a.kind = k) && decide (b.kind = k))) [.cells (cV a), .cells (cV b)] := by
  by_cases h : a.kind = k
  · refine ret_of_body atNone tok mixed Tryz.func79 (by kernel_rfl) rfl (k := 15) (rs := [.tmp 4]) (by kernel_rfl) (by kernel_rfl) ?_
    (conv => whnf) <;> repeat' (first | ((first | refine wN ?_ | refine wNc ?_ | refine wA ?_ | refine wB ?_ | refine wC ?_ | refine wD ?_ | refine vA ?_ | refine vB ?_ | refine vC ?_ | refine vD ?_ | refine uA ?_ | refine uB ?_ | refine uC ?_ | refine uD ?_); conv => whnf) | ((first | apply Pick.dec | apply Pick.beq | apply Cond.dec | apply Cond.beq | apply Cond.nd | apply Pick.nd | apply Pick.mk | apply Cond.mk) <;> intro h <;> conv => whnf))
    refine EndH.mk [0, 1] rfl (bool_eq ?_) rfl
    rw [decT h, Bool.eq_iff_iff]; simp
  · refine ret_of_body atNone tok mixed Tryz.func79 (by kernel_rfl) rfl (k := 15) (rs := [.tmp 4]) (by kernel_rfl) (by kernel_rfl) ?_
    (conv => whnf) <;> repeat' (first | ((first | refine wN ?_ | refine wNc ?_ | refine wA ?_ | refine wB ?_ | refine wC ?_ | refine wD ?_ | refine vA ?_ | refine vB ?_ | refine vC ?_ | refine vD ?_ | refine uA ?_ | refine uB ?_ | refine uC ?_ | refine uD ?_); conv => whnf) | ((first | apply Pick.dec | apply Pick.beq | apply Cond.dec | apply Cond.beq | apply Cond.nd | apply Pick.nd | apply Pick.mk | apply Cond.mk) <;> intro h <;> conv => whnf))
    refine EndH.mk [0, 1] rfl (bool_eq ?_) rfl
    rw [decF h]; rfl
set_option maxHeartbeats 4000000 in
theorem vOp_ret (op : Int) (a b : Vl) : Ret Tryz.prog 38 [.int .i64 op, eV a, eV b] [] (eV (opV op a b)) [] := by
  have hA := vasked_ret a; have hB := vasked_ret b
  by_cases ha : (askV a).2 = false
  · rw [show opV op a b = (askV a).1 from if_pos ha]
    rw [ha] at hA
    refine ret_of_body atNone tok mixed Tryz.func38 (by kernel_rfl) rfl (k := 83) (rs := [.cell 6 28]) (by kernel_rfl) (by kernel_rfl) ?_
    (conv => whnf) <;> repeat' (first | ((first | refine wN ?_ | refine wNc ?_ | refine wA ?_ | refine wB ?_ | refine wC ?_ | refine wD ?_ | refine Called.mk _ _ (hA) ?_ | refine vA ?_ | refine vB ?_ | refine vC ?_ | refine vD ?_ | refine uA ?_ | refine uB ?_ | refine uC ?_ | refine uD ?_); conv => whnf) | ((first | apply Pick.dec | apply Pick.beq | apply Cond.dec | apply Cond.beq | apply Cond.nd | apply Pick.nd | apply Pick.mk | apply Cond.mk) <;> intro h <;> conv => whnf))
    exact End.mk rfl rfl
  by_cases hb : (askV b).2 = false
  · rw [show opV op a b = (askV b).1 from by unfold opV; rw [if_neg ha, if_pos hb]]
    have ha' : (askV a).2 = true := by simpa using ha
    rw [ha'] at hA
    rw [hb] at hB
    refine ret_of_body atNone tok mixed Tryz.func38 (by kernel_rfl) rfl (k := 83) (rs := [.cell 6 28]) (by kernel_rfl) (by kernel_rfl) ?_
    (conv => whnf) <;> repeat' (first | ((first | refine wN ?_ | refine wNc ?_ | refine wA ?_ | refine wB ?_ | refine wC ?_ | refine wD ?_ | refine Called.mk _ _ (hA) ?_ | refine Called.mk _ _ (hB) ?_ | refine vA ?_ | refine vB ?_ | refine vC ?_ | refine vD ?_ | refine uA ?_ | refine uB ?_ | refine uC ?_ | refine uD ?_); conv => whnf) | ((first | apply Pick.dec | apply Pick.beq | apply Cond.dec | apply Cond.beq | apply Cond.nd | apply Pick.nd | apply Pick.mk | apply Cond.mk) <;> intro h <;> conv => whnf))
    exact End.mk rfl rfl
  have ha' : (askV a).2 = true := by simpa using ha
  have hb' : (askV b).2 = true := by simpa using hb
  have va := askV_t ha'; have vb := askV_t hb'
  rw [ha'] at hA; rw [hb'] at hB
  by_cases h1 : op = 4 ∨ op = 5
  · rw [show opV op a b = if a.kind = b.kind then flagV (sameV a b == decide (op = 4)) else errV 2 from by unfold opV; rw [if_neg ha, if_neg hb, if_pos h1]]
    by_cases hk : a.kind = b.kind
    · rw [if_pos hk]
      rcases h1 with rfl | rfl
      · refine ret_of_body atNone tok mixed Tryz.func38 (by kernel_rfl) rfl (k := 83) (rs := [.cell 6 28]) (by kernel_rfl) (by kernel_rfl) ?_
        (conv => whnf) <;> repeat' (first | ((first | refine wN ?_ | refine wNc ?_ | refine wA ?_ | refine wB ?_ | refine wC ?_ | refine wD ?_ | refine Called.mk _ _ (hA) ?_ | refine Called.mk _ _ (hB) ?_ | refine Called.mk _ _ (vsame_ret a b) ?_ | refine Called.mk _ _ (vflag_ret (sameV a b == true)) ?_ | refine Called.mk _ _ (vflag_ret (sameV a b == (4 == 4))) ?_ | refine vA ?_ | refine vB ?_ | refine vC ?_ | refine vD ?_ | refine uA ?_ | refine uB ?_ | refine uC ?_ | refine uD ?_); conv => whnf) | ((first | apply Pick.dec | apply Pick.beq | apply Cond.dec | apply Cond.beq | apply Cond.nd | apply Pick.nd | apply Pick.mk | apply Cond.mk) <;> intro h <;> conv => whnf))
        exact End.mk rfl rfl
      · refine ret_of_body atNone tok mixed Tryz.func38 (by kernel_rfl) rfl (k := 83) (rs := [.cell 6 28]) (by kernel_rfl) (by kernel_rfl) ?_
        (conv => whnf) <;> repeat' (first | ((first | refine wN ?_ | refine wNc ?_ | refine wA ?_ | refine wB ?_ | refine wC ?_ | refine wD ?_ | refine Called.mk _ _ (hA) ?_ | refine Called.mk _ _ (hB) ?_ | refine Called.mk _ _ (vsame_ret a b) ?_ | refine Called.mk _ _ (vflag_ret (sameV a b == false)) ?_ | refine Called.mk _ _ (vflag_ret (sameV a b == (5 == 4))) ?_ | refine vA ?_ | refine vB ?_ | refine vC ?_ | refine vD ?_ | refine uA ?_ | refine uB ?_ | refine uC ?_ | refine uD ?_); conv => whnf) | ((first | apply Pick.dec | apply Pick.beq | apply Cond.dec | apply Cond.beq | apply Cond.nd | apply Pick.nd | apply Pick.mk | apply Cond.mk) <;> intro h <;> conv => whnf))
        exact End.mk rfl rfl
    · rw [if_neg hk]
      rcases h1 with rfl | rfl
      · refine ret_of_body atNone tok mixed Tryz.func38 (by kernel_rfl) rfl (k := 83) (rs := [.cell 6 28]) (by kernel_rfl) (by kernel_rfl) ?_
        (conv => whnf) <;> repeat' (first | ((first | refine wN ?_ | refine wNc ?_ | refine wA ?_ | refine wB ?_ | refine wC ?_ | refine wD ?_ | refine Called.mk _ _ (hA) ?_ | refine Called.mk _ _ (hB) ?_ | refine Called.mk _ _ (vBad2) ?_ | refine vA ?_ | refine vB ?_ | refine vC ?_ | refine vD ?_ | refine uA ?_ | refine uB ?_ | refine uC ?_ | refine uD ?_); conv => whnf) | ((first | apply Pick.dec | apply Pick.beq | apply Cond.dec | apply Cond.beq | apply Cond.nd | apply Pick.nd | apply Pick.mk | apply Cond.mk) <;> intro h <;> conv => whnf))
        exact End.mk rfl rfl
      · refine ret_of_body atNone tok mixed Tryz.func38 (by kernel_rfl) rfl (k := 83) (rs := [.cell 6 28]) (by kernel_rfl) (by kernel_rfl) ?_
        (conv => whnf) <;> repeat' (first | ((first | refine wN ?_ | refine wNc ?_ | refine wA ?_ | refine wB ?_ | refine wC ?_ | refine wD ?_ | refine Called.mk _ _ (hA) ?_ | refine Called.mk _ _ (hB) ?_ | refine Called.mk _ _ (vBad2) ?_ | refine vA ?_ | refine vB ?_ | refine vC ?_ | refine vD ?_ | refine uA ?_ | refine uB ?_ | refine uC ?_ | refine uD ?_); conv => whnf) | ((first | apply Pick.dec | apply Pick.beq | apply Cond.dec | apply Cond.beq | apply Cond.nd | apply Pick.nd | apply Pick.mk | apply Cond.mk) <;> intro h <;> conv => whnf))
        exact End.mk rfl rfl
  by_cases h2 : op = 10 ∨ op = 11
  · rw [show opV op a b = if a.kind = 2 ∧ b.kind = 2 then flagV (if op = 10 then a.flag && b.flag else a.flag || b.flag) else errV 2 from by unfold opV; rw [if_neg ha, if_neg hb, if_neg h1, if_pos h2]]
    have hO := vOp1_ret a b 2
    by_cases hk : a.kind = 2 ∧ b.kind = 2
    · rw [if_pos hk]
      rw [decT hk.1, decT hk.2] at hO
      rcases h2 with rfl | rfl
      · cases hf : a.flag
        · refine ret_of_body atNone tok mixed Tryz.func38 (by kernel_rfl) rfl (k := 83) (rs := [.cell 6 28]) (by kernel_rfl) (by kernel_rfl) ?_
          (conv => whnf) <;> repeat' (first | (refine CalledH.mk [0, 1] _ _ rfl (Nat.le_refl _) hO ?_; conv => whnf) | ((first | refine wN ?_ | refine wNc ?_ | refine wA ?_ | refine wB ?_ | refine wC ?_ | refine wD ?_ | refine Called.mk _ _ (hA) ?_ | refine Called.mk _ _ (hB) ?_ | refine Called.mk _ _ (vflag_ret false) ?_ | refine vA ?_ | refine vB ?_ | refine vC ?_ | refine vD ?_ | refine uA ?_ | refine uB ?_ | refine uC ?_ | refine uD ?_); conv => whnf) | ((first | apply Pick.dec | apply Pick.beq | apply Cond.dec | apply Cond.beq | apply Cond.nd | apply Pick.nd | apply Pick.mk | apply Cond.mk) <;> intro h <;> conv => whnf))
          exact End.mk rfl rfl
        · refine ret_of_body atNone tok mixed Tryz.func38 (by kernel_rfl) rfl (k := 83) (rs := [.cell 6 28]) (by kernel_rfl) (by kernel_rfl) ?_
          (conv => whnf) <;> repeat' (first | (refine CalledH.mk [0, 1] _ _ rfl (Nat.le_refl _) hO ?_; conv => whnf) | ((first | refine wN ?_ | refine wNc ?_ | refine wA ?_ | refine wB ?_ | refine wC ?_ | refine wD ?_ | refine Called.mk _ _ (hA) ?_ | refine Called.mk _ _ (hB) ?_ | refine Called.mk _ _ (vflag_ret b.flag) ?_ | refine vA ?_ | refine vB ?_ | refine vC ?_ | refine vD ?_ | refine uA ?_ | refine uB ?_ | refine uC ?_ | refine uD ?_); conv => whnf) | ((first | apply Pick.dec | apply Pick.beq | apply Cond.dec | apply Cond.beq | apply Cond.nd | apply Pick.nd | apply Pick.mk | apply Cond.mk) <;> intro h <;> conv => whnf))
          exact End.mk rfl rfl
      · cases hf : a.flag
        · refine ret_of_body atNone tok mixed Tryz.func38 (by kernel_rfl) rfl (k := 83) (rs := [.cell 6 28]) (by kernel_rfl) (by kernel_rfl) ?_
          (conv => whnf) <;> repeat' (first | (refine CalledH.mk [0, 1] _ _ rfl (Nat.le_refl _) hO ?_; conv => whnf) | ((first | refine wN ?_ | refine wNc ?_ | refine wA ?_ | refine wB ?_ | refine wC ?_ | refine wD ?_ | refine Called.mk _ _ (hA) ?_ | refine Called.mk _ _ (hB) ?_ | refine Called.mk _ _ (vflag_ret b.flag) ?_ | refine vA ?_ | refine vB ?_ | refine vC ?_ | refine vD ?_ | refine uA ?_ | refine uB ?_ | refine uC ?_ | refine uD ?_); conv => whnf) | ((first | apply Pick.dec | apply Pick.beq | apply Cond.dec | apply Cond.beq | apply Cond.nd | apply Pick.nd | apply Pick.mk | apply Cond.mk) <;> intro h <;> conv => whnf))
          exact End.mk rfl rfl
        · refine ret_of_body atNone tok mixed Tryz.func38 (by kernel_rfl) rfl (k := 83) (rs := [.cell 6 28]) (by kernel_rfl) (by kernel_rfl) ?_
          (conv => whnf) <;> repeat' (first | (refine CalledH.mk [0, 1] _ _ rfl (Nat.le_refl _) hO ?_; conv => whnf) | ((first | refine wN ?_ | refine wNc ?_ | refine wA ?_ | refine wB ?_ | refine wC ?_ | refine wD ?_ | refine Called.mk _ _ (hA) ?_ | refine Called.mk _ _ (hB) ?_ | refine Called.mk _ _ (vflag_ret true) ?_ | refine vA ?_ | refine vB ?_ | refine vC ?_ | refine vD ?_ | refine uA ?_ | refine uB ?_ | refine uC ?_ | refine uD ?_); conv => whnf) | ((first | apply Pick.dec | apply Pick.beq | apply Cond.dec | apply Cond.beq | apply Cond.nd | apply Pick.nd | apply Pick.mk | apply Cond.mk) <;> intro h <;> conv => whnf))
          exact End.mk rfl rfl
    · rw [if_neg hk]
      rw [show (decide (a.kind = 2) && decide (b.kind = 2)) = false from by simpa using hk] at hO
      rcases h2 with rfl | rfl
      · refine ret_of_body atNone tok mixed Tryz.func38 (by kernel_rfl) rfl (k := 83) (rs := [.cell 6 28]) (by kernel_rfl) (by kernel_rfl) ?_
        (conv => whnf) <;> repeat' (first | (refine CalledH.mk [0, 1] _ _ rfl (Nat.le_refl _) hO ?_; conv => whnf) | ((first | refine wN ?_ | refine wNc ?_ | refine wA ?_ | refine wB ?_ | refine wC ?_ | refine wD ?_ | refine Called.mk _ _ (hA) ?_ | refine Called.mk _ _ (hB) ?_ | refine Called.mk _ _ (vBad2) ?_ | refine vA ?_ | refine vB ?_ | refine vC ?_ | refine vD ?_ | refine uA ?_ | refine uB ?_ | refine uC ?_ | refine uD ?_); conv => whnf) | ((first | apply Pick.dec | apply Pick.beq | apply Cond.dec | apply Cond.beq | apply Cond.nd | apply Pick.nd | apply Pick.mk | apply Cond.mk) <;> intro h <;> conv => whnf))
        exact End.mk rfl rfl
      · refine ret_of_body atNone tok mixed Tryz.func38 (by kernel_rfl) rfl (k := 83) (rs := [.cell 6 28]) (by kernel_rfl) (by kernel_rfl) ?_
        (conv => whnf) <;> repeat' (first | (refine CalledH.mk [0, 1] _ _ rfl (Nat.le_refl _) hO ?_; conv => whnf) | ((first | refine wN ?_ | refine wNc ?_ | refine wA ?_ | refine wB ?_ | refine wC ?_ | refine wD ?_ | refine Called.mk _ _ (hA) ?_ | refine Called.mk _ _ (hB) ?_ | refine Called.mk _ _ (vBad2) ?_ | refine vA ?_ | refine vB ?_ | refine vC ?_ | refine vD ?_ | refine uA ?_ | refine uB ?_ | refine uC ?_ | refine uD ?_); conv => whnf) | ((first | apply Pick.dec | apply Pick.beq | apply Cond.dec | apply Cond.beq | apply Cond.nd | apply Pick.nd | apply Pick.mk | apply Cond.mk) <;> intro h <;> conv => whnf))
        exact End.mk rfl rfl
  by_cases h3 : (1 ≤ op ∧ op ≤ 3) ∨ (6 ≤ op ∧ op ≤ 9)
  · rw [show opV op a b = if a.kind = 1 ∧ b.kind = 1 then numbersV op a.num b.num else errV 2 from by unfold opV; rw [if_neg ha, if_neg hb, if_neg h1, if_neg h2, if_pos h3]]
    have hO := vOp1_ret a b 1
    by_cases hk : a.kind = 1 ∧ b.kind = 1
    · rw [if_pos hk]
      rw [decT hk.1, decT hk.2] at hO
      have hN := vnumbers_ret op a.num b.num (va.1.num hk.1).2 (vb.1.num hk.2).2 h3
      rcases (by omega : op = 1 ∨ op = 2 ∨ op = 3 ∨ op = 6 ∨ op = 7 ∨ op = 8 ∨ op = 9) with rfl | rfl | rfl | rfl | rfl | rfl | rfl
      all_goals
        refine ret_of_body atNone tok mixed Tryz.func38 (by kernel_rfl) rfl (k := 83) (rs := [.cell 6 28]) (by kernel_rfl) (by kernel_rfl) ?_
        (conv => whnf) <;> repeat' (first | (refine CalledH.mk [0, 1] _ _ rfl (Nat.le_refl _) hO ?_; conv => whnf) | ((first | refine wN ?_ | refine wNc ?_ | refine wA ?_ | refine wB ?_ | refine wC ?_ | refine wD ?_ | refine Called.mk _ _ (hA) ?_ | refine Called.mk _ _ (hB) ?_ | refine Called.mk _ _ (hN) ?_ | refine vA ?_ | refine vB ?_ | refine vC ?_ | refine vD ?_ | refine uA ?_ | refine uB ?_ | refine uC ?_ | refine uD ?_); conv => whnf) | ((first | apply Pick.dec | apply Pick.beq | apply Cond.dec | apply Cond.beq | apply Cond.nd | apply Pick.nd | apply Pick.mk | apply Cond.mk) <;> intro h <;> conv => whnf))
        exact End.mk rfl rfl
    · rw [if_neg hk]
      rw [show (decide (a.kind = 1) && decide (b.kind = 1)) = false from by simpa using hk] at hO
      rcases (by omega : op = 1 ∨ op = 2 ∨ op = 3 ∨ op = 6 ∨ op = 7 ∨ op = 8 ∨ op = 9) with rfl | rfl | rfl | rfl | rfl | rfl | rfl
      all_goals
        refine ret_of_body atNone tok mixed Tryz.func38 (by kernel_rfl) rfl (k := 83) (rs := [.cell 6 28]) (by kernel_rfl) (by kernel_rfl) ?_
        (conv => whnf) <;> repeat' (first | (refine CalledH.mk [0, 1] _ _ rfl (Nat.le_refl _) hO ?_; conv => whnf) | ((first | refine wN ?_ | refine wNc ?_ | refine wA ?_ | refine wB ?_ | refine wC ?_ | refine wD ?_ | refine Called.mk _ _ (hA) ?_ | refine Called.mk _ _ (hB) ?_ | refine Called.mk _ _ (vBad2) ?_ | refine vA ?_ | refine vB ?_ | refine vC ?_ | refine vD ?_ | refine uA ?_ | refine uB ?_ | refine uC ?_ | refine uD ?_); conv => whnf) | ((first | apply Pick.dec | apply Pick.beq | apply Cond.dec | apply Cond.beq | apply Cond.nd | apply Pick.nd | apply Pick.mk | apply Cond.mk) <;> intro h <;> conv => whnf))
        exact End.mk rfl rfl
  · rw [show opV op a b = errV 2 from by unfold opV; rw [if_neg ha, if_neg hb, if_neg h1, if_neg h2, if_neg h3]]
    refine ret_of_body atNone tok mixed Tryz.func38 (by kernel_rfl) rfl (k := 83) (rs := [.cell 6 28]) (by kernel_rfl) (by kernel_rfl) ?_
    (conv => whnf) <;> repeat' (first | ((first | refine wN ?_ | refine wNc ?_ | refine wA ?_ | refine wB ?_ | refine wC ?_ | refine wD ?_ | refine Called.mk _ _ (hA) ?_ | refine Called.mk _ _ (hB) ?_ | refine Called.mk _ _ (vBad2) ?_ | refine vA ?_ | refine vB ?_ | refine vC ?_ | refine vD ?_ | refine uA ?_ | refine uB ?_ | refine uC ?_ | refine uD ?_); conv => whnf) | ((first | apply Pick.dec | apply Pick.beq | apply Cond.dec | apply Cond.beq | apply Cond.nd | apply Pick.nd | apply Pick.mk | apply Cond.mk) <;> intro h <;> conv => whnf))
    all_goals exact End.mk rfl rfl
end Go.Proofs.YtlbocjcponegcaaGreat

