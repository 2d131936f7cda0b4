/- value: Check, Bad, flag, number, asked, of, may; exciseref13's. -/
import Derived.Test.YtdpnhedbggnhiaaGreatAmGQ
import Derived.Test.YtdpnhedbggnhiaaGreatAmGX
set_option linter.unusedVariables false
set_option linter.unusedSimpArgs false
set_option maxRecDepth 100000
namespace Go.Proofs.YtdpnhedbggnhiaaGreat
open Go.AM
theorem nt {X : Bool} (h : (!X) = true) : X = false := by simpa using h
theorem nf {X : Bool} (h : (!X) = false) : X = true := by simpa using h
/-- a value is not what is made of a part of it -/
theorem bad_of {v w : Vl} (h : (!(eqCV v w)) = true) (hw : v.valid → v = w) : checkV v = 1 := checkV_1 fun hv => eqCV_f (nt h) (hw hv)
theorem vCheck_ret (v : Vl) : Ret Tryz.prog 5 [eV v] [] (.int .i64 (checkV v)) [] := by
  have hc := Check_ret v.num
  by_cases k0 : v.kind = 0
  · refine ret_of_body atNone tok mixed Tryz.func5 (by kernel_rfl) rfl (k := 50) (rs := [.tmp 2]) (by kernel_rfl) (by kernel_rfl) ?_
    (conv => whnf) <;> repeat' (first | ((first | refine wN ?_ | refine wA ?_ | refine wB ?_ | refine wC ?_ | refine wD ?_ | refine vA ?_ | refine vB ?_ | refine vC ?_ | refine vD ?_ | refine uA ?_ | refine uB ?_ | refine uC ?_ | refine uD ?_); conv => whnf) | ((first | apply Pick.dec | apply Pick.beq | apply Cond.dec | apply Cond.beq | apply Cond.nd | apply Pick.nd | apply Pick.mk | apply Cond.mk) <;> intro h <;> conv => whnf))
    · exact End.mk (int_eq (bad_of (w := ⟨v.kind, D0, false, ByteArray.empty, 0⟩) h fun hv => by rw [hv.blank k0]; rfl).symm) rfl
    · refine End.mk (int_eq (checkV_0 (.inl ⟨k0, ?_⟩)).symm) rfl
      have := eqCV_t (b := ⟨v.kind, D0, false, ByteArray.empty, 0⟩) (nf h)
      rw [this, k0]; rfl
  by_cases k1 : v.kind = 1
  · by_cases hd : v.num.ok
    · rw [check_ok hd] at hc
      refine ret_of_body atNone tok mixed Tryz.func5 (by kernel_rfl) rfl (k := 50) (rs := [.tmp 2]) (by kernel_rfl) (by kernel_rfl) ?_
      (conv => whnf) <;> repeat' (first | ((first | refine wN ?_ | refine wA ?_ | refine wB ?_ | refine wC ?_ | refine wD ?_ | refine Called.mk _ _ (hc) ?_ | refine vA ?_ | refine vB ?_ | refine vC ?_ | refine vD ?_ | refine uA ?_ | refine uB ?_ | refine uC ?_ | refine uD ?_); conv => whnf) | ((first | apply Pick.dec | apply Pick.beq | apply Cond.dec | apply Cond.beq | apply Cond.nd | apply Pick.nd | apply Pick.mk | apply Cond.mk) <;> intro h <;> conv => whnf))
      · exact End.mk (int_eq (bad_of (w := ⟨v.kind, v.num, false, ByteArray.empty, 0⟩) h fun hv => by
          obtain ⟨e, _⟩ := hv.num k1
          rw [k1]; exact e).symm) rfl
      · refine End.mk (int_eq (checkV_0 (.inr (.inl ⟨k1, ?_, hd⟩))).symm) rfl
        have := eqCV_t (b := ⟨v.kind, v.num, false, ByteArray.empty, 0⟩) (nf h)
        rw [k1] at this; exact this
    · rw [check_bad hd] at hc
      refine ret_of_body atNone tok mixed Tryz.func5 (by kernel_rfl) rfl (k := 50) (rs := [.tmp 2]) (by kernel_rfl) (by kernel_rfl) ?_
      (conv => whnf) <;> repeat' (first | ((first | refine wN ?_ | refine wA ?_ | refine wB ?_ | refine wC ?_ | refine wD ?_ | refine Called.mk _ _ (hc) ?_ | refine vA ?_ | refine vB ?_ | refine vC ?_ | refine vD ?_ | refine uA ?_ | refine uB ?_ | refine uC ?_ | refine uD ?_); conv => whnf) | ((first | apply Pick.dec | apply Pick.beq | apply Cond.dec | apply Cond.beq | apply Cond.nd | apply Pick.nd | apply Pick.mk | apply Cond.mk) <;> intro h <;> conv => whnf))
      exact End.mk (int_eq (checkV_1 fun hv => hd (hv.num k1).2).symm) rfl
  by_cases k2 : v.kind = 2
  · refine ret_of_body atNone tok mixed Tryz.func5 (by kernel_rfl) rfl (k := 50) (rs := [.tmp 2]) (by kernel_rfl) (by kernel_rfl) ?_
    (conv => whnf) <;> repeat' (first | ((first | refine wN ?_ | refine wA ?_ | refine wB ?_ | refine wC ?_ | refine wD ?_ | refine vA ?_ | refine vB ?_ | refine vC ?_ | refine vD ?_ | refine uA ?_ | refine uB ?_ | refine uC ?_ | refine uD ?_); conv => whnf) | ((first | apply Pick.dec | apply Pick.beq | apply Cond.dec | apply Cond.beq | apply Cond.nd | apply Pick.nd | apply Pick.mk | apply Cond.mk) <;> intro h <;> conv => whnf))
    · exact End.mk (int_eq (bad_of (w := ⟨v.kind, D0, v.flag, ByteArray.empty, 0⟩) h fun hv => by
        have e := hv.flag_ k2
        rw [k2]; exact e).symm) rfl
    · refine End.mk (int_eq (checkV_0 (.inr (.inr (.inl ⟨k2, ?_⟩)))).symm) rfl
      have := eqCV_t (b := ⟨v.kind, D0, v.flag, ByteArray.empty, 0⟩) (nf h)
      rw [k2] at this; exact this
  by_cases k3 : v.kind = 3
  · have ht : v.valid → v = textV v.text ∧ v.text.size ≤ 64 := fun hv => by
      rcases hv with ⟨h, _⟩ | ⟨h, _⟩ | ⟨h, _⟩ | ⟨_, h⟩ | ⟨h, _⟩
      · omega
      · omega
      · omega
      · exact h
      · omega
    refine ret_of_body atNone tok mixed Tryz.func5 (by kernel_rfl) rfl (k := 50) (rs := [.tmp 2]) (by kernel_rfl) (by kernel_rfl) ?_
    (conv => whnf) <;> repeat' (first | ((first | refine wN ?_ | refine wA ?_ | refine wB ?_ | refine wC ?_ | refine wD ?_ | refine vA ?_ | refine vB ?_ | refine vC ?_ | refine vD ?_ | refine uA ?_ | refine uB ?_ | refine uC ?_ | refine uD ?_); conv => whnf) | ((first | apply Pick.dec | apply Pick.beq | apply Cond.dec | apply Cond.beq | apply Cond.nd | apply Pick.nd | apply Pick.mk | apply Cond.mk) <;> intro h <;> conv => whnf))
    · exact End.mk (int_eq (checkV_1 fun hv => by have := (ht hv).2; omega).symm) rfl
    · exact End.mk (int_eq (bad_of (w := ⟨v.kind, D0, false, v.text, 0⟩) h fun hv => by
        have e := (ht hv).1
        rw [k3]; exact e).symm) rfl
    · refine End.mk (int_eq (checkV_0 (.inr (.inr (.inr (.inl ⟨k3, ?_, by omega⟩))))).symm) rfl
      have := eqCV_t (b := ⟨v.kind, D0, false, v.text, 0⟩) (nf h)
      rw [k3] at this; exact this
  by_cases k4 : v.kind = 4
  · refine ret_of_body atNone tok mixed Tryz.func5 (by kernel_rfl) rfl (k := 50) (rs := [.tmp 2]) (by kernel_rfl) (by kernel_rfl) ?_
    (conv => whnf) <;> repeat' (first | ((first | refine wN ?_ | refine wA ?_ | refine wB ?_ | refine wC ?_ | refine wD ?_ | refine vA ?_ | refine vB ?_ | refine vC ?_ | refine vD ?_ | refine uA ?_ | refine uB ?_ | refine uC ?_ | refine uD ?_); conv => whnf) | ((first | apply Pick.dec | apply Pick.beq | apply Cond.dec | apply Cond.beq | apply Cond.nd | apply Pick.nd | apply Pick.mk | apply Cond.mk) <;> intro h <;> conv => whnf))
    · exact End.mk (int_eq (checkV_1 fun hv => by have := (hv.err_ k4).2; omega).symm) rfl
    · exact End.mk (int_eq (checkV_1 fun hv => by have := (hv.err_ k4).2; omega).symm) rfl
    · exact End.mk (int_eq (bad_of (w := ⟨v.kind, D0, false, ByteArray.empty, v.err⟩) h fun hv => by
        have e := (hv.err_ k4).1
        rw [k4]; exact e).symm) rfl
    · refine End.mk (int_eq (checkV_0 (.inr (.inr (.inr (.inr ⟨k4, ?_, by omega, by omega⟩))))).symm) rfl
      have := eqCV_t (b := ⟨v.kind, D0, false, ByteArray.empty, v.err⟩) (nf h)
      rw [k4] at this; exact this
  · refine ret_of_body atNone tok mixed Tryz.func5 (by kernel_rfl) rfl (k := 50) (rs := [.tmp 2]) (by kernel_rfl) (by kernel_rfl) ?_
    (conv => whnf) <;> repeat' (first | ((first | refine wN ?_ | refine wA ?_ | refine wB ?_ | refine wC ?_ | refine wD ?_ | refine vA ?_ | refine vB ?_ | refine vC ?_ | refine vD ?_ | refine uA ?_ | refine uB ?_ | refine uC ?_ | refine uD ?_); conv => whnf) | ((first | apply Pick.dec | apply Pick.beq | apply Cond.dec | apply Cond.beq | apply Cond.nd | apply Pick.nd | apply Pick.mk | apply Cond.mk) <;> intro h <;> conv => whnf))
    exact End.mk (int_eq (checkV_1 fun hv => by have := hv.kinds; omega).symm) rfl
theorem rvCheck_ret (v : Vl) : Ret Tryz.prog 6 [eV v] [] (.int .i64 (checkV v)) [] := by
  have hc := rCheck_ret v.num
  by_cases k0 : v.kind = 0
  · refine ret_of_body atNone tok mixed Tryz.func6 (by kernel_rfl) rfl (k := 63) (rs := [.tmp 2]) (by kernel_rfl) (by kernel_rfl) ?_
    (conv => whnf) <;> repeat' (first | ((first | refine wN ?_ | refine wA ?_ | refine wB ?_ | refine wC ?_ | refine wD ?_ | refine vA ?_ | refine vB ?_ | refine vC ?_ | refine vD ?_ | refine uA ?_ | refine uB ?_ | refine uC ?_ | refine uD ?_); conv => whnf) | ((first | apply Pick.dec | apply Pick.beq | apply Cond.dec | apply Cond.beq | apply Cond.nd | apply Pick.nd | apply Pick.mk | apply Cond.mk) <;> intro h <;> conv => whnf))
    · exact End.mk (int_eq (bad_of (w := Vl0) h fun hv => hv.blank k0).symm) rfl
    · exact End.mk (int_eq (checkV_0 (.inl ⟨k0, eqCV_t (b := Vl0) (nf h)⟩)).symm) rfl
  by_cases k1 : v.kind = 1
  · by_cases hd : v.num.ok
    · rw [check_ok hd] at hc
      refine ret_of_body atNone tok mixed Tryz.func6 (by kernel_rfl) rfl (k := 63) (rs := [.tmp 2]) (by kernel_rfl) (by kernel_rfl) ?_
      (conv => whnf) <;> repeat' (first | ((first | refine wN ?_ | refine wA ?_ | refine wB ?_ | refine wC ?_ | refine wD ?_ | refine Called.mk _ _ (hc) ?_ | refine vA ?_ | refine vB ?_ | refine vC ?_ | refine vD ?_ | refine uA ?_ | refine uB ?_ | refine uC ?_ | refine uD ?_); conv => whnf) | ((first | apply Pick.dec | apply Pick.beq | apply Cond.dec | apply Cond.beq | apply Cond.nd | apply Pick.nd | apply Pick.mk | apply Cond.mk) <;> intro h <;> conv => whnf))
      · exact End.mk (int_eq (checkV_0 (.inr (.inl ⟨k1, eqCV_t (b := numV v.num) h, hd⟩))).symm) rfl
      · exact End.mk (int_eq (checkV_1 fun hv => eqCV_f (b := numV v.num) h (hv.num k1).1).symm) rfl
    · rw [check_bad hd] at hc
      refine ret_of_body atNone tok mixed Tryz.func6 (by kernel_rfl) rfl (k := 63) (rs := [.tmp 2]) (by kernel_rfl) (by kernel_rfl) ?_
      (conv => whnf) <;> repeat' (first | ((first | refine wN ?_ | refine wA ?_ | refine wB ?_ | refine wC ?_ | refine wD ?_ | refine Called.mk _ _ (hc) ?_ | refine vA ?_ | refine vB ?_ | refine vC ?_ | refine vD ?_ | refine uA ?_ | refine uB ?_ | refine uC ?_ | refine uD ?_); conv => whnf) | ((first | apply Pick.dec | apply Pick.beq | apply Cond.dec | apply Cond.beq | apply Cond.nd | apply Pick.nd | apply Pick.mk | apply Cond.mk) <;> intro h <;> conv => whnf))
      all_goals exact End.mk (int_eq (checkV_1 fun hv => hd (hv.num k1).2).symm) rfl
  by_cases k2 : v.kind = 2
  · refine ret_of_body atNone tok mixed Tryz.func6 (by kernel_rfl) rfl (k := 63) (rs := [.tmp 2]) (by kernel_rfl) (by kernel_rfl) ?_
    (conv => whnf) <;> repeat' (first | ((first | refine wN ?_ | refine wA ?_ | refine wB ?_ | refine wC ?_ | refine wD ?_ | refine vA ?_ | refine vB ?_ | refine vC ?_ | refine vD ?_ | refine uA ?_ | refine uB ?_ | refine uC ?_ | refine uD ?_); conv => whnf) | ((first | apply Pick.dec | apply Pick.beq | apply Cond.dec | apply Cond.beq | apply Cond.nd | apply Pick.nd | apply Pick.mk | apply Cond.mk) <;> intro h <;> conv => whnf))
    · exact End.mk (int_eq (bad_of (w := flagV v.flag) h fun hv => hv.flag_ k2).symm) rfl
    · exact End.mk (int_eq (checkV_0 (.inr (.inr (.inl ⟨k2, eqCV_t (b := flagV v.flag) (nf h)⟩)))).symm) rfl
  by_cases k3 : v.kind = 3
  · have ht : v.valid → v = textV v.text ∧ v.text.size ≤ 64 := fun hv => by
      rcases hv with ⟨h, _⟩ | ⟨h, _⟩ | ⟨h, _⟩ | ⟨_, h⟩ | ⟨h, _⟩
      · omega
      · omega
      · omega
      · exact h
      · omega
    refine ret_of_body atNone tok mixed Tryz.func6 (by kernel_rfl) rfl (k := 63) (rs := [.tmp 2]) (by kernel_rfl) (by kernel_rfl) ?_
    (conv => whnf) <;> repeat' (first | ((first | refine wN ?_ | refine wA ?_ | refine wB ?_ | refine wC ?_ | refine wD ?_ | refine vA ?_ | refine vB ?_ | refine vC ?_ | refine vD ?_ | refine uA ?_ | refine uB ?_ | refine uC ?_ | refine uD ?_); conv => whnf) | ((first | apply Pick.dec | apply Pick.beq | apply Cond.dec | apply Cond.beq | apply Cond.nd | apply Pick.nd | apply Pick.mk | apply Cond.mk) <;> intro h <;> conv => whnf))
    · exact End.mk (int_eq (checkV_1 fun hv => by have := (ht hv).2; omega).symm) rfl
    · rename_i h1; exact End.mk (int_eq (checkV_0 (.inr (.inr (.inr (.inl ⟨k3, eqCV_t (b := textV v.text) h1, by omega⟩))))).symm) rfl
    · exact End.mk (int_eq (checkV_1 fun hv => eqCV_f (b := textV v.text) h (ht hv).1).symm) rfl
  by_cases k4 : v.kind = 4
  · refine ret_of_body atNone tok mixed Tryz.func6 (by kernel_rfl) rfl (k := 63) (rs := [.tmp 2]) (by kernel_rfl) (by kernel_rfl) ?_
    (conv => whnf) <;> repeat' (first | ((first | refine wN ?_ | refine wA ?_ | refine wB ?_ | refine wC ?_ | refine wD ?_ | refine vA ?_ | refine vB ?_ | refine vC ?_ | refine vD ?_ | refine uA ?_ | refine uB ?_ | refine uC ?_ | refine uD ?_); conv => whnf) | ((first | apply Pick.dec | apply Pick.beq | apply Cond.dec | apply Cond.beq | apply Cond.nd | apply Pick.nd | apply Pick.mk | apply Cond.mk) <;> intro h <;> conv => whnf))
    · exact End.mk (int_eq (checkV_1 fun hv => by have := (hv.err_ k4).2; omega).symm) rfl
    · rename_i h1 h2; exact End.mk (int_eq (checkV_0 (.inr (.inr (.inr (.inr ⟨k4, eqCV_t (b := errV v.err) h1, by omega, by omega⟩))))).symm) rfl
    · exact End.mk (int_eq (checkV_1 fun hv => by have := (hv.err_ k4).2; omega).symm) rfl
    · exact End.mk (int_eq (checkV_1 fun hv => eqCV_f (b := errV v.err) h (hv.err_ k4).1).symm) rfl
  · refine ret_of_body atNone tok mixed Tryz.func6 (by kernel_rfl) rfl (k := 63) (rs := [.tmp 2]) (by kernel_rfl) (by kernel_rfl) ?_
    (conv => whnf) <;> repeat' (first | ((first | refine wN ?_ | refine wA ?_ | refine wB ?_ | refine wC ?_ | refine wD ?_ | refine vA ?_ | refine vB ?_ | refine vC ?_ | refine vD ?_ | refine uA ?_ | refine uB ?_ | refine uC ?_ | refine uD ?_); conv => whnf) | ((first | apply Pick.dec | apply Pick.beq | apply Cond.dec | apply Cond.beq | apply Cond.nd | apply Pick.nd | apply Pick.mk | apply Cond.mk) <;> intro h <;> conv => whnf))
    exact End.mk (int_eq (checkV_1 fun hv => by have := hv.kinds; omega).symm) rfl
theorem vBad_ret (e : Int) : Ret Tryz.prog 7 [.int .i64 e] [] (eV (badV e)) [] := by
  refine ret_of_body atNone tok mixed Tryz.func7 (by kernel_rfl) rfl (k := 11) (rs := [.cell 2 28]) (by kernel_rfl) (by kernel_rfl) ?_
  (conv => whnf) <;> repeat' (first | ((first | refine wN ?_ | refine wA ?_ | refine wB ?_ | refine wC ?_ | refine wD ?_ | refine vA ?_ | refine vB ?_ | refine vC ?_ | refine vD ?_ | refine uA ?_ | refine uB ?_ | refine uC ?_ | refine uD ?_); conv => whnf) | ((first | apply Pick.dec | apply Pick.beq | apply Cond.dec | apply Cond.beq | apply Cond.nd | apply Pick.nd | apply Pick.mk | apply Cond.mk) <;> intro h <;> conv => whnf))
  all_goals
    unfold badV
    first
      | (rw [if_pos (by omega)]; exact End.mk rfl rfl)
      | (rw [if_neg (by omega)]; exact End.mk rfl rfl)
theorem vBad1 : Ret Tryz.prog 7 [.int .i64 1] [] (eV (errV 1)) [] := vBad_ret 1
theorem vBad2 : Ret Tryz.prog 7 [.int .i64 2] [] (eV (errV 2)) [] := vBad_ret 2
theorem vBad3 : Ret Tryz.prog 7 [.int .i64 3] [] (eV (errV 3)) [] := vBad_ret 3
theorem rvBad_ret (e : Int) : Ret Tryz.prog 8 [.int .i64 e] [] (eV (badV e)) [] := by
  refine ret_of_body atNone tok mixed Tryz.func8 (by kernel_rfl) rfl (k := 11) (rs := [.cell 2 28]) (by kernel_rfl) (by kernel_rfl) ?_
  (conv => whnf) <;> repeat' (first | ((first | refine wN ?_ | refine wA ?_ | refine wB ?_ | refine wC ?_ | refine wD ?_ | refine vA ?_ | refine vB ?_ | refine vC ?_ | refine vD ?_ | refine uA ?_ | refine uB ?_ | refine uC ?_ | refine uD ?_); conv => whnf) | ((first | apply Pick.dec | apply Pick.beq | apply Cond.dec | apply Cond.beq | apply Cond.nd | apply Pick.nd | apply Pick.mk | apply Cond.mk) <;> intro h <;> conv => whnf))
  all_goals
    unfold badV
    first
      | (rw [if_pos (by omega)]; exact End.mk rfl rfl)
      | (rw [if_neg (by omega)]; exact End.mk rfl rfl)
theorem rvBad1 : Ret Tryz.prog 8 [.int .i64 1] [] (eV (errV 1)) [] := rvBad_ret 1
theorem rvBad2 : Ret Tryz.prog 8 [.int .i64 2] [] (eV (errV 2)) [] := rvBad_ret 2
theorem rvBad3 : Ret Tryz.prog 8 [.int .i64 3] [] (eV (errV 3)) [] := rvBad_ret 3
theorem vflag_ret (b : Bool) : Ret Tryz.prog 29 [.bool b] [] (eV (flagV b)) [] := by
  refine ret_of_body atNone tok mixed Tryz.func29 (by kernel_rfl) rfl (k := 5) (rs := [.cell 2 28]) (by kernel_rfl) (by kernel_rfl) ?_
  (conv => whnf) <;> repeat' (first | ((first | refine wN ?_ | refine wA ?_ | refine wB ?_ | refine wC ?_ | refine wD ?_ | refine vA ?_ | refine vB ?_ | refine vC ?_ | refine vD ?_ | refine uA ?_ | refine uB ?_ | refine uC ?_ | refine uD ?_); conv => whnf) | ((first | apply Pick.dec | apply Pick.beq | apply Cond.dec | apply Cond.beq | apply Cond.nd | apply Pick.nd | apply Pick.mk | apply Cond.mk) <;> intro h <;> conv => whnf))
  exact End.mk rfl rfl
theorem rvflag_ret (b : Bool) : Ret Tryz.prog 27 [.bool b] [] (eV (flagV b)) [] := by
  refine ret_of_body atNone tok mixed Tryz.func27 (by kernel_rfl) rfl (k := 5) (rs := [.cell 2 28]) (by kernel_rfl) (by kernel_rfl) ?_
  (conv => whnf) <;> repeat' (first | ((first | refine wN ?_ | refine wA ?_ | refine wB ?_ | refine wC ?_ | refine wD ?_ | refine vA ?_ | refine vB ?_ | refine vC ?_ | refine vD ?_ | refine uA ?_ | refine uB ?_ | refine uC ?_ | refine uD ?_); conv => whnf) | ((first | apply Pick.dec | apply Pick.beq | apply Cond.dec | apply Cond.beq | apply Cond.nd | apply Pick.nd | apply Pick.mk | apply Cond.mk) <;> intro h <;> conv => whnf))
  exact End.mk rfl rfl
theorem rvnum_ret (d : D) : Ret Tryz.prog 45 [eD d] [] (eV (numV d)) [] := by
  refine ret_of_body atNone tok mixed Tryz.func45 (by kernel_rfl) rfl (k := 5) (rs := [.cell 2 28]) (by kernel_rfl) (by kernel_rfl) ?_
  (conv => whnf) <;> repeat' (first | ((first | refine wN ?_ | refine wA ?_ | refine wB ?_ | refine wC ?_ | refine wD ?_ | refine vA ?_ | refine vB ?_ | refine vC ?_ | refine vD ?_ | refine uA ?_ | refine uB ?_ | refine uC ?_ | refine uD ?_); conv => whnf) | ((first | apply Pick.dec | apply Pick.beq | apply Cond.dec | apply Cond.beq | apply Cond.nd | apply Pick.nd | apply Pick.mk | apply Cond.mk) <;> intro h <;> conv => whnf))
  exact End.mk rfl rfl
theorem numberV_0 {d : D} {e : Int} (h : e = 0) : numberV (d, e) = numV d := if_pos h
theorem numberV_7 {d : D} {e : Int} (h : e = 7) : numberV (d, e) = errV 1 := by unfold numberV; rw [if_neg (by simp only; omega), if_pos h]
theorem numberV_x {d : D} {e : Int} (h : ¬ e = 0) (h7 : ¬ e = 7) : numberV (d, e) = errV 2 := by unfold numberV; rw [if_neg h, if_neg h7]
theorem vnumber_ret (d : D) (e : Int) : Ret Tryz.prog 31 [eD d, .int .i64 e] [] (eV (numberV (d, e))) [] := by
  refine ret_of_body atNone tok mixed Tryz.func31 (by kernel_rfl) rfl (k := 14) (rs := [.cell 4 28]) (by kernel_rfl) (by kernel_rfl) ?_
  (conv => whnf) <;> repeat' (first | ((first | refine wN ?_ | refine wA ?_ | refine wB ?_ | refine wC ?_ | refine wD ?_ | refine Called.mk _ _ (vBad1) ?_ | refine Called.mk _ _ (vBad2) ?_ | refine vA ?_ | refine vB ?_ | refine vC ?_ | refine vD ?_ | refine uA ?_ | refine uB ?_ | refine uC ?_ | refine uD ?_); conv => whnf) | ((first | apply Pick.dec | apply Pick.beq | apply Cond.dec | apply Cond.beq | apply Cond.nd | apply Pick.nd | apply Pick.mk | apply Cond.mk) <;> intro h <;> conv => whnf))
  · rw [numberV_0 h]; exact End.mk rfl rfl
  · rw [numberV_7 h]; exact End.mk rfl rfl
  · rename_i h1; rw [numberV_x h1 h]; exact End.mk rfl rfl
theorem rvtold_ret (d : D) (e : Int) : Ret Tryz.prog 25 [eD d, .int .i64 e] [] (eV (numberV (d, e))) [] := by
  refine ret_of_body atNone tok mixed Tryz.func25 (by kernel_rfl) rfl (k := 13) (rs := [.cell 4 28]) (by kernel_rfl) (by kernel_rfl) ?_
  (conv => whnf) <;> repeat' (first | ((first | refine wN ?_ | refine wA ?_ | refine wB ?_ | refine wC ?_ | refine wD ?_ | refine Called.mk _ _ (rvBad1) ?_ | refine Called.mk _ _ (rvBad2) ?_ | refine Called.mk _ _ (rvnum_ret d) ?_ | refine vA ?_ | refine vB ?_ | refine vC ?_ | refine vD ?_ | refine uA ?_ | refine uB ?_ | refine uC ?_ | refine uD ?_); conv => whnf) | ((first | apply Pick.dec | apply Pick.beq | apply Cond.dec | apply Cond.beq | apply Cond.nd | apply Pick.nd | apply Pick.mk | apply Cond.mk) <;> intro h <;> conv => whnf))
  · rw [numberV_7 h]; exact End.mk rfl rfl
  all_goals
    first
      | (rw [numberV_0 (by omega)]; exact End.mk rfl rfl)
      | (rw [numberV_x (by omega) (by omega)]; exact End.mk rfl rfl)
theorem vmay_ret (v : Vl) : Ret Tryz.prog 28 [eV v] [] (eV (mayV v)) [] := by
  have hc := vCheck_ret v
  by_cases h : v.valid
  · rw [checkV_0 h] at hc
    rw [show mayV v = v from if_pos h]
    refine ret_of_body atNone tok mixed Tryz.func28 (by kernel_rfl) rfl (k := 8) (rs := [.cell 2 28]) (by kernel_rfl) (by kernel_rfl) ?_
    (conv => whnf) <;> repeat' (first | ((first | refine wN ?_ | refine wA ?_ | refine wB ?_ | refine wC ?_ | refine wD ?_ | refine Called.mk _ _ (hc) ?_ | refine Called.mk _ _ (vBad2) ?_ | refine vA ?_ | refine vB ?_ | refine vC ?_ | refine vD ?_ | refine uA ?_ | refine uB ?_ | refine uC ?_ | refine uD ?_); conv => whnf) | ((first | apply Pick.dec | apply Pick.beq | apply Cond.dec | apply Cond.beq | apply Cond.nd | apply Pick.nd | apply Pick.mk | apply Cond.mk) <;> intro h <;> conv => whnf))
    exact End.mk rfl rfl
  · rw [checkV_1 h] at hc
    rw [show mayV v = errV 2 from if_neg h]
    refine ret_of_body atNone tok mixed Tryz.func28 (by kernel_rfl) rfl (k := 8) (rs := [.cell 2 28]) (by kernel_rfl) (by kernel_rfl) ?_
    (conv => whnf) <;> repeat' (first | ((first | refine wN ?_ | refine wA ?_ | refine wB ?_ | refine wC ?_ | refine wD ?_ | refine Called.mk _ _ (hc) ?_ | refine Called.mk _ _ (vBad2) ?_ | refine vA ?_ | refine vB ?_ | refine vC ?_ | refine vD ?_ | refine uA ?_ | refine uB ?_ | refine uC ?_ | refine uD ?_); conv => whnf) | ((first | apply Pick.dec | apply Pick.beq | apply Cond.dec | apply Cond.beq | apply Cond.nd | apply Pick.nd | apply Pick.mk | apply Cond.mk) <;> intro h <;> conv => whnf))
    exact End.mk rfl rfl
theorem rvmay_ret (v : Vl) : Ret Tryz.prog 30 [eV v] [] (eV (mayV v)) [] := by
  have hc := rvCheck_ret v
  by_cases h : v.valid
  · rw [checkV_0 h] at hc
    rw [show mayV v = v from if_pos h]
    refine ret_of_body atNone tok mixed Tryz.func30 (by kernel_rfl) rfl (k := 8) (rs := [.cell 2 28]) (by kernel_rfl) (by kernel_rfl) ?_
    (conv => whnf) <;> repeat' (first | ((first | refine wN ?_ | refine wA ?_ | refine wB ?_ | refine wC ?_ | refine wD ?_ | refine Called.mk _ _ (hc) ?_ | refine Called.mk _ _ (rvBad2) ?_ | refine vA ?_ | refine vB ?_ | refine vC ?_ | refine vD ?_ | refine uA ?_ | refine uB ?_ | refine uC ?_ | refine uD ?_); conv => whnf) | ((first | apply Pick.dec | apply Pick.beq | apply Cond.dec | apply Cond.beq | apply Cond.nd | apply Pick.nd | apply Pick.mk | apply Cond.mk) <;> intro h <;> conv => whnf))
    exact End.mk rfl rfl
  · rw [checkV_1 h] at hc
    rw [show mayV v = errV 2 from if_neg h]
    refine ret_of_body atNone tok mixed Tryz.func30 (by kernel_rfl) rfl (k := 8) (rs := [.cell 2 28]) (by kernel_rfl) (by kernel_rfl) ?_
    (conv => whnf) <;> repeat' (first | ((first | refine wN ?_ | refine wA ?_ | refine wB ?_ | refine wC ?_ | refine wD ?_ | refine Called.mk _ _ (hc) ?_ | refine Called.mk _ _ (rvBad2) ?_ | refine vA ?_ | refine vB ?_ | refine vC ?_ | refine vD ?_ | refine uA ?_ | refine uB ?_ | refine uC ?_ | refine uD ?_); conv => whnf) | ((first | apply Pick.dec | apply Pick.beq | apply Cond.dec | apply Cond.beq | apply Cond.nd | apply Pick.nd | apply Pick.mk | apply Cond.mk) <;> intro h <;> conv => whnf))
    exact End.mk rfl rfl
theorem vasked_ret (v : Vl) : Ret Tryz.prog 40 [eV v] [] (.tup [eV (askV v).1, .bool (askV v).2]) [] := by
  have hc := vCheck_ret v
  by_cases h : v.valid
  · rw [checkV_0 h] at hc
    rw [show askV v = if v.kind = 4 then (v, false) else if v.kind = 0 then (errV 3, false) else (v, true) from if_pos h]
    refine ret_of_body atNone tok mixed Tryz.func40 (by kernel_rfl) rfl (k := 20) (rs := [.cell 2 28, .tmp 3]) (by kernel_rfl) (by kernel_rfl) ?_
    (conv => whnf) <;> repeat' (first | ((first | refine wN ?_ | refine wA ?_ | refine wB ?_ | refine wC ?_ | refine wD ?_ | refine Called.mk _ _ (hc) ?_ | refine Called.mk _ _ (vBad2) ?_ | refine Called.mk _ _ (vBad3) ?_ | refine vA ?_ | refine vB ?_ | refine vC ?_ | refine vD ?_ | refine uA ?_ | refine uB ?_ | refine uC ?_ | refine uD ?_); conv => whnf) | ((first | apply Pick.dec | apply Pick.beq | apply Cond.dec | apply Cond.beq | apply Cond.nd | apply Pick.nd | apply Pick.mk | apply Cond.mk) <;> intro h <;> conv => whnf))
    · rw [if_pos h]; exact End.mk rfl rfl
    · rename_i h4; rw [if_neg h4, if_pos h]; exact End.mk rfl rfl
    · rename_i h4; rw [if_neg h4, if_neg h]; exact End.mk rfl rfl
  · rw [checkV_1 h] at hc
    rw [show askV v = (errV 2, false) from if_neg h]
    refine ret_of_body atNone tok mixed Tryz.func40 (by kernel_rfl) rfl (k := 20) (rs := [.cell 2 28, .tmp 3]) (by kernel_rfl) (by kernel_rfl) ?_
    (conv => whnf) <;> repeat' (first | ((first | refine wN ?_ | refine wA ?_ | refine wB ?_ | refine wC ?_ | refine wD ?_ | refine Called.mk _ _ (hc) ?_ | refine Called.mk _ _ (vBad2) ?_ | refine vA ?_ | refine vB ?_ | refine vC ?_ | refine vD ?_ | refine uA ?_ | refine uB ?_ | refine uC ?_ | refine uD ?_); conv => whnf) | ((first | apply Pick.dec | apply Pick.beq | apply Cond.dec | apply Cond.beq | apply Cond.nd | apply Pick.nd | apply Pick.mk | apply Cond.mk) <;> intro h <;> conv => whnf))
    exact End.mk rfl rfl
theorem rvasked_ret (v : Vl) : Ret Tryz.prog 44 [eV v] [] (eV (askV v).1) [] := by
  have hc := rvmay_ret v
  by_cases h : v.valid
  · rw [show mayV v = v from if_pos h] at hc
    rw [show askV v = if v.kind = 4 then (v, false) else if v.kind = 0 then (errV 3, false) else (v, true) from if_pos h]
    refine ret_of_body atNone tok mixed Tryz.func44 (by kernel_rfl) rfl (k := 10) (rs := [.cell 2 28]) (by kernel_rfl) (by kernel_rfl) ?_
    (conv => whnf) <;> repeat' (first | ((first | refine wN ?_ | refine wA ?_ | refine wB ?_ | refine wC ?_ | refine wD ?_ | refine Called.mk _ _ (hc) ?_ | refine Called.mk _ _ (rvBad3) ?_ | refine vA ?_ | refine vB ?_ | refine vC ?_ | refine vD ?_ | refine uA ?_ | refine uB ?_ | refine uC ?_ | refine uD ?_); conv => whnf) | ((first | apply Pick.dec | apply Pick.beq | apply Cond.dec | apply Cond.beq | apply Cond.nd | apply Pick.nd | apply Pick.mk | apply Cond.mk) <;> intro h <;> conv => whnf))
    · rw [if_neg (by omega), if_pos h]; exact End.mk rfl rfl
    · rw [if_neg h]
      split <;> exact End.mk rfl rfl
  · rw [show mayV v = errV 2 from if_neg h] at hc
    rw [show askV v = (errV 2, false) from if_neg h]
    refine ret_of_body atNone tok mixed Tryz.func44 (by kernel_rfl) rfl (k := 10) (rs := [.cell 2 28]) (by kernel_rfl) (by kernel_rfl) ?_
    (conv => whnf) <;> repeat' (first | ((first | refine wN ?_ | refine wA ?_ | refine wB ?_ | refine wC ?_ | refine wD ?_ | refine Called.mk _ _ (hc) ?_ | refine Called.mk _ _ (rvBad3) ?_ | refine vA ?_ | refine vB ?_ | refine vC ?_ | refine vD ?_ | refine uA ?_ | refine uB ?_ | refine uC ?_ | refine uD ?_); conv => whnf) | ((first | apply Pick.dec | apply Pick.beq | apply Cond.dec | apply Cond.beq | apply Cond.nd | apply Pick.nd | apply Pick.mk | apply Cond.mk) <;> intro h <;> conv => whnf))
    exact End.mk rfl rfl
end Go.Proofs.YtdpnhedbggnhiaaGreat

set_option linter.unusedVariables false
set_option linter.unusedSimpArgs false
set_option maxRecDepth 100000
namespace Go.Proofs.YtdpnhedbggnhiaaGreat
open Go.AM
theorem vof_ret (v : Vl) (k : Int) : Ret Tryz.prog 22 [eV v, .int .i64 k] [] (.tup [eV (ofV' v k).1, .bool (ofV' v k).2]) [] := by
  have ha := vasked_ret v
  by_cases h : (askV v).2 = true
  · obtain ⟨h1, h2, h3⟩ := askV_t h
    rw [askV_ok h1 h2 h3] at ha
    rw [show ofV' v k = if v.kind = k then (v, true) else (errV 2, false) from if_pos h]
    refine ret_of_body atNone tok mixed Tryz.func22 (by kernel_rfl) rfl (k := 23) (rs := [.cell 4 28, .tmp 5]) (by kernel_rfl) (by kernel_rfl) ?_
    (conv => whnf) <;> repeat' (first | ((first | refine wN ?_ | refine wA ?_ | refine wB ?_ | refine wC ?_ | refine wD ?_ | refine Called.mk _ _ (ha) ?_ | refine Called.mk _ _ (vBad2) ?_ | refine vA ?_ | refine vB ?_ | refine vC ?_ | refine vD ?_ | refine uA ?_ | refine uB ?_ | refine uC ?_ | refine uD ?_); conv => whnf) | ((first | apply Pick.dec | apply Pick.beq | apply Cond.dec | apply Cond.beq | apply Cond.nd | apply Pick.nd | apply Pick.mk | apply Cond.mk) <;> intro h <;> conv => whnf))
    · rw [if_neg (by omega)]; exact End.mk rfl rfl
    · rw [if_pos (by omega)]; exact End.mk rfl rfl
  · rw [show ofV' v k = askV v from if_neg h]
    have h' : (askV v).2 = false := by simpa using h
    rw [h'] at ha
    refine ret_of_body atNone tok mixed Tryz.func22 (by kernel_rfl) rfl (k := 23) (rs := [.cell 4 28, .tmp 5]) (by kernel_rfl) (by kernel_rfl) ?_
    (conv => whnf) <;> repeat' (first | ((first | refine wN ?_ | refine wA ?_ | refine wB ?_ | refine wC ?_ | refine wD ?_ | refine Called.mk _ _ (ha) ?_ | refine Called.mk _ _ (vBad2) ?_ | refine vA ?_ | refine vB ?_ | refine vC ?_ | refine vD ?_ | refine uA ?_ | refine uB ?_ | refine uC ?_ | refine uD ?_); conv => whnf) | ((first | apply Pick.dec | apply Pick.beq | apply Cond.dec | apply Cond.beq | apply Cond.nd | apply Pick.nd | apply Pick.mk | apply Cond.mk) <;> intro h <;> conv => whnf))
    exact End.mk (tup_eq (cons_eq rfl (cons_eq (bool_eq h'.symm) rfl))) rfl
theorem rvone_ret (v : Vl) (k : Int) : Ret Tryz.prog 24 [eV v, .int .i64 k] [] (eV (ofV' v k).1) [] := by
  have ha := rvasked_ret v
  by_cases h : (askV v).2 = true
  · obtain ⟨h1, h2, h3⟩ := askV_t h
    rw [askV_ok h1 h2 h3] at ha
    rw [show ofV' v k = if v.kind = k then (v, true) else (errV 2, false) from if_pos h]
    refine ret_of_body atNone tok mixed Tryz.func24 (by kernel_rfl) rfl (k := 18) (rs := [.cell 4 28]) (by kernel_rfl) (by kernel_rfl) ?_
    (conv => whnf) <;> repeat' (first | ((first | refine wN ?_ | refine wA ?_ | refine wB ?_ | refine wC ?_ | refine wD ?_ | refine Called.mk _ _ (ha) ?_ | refine Called.mk _ _ (rvBad2) ?_ | refine vA ?_ | refine vB ?_ | refine vC ?_ | refine vD ?_ | refine uA ?_ | refine uB ?_ | refine uC ?_ | refine uD ?_); conv => whnf) | ((first | apply Pick.dec | apply Pick.beq | apply Cond.dec | apply Cond.beq | apply Cond.nd | apply Pick.nd | apply Pick.mk | apply Cond.mk) <;> intro h <;> conv => whnf))
    · rw [if_neg (by omega)]; exact End.mk rfl rfl
    · rw [if_pos (by omega)]; exact End.mk rfl rfl
  · rw [show ofV' v k = askV v from if_neg h]
    have h' : (askV v).2 = false := by simpa using h
    obtain ⟨h4, _⟩ := askV_f h'
    generalize (askV v).1 = x at *
    refine ret_of_body atNone tok mixed Tryz.func24 (by kernel_rfl) rfl (k := 18) (rs := [.cell 4 28]) (by kernel_rfl) (by kernel_rfl) ?_
    (conv => whnf) <;> repeat' (first | ((first | refine wN ?_ | refine wA ?_ | refine wB ?_ | refine wC ?_ | refine wD ?_ | refine Called.mk _ _ (ha) ?_ | refine Called.mk _ _ (rvBad2) ?_ | refine vA ?_ | refine vB ?_ | refine vC ?_ | refine vD ?_ | refine uA ?_ | refine uB ?_ | refine uC ?_ | refine uD ?_); conv => whnf) | ((first | apply Pick.dec | apply Pick.beq | apply Cond.dec | apply Cond.beq | apply Cond.nd | apply Pick.nd | apply Pick.mk | apply Cond.mk) <;> intro h <;> conv => whnf))
    exact End.mk rfl rfl
end Go.Proofs.YtdpnhedbggnhiaaGreat

