/- value.Text, exciseref13.Text. -/
import Derived.Test.YtdpnhedbggnhiaaGreatAmQt3
import Derived.Test.YtdpnhedbggnhiaaGreatAmGW
set_option linter.unusedVariables false
set_option linter.unusedSimpArgs false
set_option maxRecDepth 100000
namespace Go.Proofs.YtdpnhedbggnhiaaGreat
open Go.AM
theorem valTxt_bad {v : Vl} (h : ¬ v.valid) : valTxt v = ⟨#[63]⟩ := if_pos h
theorem valTxt_ok {v : Vl} (h : v.valid) : valTxt v = if v.kind = 1 then decTxt v.num else if v.kind = 3 then ⟨(quoL v.text.data.toList).toArray⟩ else if v.kind = 4 then ⟨#[33]⟩ ++ ⟨#[UInt8.ofNat (48 + v.err.toNat)]⟩ else
  if v.kind = 2 then (if v.flag then ⟨#[116, 114, 117, 101]⟩ else ⟨#[102, 97, 108, 115, 101]⟩) else ⟨#[98, 108, 97, 110, 107]⟩ := if_neg (fun h2 => h2 h)
theorem valid_text {v : Vl} (h : v.valid) (k : v.kind = 3) : v.text.size ≤ 64 := by
  rcases h with ⟨h, _⟩ | ⟨h, _⟩ | ⟨h, _⟩ | ⟨_, _, h⟩ | ⟨h, _⟩
  · omega
  · omega
  · omega
  · exact h
  · omega
theorem digit_text {e : Int} (h1 : 1 ≤ e) (h2 : e ≤ 5) : text (mkN e).v.toNat = ⟨#[UInt8.ofNat (48 + e.toNat)]⟩ := by
  have : e = 1 ∨ e = 2 ∨ e = 3 ∨ e = 4 ∨ e = 5 := by omega
  rcases this with rfl | rfl | rfl | rfl | rfl <;> rfl
theorem wrap32_digit {e : Int} (h1 : 1 ≤ e) (h2 : e ≤ 5) : IntKind.i32.wrap (48 + e) = 48 + e := by
  have : e = 1 ∨ e = 2 ∨ e = 3 ∨ e = 4 ∨ e = 5 := by omega
  rcases this with rfl | rfl | rfl | rfl | rfl <;> rfl
set_option maxHeartbeats 8000000 in
theorem vText_ret (v : Vl) : Ret Tryz.prog 17 [eV v] [] (.str (valTxt v)) [] := by
  have hc := vCheck_ret v
  by_cases h : v.valid
  · rw [checkV_0 h] at hc
    rw [valTxt_ok h]
    rcases h.kinds with k | k | k | k | k
    · refine ret_of_body atNone tok mixed Tryz.func17 (by kernel_rfl) rfl (k := 30) (rs := [.tmp 2]) (by kernel_rfl) (by kernel_rfl) ?_
      (conv => whnf) <;> repeat' (first | ((first | refine wN ?_ | refine wA ?_ | refine wB ?_ | refine wC ?_ | refine wD ?_ | refine Called.mk _ _ (hc) ?_ | refine vA ?_ | refine vB ?_ | refine vC ?_ | refine vD ?_ | refine uA ?_ | refine uB ?_ | refine uC ?_ | refine uD ?_); conv => whnf) | ((first | apply Pick.dec | apply Pick.beq | apply Cond.dec | apply Cond.beq | apply Cond.nd | apply Pick.nd | apply Pick.mk | apply Cond.mk) <;> intro h <;> conv => whnf))
      simp only [k]
      exact End.mk rfl rfl
    · have ht := dText_ret v.num
      rw [if_pos (h.num k).2] at ht
      refine ret_of_body atNone tok mixed Tryz.func17 (by kernel_rfl) rfl (k := 30) (rs := [.tmp 2]) (by kernel_rfl) (by kernel_rfl) ?_
      (conv => whnf) <;> repeat' (first | ((first | refine wN ?_ | refine wA ?_ | refine wB ?_ | refine wC ?_ | refine wD ?_ | refine Called.mk _ _ (hc) ?_ | refine Called.mk _ _ (ht) ?_ | refine vA ?_ | refine vB ?_ | refine vC ?_ | refine vD ?_ | refine uA ?_ | refine uB ?_ | refine uC ?_ | refine uD ?_); conv => whnf) | ((first | apply Pick.dec | apply Pick.beq | apply Cond.dec | apply Cond.beq | apply Cond.nd | apply Pick.nd | apply Pick.mk | apply Cond.mk) <;> intro h <;> conv => whnf))
      simp only [k]
      exact End.mk rfl rfl
    · refine ret_of_body atNone tok mixed Tryz.func17 (by kernel_rfl) rfl (k := 30) (rs := [.tmp 2]) (by kernel_rfl) (by kernel_rfl) ?_
      (conv => whnf) <;> repeat' (first | ((first | refine wN ?_ | refine wA ?_ | refine wB ?_ | refine wC ?_ | refine wD ?_ | refine Called.mk _ _ (hc) ?_ | refine vA ?_ | refine vB ?_ | refine vC ?_ | refine vD ?_ | refine uA ?_ | refine uB ?_ | refine uC ?_ | refine uD ?_); conv => whnf) | ((first | apply Pick.dec | apply Pick.beq | apply Cond.dec | apply Cond.beq | apply Cond.nd | apply Pick.nd | apply Pick.mk | apply Cond.mk) <;> intro h <;> conv => whnf))
      all_goals
        simp only [k, h]
        exact End.mk rfl rfl
    · have ht := quote_ret v.text (by have := valid_text h k; omega)
      refine ret_of_body atNone tok mixed Tryz.func17 (by kernel_rfl) rfl (k := 30) (rs := [.tmp 2]) (by kernel_rfl) (by kernel_rfl) ?_
      (conv => whnf) <;> repeat' (first | ((first | refine wN ?_ | refine wA ?_ | refine wB ?_ | refine wC ?_ | refine wD ?_ | refine Called.mk _ _ (hc) ?_ | refine Called.mk _ _ (ht) ?_ | refine vA ?_ | refine vB ?_ | refine vC ?_ | refine vD ?_ | refine uA ?_ | refine uB ?_ | refine uC ?_ | refine uD ?_); conv => whnf) | ((first | apply Pick.dec | apply Pick.beq | apply Cond.dec | apply Cond.beq | apply Cond.nd | apply Pick.nd | apply Pick.mk | apply Cond.mk) <;> intro h <;> conv => whnf))
      simp only [k]
      exact End.mk rfl rfl
    · obtain ⟨_, e1, e2⟩ := h.err_ k
      have hf := From_ret v.err (by unfold U; omega)
      have ht := Text_ret (mkN v.err)
      rw [digit_text e1 e2] at ht
      have z1 : (⟨#[UInt8.ofNat (48 + v.err.toNat)]⟩ : ByteArray).size = 1 := rfl
      have z2 : (⟨#[33]⟩ : ByteArray).size = 1 := rfl
      have w1 : IntKind.u64.wrap v.err = v.err := w64_id (by omega) (by omega)
      refine ret_of_body atNone tok mixed Tryz.func17 (by kernel_rfl) rfl (k := 30) (rs := [.tmp 2]) (by kernel_rfl) (by kernel_rfl) ?_
      (conv => whnf) <;> repeat' (first | (rw [w1]; conv => whnf) | ((first | refine wN ?_ | refine wA ?_ | refine wB ?_ | refine wC ?_ | refine wD ?_ | refine Called.mk _ _ (hc) ?_ | refine Called.mk _ _ (hf) ?_ | refine Called.mk _ _ (ht) ?_ | refine vA ?_ | refine vB ?_ | refine vC ?_ | refine vD ?_ | refine uA ?_ | refine uB ?_ | refine uC ?_ | refine uD ?_); conv => whnf) | ((first | apply Pick.dec | apply Pick.beq | apply Cond.dec | apply Cond.beq | apply Cond.nd | apply Pick.nd | apply Pick.mk | apply Cond.mk) <;> intro h <;> conv => whnf))
      simp only [k]
      exact End.mk rfl rfl
  · rw [checkV_1 h] at hc
    rw [valTxt_bad h]
    refine ret_of_body atNone tok mixed Tryz.func17 (by kernel_rfl) rfl (k := 30) (rs := [.tmp 2]) (by kernel_rfl) (by kernel_rfl) ?_
    (conv => whnf) <;> repeat' (first | ((first | refine wN ?_ | refine wA ?_ | refine wB ?_ | refine wC ?_ | refine wD ?_ | refine Called.mk _ _ (hc) ?_ | refine vA ?_ | refine vB ?_ | refine vC ?_ | refine vD ?_ | refine uA ?_ | refine uB ?_ | refine uC ?_ | refine uD ?_); conv => whnf) | ((first | apply Pick.dec | apply Pick.beq | apply Cond.dec | apply Cond.beq | apply Cond.nd | apply Pick.nd | apply Pick.mk | apply Cond.mk) <;> intro h <;> conv => whnf))
    exact End.mk rfl rfl
set_option maxHeartbeats 8000000 in
theorem rvText_ret (v : Vl) : Ret Tryz.prog 18 [eV v] [] (.str (valTxt v)) [] := by
  have hc := rvCheck_ret v
  by_cases h : v.valid
  · rw [checkV_0 h] at hc
    rw [valTxt_ok h]
    rcases h.kinds with k | k | k | k | k
    · refine ret_of_body atNone tok mixed Tryz.func18 (by kernel_rfl) rfl (k := 30) (rs := [.tmp 2]) (by kernel_rfl) (by kernel_rfl) ?_
      (conv => whnf) <;> repeat' (first | ((first | refine wN ?_ | refine wA ?_ | refine wB ?_ | refine wC ?_ | refine wD ?_ | refine Called.mk _ _ (hc) ?_ | refine vA ?_ | refine vB ?_ | refine vC ?_ | refine vD ?_ | refine uA ?_ | refine uB ?_ | refine uC ?_ | refine uD ?_); conv => whnf) | ((first | apply Pick.dec | apply Pick.beq | apply Cond.dec | apply Cond.beq | apply Cond.nd | apply Pick.nd | apply Pick.mk | apply Cond.mk) <;> intro h <;> conv => whnf))
      simp only [k]
      exact End.mk rfl rfl
    · have ht := rdText_ret v.num
      rw [if_pos (h.num k).2] at ht
      refine ret_of_body atNone tok mixed Tryz.func18 (by kernel_rfl) rfl (k := 30) (rs := [.tmp 2]) (by kernel_rfl) (by kernel_rfl) ?_
      (conv => whnf) <;> repeat' (first | ((first | refine wN ?_ | refine wA ?_ | refine wB ?_ | refine wC ?_ | refine wD ?_ | refine Called.mk _ _ (hc) ?_ | refine Called.mk _ _ (ht) ?_ | refine vA ?_ | refine vB ?_ | refine vC ?_ | refine vD ?_ | refine uA ?_ | refine uB ?_ | refine uC ?_ | refine uD ?_); conv => whnf) | ((first | apply Pick.dec | apply Pick.beq | apply Cond.dec | apply Cond.beq | apply Cond.nd | apply Pick.nd | apply Pick.mk | apply Cond.mk) <;> intro h <;> conv => whnf))
      simp only [k]
      exact End.mk rfl rfl
    · refine ret_of_body atNone tok mixed Tryz.func18 (by kernel_rfl) rfl (k := 30) (rs := [.tmp 2]) (by kernel_rfl) (by kernel_rfl) ?_
      (conv => whnf) <;> repeat' (first | ((first | refine wN ?_ | refine wA ?_ | refine wB ?_ | refine wC ?_ | refine wD ?_ | refine Called.mk _ _ (hc) ?_ | refine vA ?_ | refine vB ?_ | refine vC ?_ | refine vD ?_ | refine uA ?_ | refine uB ?_ | refine uC ?_ | refine uD ?_); conv => whnf) | ((first | apply Pick.dec | apply Pick.beq | apply Cond.dec | apply Cond.beq | apply Cond.nd | apply Pick.nd | apply Pick.mk | apply Cond.mk) <;> intro h <;> conv => whnf))
      all_goals
        simp only [k, h]
        exact End.mk rfl rfl
    · have ht := rquote_ret v.text (by have := valid_text h k; omega)
      refine ret_of_body atNone tok mixed Tryz.func18 (by kernel_rfl) rfl (k := 30) (rs := [.tmp 2]) (by kernel_rfl) (by kernel_rfl) ?_
      (conv => whnf) <;> repeat' (first | ((first | refine wN ?_ | refine wA ?_ | refine wB ?_ | refine wC ?_ | refine wD ?_ | refine Called.mk _ _ (hc) ?_ | refine Called.mk _ _ (ht) ?_ | refine vA ?_ | refine vB ?_ | refine vC ?_ | refine vD ?_ | refine uA ?_ | refine uB ?_ | refine uC ?_ | refine uD ?_); conv => whnf) | ((first | apply Pick.dec | apply Pick.beq | apply Cond.dec | apply Cond.beq | apply Cond.nd | apply Pick.nd | apply Pick.mk | apply Cond.mk) <;> intro h <;> conv => whnf))
      simp only [k]
      exact End.mk rfl rfl
    · obtain ⟨_, e1, e2⟩ := h.err_ k
      have w0 : IntKind.i64.wrap (48 + v.err) = 48 + v.err := wi64_id (by omega) (by omega)
      have w1 := wrap32_digit e1 e2
      have e3 : (48 + v.err).toNat = 48 + v.err.toNat := by omega
      have z1 : (⟨#[UInt8.ofNat (48 + v.err.toNat)]⟩ : ByteArray).size = 1 := rfl
      have z2 : (⟨#[33]⟩ : ByteArray).size = 1 := rfl
      refine ret_of_body atNone tok mixed Tryz.func18 (by kernel_rfl) rfl (k := 30) (rs := [.tmp 2]) (by kernel_rfl) (by kernel_rfl) ?_
      (conv => whnf) <;> repeat' (first | (rw [w0]; conv => whnf) | (rw [w1]; conv => whnf) | (rw [e3]; conv => whnf) | ((first | refine wN ?_ | refine wA ?_ | refine wB ?_ | refine wC ?_ | refine wD ?_ | refine Called.mk _ _ (hc) ?_ | refine vA ?_ | refine vB ?_ | refine vC ?_ | refine vD ?_ | refine uA ?_ | refine uB ?_ | refine uC ?_ | refine uD ?_); conv => whnf) | ((first | apply Pick.dec | apply Pick.beq | apply Cond.dec | apply Cond.beq | apply Cond.nd | apply Pick.nd | apply Pick.mk | apply Cond.mk) <;> intro h <;> conv => whnf))
      simp only [k]
      exact End.mk rfl rfl
  · rw [checkV_1 h] at hc
    rw [valTxt_bad h]
    refine ret_of_body atNone tok mixed Tryz.func18 (by kernel_rfl) rfl (k := 30) (rs := [.tmp 2]) (by kernel_rfl) (by kernel_rfl) ?_
    (conv => whnf) <;> repeat' (first | ((first | refine wN ?_ | refine wA ?_ | refine wB ?_ | refine wC ?_ | refine wD ?_ | refine Called.mk _ _ (hc) ?_ | refine vA ?_ | refine vB ?_ | refine vC ?_ | refine vD ?_ | refine uA ?_ | refine uB ?_ | refine uC ?_ | refine uD ?_); conv => whnf) | ((first | apply Pick.dec | apply Pick.beq | apply Cond.dec | apply Cond.beq | apply Cond.nd | apply Pick.nd | apply Pick.mk | apply Cond.mk) <;> intro h <;> conv => whnf))
    exact End.mk rfl rfl
end Go.Proofs.YtdpnhedbggnhiaaGreat

