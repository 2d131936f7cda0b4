/- decimal: plus, less; exciseref02: plus, minus. -/
import Derived.Test.YtlbocjcponegcaaGreatAmGH
import Derived.Test.YtlbocjcponegcaaGreatAmGU
set_option linter.unusedVariables false
set_option linter.unusedSimpArgs false
set_option maxRecDepth 100000
namespace Go.Proofs.YtlbocjcponegcaaGreat
open Go.AM
theorem dplus_ret (x y : Int) (hx : WW x) (hy : WW y) : Ret Tryz.prog 148 [eW x, eW y] [] (eW (x + y)) [] := by
  refine ret_of_body atNone tok mixed Tryz.func148 (by kernel_rfl) rfl (k := 35) (rs := [.cell 4 144]) (by kernel_rfl) (by kernel_rfl) ?_
  (conv => whnf) <;> repeat' (first | ((first | refine wN ?_ | refine wNc ?_ | refine wA ?_ | refine wB ?_ | refine wC ?_ | refine wD ?_ | refine Called.mk _ _ (Add_ret (mkN x) (mkN y)) ?_ | refine Called.mk _ _ (Add_ret (mkN (x / B4)) (mkN (y / B4))) ?_ | refine Called.mk _ _ (From_ret 1 (by decide)) ?_ | refine Called.mk _ _ (Add_ret (mkN ((mkN (x / B4)).v + (mkN (y / B4)).v)) (mkN 1)) ?_ | refine vA ?_ | refine vB ?_ | refine vC ?_ | refine vD ?_); conv => whnf) | ((first | apply Pick.dec | apply Pick.beq | apply Cond.dec | apply Cond.beq | apply Cond.nd | apply Pick.nd | apply Pick.mk | apply Cond.mk) <;> intro h <;> conv => whnf))
  · exact End.mk (eW_is (plus_hi1 hx hy h) (plus_low x y)) rfl
  · exact End.mk (eW_is (plus_hi0 hx hy h) (plus_low x y)) rfl
theorem dless_ret (x y : Int) : Ret Tryz.prog 152 [eW x, eW y] [] (eW (x - y)) [] := by
  refine ret_of_body atNone tok mixed Tryz.func152 (by kernel_rfl) rfl (k := 35) (rs := [.cell 4 144]) (by kernel_rfl) (by kernel_rfl) ?_
  (conv => whnf) <;> repeat' (first | ((first | refine wN ?_ | refine wNc ?_ | refine wA ?_ | refine wB ?_ | refine wC ?_ | refine wD ?_ | refine Called.mk _ _ (Sub_ret (mkN x) (mkN y)) ?_ | refine Called.mk _ _ (Sub_ret (mkN (x / B4)) (mkN (y / B4))) ?_ | refine Called.mk _ _ (From_ret 1 (by decide)) ?_ | refine Called.mk _ _ (Sub_ret (mkN ((mkN (x / B4)).v - (mkN (y / B4)).v)) (mkN 1)) ?_ | refine vA ?_ | refine vB ?_ | refine vC ?_ | refine vD ?_); conv => whnf) | ((first | apply Pick.dec | apply Pick.beq | apply Cond.dec | apply Cond.beq | apply Cond.nd | apply Pick.nd | apply Pick.mk | apply Cond.mk) <;> intro h <;> conv => whnf))
  · exact End.mk (eW_is (less_hi1 h) (less_low x y)) rfl
  · exact End.mk (eW_is (less_hi0 h) (less_low x y)) rfl
theorem dNeg_ret (a : D) : Ret Tryz.prog 153 [eD a] [] (.tup [eD (negOf a).1, .int .i64 (negOf a).2]) [] := by
  have hm := made_ret (!a.neg) a.n.v a.scale (WW_low a.n.h.1 a.n.h.2)
  rw [eW_low a.n.h.1 a.n.h.2, mkN_val, made_sg _ a.n.h.1, sg_not] at hm
  by_cases ha : a.ok
  · have hc := Check_ret a
    rw [check_ok ha] at hc
    rw [show negOf a = madeZ (- a.sv) a.scale from if_pos ha]
    refine ret_of_body atNone tok mixed Tryz.func153 (by kernel_rfl) rfl (k := 22) (rs := [.cell 2 26, .tmp 3]) (by kernel_rfl) (by kernel_rfl) ?_
    (conv => whnf) <;> repeat' (first | ((first | refine wN ?_ | refine wNc ?_ | refine wA ?_ | refine wB ?_ | refine wC ?_ | refine wD ?_ | refine Called.mk _ _ (hc) ?_ | refine Called.mk _ _ (hm) ?_ | refine vA ?_ | refine vB ?_ | refine vC ?_ | refine vD ?_); conv => whnf) | ((first | apply Pick.dec | apply Pick.beq | apply Cond.dec | apply Cond.beq | apply Cond.nd | apply Pick.nd | apply Pick.mk | apply Cond.mk) <;> intro h <;> conv => whnf))
    exact End.mk rfl rfl
  · have hc := Check_ret a
    rw [check_bad ha] at hc
    rw [show negOf a = (D0, 20) from if_neg ha]
    refine ret_of_body atNone tok mixed Tryz.func153 (by kernel_rfl) rfl (k := 22) (rs := [.cell 2 26, .tmp 3]) (by kernel_rfl) (by kernel_rfl) ?_
    (conv => whnf) <;> repeat' (first | ((first | refine wN ?_ | refine wNc ?_ | refine wA ?_ | refine wB ?_ | refine wC ?_ | refine wD ?_ | refine Called.mk _ _ (hc) ?_ | refine vA ?_ | refine vB ?_ | refine vC ?_ | refine vD ?_); conv => whnf) | ((first | apply Pick.dec | apply Pick.beq | apply Cond.dec | apply Cond.beq | apply Cond.nd | apply Pick.nd | apply Pick.mk | apply Cond.mk) <;> intro h <;> conv => whnf))
    exact End.mk rfl rfl
end Go.Proofs.YtlbocjcponegcaaGreat

set_option linter.unusedVariables false
set_option linter.unusedSimpArgs false
set_option maxRecDepth 100000
namespace Go.Proofs.YtlbocjcponegcaaGreat
open Go.AM
end Go.Proofs.YtlbocjcponegcaaGreat

set_option linter.unusedVariables false
set_option linter.unusedSimpArgs false
set_option maxRecDepth 100000
namespace Go.Proofs.YtlbocjcponegcaaGreat
open Go.AM
theorem times18 (a : N) {p : Int} (h1 : p ≤ 18) : 0 ≤ a.v * tenP p ∧ a.v * tenP p ≤ (B4 - 1) * 1000000000000000000 := by
  have ha := a.h
  have hp := tenP_pos p
  have hq : tenP p ≤ 1000000000000000000 := by
    have h2 : (10 : Int) ^ p.toNat ≤ 10 ^ 18 := by
      have := Nat.pow_le_pow_right (n := 10) (by decide) (show p.toNat ≤ 18 by omega)
      exact_mod_cast this
    exact h2
  constructor
  · exact Int.mul_nonneg ha.1 (by omega)
  · exact Int.mul_le_mul (by have := ha.2; omega) hq (by omega) (by decide)
theorem dAdd_ret (a b : D) : Ret Tryz.prog 118 [eD a, eD b] [] (.tup [eD (addD a b).1, .int .i64 (addD a b).2]) [] := by
  have hch := checks_ret a b
  by_cases hk : a.ok ∧ b.ok
  · rw [show check2 a b = 0 from if_pos hk] at hch
    rw [show addD a b = madeZ (a.sv * tenP (max a.scale b.scale - a.scale) + b.sv * tenP (max a.scale b.scale - b.scale)) (max a.scale b.scale) from if_pos hk]
    obtain ⟨⟨ha1, ha2, ha3⟩, ⟨hb1, hb2, hb3⟩⟩ := id hk
    have ea : IntKind.i64.wrap (max a.scale b.scale - a.scale) = max a.scale b.scale - a.scale := wi64_id (by omega) (by omega)
    have eb : IntKind.i64.wrap (max a.scale b.scale - b.scale) = max a.scale b.scale - b.scale := wi64_id (by omega) (by omega)
    have tA := times_ret a.n (max a.scale b.scale - a.scale) (by omega) (by omega)
    have tB := times_ret b.n (max a.scale b.scale - b.scale) (by omega) (by omega)
    have xA := times18 a.n (p := max a.scale b.scale - a.scale) (by omega)
    have xB := times18 b.n (p := max a.scale b.scale - b.scale) (by omega)
    rw [sv_sg, sv_sg, sgd_mul, sgd_mul]
    generalize a.n.v * tenP (max a.scale b.scale - a.scale) = X at *
    generalize b.n.v * tenP (max a.scale b.scale - b.scale) = Y at *
    have wX : WW X := ⟨xA.1, by unfold B8; unfold B4 at xA; omega⟩
    have wY : WW Y := ⟨xB.1, by unfold B8; unfold B4 at xB; omega⟩
    have wS : WW (X + Y) := ⟨by omega, by unfold B8; unfold B4 at xA xB; omega⟩
    have m1 := made_ret a.neg (X + Y) (max a.scale b.scale) wS
    refine ret_of_body atCalls tok mixed Tryz.func118 (by kernel_rfl) rfl (k := 75) (rs := [.cell 4 26, .tmp 5]) (by kernel_rfl) (by kernel_rfl) ?_
    (conv => whnf) <;> repeat' (first | (rw [pick_max]; conv => whnf) | (rw [ea]; conv => whnf) | (rw [eb]; conv => whnf) | ((first | refine wN ?_ | refine wNc ?_ | refine wA ?_ | refine wB ?_ | refine wC ?_ | refine wD ?_ | refine Called.mk _ _ (hch) ?_ | refine Called.mk _ _ (tA) ?_ | refine Called.mk _ _ (tB) ?_ | refine Called.mk _ _ (dplus_ret X Y wX wY) ?_ | refine Called.mk _ _ (compare_ret X Y wX wY) ?_ | refine Called.mk _ _ (dless_ret X Y) ?_ | refine Called.mk _ _ (dless_ret Y X) ?_ | refine Called.mk _ _ (m1) ?_ | refine vA ?_ | refine vB ?_ | refine vC ?_ | refine vD ?_); conv => whnf) | ((first | apply Pick.dec | apply Pick.beq | apply Cond.dec | apply Cond.beq | apply Cond.nd | apply Pick.nd | apply Pick.mk | apply Cond.mk) <;> intro h <;> conv => whnf))
    · rw [← h, sgd_add, ← made_sg _ (by omega)]; exact End.mk rfl rfl
    · rename_i hne
      have hXY : Y ≤ X := by unfold cmpZ at h; split at h <;> omega
      have wD : WW (X - Y) := ⟨by omega, by unfold WW at wX; omega⟩
      refine Called.mk _ _ (made_ret a.neg (X - Y) (max a.scale b.scale) wD) ?_
      (conv => whnf) <;> repeat' (first | ((first | refine wN ?_ | refine wNc ?_ | refine wA ?_ | refine wB ?_ | refine wC ?_ | refine wD ?_ | refine vA ?_ | refine vB ?_ | refine vC ?_ | refine vD ?_); conv => whnf) | ((first | apply Pick.dec | apply Pick.beq | apply Cond.dec | apply Cond.beq | apply Cond.nd | apply Pick.nd | apply Pick.mk | apply Cond.mk) <;> intro h <;> conv => whnf))
      have hb : b.neg = !a.neg := by cases ha : a.neg <;> cases hb : b.neg <;> simp_all
      have e : sgd a.neg X + sgd b.neg Y = sgd a.neg (X - Y) := by rw [hb]; unfold sgd; cases a.neg <;> simp <;> omega
      rw [e, ← made_sg _ (by omega)]; exact End.mk rfl rfl
    · rename_i hne
      have hXY : X ≤ Y := by unfold cmpZ at h; split at h <;> (try split at h) <;> omega
      have wD : WW (Y - X) := ⟨by omega, by unfold WW at wY; omega⟩
      refine Called.mk _ _ (made_ret b.neg (Y - X) (max a.scale b.scale) wD) ?_
      (conv => whnf) <;> repeat' (first | ((first | refine wN ?_ | refine wNc ?_ | refine wA ?_ | refine wB ?_ | refine wC ?_ | refine wD ?_ | refine vA ?_ | refine vB ?_ | refine vC ?_ | refine vD ?_); conv => whnf) | ((first | apply Pick.dec | apply Pick.beq | apply Cond.dec | apply Cond.beq | apply Cond.nd | apply Pick.nd | apply Pick.mk | apply Cond.mk) <;> intro h <;> conv => whnf))
      have hb : a.neg = !b.neg := by cases ha : a.neg <;> cases hb : b.neg <;> simp_all
      have e : sgd a.neg X + sgd b.neg Y = sgd b.neg (Y - X) := by rw [hb]; unfold sgd; cases b.neg <;> simp <;> omega
      rw [e, ← made_sg _ (by omega)]; exact End.mk rfl rfl
  · rw [show check2 a b = 20 from if_neg hk] at hch
    rw [show addD a b = (D0, 20) from if_neg hk]
    refine ret_of_body atCalls tok mixed Tryz.func118 (by kernel_rfl) rfl (k := 75) (rs := [.cell 4 26, .tmp 5]) (by kernel_rfl) (by kernel_rfl) ?_
    (conv => whnf) <;> repeat' (first | ((first | refine wN ?_ | refine wNc ?_ | refine wA ?_ | refine wB ?_ | refine wC ?_ | refine wD ?_ | refine Called.mk _ _ (hch) ?_ | refine vA ?_ | refine vB ?_ | refine vC ?_ | refine vD ?_); conv => whnf) | ((first | apply Pick.dec | apply Pick.beq | apply Cond.dec | apply Cond.beq | apply Cond.nd | apply Pick.nd | apply Pick.mk | apply Cond.mk) <;> intro h <;> conv => whnf))
    exact End.mk rfl rfl
end Go.Proofs.YtlbocjcponegcaaGreat

set_option linter.unusedVariables false
set_option linter.unusedSimpArgs false
set_option maxRecDepth 100000
namespace Go.Proofs.YtlbocjcponegcaaGreat
open Go.AM
end Go.Proofs.YtlbocjcponegcaaGreat

set_option linter.unusedVariables false
set_option linter.unusedSimpArgs false
set_option maxRecDepth 100000
namespace Go.Proofs.YtlbocjcponegcaaGreat
open Go.AM
theorem dSub_ret (a b : D) : Ret Tryz.prog 119 [eD a, eD b] [] (.tup [eD (subD a b).1, .int .i64 (subD a b).2]) [] := by
  have hch := checks_ret a b
  by_cases hk : a.ok ∧ b.ok
  · rw [show check2 a b = 0 from if_pos hk] at hch
    rw [subD_neg hk.1 hk.2]
    have hn := dNeg_ret b
    have hA := dAdd_ret a (negOf b).1
    refine ret_of_body atCalls tok mixed Tryz.func119 (by kernel_rfl) rfl (k := 25) (rs := [.cell 4 26, .tmp 5]) (by kernel_rfl) (by kernel_rfl) ?_
    (conv => whnf) <;> repeat' (first | ((first | refine wN ?_ | refine wNc ?_ | refine wA ?_ | refine wB ?_ | refine wC ?_ | refine wD ?_ | refine Called.mk _ _ (hch) ?_ | refine Called.mk _ _ (hn) ?_ | refine Called.mk _ _ (hA) ?_ | refine vA ?_ | refine vB ?_ | refine vC ?_ | refine vD ?_); conv => whnf) | ((first | apply Pick.dec | apply Pick.beq | apply Cond.dec | apply Cond.beq | apply Cond.nd | apply Pick.nd | apply Pick.mk | apply Cond.mk) <;> intro h <;> conv => whnf))
    exact End.mk rfl rfl
  · rw [show check2 a b = 20 from if_neg hk] at hch
    rw [show subD a b = (D0, 20) from if_neg hk]
    refine ret_of_body atCalls tok mixed Tryz.func119 (by kernel_rfl) rfl (k := 25) (rs := [.cell 4 26, .tmp 5]) (by kernel_rfl) (by kernel_rfl) ?_
    (conv => whnf) <;> repeat' (first | ((first | refine wN ?_ | refine wNc ?_ | refine wA ?_ | refine wB ?_ | refine wC ?_ | refine wD ?_ | refine Called.mk _ _ (hch) ?_ | refine vA ?_ | refine vB ?_ | refine vC ?_ | refine vD ?_); conv => whnf) | ((first | apply Pick.dec | apply Pick.beq | apply Cond.dec | apply Cond.beq | apply Cond.nd | apply Pick.nd | apply Pick.mk | apply Cond.mk) <;> intro h <;> conv => whnf))
    exact End.mk rfl rfl
end Go.Proofs.YtlbocjcponegcaaGreat

set_option linter.unusedVariables false
set_option linter.unusedSimpArgs false
set_option maxRecDepth 100000
namespace Go.Proofs.YtlbocjcponegcaaGreat
open Go.AM
end Go.Proofs.YtlbocjcponegcaaGreat

set_option linter.unusedVariables false
set_option linter.unusedSimpArgs false
set_option maxRecDepth 100000
namespace Go.Proofs.YtlbocjcponegcaaGreat
open Go.AM
end Go.Proofs.YtlbocjcponegcaaGreat

set_option linter.unusedVariables false
set_option linter.unusedSimpArgs false
set_option maxRecDepth 100000
namespace Go.Proofs.YtlbocjcponegcaaGreat
open Go.AM
end Go.Proofs.YtlbocjcponegcaaGreat

