/- decimal: Check, times, compare, made, OfInt, Sign; exciseref02: Check. -/
import Derived.Test.YtafiechoplbieaaAmGC
import Derived.Test.YtafiechoplbieaaAmGU
set_option linter.unusedVariables false
set_option linter.unusedSimpArgs false
set_option maxRecDepth 100000
namespace Go.Proofs.Ytafiechoplbieaa
open Go.AM
theorem Check_ret (d : D) : Ret Try.prog 84 [eD d] [] (.int .i64 (check d)) [] := by
  refine ret_of_body atNone tok mixed Try.func84 (by kernel_rfl) rfl (k := 21) (rs := [.tmp 2]) (by kernel_rfl) (by kernel_rfl) ?_
  (conv => whnf) <;> repeat' (first | (rw [eqN_zero]; conv => whnf) | ((first | refine wN ?_ | refine wNc ?_ | refine wA ?_ | refine wB ?_ | refine wC ?_ | refine wD ?_ | refine vA ?_ | refine vB ?_ | refine vC ?_ | refine vD ?_); conv => whnf) | ((first | apply Pick.dec | apply Pick.beq | apply Cond.dec | apply Cond.beq | apply Cond.nd | apply Pick.nd | apply Pick.mk | apply Cond.mk) <;> intro h <;> conv => whnf))
  all_goals
    refine End.mk (int_eq ?_) rfl
    first
      | (rw [check_ok ⟨by omega, by omega, fun hc => by simp_all⟩]; done)
      | (rw [check_bad (fun hc => by obtain ⟨h1, h2, h3⟩ := hc; first | omega | simp_all)]; done)
theorem rCheck_ret (d : D) : Ret Try.prog 86 [eD d] [] (.int .i64 (check d)) [] := by
  refine ret_of_body atNone tok mixed Try.func86 (by kernel_rfl) rfl (k := 21) (rs := [.tmp 2]) (by kernel_rfl) (by kernel_rfl) ?_
  (conv => whnf) <;> repeat' (first | (rw [eqN_zero]; conv => whnf) | ((first | refine wN ?_ | refine wNc ?_ | refine wA ?_ | refine wB ?_ | refine wC ?_ | refine wD ?_ | refine vA ?_ | refine vB ?_ | refine vC ?_ | refine vD ?_); conv => whnf) | ((first | apply Pick.dec | apply Pick.beq | apply Cond.dec | apply Cond.beq | apply Cond.nd | apply Pick.nd | apply Pick.mk | apply Cond.mk) <;> intro h <;> conv => whnf))
  all_goals
    refine End.mk (int_eq ?_) rfl
    first
      | (rw [check_ok ⟨by omega, by omega, fun hc => by simp_all⟩]; done)
      | (rw [check_bad (fun hc => by obtain ⟨h1, h2, h3⟩ := hc; first | omega | simp_all)]; done)
theorem Sign_ret (d : D) : Ret Try.prog 76 [eD d] [] (.int .i64 (if d.n = N0 then 0 else if d.neg then -1 else 1)) [] := by
  refine ret_of_body atNone tok mixed Try.func76 (by kernel_rfl) rfl (k := 11) (rs := [.tmp 2]) (by kernel_rfl) (by kernel_rfl) ?_
  (conv => whnf) <;> repeat' (first | (rw [eqN_zero]; conv => whnf) | ((first | refine wN ?_ | refine wNc ?_ | refine wA ?_ | refine wB ?_ | refine wC ?_ | refine wD ?_ | refine vA ?_ | refine vB ?_ | refine vC ?_ | refine vD ?_); conv => whnf) | ((first | apply Pick.dec | apply Pick.beq | apply Cond.dec | apply Cond.beq | apply Cond.nd | apply Pick.nd | apply Pick.mk | apply Cond.mk) <;> intro h <;> conv => whnf))
  all_goals
    refine End.mk (int_eq ?_) rfl
    simp_all
theorem times_ret (a : N) (p : Int) (h0 : 0 ≤ p) (h1 : p ≤ 77) : Ret Try.prog 78 [eN a, .int .i64 p] [] (eW (a.v * tenP p)) [] := by
  have e : (mkN (10 ^ p.toNat)).v = tenP p := mkN_v (ten_W h1)
  have hm := MulN a (mkN (10 ^ p.toNat))
  rw [e] at hm
  refine ret_of_body atNone tok mixed Try.func78 (by kernel_rfl) rfl (k := 23) (rs := [.cell 4 128]) (by kernel_rfl) (by kernel_rfl) ?_
  (conv => whnf) <;> repeat' (first | ((first | refine wN ?_ | refine wNc ?_ | refine wA ?_ | refine wB ?_ | refine wC ?_ | refine wD ?_ | refine Called.mk _ _ (Ten_ret p h0 h1) ?_ | refine Called.mk _ _ (hm) ?_ | refine vA ?_ | refine vB ?_ | refine vC ?_ | refine vD ?_); conv => whnf) | ((first | apply Pick.dec | apply Pick.beq | apply Cond.dec | apply Cond.beq | apply Cond.nd | apply Pick.nd | apply Pick.mk | apply Cond.mk) <;> intro h <;> conv => whnf))
  exact End.mk rfl rfl
theorem compare_ret (x y : Int) (hx : WW x) (hy : WW y) : Ret Try.prog 77 [eW x, eW y] [] (.int .i64 (cmpZ x y)) [] := by
  have h1 := WW_hi hx; have h2 := WW_hi hy
  have h3 := mkN_lo x; have h4 := mkN_lo y
  refine ret_of_body atNone tok mixed Try.func77 (by kernel_rfl) rfl (k := 19) (rs := [.tmp 4]) (by kernel_rfl) (by kernel_rfl) ?_
  (conv => whnf) <;> repeat' (first | ((first | refine wN ?_ | refine wNc ?_ | refine wA ?_ | refine wB ?_ | refine wC ?_ | refine wD ?_ | refine Called.mk _ _ (Cmp_ret (mkN (x / B4)) (mkN (y / B4))) ?_ | refine Called.mk _ _ (Cmp_ret (mkN x) (mkN y)) ?_ | refine vA ?_ | refine vB ?_ | refine vC ?_ | refine vD ?_); conv => whnf) | ((first | apply Pick.dec | apply Pick.beq | apply Cond.dec | apply Cond.beq | apply Cond.nd | apply Pick.nd | apply Pick.mk | apply Cond.mk) <;> intro h <;> conv => whnf))
  all_goals
    refine End.mk (int_eq ?_) rfl
    rw [h1, h2] at h
    unfold WW at *
    unfold cmpI at *
    unfold cmpZ
    unfold B8 B4 at *
    repeat' split at h
    all_goals
      first
        | (exfalso; omega)
        | (repeat' split) <;> omega
theorem checks_ret (a b : D) : Ret Try.prog 75 [sl2D a b] [] (.int .i64 (check2 a b)) [] := by
  by_cases ha : a.ok
  · by_cases hb : b.ok
    · have h1 := check_ok ha; have h2 := check_ok hb
      have e : check2 a b = 0 := if_pos ⟨ha, hb⟩
      rw [e]
      have hA := Check_ret a; have hB := Check_ret b
      rw [h1] at hA; rw [h2] at hB
      refine ret_of_body atNone tok mixed Try.func75 (by kernel_rfl) rfl (k := 18) (rs := [.tmp 2]) (by kernel_rfl) (by kernel_rfl) ?_
      (conv => whnf) <;> repeat' (first | (intro I hw hs; apply hs; conv => whnf) | (apply hs; conv => whnf) | ((first | refine wN ?_ | refine wNc ?_ | refine wA ?_ | refine wB ?_ | refine wC ?_ | refine wD ?_ | refine Called.mk _ _ (hA) ?_ | refine Called.mk _ _ (hB) ?_ | refine vA ?_ | refine vB ?_ | refine vC ?_ | refine vD ?_); conv => whnf) | ((first | apply Pick.dec | apply Pick.beq | apply Cond.dec | apply Cond.beq | apply Cond.nd | apply Pick.nd | apply Pick.mk | apply Cond.mk) <;> intro h <;> conv => whnf))
      exact End.mk rfl rfl
    · have h1 := check_ok ha; have h2 := check_bad hb
      have e : check2 a b = 20 := if_neg (fun h => hb h.2)
      rw [e]
      have hA := Check_ret a; have hB := Check_ret b
      rw [h1] at hA; rw [h2] at hB
      refine ret_of_body atNone tok mixed Try.func75 (by kernel_rfl) rfl (k := 18) (rs := [.tmp 2]) (by kernel_rfl) (by kernel_rfl) ?_
      (conv => whnf) <;> repeat' (first | (intro I hw hs; apply hs; conv => whnf) | (apply hs; conv => whnf) | ((first | refine wN ?_ | refine wNc ?_ | refine wA ?_ | refine wB ?_ | refine wC ?_ | refine wD ?_ | refine Called.mk _ _ (hA) ?_ | refine Called.mk _ _ (hB) ?_ | refine vA ?_ | refine vB ?_ | refine vC ?_ | refine vD ?_); conv => whnf) | ((first | apply Pick.dec | apply Pick.beq | apply Cond.dec | apply Cond.beq | apply Cond.nd | apply Pick.nd | apply Pick.mk | apply Cond.mk) <;> intro h <;> conv => whnf))
      exact End.mk rfl rfl
  · have h1 := check_bad ha
    have e : check2 a b = 20 := if_neg (fun h => ha h.1)
    rw [e]
    have hA := Check_ret a
    rw [h1] at hA
    refine ret_of_body atNone tok mixed Try.func75 (by kernel_rfl) rfl (k := 18) (rs := [.tmp 2]) (by kernel_rfl) (by kernel_rfl) ?_
    (conv => whnf) <;> repeat' (first | (intro I hw hs; apply hs; conv => whnf) | (apply hs; conv => whnf) | ((first | refine wN ?_ | refine wNc ?_ | refine wA ?_ | refine wB ?_ | refine wC ?_ | refine wD ?_ | refine Called.mk _ _ (hA) ?_ | refine vA ?_ | refine vB ?_ | refine vC ?_ | refine vD ?_); conv => whnf) | ((first | apply Pick.dec | apply Pick.beq | apply Cond.dec | apply Cond.beq | apply Cond.nd | apply Pick.nd | apply Pick.mk | apply Cond.mk) <;> intro h <;> conv => whnf))
    exact End.mk rfl rfl
set_option maxHeartbeats 4000000 in
theorem DCmp_ret (a b : D) : Ret Try.prog 61 [eD a, eD b] [] (.int .i64 (cmpD a b)) [] := by
  by_cases hk : a.ok ∧ b.ok
  · have hc : check2 a b = 0 := if_pos hk
    have hch := checks_ret a b
    rw [hc] at hch
    have e : cmpD a b = cmpZ a.val b.val := if_pos hk
    rw [e]
    obtain ⟨⟨ha1, ha2, ha3⟩, ⟨hb1, hb2, hb3⟩⟩ := id hk
    have ea : IntKind.i64.wrap (max a.scale b.scale - a.scale) = max a.scale b.scale - a.scale := wi64_id (by omega) (by omega)
    have eb : IntKind.i64.wrap (max a.scale b.scale - b.scale) = max a.scale b.scale - b.scale := wi64_id (by omega) (by omega)
    have hs := cmp_scale hk.1 hk.2 (s := max a.scale b.scale) (by omega) (by omega) (by omega)
    have zA : a.n = N0 → a.n.v * tenP (18 - a.scale) = 0 := fun h => by rw [h]; exact Int.zero_mul _
    have zB : b.n = N0 → b.n.v * tenP (18 - b.scale) = 0 := fun h => by rw [h]; exact Int.zero_mul _
    have ce := cmp_end (za := a.n = N0) (zb := b.n = N0) (sa := a.neg) (sb := b.neg) zA (fun h => mag_pos h) zB (fun h => mag_pos h)
    have vA : a.val = if a.neg then -(a.n.v * tenP (18 - a.scale)) else a.n.v * tenP (18 - a.scale) := by
      cases e : a.neg
      · exact val_pos e
      · exact val_neg e
    have vB : b.val = if b.neg then -(b.n.v * tenP (18 - b.scale)) else b.n.v * tenP (18 - b.scale) := by
      cases e : b.neg
      · exact val_pos e
      · exact val_neg e
    refine ret_of_body atCalls tok mixed Try.func61 (by kernel_rfl) rfl (k := 56) (rs := [.tmp 4]) (by kernel_rfl) (by kernel_rfl) ?_
    (conv => whnf) <;> repeat' (first | (rw [eqD_]; conv => whnf) | (rw [pick_max, pick_max, pick_min]; conv => whnf) | (rw [pick_max]; conv => whnf) | (rw [ea]; conv => whnf) | (rw [eb]; conv => whnf) | ((first | refine wN ?_ | refine wNc ?_ | refine wA ?_ | refine wB ?_ | refine wC ?_ | refine wD ?_ | refine Called.mk _ _ (hch) ?_ | refine Called.mk _ _ (Sign_ret a) ?_ | refine Called.mk _ _ (Sign_ret b) ?_ | refine Called.mk _ _ (times_ret a.n (max a.scale b.scale - a.scale) (by omega) (by omega)) ?_ | refine Called.mk _ _ (times_ret b.n (max a.scale b.scale - b.scale) (by omega) (by omega)) ?_ | refine Called.mk _ _ (compare_ret _ _ (WW_times a.n (by omega) (by omega)) (WW_times b.n (by omega) (by omega))) ?_ | refine vA ?_ | refine vB ?_ | refine vC ?_ | refine vD ?_); conv => whnf) | ((first | apply Pick.dec | apply Pick.beq | apply Cond.dec | apply Cond.beq | apply Cond.nd | apply Pick.nd | apply Pick.mk | apply Cond.mk) <;> intro h <;> conv => whnf))
    all_goals refine End.mk (int_eq ?_) rfl
    · subst h; unfold cmpZ; rw [if_neg (by omega), if_neg (by omega)]
    · rw [vA, vB]; exact ce.1 h
    · rw [vA, vB]; exact ce.2.1 (by assumption) h
    · rw [hs, vA, vB]; exact ce.2.2 (by assumption) h
  · have hc : check2 a b = 20 := if_neg hk
    have hch := checks_ret a b
    rw [hc] at hch
    have e : cmpD a b = 0 := if_neg hk
    rw [e]
    refine ret_of_body atCalls tok mixed Try.func61 (by kernel_rfl) rfl (k := 56) (rs := [.tmp 4]) (by kernel_rfl) (by kernel_rfl) ?_
    (conv => whnf) <;> repeat' (first | ((first | refine wN ?_ | refine wNc ?_ | refine wA ?_ | refine wB ?_ | refine wC ?_ | refine wD ?_ | refine Called.mk _ _ (hch) ?_ | refine vA ?_ | refine vB ?_ | refine vC ?_ | refine vD ?_); conv => whnf) | ((first | apply Pick.dec | apply Pick.beq | apply Cond.dec | apply Cond.beq | apply Cond.nd | apply Pick.nd | apply Pick.mk | apply Cond.mk) <;> intro h <;> conv => whnf))
    exact End.mk rfl rfl
end Go.Proofs.Ytafiechoplbieaa

