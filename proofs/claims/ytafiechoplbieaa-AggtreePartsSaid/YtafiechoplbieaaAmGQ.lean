/- decimal: away, may, round; exciseref02: up, may, round. -/
import Derived.Test.YtafiechoplbieaaAmGP
import Derived.Test.YtafiechoplbieaaAmGU
set_option linter.unusedVariables false
set_option linter.unusedSimpArgs false
set_option maxRecDepth 100000
namespace Go.Proofs.Ytafiechoplbieaa
open Go.AM
end Go.Proofs.Ytafiechoplbieaa

set_option linter.unusedVariables false
set_option linter.unusedSimpArgs false
set_option maxRecDepth 100000
namespace Go.Proofs.Ytafiechoplbieaa
open Go.AM
end Go.Proofs.Ytafiechoplbieaa

set_option linter.unusedVariables false
set_option linter.unusedSimpArgs false
set_option maxRecDepth 100000
namespace Go.Proofs.Ytafiechoplbieaa
open Go.AM
end Go.Proofs.Ytafiechoplbieaa

set_option linter.unusedVariables false
set_option linter.unusedSimpArgs false
set_option maxRecDepth 100000
namespace Go.Proofs.Ytafiechoplbieaa
open Go.AM
theorem rCmpD_ret (a b : D) : Ret Try.prog 63 [eD a, eD b] [] (.int .i64 (cmpD a b)) [] := by
  have hch := both_ret a b
  by_cases hk : a.ok ∧ b.ok
  · rw [show check2 a b = 0 from if_pos hk] at hch
    rw [show cmpD a b = cmpZ a.val b.val from if_pos hk]
    obtain ⟨⟨ha1, ha2, ha3⟩, ⟨hb1, hb2, hb3⟩⟩ := id hk
    have ea : IntKind.i64.wrap (max a.scale b.scale - a.scale) = max a.scale b.scale - a.scale := wi64_id (by omega) (by omega)
    have eb : IntKind.i64.wrap (max a.scale b.scale - b.scale) = max a.scale b.scale - b.scale := wi64_id (by omega) (by omega)
    have hs := cmp_scale hk.1 hk.2 (s := max a.scale b.scale) (by omega) (by omega) (by omega)
    have hs2 := cmp_scale hk.2 hk.1 (s := max a.scale b.scale) (by omega) (by omega) (by omega)
    have vA := mag_nonneg a; have vB := mag_nonneg b
    have fin : ∀ {r : Int}, ((a.neg = true ∧ b.neg = false → r = -1) ∧ (a.neg = false ∧ b.neg = true → r = 1) ∧ (a.neg = true ∧ b.neg = true → r = cmpZ (b.n.v * tenP (18 - b.scale)) (a.n.v * tenP (18 - a.scale))) ∧
        (a.neg = false ∧ b.neg = false → r = cmpZ (a.n.v * tenP (18 - a.scale)) (b.n.v * tenP (18 - b.scale)))) → r = cmpZ a.val b.val := fun {r} h => by
      obtain ⟨h1, h2, h3, h4⟩ := h
      cases na : a.neg <;> cases nb : b.neg
      · rw [h4 ⟨na, nb⟩, val_pos na, val_pos nb]
      · have := mag_pos (d := b) (fun e => hb3 ⟨nb, e⟩)
        rw [h2 ⟨na, nb⟩, val_pos na, val_neg nb]; unfold cmpZ; rw [if_neg (by omega), if_pos (by omega)]
      · have := mag_pos (d := a) (fun e => ha3 ⟨na, e⟩)
        rw [h1 ⟨na, nb⟩, val_neg na, val_pos nb]; unfold cmpZ; rw [if_pos (by omega)]
      · rw [h3 ⟨na, nb⟩, val_neg na, val_neg nb, cmpZ_neg]
    refine ret_of_body atCalls tok mixed Try.func63 (by kernel_rfl) rfl (k := 56) (rs := [.tmp 4]) (by kernel_rfl) (by kernel_rfl) ?_
    (conv => whnf) <;> repeat' (first | (rw [pick_max]; conv => whnf) | (rw [ea]; conv => whnf) | (rw [eb]; conv => whnf) | ((first | refine wN ?_ | refine wNc ?_ | refine wA ?_ | refine wB ?_ | refine wC ?_ | refine wD ?_ | refine Called.mk _ _ (hch) ?_ | refine Called.mk _ _ (rshift_ret a.n (max a.scale b.scale - a.scale) (by omega) (by omega)) ?_ | refine Called.mk _ _ (rshift_ret b.n (max a.scale b.scale - b.scale) (by omega) (by omega)) ?_ | refine Called.mk _ _ (rcmp_ret _ _ (WW_times a.n (by omega) (by omega)) (WW_times b.n (by omega) (by omega))) ?_ | refine Called.mk _ _ (rcmp_ret _ _ (WW_times b.n (by omega) (by omega)) (WW_times a.n (by omega) (by omega))) ?_ | refine vA ?_ | refine vB ?_ | refine vC ?_ | refine vD ?_ | refine uA ?_ | refine uB ?_ | refine uC ?_ | refine uD ?_); conv => whnf) | ((first | apply Pick.dec | apply Pick.beq | apply Cond.dec | apply Cond.beq | apply Cond.nd | apply Pick.nd | apply Pick.mk | apply Cond.mk) <;> intro h <;> conv => whnf))
    all_goals refine End.mk (int_eq ?_) rfl
    all_goals
      refine fin ⟨fun hh => ?_, fun hh => ?_, fun hh => ?_, fun hh => ?_⟩
    all_goals
      first
        | rfl
        | exact hs
        | exact hs2
        | (exfalso; clear fin hs hs2 hch vA vB ea eb hk ha3 hb3; simp_all; done)
  · rw [show check2 a b = 20 from if_neg hk] at hch
    rw [show cmpD a b = 0 from if_neg hk]
    refine ret_of_body atCalls tok mixed Try.func63 (by kernel_rfl) rfl (k := 56) (rs := [.tmp 4]) (by kernel_rfl) (by kernel_rfl) ?_
    (conv => whnf) <;> repeat' (first | ((first | refine wN ?_ | refine wNc ?_ | refine wA ?_ | refine wB ?_ | refine wC ?_ | refine wD ?_ | refine Called.mk _ _ (hch) ?_ | refine vA ?_ | refine vB ?_ | refine vC ?_ | refine vD ?_ | refine uA ?_ | refine uB ?_ | refine uC ?_ | refine uD ?_); conv => whnf) | ((first | apply Pick.dec | apply Pick.beq | apply Cond.dec | apply Cond.beq | apply Cond.nd | apply Pick.nd | apply Pick.mk | apply Cond.mk) <;> intro h <;> conv => whnf))
    exact End.mk rfl rfl
end Go.Proofs.Ytafiechoplbieaa

