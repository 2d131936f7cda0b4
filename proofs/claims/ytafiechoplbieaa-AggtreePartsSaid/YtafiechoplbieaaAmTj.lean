/- aggtree: part, Query, Sum. -/
import Derived.Test.YtafiechoplbieaaAmTi
set_option linter.unusedVariables false
set_option linter.unusedSimpArgs false
set_option maxRecDepth 100000
namespace Go.Proofs.Ytafiechoplbieaa
open Go.AM
section
variable {t mb : Nat} {x : Tst}
set_option maxHeartbeats 4000000 in
theorem part_s (c : Nat) (hc : c < x.sc.length) : ∀ (T : Tr) (up : Option Nat), TreeOn x.nd T up → Says x T → (∀ p ∈ T.ps, x.dom p) → T.ps.length ≤ 1024 → PartC Try.prog 37 t mb x c T := by
  intro T
  induction T with
  | nil =>
    intro up hT hS hd hl N M a b a0 a1 b0 b1 h
    have e : partS Tr.nil.ps a b = [] := partS_none (by simp [Tr.ps]; omega)
    rw [e, cumS_nil]
    have hp : pickM true a 0 ≥ pickM false b 0 := by rw [pick_max, pick_min]; omega
    refine RetS.of_body tok mixed Try.func37 (by kernel_rfl) rfl (k := 99) (rs := [.cell 10 42]) (by kernel_rfl) (by kernel_rfl) ?_; intro hN
    have hlt := h.lt hN
    (conv => whnf) <;> repeat' (first | ((first | refine gA ?_ | refine wN ?_ | refine nA ?_ | refine fA ?_ | refine fB ?_ | refine wC ?_ | refine wD ?_ | refine CalledS.det (CalledF.mk _ _ _ _ (many_nil _ _) ?_) | refine CalledF.mk _ _ _ _ (many_nil _ _) ?_ | refine fdA ?_ | refine fdB ?_ | refine vC ?_ | refine vD ?_ | refine feA ?_ | refine feB ?_ | refine uC ?_ | refine uD ?_); conv => whnf) | ((first | refine Pick.dec (fun h => ?_) (fun h => ?_) | refine Pick.beq (fun h => ?_) (fun h => ?_) | refine CondF.dec (fun h => ?_) (fun h => ?_) | refine CondF.beq (fun h => ?_) (fun h => ?_) | refine CondF.nb (fun h => ?_) (fun h => ?_) | refine CondF.nd (fun h => ?_) (fun h => ?_) | refine Pick.nd (fun h => ?_) (fun h => ?_) | refine Pick.mk (fun h => ?_) (fun h => ?_) | refine CondF.mk (fun h => ?_) (fun h => ?_)) <;> conv => whnf))
    exact .mk (N + 1) M ⟨rfl, h, .refl _ _ _ _⟩ ((((Less.refl M).drop _ (hN N (Nat.le_refl _)))).drop _ (hN N (Nat.le_refl _))) (by omega) (Nat.le_refl _)
  | node l p r ihl ihr =>
    intro up hT hS hd hl N M a b a0 a1 b0 b1 h
    have hlen : (Tr.node l p r).ps.length = l.ps.length + r.ps.length + 1 := by simp [Tr.ps]; omega
    have il := ihl _ hT.2.2.2.1 hS.1 (fun q hq => hd q (by simp [Tr.ps, hq])) (by omega)
    have ir := ihr _ hT.2.2.2.2 hS.2.1 (fun q hq => hd q (by simp [Tr.ps, hq])) (by omega)
    by_cases c1 : max a 0 ≥ min b ((Tr.node l p r).ps.length : Int)
    · exact part_0 c hc l p r up hT hS hd hl il ir N M a b a0 a1 b0 b1 h c1
    · by_cases ca : max a 0 = 0
      · by_cases cb : min b ((Tr.node l p r).ps.length : Int) = ((Tr.node l p r).ps.length : Int)
        · exact part_1 c hc l p r up hT hS hd hl il ir N M a b a0 a1 b0 b1 h ⟨c1, ca, cb⟩
        · by_cases c5 : (l.ps.length : Int) < min b ((Tr.node l p r).ps.length : Int)
          · exact part_2 c hc l p r up hT hS hd hl il ir N M a b a0 a1 b0 b1 h ⟨c1, ca, cb, by omega, c5⟩
          · exact part_3 c hc l p r up hT hS hd hl il ir N M a b a0 a1 b0 b1 h ⟨c1, ca, cb, by omega, c5⟩
      · by_cases c4 : max a 0 ≤ (l.ps.length : Int)
        · by_cases c5 : (l.ps.length : Int) < min b ((Tr.node l p r).ps.length : Int)
          · exact part_4 c hc l p r up hT hS hd hl il ir N M a b a0 a1 b0 b1 h ⟨c1, ca, c4, c5⟩
          · exact part_5 c hc l p r up hT hS hd hl il ir N M a b a0 a1 b0 b1 h ⟨c1, ca, c4, c5⟩
        · exact part_6 c hc l p r up hT hS hd hl il ir N M a b a0 a1 b0 b1 h ⟨c1, ca, c4, by omega⟩
end
end Go.Proofs.Ytafiechoplbieaa

