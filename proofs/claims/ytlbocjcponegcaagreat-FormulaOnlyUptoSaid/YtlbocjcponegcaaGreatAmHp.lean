/- exciselaw17.live. -/
import Derived.Test.YtlbocjcponegcaaGreatAmHo
import Derived.Test.YtlbocjcponegcaaGreatAmQ0
import Derived.Test.YtlbocjcponegcaaGreatAmCk
set_option linter.unusedVariables false
set_option linter.unusedSimpArgs false
set_option maxRecDepth 100000
namespace Go.Proofs.YtlbocjcponegcaaGreat
open Go.AM
def xlA : Xp := .mk 2 0 ⟨#[97]⟩ ⟨#[]⟩ Vl0 0 0 []
def vlN (n sc : Int) : Vl := ⟨1, ⟨false, mkN n, sc⟩, false, ⟨#[]⟩, 0⟩
def xlC (v : Vl) : Xp := .mk 1 0 ⟨#[]⟩ ⟨#[]⟩ v 0 0 []
def xl : Xp := .mk 6 0 ⟨#[]⟩ ⟨#[]⟩ Vl0 0 0 [.mk 9 0 ⟨#[]⟩ ⟨#[]⟩ Vl0 0 0 [xlA], xlC (vlN 0 0), .mk 5 3 ⟨#[]⟩ ⟨#[]⟩ Vl0 0 0 [xlA, xlC (vlN 25 2)]]
theorem xl_set : walkF nameS xl [] = [(⟨#[97]⟩, ())] := by
  simp [xl, xlA, xlC, walkF_mk, walkL_cons, walkL_nil, nameS, aput, Xp.kind, Xp.name]
theorem i64_of {n : Int} (h : -9223372036854775808 ≤ n ∧ n ≤ 9223372036854775807) : I64 n := h
theorem wf_mk {k o : Int} {n s : ByteArray} {v : Vl} {ar : List Xp} (h1 : -9223372036854775808 ≤ k ∧ k ≤ 9223372036854775807) (h2 : -9223372036854775808 ≤ o ∧ o ≤ 9223372036854775807) (h3 : n.size ≤ maxLen) (h4 : s.size ≤ maxLen) (h5 : v.wf) (h8 : ar.length ≤ maxLen) (h : ∀ y ∈ ar, Xp.Wf y) : (Xp.mk k o n s v 0 0 ar).Wf :=
  .mk _ ⟨h1, h2, h3, h4, h5, i64_of (show -9223372036854775808 ≤ (0 : Int) ∧ (0 : Int) ≤ 9223372036854775807 by decide), i64_of (show -9223372036854775808 ≤ (0 : Int) ∧ (0 : Int) ≤ 9223372036854775807 by decide), h8⟩ h
theorem xl_wf : xl.Wf := by
  have v0 : Vl0.wf := ⟨i64_of (by decide), i64_of (by decide), by decide, i64_of (by decide)⟩
  have hC : ∀ n sc : Int, I64 sc → (xlC (vlN n sc)).Wf := fun n sc hs => wf_mk (by decide) (by decide) (by decide) (by decide) ⟨i64_of (show -9223372036854775808 ≤ (1 : Int) ∧ (1 : Int) ≤ 9223372036854775807 by decide), hs, (show (ByteArray.mk #[]).size ≤ maxLen by decide), i64_of (show -9223372036854775808 ≤ (0 : Int) ∧ (0 : Int) ≤ 9223372036854775807 by decide)⟩ (by decide) (fun y hy => by cases hy)
  have hA : xlA.Wf := wf_mk (by decide) (by decide) (by decide) (by decide) v0 (by decide) (fun y hy => by cases hy)
  refine wf_mk (by decide) (by decide) (by decide) (by decide) v0 (by decide) fun y hy => ?_
  simp only [List.mem_cons, List.not_mem_nil, or_false] at hy
  rcases hy with rfl | rfl | rfl
  · exact wf_mk (by decide) (by decide) (by decide) (by decide) v0 (by decide) (fun y hy => by simp only [List.mem_cons, List.not_mem_nil, or_false] at hy; subst hy; exact hA)
  · exact hC 0 0 (i64_of (by decide))
  · exact wf_mk (by decide) (by decide) (by decide) (by decide) v0 (by decide) (fun y hy => by
      simp only [List.mem_cons, List.not_mem_nil, or_false] at hy
      rcases hy with rfl | rfl
      · exact hA
      · exact hC 25 2 (i64_of (by decide)))
theorem names_live : Ret Tryz.prog 22 [eE xl] [] (eL 1 cB [[97]]) [] := by
  have h := fnames_ret xl xl_wf (by rw [xl_set]; intro p hp; simp only [List.mem_singleton] at hp; subst hp; decide) (by rw [xl_set]; decide)
  rw [xl_set] at h
  have e : textsS [(⟨#[97]⟩, ())] = [[97]] := by simp [textsS]
  rwa [e] at h
noncomputable section
def nmC : Ck := ⟨22, [eE xl], eL 1 cB [[97]], []⟩
end
end Go.Proofs.YtlbocjcponegcaaGreat

set_option linter.unusedVariables false
set_option linter.unusedSimpArgs false
set_option maxRecDepth 100000
namespace Go.Proofs.YtlbocjcponegcaaGreat
open Go.AM
noncomputable section
theorem live17 : Ret Tryz.prog 11 [] [] (.bool true) [] :=
  ck_of (R := atCalls) tok mixed (knownC_ok (ks := knowB) (cs := [nmC]) knowB_ok ⟨names_live, trivial⟩) (fuel := 1000) (d := 40) (by kernel_rfl) (by kernel_rfl)
end
end Go.Proofs.YtlbocjcponegcaaGreat

