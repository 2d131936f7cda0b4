/- formula.Cols, formula.Nodes, formula.Names, as the document has them. -/
import Derived.Test.YtlbocjcponegcaaGreatAmIx
import Derived.Test.YtlbocjcponegcaaGreatAmIw
import Derived.Test.YtlbocjcponegcaaGreatAmHn
import Derived.Test.YtlbocjcponegcaaGreatAmHr
set_option linter.unusedVariables false
set_option linter.unusedSimpArgs false
set_option maxRecDepth 100000
namespace Go.Proofs.YtlbocjcponegcaaGreat
open Go.AM
def cN (b : ByteArray) : List Val := [.str b]
theorem eL_map {α β : Type} {sz : Nat} {enc : α → List Val} (f : β → α) (l : List β) : eL sz enc (l.map f) = eL sz (fun x => enc (f x)) l := by
  unfold eL
  rw [List.length_map]
  congr 1
  funext i
  unfold getL
  rw [List.getElem?_map]
  cases l[i]? <;> rfl
theorem textsS_eq {es : List (ByteArray × Unit)} {out : List ByteArray} (h : SameN es out) : eL 1 cB (textsS es) = eL 1 cN out := by
  have hp : (keysG es).Perm out := (List.perm_ext_iff_of_nodup h.nd (ris_nodup linN h.ris)).2 h.mem
  have h1 : textsS es = out.map fun b => b.data.toList := by
    have e1 : (es.map fun p => p.1.data.toList) = (keysG es).map fun b => b.data.toList := by unfold keysG; rw [List.map_map]; rfl
    unfold textsS
    rw [e1, Go.mergeSort_of_perm (hp.map fun b => b.data.toList)]
    refine List.mergeSort_of_pairwise ?_
    refine List.pairwise_map.2 (h.ris.imp fun {a b} hab => ?_)
    rw [ltN_eq, decide_eq_true_eq] at hab
    exact decide_eq_true (List.le_of_lt hab)
  rw [h1, eL_map]
  rfl
theorem fnames2_ret (x : Xp) (hx : x.Wf) (hc : cntX x ≤ 1048576) : Ret Tryz.prog 22 [eE x] [] (eL 1 cN (walkF nameR x [])) [] := by
  have h := sameN x hx
  rw [← textsS_eq h]
  refine fnames_ret x hx (fun p hp => ?_) ?_
  · exact h.fit _ ((h.mem _).1 (List.mem_map_of_mem (f := (·.1)) hp))
  · have := nameS_len x; omega
theorem keysC_ret (es : List (CK × Unit)) : Ret Tryz.prog 67 [.map 0] [setC es] (.fn 112 [] [.ptr 1 0]) [setC es, .cells [.map 0]] := by
  refine ret_of_body atCalls tok mixed Tryz.func67 (by kernel_rfl) rfl (k := 4) (rs := [.tmp 2]) (by kernel_rfl) (by kernel_rfl) ?_
  (conv => whnf) <;> repeat' (first | ((first | refine wN ?_ | refine wNc ?_ | refine wA ?_ | refine wB ?_ | refine wC ?_ | refine wD ?_ | refine vA ?_ | refine vB ?_ | refine vC ?_ | refine vD ?_ | refine uA ?_ | refine uB ?_ | refine uC ?_ | refine uD ?_); conv => whnf) | ((first | apply Pick.dec | apply Pick.beq | apply Cond.dec | apply Cond.beq | apply Cond.nd | apply Pick.nd | apply Pick.mk | apply Cond.mk) <;> intro h <;> conv => whnf))
  exact EndH.mk [0, 1] rfl rfl rfl
theorem srtC_eq {es : List (CK × Unit)} {out : List CK} (h : SameC es out) : srtC (keysC es) = out :=
  ris_ext linK (srtC_ris h.nd) h.ris fun x => by rw [srtC_mem]; exact h.mem x
set_option maxHeartbeats 4000000 in
theorem fcols_ret (x : Xp) (hx : x.Wf) (hc : cntX x ≤ 1048576) : Ret Tryz.prog 25 [eE x] [] (eL 2 cK (walkF colR x [])) [] := by
  have hs := sameC x hx
  have h := ncolwalk_ret x hx []
  have hl := colS_len x
  generalize walkF colS x [] = es at *
  generalize walkF colR x [] = out at *
  have h1 := keysC_ret es
  have h2 := sortedC_ret es hs.nd (fun k hk => hs.fit k ((hs.mem k).1 hk)) (by omega)
  rw [srtC_eq hs] at h2
  obtain ⟨k, o, n, s, v, sc, p, l⟩ := x
  rw [cE_mk] at h ⊢
  refine ret_of_body atCalls tok mixed Tryz.func25 (by kernel_rfl) rfl (k := 11) (rs := [.tmp 2]) (by kernel_rfl) (by kernel_rfl) ?_
  (conv => whnf) <;> repeat' (first | (refine CalledH.mk [2, 1] _ _ rfl (Nat.le_refl _) h ?_; conv => whnf) | (refine CalledH.mk [1] _ _ rfl (by simp) h1 ?_; conv => whnf) | (refine CalledH.mk [3, 1] _ _ rfl (Nat.le_refl _) h2 ?_; conv => whnf) | ((first | refine wN ?_ | refine wNc ?_ | refine wA ?_ | refine wB ?_ | refine wC ?_ | refine wD ?_ | refine vA ?_ | refine vB ?_ | refine vC ?_ | refine vD ?_ | refine uA ?_ | refine uB ?_ | refine uC ?_ | refine uD ?_); conv => whnf) | ((first | apply Pick.dec | apply Pick.beq | apply Cond.dec | apply Cond.beq | apply Cond.nd | apply Pick.nd | apply Pick.mk | apply Cond.mk) <;> intro h <;> conv => whnf))
  exact End.mk rfl rfl
end Go.Proofs.YtlbocjcponegcaaGreat

set_option linter.unusedVariables false
set_option linter.unusedSimpArgs false
set_option maxRecDepth 100000
namespace Go.Proofs.YtlbocjcponegcaaGreat
open Go.AM
end Go.Proofs.YtlbocjcponegcaaGreat

set_option linter.unusedVariables false
set_option linter.unusedSimpArgs false
set_option maxRecDepth 100000
namespace Go.Proofs.YtlbocjcponegcaaGreat
open Go.AM
end Go.Proofs.YtlbocjcponegcaaGreat

