/- types.Reads. -/
import Derived.Test.YtkglccolonpnlaaAmU1
set_option linter.unusedVariables false
set_option linter.unusedSimpArgs false
set_option maxRecDepth 100000
namespace Go.Proofs.Ytkglccolonpnlaa
open Go.AM
theorem readR_other {k o : Int} {n s : ByteArray} {v : Vl} {sc p : Int} {l : List Xp} (h2 : k ≠ 2) (h10 : k ≠ 10) (rl : List Re) : readR (.mk k o n s v sc p l) rl = rl := by
  have : ownR (.mk k o n s v sc p l) = [] := by simp [ownR, Xp.kind, Xp.name, Xp.sect, h2, h10]
  unfold readR; rw [this]; rfl
theorem readR_name {k o : Int} {n s : ByteArray} {v : Vl} {sc p : Int} {l : List Xp} (h2 : k = 2) (rl : List Re) : readR (.mk k o n s v sc p l) rl = insR rl (ByteArray.empty, n) := by
  have : ownR (.mk k o n s v sc p l) = [(ByteArray.empty, n)] := by simp [ownR, Xp.kind, Xp.name, Xp.sect, h2]
  unfold readR; rw [this]; rfl
theorem readR_agg {k o : Int} {n s : ByteArray} {v : Vl} {sc p : Int} {l : List Xp} (h10 : k = 10) (rl : List Re) : readR (.mk k o n s v sc p l) rl = insR rl (s, n) := by
  have : ownR (.mk k o n s v sc p l) = [(s, n)] := by simp [ownR, Xp.kind, Xp.name, Xp.sect, h10]
  unfold readR; rw [this]; rfl
theorem insR_in {rl : List Re} {r : Re} (h : r ∈ rl) : insR rl r = rl := if_pos h
theorem insR_out {rl : List Re} {r : Re} (h : r ∉ rl) : insR rl r = r :: rl := if_neg h
theorem not_nil {l : List Xp} {r : Re} {rl : List Re} : walkL readR l (r :: rl) ≠ [] := fun e => by
  have := (walkL_len' l (r :: rl)).1
  rw [e] at this; simp at this
theorem not_same {l : List Xp} {r : Re} {rl : List Re} : ¬ walkL readR l (r :: rl) = rl := fun e => by
  have := (walkL_len' l (r :: rl)).1
  rw [e, List.length_cons] at this; omega
theorem rdQ (x : Xp) : x.Wf → RdQ x := by
  refine Xp.ind (Q := fun x => x.Wf → RdQ x) ?_ x
  clear x
  intro x ih hx
  obtain ⟨k, o, n, s, v, sc, p, l⟩ := x
  have hlen : l.length ≤ maxLen := hx.one.len
  have hw' : ∀ y ∈ l, y.Wf := fun y hy => hx.arg hy
  have ih : ∀ y ∈ l, y.Wf → RdQ y := fun y hy => ih y hy
  intro rl
  rw [cntX_mk, walkF_mk, walkF_mk]
  refine ⟨fun hb he => ?_, fun hb he => ?_, fun hb h0 he => ?_, fun hb h0 he => ?_⟩
  · by_cases k2 : k = 2
    · rw [readR_name k2, insR_out (by simp)] at he; exact absurd he not_nil
    by_cases k10 : k = 10
    · rw [readR_agg k10, insR_out (by simp)] at he; exact absurd he not_nil
    · rw [readR_other k2 k10] at he
      exact rdN0_other k o n s v sc p l hlen hw' ih k2 k10 [] he rfl (by simp at hb ⊢; omega)
  · by_cases k2 : k = 2
    · rw [readR_name k2, insR_out (by simp)] at he ⊢
      exact (rdN1_name_new k o n s v sc p l hlen hw' ih k2 (by simp) _ rfl he (by simp at hb ⊢; omega)).raise
    by_cases k10 : k = 10
    · rw [readR_agg k10, insR_out (by simp)] at he ⊢
      exact (rdN1_agg_new k o n s v sc p l hlen hw' ih k10 (by simp) _ rfl he (by simp at hb ⊢; omega)).raise
    · rw [readR_other k2 k10] at he ⊢
      exact (rdN1_other k o n s v sc p l hlen hw' ih k2 k10 _ rfl he (by simp at hb ⊢; omega)).raise
  · by_cases k2 : k = 2
    · by_cases hr : (ByteArray.empty, n) ∈ rl
      · rw [readR_name k2, insR_in hr] at he
        exact rdC0_name_old k o n s v sc p l hlen hw' ih rl h0 k2 hr rl he rfl (by omega)
      · rw [readR_name k2, insR_out hr] at he; exact absurd he not_same
    by_cases k10 : k = 10
    · by_cases hr : (s, n) ∈ rl
      · rw [readR_agg k10, insR_in hr] at he
        exact rdC0_agg_old k o n s v sc p l hlen hw' ih rl h0 k10 hr rl he rfl (by omega)
      · rw [readR_agg k10, insR_out hr] at he; exact absurd he not_same
    · rw [readR_other k2 k10] at he
      exact rdC0_other k o n s v sc p l hlen hw' ih rl h0 k2 k10 rl he rfl (by omega)
  · by_cases k2 : k = 2
    · by_cases hr : (ByteArray.empty, n) ∈ rl
      · rw [readR_name k2, insR_in hr] at he ⊢
        exact (rdC1_name_old k o n s v sc p l hlen hw' ih rl h0 k2 hr _ rfl he (by omega)).raise
      · rw [readR_name k2, insR_out hr] at he ⊢
        exact (rdC1_name_new k o n s v sc p l hlen hw' ih rl h0 k2 hr _ rfl he (by omega)).raise
    by_cases k10 : k = 10
    · by_cases hr : (s, n) ∈ rl
      · rw [readR_agg k10, insR_in hr] at he ⊢
        exact (rdC1_agg_old k o n s v sc p l hlen hw' ih rl h0 k10 hr _ rfl he (by omega)).raise
      · rw [readR_agg k10, insR_out hr] at he ⊢
        exact (rdC1_agg_new k o n s v sc p l hlen hw' ih rl h0 k10 hr _ rfl he (by omega)).raise
    · rw [readR_other k2 k10] at he ⊢
      exact (rdC1_other k o n s v sc p l hlen hw' ih rl h0 k2 k10 _ rfl he (by omega)).raise
theorem lend_re {f : FuncId} {as' : List Val} {e : TypeId} {rl : List Re} {pr : Nat} (hr : Ret Try.prog f as' [] (.row 0 rl.length) [.row e 2 rl.length (gR rl) pr]) : Ret Try.prog f as' [] (eL 2 cRe rl.reverse) [] := by
  have h1 : Ret Try.prog f as' [] (.ext 2 rl.length (gR rl)) [] := hr.lend ⟨rfl, Nat.le_refl _, Nat.le_refl _⟩ rfl
  exact h1.leR (le_extL (extR rl))
set_option maxHeartbeats 4000000 in
theorem treads_ret (x : Xp) (hx : x.Wf) (hc : cntX x ≤ 1048576) : Ret Try.prog 16 [eE x] [] (eL 2 cRe (walkF readF x [])) [] := by
  have hQ := rdQ x hx []
  have hrev := walkF_rev x []
  rw [List.reverse_nil] at hrev
  rw [← hrev]
  by_cases he : walkF readR x [] = []
  · have h := hQ.1 (by simpa using hc) he
    rw [he]
    refine Ret.leR (v := .nils) ?_ le_nils
    clear hQ hrev he
    obtain ⟨k, o, n, s, v, sc, p, l⟩ := x
    rw [cE_mk] at h ⊢
    refine ret_of_body atCalls tok mixed Try.func16 (by kernel_rfl) rfl (k := 12) (rs := [.tmp 2]) (by kernel_rfl) (by kernel_rfl) ?_
    (conv => whnf) <;> repeat' (first | (refine CalledH.mk [3, 1, 4, 2] _ _ rfl (Nat.le_refl _) h ?_; conv => whnf) | ((first | refine wN ?_ | refine wA ?_ | refine wB ?_ | refine wC ?_ | refine wD ?_ | refine vA ?_ | refine vB ?_ | refine vC ?_ | refine vD ?_ | refine uA ?_ | refine uB ?_ | refine uC ?_ | refine uD ?_); conv => whnf) | ((first | refine Pick.dec (fun h => ?_) (fun h => ?_) | refine Pick.beq (fun h => ?_) (fun h => ?_) | refine Cond.dec (fun h => ?_) (fun h => ?_) | refine Cond.beq (fun h => ?_) (fun h => ?_) | refine Cond.nd (fun h => ?_) (fun h => ?_) | refine Pick.nd (fun h => ?_) (fun h => ?_) | refine Pick.mk (fun h => ?_) (fun h => ?_) | refine Cond.mk (fun h => ?_) (fun h => ?_)) <;> conv => whnf))
    exact End.mk rfl rfl
  · have h := hQ.2.1 (by simpa using hc) he
    refine lend_re (e := 53) (pr := (walkF readR x []).length) ?_
    generalize walkF readR x [] = rl at *
    clear hQ hrev
    obtain ⟨k, o, n, s, v, sc, p, l⟩ := x
    rw [cE_mk] at h ⊢
    refine ret_of_body atCalls tok mixed Try.func16 (by kernel_rfl) rfl (k := 12) (rs := [.tmp 2]) (by kernel_rfl) (by kernel_rfl) ?_
    (conv => whnf) <;> repeat' (first | (refine CalledH.mk [3, 1, 4, 2] _ _ rfl (by simp) h ?_; conv => whnf) | ((first | refine wN ?_ | refine wA ?_ | refine wB ?_ | refine wC ?_ | refine wD ?_ | refine vA ?_ | refine vB ?_ | refine vC ?_ | refine vD ?_ | refine uA ?_ | refine uB ?_ | refine uC ?_ | refine uD ?_); conv => whnf) | ((first | refine Pick.dec (fun h => ?_) (fun h => ?_) | refine Pick.beq (fun h => ?_) (fun h => ?_) | refine Cond.dec (fun h => ?_) (fun h => ?_) | refine Cond.beq (fun h => ?_) (fun h => ?_) | refine Cond.nd (fun h => ?_) (fun h => ?_) | refine Pick.nd (fun h => ?_) (fun h => ?_) | refine Pick.mk (fun h => ?_) (fun h => ?_) | refine Cond.mk (fun h => ?_) (fun h => ?_)) <;> conv => whnf))
    exact EndH.mk [5] rfl rfl rfl
end Go.Proofs.Ytkglccolonpnlaa

