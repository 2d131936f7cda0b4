/- TypesReads, as a contract. -/
import Derived.Test.YtkglccolonpnlaaAmU3
import Derived.Test.YtkglccolonpnlaaAmT3
set_option linter.unusedVariables false
set_option linter.unusedSimpArgs false
set_option maxRecDepth 100000
namespace Go.Proofs.Ytkglccolonpnlaa
open Go.AM
theorem rreads_ret (x : Xp) : x.Wf → cntX x ≤ 1048576 → Ret Try.prog 24 [eE x] [] (eL 2 cRe (walkF readF x [])) [] := by
  refine Xp.ind (Q := fun x => x.Wf → cntX x ≤ 1048576 → Ret Try.prog 24 [eE x] [] (eL 2 cRe (walkF readF x [])) []) ?_ x
  clear x
  intro x ih hx hc
  obtain ⟨k, o, n, s, v, sc, p, l⟩ := x
  rw [cntX_mk] at hc
  have ih : ∀ y ∈ l, Ret Try.prog 24 [eE y] [] (eL 2 cRe (walkF readF y [])) [] := fun y hy => ih y hy (hx.arg hy) (by have := (mem_cnt hy).1; omega)
  have hrev := walkF_rev (.mk k o n s v sc p l) []
  rw [List.reverse_nil, walkF_mk] at hrev
  rw [← hrev]
  have hown : readR (.mk k o n s v sc p l) [] = ownR (.mk k o n s v sc p l) := by
    unfold readR
    rcases ownR_len (.mk k o n s v sc p l) with h | ⟨r, h⟩ <;> rw [h]
    · rfl
    · exact insR_out (by simp)
  rw [hown]
  obtain ⟨h1, h2⟩ := rreads_row k o n s v sc p l hx.one.len _ rfl (ownR_len _) hc ih
  by_cases he : walkL readR l (ownR (.mk k o n s v sc p l)) = []
  · rw [he]
    exact (h1 he).leR le_nils
  · exact lend_re (h2 he)
set_option maxHeartbeats 4000000 in
theorem equalRe_ret (l : List Re) (hl : l.length ≤ 1048576) : Ret Try.prog 23 [eL 2 cRe l, eL 2 cRe l] [] (.bool true) [] := by
  have f8 : ((l.length : Int) != (l.length : Int)) = false := by simp
  refine ret_of_body atNone tok mixed Try.func23 (by kernel_rfl) rfl (k := 26) (rs := [.tmp 4]) (by kernel_rfl) (by kernel_rfl) ?_
  (conv => whnf) <;> repeat' (first | ((first | refine wN ?_ | refine wA ?_ | refine wB ?_ | refine wC ?_ | refine wD ?_ | refine vA ?_ | refine vB ?_ | refine vC ?_ | refine vD ?_ | refine uA ?_ | refine uB ?_ | refine uC ?_ | refine uD ?_); conv => whnf) | ((first | apply Pick.dec | apply Pick.beq | apply Cond.dec | apply Cond.beq | apply Cond.nd | apply Pick.nd | apply Pick.mk | apply Cond.mk) <;> intro h <;> conv => whnf))
  intro J jw js
  have key : ∀ (d k : Nat), k + d = l.length → J [eL 2 cRe l, eL 2 cRe l, .und, .und, .bool false, .und, .und, .und, .und, .und, .und, .und, .int .i64 (l.length : Int), .int .i64 (k : Int), .und, .und, .und, .und, .und, .und, .und, .und, .und, .und, .und, .und] [] := by
    intro d
    induction d with
    | zero =>
      intro k hk
      apply js
      conv => whnf
      refine Cond.ff (decF (by omega)) ?_
      (conv => whnf) <;> repeat' (first | ((first | refine wN ?_ | refine wA ?_ | refine wB ?_ | refine wC ?_ | refine wD ?_ | refine vA ?_ | refine vB ?_ | refine vC ?_ | refine vD ?_ | refine uA ?_ | refine uB ?_ | refine uC ?_ | refine uD ?_); conv => whnf) | ((first | apply Pick.dec | apply Pick.beq | apply Cond.dec | apply Cond.beq | apply Cond.nd | apply Pick.nd | apply Pick.mk | apply Cond.mk) <;> intro h <;> conv => whnf))
      exact End.mk rfl rfl
    | succ d ih =>
      intro k hk
      have hkl : k < l.length := by omega
      have g1 : getL cRe l (Int.toNat (k : Int)) = cRe l[k] := by rw [Int.toNat_natCast]; exact getL_at (List.getElem?_eq_getElem hkl)
      have e2 : IntKind.i64.wrap ((k : Int) + 1) = ((k + 1 : Nat) : Int) := by rw [wi64_id (by omega) (by omega)]; omega
      generalize l[k] = w at *
      have f1 : (!((w.1.toList == w.1.toList) && ((w.2.toList == w.2.toList) && true))) = false := by rw [eqRe]; simp
      apply js
      conv => whnf
      refine Cond.tt (decT (by omega)) ?_
      (conv => whnf) <;> repeat' (first | ((conv => arg 1; whnf); rw [g1]; conv => whnf) | ((first | refine wN ?_ | refine wA ?_ | refine wB ?_ | refine wC ?_ | refine wD ?_ | refine vA ?_ | refine vB ?_ | refine vC ?_ | refine vD ?_ | refine uA ?_ | refine uB ?_ | refine uC ?_ | refine uD ?_); conv => whnf) | ((first | apply Pick.dec | apply Pick.beq | apply Cond.dec | apply Cond.beq | apply Cond.nd | apply Pick.nd | apply Pick.mk | apply Cond.mk) <;> intro h <;> conv => whnf))
      rw [e2]
      apply jw [] [true, true, false, false, true, false, false, false, false, false, false, false, true, true] _ _ (by decide)
      exact ih (k + 1) (by omega)
  apply jw [] [true, true, false, false, true, false, false, false, false, false, false, false, true, true] _ _ (by decide)
  exact key l.length 0 (by omega)
theorem typesReads_ret (x : Xp) (hx : x.Wf) (hc : cntX x ≤ 1048576) : Ret Try.prog 5 [eE x] [] (.bool true) [] := by
  have h1 := treads_ret x hx hc
  have h2 := rreads_ret x hx hc
  have hlen : (walkF readF x []).length ≤ 1048576 := by
    have h1 := walkF_rev x []
    have h2 := (walkF_len x []).2.1
    rw [List.reverse_nil] at h1
    rw [← h1, List.length_reverse]
    simp only [List.length_nil, Nat.zero_add] at h2
    omega
  have h3 := equalRe_ret (walkF readF x []) hlen
  generalize walkF readF x [] = l at *
  refine ret_of_body atCalls tok mixed Try.func5 (by kernel_rfl) rfl (k := 11) (rs := [.tmp 2]) (by kernel_rfl) (by kernel_rfl) ?_
  (conv => whnf) <;> repeat' (first | ((first | refine wN ?_ | refine wA ?_ | refine wB ?_ | refine wC ?_ | refine wD ?_ | refine Called.mk _ _ (begun10) ?_ | refine Called.mk _ _ (h1) ?_ | refine Called.mk _ _ (h2) ?_ | refine Called.mk _ _ (h3) ?_ | refine vA ?_ | refine vB ?_ | refine vC ?_ | refine vD ?_ | refine uA ?_ | refine uB ?_ | refine uC ?_ | refine uD ?_); conv => whnf) | ((first | apply Pick.dec | apply Pick.beq | apply Cond.dec | apply Cond.beq | apply Cond.nd | apply Pick.nd | apply Pick.mk | apply Cond.mk) <;> intro h <;> conv => whnf))
  exact End.mk rfl rfl
end Go.Proofs.Ytkglccolonpnlaa

