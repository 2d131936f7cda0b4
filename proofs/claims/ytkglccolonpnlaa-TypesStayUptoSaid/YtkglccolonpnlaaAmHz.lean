/- types: Nodes, operator, only. -/
import Derived.Test.YtkglccolonpnlaaAmHy
import Derived.Test.YtkglccolonpnlaaAmIe
import Derived.Test.YtkglccolonpnlaaAmHr
import Derived.Test.YtkglccolonpnlaaAmX8z
set_option linter.unusedVariables false
set_option linter.unusedSimpArgs false
set_option maxRecDepth 100000
namespace Go.Proofs.Ytkglccolonpnlaa
open Go.AM
theorem nodes_ret (x : Xp) : x.Wf → Ret Try.prog 28 [eE x] [] (.int .i64 (nodesF x)) [] := by
  refine Xp.ind (Q := fun x => x.Wf → Ret Try.prog 28 [eE x] [] (.int .i64 (nodesF x)) []) ?_ x
  clear x
  intro x ih hx
  obtain ⟨k, o, n, s, v, sc, p, l⟩ := x
  have hlen : l.length ≤ maxLen := hx.one.len
  have hm : maxLen ≤ 9223372036854775807 := by decide
  have ih : ∀ y ∈ l, Ret Try.prog 28 [eE y] [] (.int .i64 (nodesF y)) [] := fun y hy => ih y hy (hx.arg hy)
  rw [nodesF_mk, cE_mk]
  refine ret_of_body atCalls tok mixed Try.func28 (by kernel_rfl) rfl (k := 19) (rs := [.tmp 2]) (by kernel_rfl) (by kernel_rfl) ?_
  (conv => whnf) <;> repeat' (first | ((first | refine wN ?_ | refine wA ?_ | refine wB ?_ | refine wC ?_ | refine wD ?_ | refine vA ?_ | refine vB ?_ | refine vC ?_ | refine vD ?_ | refine uA ?_ | refine uB ?_ | refine uC ?_ | refine uD ?_); conv => whnf) | ((first | refine Pick.dec (fun h => ?_) (fun h => ?_) | refine Pick.beq (fun h => ?_) (fun h => ?_) | refine Cond.dec (fun h => ?_) (fun h => ?_) | refine Cond.beq (fun h => ?_) (fun h => ?_) | refine Cond.nd (fun h => ?_) (fun h => ?_) | refine Pick.nd (fun h => ?_) (fun h => ?_) | refine Pick.mk (fun h => ?_) (fun h => ?_) | refine Cond.mk (fun h => ?_) (fun h => ?_)) <;> conv => whnf))
  intro I hw hs
  have turn : ∀ (m i : Nat) (a : Int), i + m = l.length → nodesL 1 l = nodesL a (l.drop i) →
      I [.und, .und, .und, .int .i64 a, .und, .und, .und, .ext 17 l.length (Xp.rows l), .int .i64 (l.length : Int), .int .i64 (i : Int), .und, .und, .und, .und, .und, .und, .und, .und, .und] [] := by
    intro m
    induction m with
    | zero =>
      intro i a hi ha
      apply hs
      conv => whnf
      refine Cond.ff (decF (by omega)) ?_
      (conv => whnf) <;> repeat' (first | ((first | refine wN ?_ | refine wA ?_ | refine wB ?_ | refine wC ?_ | refine wD ?_ | refine vA ?_ | refine vB ?_ | refine vC ?_ | refine vD ?_ | refine uA ?_ | refine uB ?_ | refine uC ?_ | refine uD ?_); conv => whnf) | ((first | refine Pick.dec (fun h => ?_) (fun h => ?_) | refine Pick.beq (fun h => ?_) (fun h => ?_) | refine Cond.dec (fun h => ?_) (fun h => ?_) | refine Cond.beq (fun h => ?_) (fun h => ?_) | refine Cond.nd (fun h => ?_) (fun h => ?_) | refine Pick.nd (fun h => ?_) (fun h => ?_) | refine Pick.mk (fun h => ?_) (fun h => ?_) | refine Cond.mk (fun h => ?_) (fun h => ?_)) <;> conv => whnf))
      refine End.mk (int_eq ?_) rfl
      rw [ha, List.drop_of_length_le (by omega), nodesL_nil]
    | succ m im =>
      intro i a hi ha
      have hil : i < l.length := by omega
      have gk : Xp.rows l (Int.toNat (i : Int)) = cE l[i] := by rw [Int.toNat_natCast]; exact (Xp.rows_ext l).2 i hil
      have e1 : IntKind.i64.wrap ((i : Int) + 1) = ((i + 1 : Nat) : Int) := by rw [wi64_id (by omega) (by omega)]; omega
      have hc := ih l[i] (List.getElem_mem hil)
      rw [List.drop_eq_getElem_cons hil, nodesL_cons] at ha
      generalize l[i] = y at *
      apply hs
      conv => whnf
      refine Cond.tt (decT (by omega)) ?_
      (conv => whnf) <;> repeat' (first | ((conv => arg 1; whnf); rw [gk]; conv => whnf) | ((first | refine wN ?_ | refine wA ?_ | refine wB ?_ | refine wC ?_ | refine wD ?_ | refine Called.mk _ _ (hc) ?_ | refine vA ?_ | refine vB ?_ | refine vC ?_ | refine vD ?_ | refine uA ?_ | refine uB ?_ | refine uC ?_ | refine uD ?_); conv => whnf) | ((first | refine Pick.dec (fun h => ?_) (fun h => ?_) | refine Pick.beq (fun h => ?_) (fun h => ?_) | refine Cond.dec (fun h => ?_) (fun h => ?_) | refine Cond.beq (fun h => ?_) (fun h => ?_) | refine Cond.nd (fun h => ?_) (fun h => ?_) | refine Pick.nd (fun h => ?_) (fun h => ?_) | refine Pick.mk (fun h => ?_) (fun h => ?_) | refine Cond.mk (fun h => ?_) (fun h => ?_)) <;> conv => whnf))
      rw [e1]
      apply hw [] [false, false, false, true, false, false, false, true, true, true] _ _ rfl
      exact im (i + 1) _ (by omega) ha
  apply hw [] [false, false, false, true, false, false, false, true, true, true] _ _ rfl
  exact turn l.length 0 1 (by omega) rfl
set_option maxHeartbeats 4000000 in
theorem oper_ret (op a b : Int) : Ret Try.prog 51 [.int .i64 op, .int .i64 a, .int .i64 b] [] (.tup [.int .i64 (operF op a b).1, .int .i64 (operF op a b).2]) [] := by
  refine ret_of_body atNone tok mixed Try.func51 (by kernel_rfl) rfl (k := 50) (rs := [.tmp 6, .tmp 7]) (by kernel_rfl) (by kernel_rfl) ?_
  (conv => whnf) <;> repeat' (first | ((first | refine wN ?_ | refine wA ?_ | refine wB ?_ | refine wC ?_ | refine wD ?_ | refine vA ?_ | refine vB ?_ | refine vC ?_ | refine vD ?_ | refine uA ?_ | refine uB ?_ | refine uC ?_ | refine uD ?_); conv => whnf) | ((first | refine Pick.dec (fun h => ?_) (fun h => ?_) | refine Pick.beq (fun h => ?_) (fun h => ?_) | refine Cond.dec (fun h => ?_) (fun h => ?_) | refine Cond.beq (fun h => ?_) (fun h => ?_) | refine Cond.nd (fun h => ?_) (fun h => ?_) | refine Pick.nd (fun h => ?_) (fun h => ?_) | refine Pick.mk (fun h => ?_) (fun h => ?_) | refine Cond.mk (fun h => ?_) (fun h => ?_)) <;> conv => whnf))
  all_goals
    first
      | (have e : operF op a b = kNo := by
          unfold operF
          repeat' split
          all_goals first | rfl | (exfalso; omega)
         rw [e]; exact End.mk rfl rfl)
      | (have e : operF op a b = (1, 0) := by
          unfold operF
          repeat' split
          all_goals first | rfl | (exfalso; omega)
         rw [e]; exact End.mk rfl rfl)
      | (have e : operF op a b = (2, 0) := by
          unfold operF
          repeat' split
          all_goals first | rfl | (exfalso; omega)
         rw [e]; exact End.mk rfl rfl)
theorem only_ret (out : Int) (n m : Nat) (g1 g2 : Nat → List Val) (got want : List Int) (h1 : ExtL cI n g1 got) (h2 : ExtL cI m g2 want) (hn : n ≤ maxLen) (hm : m ≤ maxLen) :
    Ret Try.prog 49 [.int .i64 out, .ext 1 n g1, .ext 1 m g2] [] (.tup [.int .i64 (onlyF out got want).1, .int .i64 (onlyF out got want).2]) [] := by
  have hx : maxLen ≤ 9223372036854775807 := by decide
  obtain ⟨rfl, h1⟩ := h1
  obtain ⟨rfl, h2⟩ := h2
  by_cases hl : got.length = want.length
  · refine ret_of_body atNone tok mixed Try.func49 (by kernel_rfl) rfl (k := 30) (rs := [.tmp 6, .tmp 7]) (by kernel_rfl) (by kernel_rfl) ?_
    (conv => whnf) <;> repeat' (first | ((first | refine wN ?_ | refine wA ?_ | refine wB ?_ | refine wC ?_ | refine wD ?_ | refine vA ?_ | refine vB ?_ | refine vC ?_ | refine vD ?_ | refine uA ?_ | refine uB ?_ | refine uC ?_ | refine uD ?_); conv => whnf) | ((first | refine Pick.dec (fun h => ?_) (fun h => ?_) | refine Pick.beq (fun h => ?_) (fun h => ?_) | refine Cond.dec (fun h => ?_) (fun h => ?_) | refine Cond.beq (fun h => ?_) (fun h => ?_) | refine Cond.nd (fun h => ?_) (fun h => ?_) | refine Pick.nd (fun h => ?_) (fun h => ?_) | refine Pick.mk (fun h => ?_) (fun h => ?_) | refine Cond.mk (fun h => ?_) (fun h => ?_)) <;> conv => whnf))
    intro I hw hs
    have turn : ∀ (d k : Nat), k + d = want.length → (got = want ↔ got.drop k = want.drop k) →
        I [.int .i64 out, .ext 1 got.length g1, .und, .und, .und, .und, .und, .und, .und, .und, .und, .und, .und, .und, .und, .ext 1 want.length g2, .int .i64 (want.length : Int), .int .i64 (k : Int), .und, .und, .und, .und, .und, .und, .und, .und, .und, .und, .und, .und] [] := by
      intro d
      induction d with
      | zero =>
        intro k hk he
        apply hs
        conv => whnf
        refine Cond.ff (decF (by omega)) ?_
        (conv => whnf) <;> repeat' (first | ((first | refine wN ?_ | refine wA ?_ | refine wB ?_ | refine wC ?_ | refine wD ?_ | refine vA ?_ | refine vB ?_ | refine vC ?_ | refine vD ?_ | refine uA ?_ | refine uB ?_ | refine uC ?_ | refine uD ?_); conv => whnf) | ((first | refine Pick.dec (fun h => ?_) (fun h => ?_) | refine Pick.beq (fun h => ?_) (fun h => ?_) | refine Cond.dec (fun h => ?_) (fun h => ?_) | refine Cond.beq (fun h => ?_) (fun h => ?_) | refine Cond.nd (fun h => ?_) (fun h => ?_) | refine Pick.nd (fun h => ?_) (fun h => ?_) | refine Pick.mk (fun h => ?_) (fun h => ?_) | refine Cond.mk (fun h => ?_) (fun h => ?_)) <;> conv => whnf))
        have : got = want := he.2 (by rw [List.drop_of_length_le (by omega), List.drop_of_length_le (by omega)])
        have e : onlyF out got want = (out, 0) := if_pos this
        rw [e]
        exact End.mk rfl rfl
      | succ d im =>
        intro k hk he
        have hk1 : k < got.length := by omega
        have hk2 : k < want.length := by omega
        have gk1 : g1 (Int.toNat (k : Int)) = cI got[k] := by rw [Int.toNat_natCast]; exact h1 k hk1
        have gk2 : g2 (Int.toNat (k : Int)) = cI want[k] := by rw [Int.toNat_natCast]; exact h2 k hk2
        have e1 : IntKind.i64.wrap ((k : Int) + 1) = ((k + 1 : Nat) : Int) := by rw [wi64_id (by omega) (by omega)]; omega
        rw [List.drop_eq_getElem_cons hk1, List.drop_eq_getElem_cons hk2] at he
        generalize got[k] = a at *
        generalize want[k] = b at *
        apply hs
        conv => whnf
        refine Cond.tt (decT (by omega)) ?_
        by_cases hab : a = b
        · subst hab
          have f : (a != a) = false := by simp
          (conv => whnf) <;> repeat' (first | ((conv => arg 1; whnf); rw [gk1]; conv => whnf) | ((conv => arg 1; whnf); rw [gk2]; conv => whnf) | (rw [f]; conv => whnf) | ((first | refine wN ?_ | refine wA ?_ | refine wB ?_ | refine wC ?_ | refine wD ?_ | refine vA ?_ | refine vB ?_ | refine vC ?_ | refine vD ?_ | refine uA ?_ | refine uB ?_ | refine uC ?_ | refine uD ?_); conv => whnf) | ((first | refine Pick.dec (fun h => ?_) (fun h => ?_) | refine Pick.beq (fun h => ?_) (fun h => ?_) | refine Cond.dec (fun h => ?_) (fun h => ?_) | refine Cond.beq (fun h => ?_) (fun h => ?_) | refine Cond.nd (fun h => ?_) (fun h => ?_) | refine Pick.nd (fun h => ?_) (fun h => ?_) | refine Pick.mk (fun h => ?_) (fun h => ?_) | refine Cond.mk (fun h => ?_) (fun h => ?_)) <;> conv => whnf))
          rw [e1]
          apply hw [] [true, true, false, false, false, false, false, false, false, false, false, false, false, false, false, true, true, true] _ _ rfl
          exact im (k + 1) (by omega) (he.trans ⟨fun h => by injection h, fun h => by rw [h]⟩)
        · have f : (a != b) = true := by simpa using hab
          (conv => whnf) <;> repeat' (first | ((conv => arg 1; whnf); rw [gk1]; conv => whnf) | ((conv => arg 1; whnf); rw [gk2]; conv => whnf) | (rw [f]; conv => whnf) | ((first | refine wN ?_ | refine wA ?_ | refine wB ?_ | refine wC ?_ | refine wD ?_ | refine vA ?_ | refine vB ?_ | refine vC ?_ | refine vD ?_ | refine uA ?_ | refine uB ?_ | refine uC ?_ | refine uD ?_); conv => whnf) | ((first | refine Pick.dec (fun h => ?_) (fun h => ?_) | refine Pick.beq (fun h => ?_) (fun h => ?_) | refine Cond.dec (fun h => ?_) (fun h => ?_) | refine Cond.beq (fun h => ?_) (fun h => ?_) | refine Cond.nd (fun h => ?_) (fun h => ?_) | refine Pick.nd (fun h => ?_) (fun h => ?_) | refine Pick.mk (fun h => ?_) (fun h => ?_) | refine Cond.mk (fun h => ?_) (fun h => ?_)) <;> conv => whnf))
          have e : onlyF out got want = kNo := if_neg (fun h => by have := he.1 h; injection this with h1 _; exact hab h1)
          rw [e]
          exact End.mk rfl rfl
    apply hw [] [true, true, false, false, false, false, false, false, false, false, false, false, false, false, false, true, true, true] _ _ rfl
    exact turn want.length 0 (by omega) Iff.rfl
  · have e : onlyF out got want = kNo := if_neg (fun h => hl (by rw [h]))
    rw [e]
    have f : ((got.length : Int) != (want.length : Int)) = true := by
      rw [bne_iff_ne]; omega
    refine ret_of_body atNone tok mixed Try.func49 (by kernel_rfl) rfl (k := 30) (rs := [.tmp 6, .tmp 7]) (by kernel_rfl) (by kernel_rfl) ?_
    (conv => whnf) <;> repeat' (first | (rw [f]; conv => whnf) | ((first | refine wN ?_ | refine wA ?_ | refine wB ?_ | refine wC ?_ | refine wD ?_ | refine vA ?_ | refine vB ?_ | refine vC ?_ | refine vD ?_ | refine uA ?_ | refine uB ?_ | refine uC ?_ | refine uD ?_); conv => whnf) | ((first | refine Pick.dec (fun h => ?_) (fun h => ?_) | refine Pick.beq (fun h => ?_) (fun h => ?_) | refine Cond.dec (fun h => ?_) (fun h => ?_) | refine Cond.beq (fun h => ?_) (fun h => ?_) | refine Cond.nd (fun h => ?_) (fun h => ?_) | refine Pick.nd (fun h => ?_) (fun h => ?_) | refine Pick.mk (fun h => ?_) (fun h => ?_) | refine Cond.mk (fun h => ?_) (fun h => ?_)) <;> conv => whnf))
    exact End.mk rfl rfl
end Go.Proofs.Ytkglccolonpnlaa

set_option linter.unusedVariables false
set_option linter.unusedSimpArgs false
set_option maxRecDepth 100000
namespace Go.Proofs.Ytkglccolonpnlaa
open Go.AM
abbrev read1F : Nat := 106
abbrev table1F : Nat := 74
theorem read1_ret (i : It) (name : ByteArray) : Ret Try.prog 106 [.agg (cIt i), .ptr 0 0] [.cells [.str name]] (.bool (decide (i.reads name))) [.cells [.str name]] := by
  by_cases hn : i.name = name
  · subst hn
    have hs : (i.name.toList == i.name.toList) = true := by simp
    by_cases k1 : i.kind = 1
    · have e : decide (i.reads i.name) = true := decide_eq_true ⟨rfl, .inl k1⟩
      rw [e]
      refine ret_of_body atCalls tok mixed Try.func106 (by kernel_rfl) rfl (k := 18) (rs := [.tmp 3]) (by kernel_rfl) (by kernel_rfl) ?_
      (conv => whnf) <;> repeat' (first | (rw [hs]; conv => whnf) | ((first | refine wN ?_ | refine wA ?_ | refine wB ?_ | refine wC ?_ | refine wD ?_ | refine vA ?_ | refine vB ?_ | refine vC ?_ | refine vD ?_ | refine uA ?_ | refine uB ?_ | refine uC ?_ | refine uD ?_); conv => whnf) | ((first | refine Pick.dec (fun h => ?_) (fun h => ?_) | refine Pick.beq (fun h => ?_) (fun h => ?_) | refine Cond.dec (fun h => ?_) (fun h => ?_) | refine Cond.beq (fun h => ?_) (fun h => ?_) | refine Cond.nd (fun h => ?_) (fun h => ?_) | refine Pick.nd (fun h => ?_) (fun h => ?_) | refine Pick.mk (fun h => ?_) (fun h => ?_) | refine Cond.mk (fun h => ?_) (fun h => ?_)) <;> conv => whnf))
      exact EndH.mk [0] rfl (bool_eq (by simp [k1])) rfl
    · by_cases k2 : i.kind = 2
      · have e : decide (i.reads i.name) = true := decide_eq_true ⟨rfl, .inr k2⟩
        rw [e]
        refine ret_of_body atCalls tok mixed Try.func106 (by kernel_rfl) rfl (k := 18) (rs := [.tmp 3]) (by kernel_rfl) (by kernel_rfl) ?_
        (conv => whnf) <;> repeat' (first | (rw [hs]; conv => whnf) | ((first | refine wN ?_ | refine wA ?_ | refine wB ?_ | refine wC ?_ | refine wD ?_ | refine vA ?_ | refine vB ?_ | refine vC ?_ | refine vD ?_ | refine uA ?_ | refine uB ?_ | refine uC ?_ | refine uD ?_); conv => whnf) | ((first | refine Pick.dec (fun h => ?_) (fun h => ?_) | refine Pick.beq (fun h => ?_) (fun h => ?_) | refine Cond.dec (fun h => ?_) (fun h => ?_) | refine Cond.beq (fun h => ?_) (fun h => ?_) | refine Cond.nd (fun h => ?_) (fun h => ?_) | refine Pick.nd (fun h => ?_) (fun h => ?_) | refine Pick.mk (fun h => ?_) (fun h => ?_) | refine Cond.mk (fun h => ?_) (fun h => ?_)) <;> conv => whnf))
        exact EndH.mk [0] rfl (bool_eq (by simp [k1, k2])) rfl
      · have e : decide (i.reads i.name) = false := decide_eq_false fun h => by have := h.2; omega
        rw [e]
        refine ret_of_body atCalls tok mixed Try.func106 (by kernel_rfl) rfl (k := 18) (rs := [.tmp 3]) (by kernel_rfl) (by kernel_rfl) ?_
        (conv => whnf) <;> repeat' (first | (rw [hs]; conv => whnf) | ((first | refine wN ?_ | refine wA ?_ | refine wB ?_ | refine wC ?_ | refine wD ?_ | refine vA ?_ | refine vB ?_ | refine vC ?_ | refine vD ?_ | refine uA ?_ | refine uB ?_ | refine uC ?_ | refine uD ?_); conv => whnf) | ((first | refine Pick.dec (fun h => ?_) (fun h => ?_) | refine Pick.beq (fun h => ?_) (fun h => ?_) | refine Cond.dec (fun h => ?_) (fun h => ?_) | refine Cond.beq (fun h => ?_) (fun h => ?_) | refine Cond.nd (fun h => ?_) (fun h => ?_) | refine Pick.nd (fun h => ?_) (fun h => ?_) | refine Pick.mk (fun h => ?_) (fun h => ?_) | refine Cond.mk (fun h => ?_) (fun h => ?_)) <;> conv => whnf))
        exact EndH.mk [0] rfl (bool_eq (by simp [k1, k2])) rfl
  · have hs : (i.name.toList == name.toList) = false := by rw [toList_eq]; exact decide_eq_false hn
    have e : decide (i.reads name) = false := decide_eq_false fun h => hn h.1
    rw [e]
    refine ret_of_body atCalls tok mixed Try.func106 (by kernel_rfl) rfl (k := 18) (rs := [.tmp 3]) (by kernel_rfl) (by kernel_rfl) ?_
    (conv => whnf) <;> repeat' (first | (rw [hs]; conv => whnf) | ((first | refine wN ?_ | refine wA ?_ | refine wB ?_ | refine wC ?_ | refine wD ?_ | refine vA ?_ | refine vB ?_ | refine vC ?_ | refine vD ?_ | refine uA ?_ | refine uB ?_ | refine uC ?_ | refine uD ?_); conv => whnf) | ((first | refine Pick.dec (fun h => ?_) (fun h => ?_) | refine Pick.beq (fun h => ?_) (fun h => ?_) | refine Cond.dec (fun h => ?_) (fun h => ?_) | refine Cond.beq (fun h => ?_) (fun h => ?_) | refine Cond.nd (fun h => ?_) (fun h => ?_) | refine Pick.nd (fun h => ?_) (fun h => ?_) | refine Pick.mk (fun h => ?_) (fun h => ?_) | refine Cond.mk (fun h => ?_) (fun h => ?_)) <;> conv => whnf))
    exact EndH.mk [0] rfl rfl rfl
theorem ixItem_ret (l : List It) (name : ByteArray) (hl : l.length ≤ maxLen) : Ret Try.prog 105 [eL 23 cIt l, .fn 106 [] [.ptr 0 0]] [.cells [.str name]] (.int .i64 (idxR name 0 l)) [.cells [.str name]] := by
  have hm : maxLen ≤ 9223372036854775807 := by decide
  refine ret_of_body atCalls tok mixed Try.func105 (by kernel_rfl) rfl (k := 19) (rs := [.tmp 4]) (by kernel_rfl) (by kernel_rfl) ?_
  (conv => whnf) <;> repeat' (first | ((first | refine wN ?_ | refine wA ?_ | refine wB ?_ | refine wC ?_ | refine wD ?_ | refine vA ?_ | refine vB ?_ | refine vC ?_ | refine vD ?_ | refine uA ?_ | refine uB ?_ | refine uC ?_ | refine uD ?_); conv => whnf) | ((first | refine Pick.dec (fun h => ?_) (fun h => ?_) | refine Pick.beq (fun h => ?_) (fun h => ?_) | refine Cond.dec (fun h => ?_) (fun h => ?_) | refine Cond.beq (fun h => ?_) (fun h => ?_) | refine Cond.nd (fun h => ?_) (fun h => ?_) | refine Pick.nd (fun h => ?_) (fun h => ?_) | refine Pick.mk (fun h => ?_) (fun h => ?_) | refine Cond.mk (fun h => ?_) (fun h => ?_)) <;> conv => whnf))
  intro I hw hs
  have turn : ∀ (d k : Nat), k + d = l.length → idxR name 0 l = idxR name k (l.drop k) →
      I [eL 23 cIt l, .fn read1F [] [.ptr 0 0], .und, .und, .int .i64 0, .und, .und, .int .i64 (l.length : Int), .int .i64 (k : Int), .und, .und, .und, .und, .und, .und, .und, .und, .und, .und] [.cells [.str name]] := by
    intro d
    induction d with
    | zero =>
      intro k hk hi
      apply hs
      conv => whnf
      refine Cond.ff (decF (by omega)) ?_
      (conv => whnf) <;> repeat' (first | ((first | refine wN ?_ | refine wA ?_ | refine wB ?_ | refine wC ?_ | refine wD ?_ | refine vA ?_ | refine vB ?_ | refine vC ?_ | refine vD ?_ | refine uA ?_ | refine uB ?_ | refine uC ?_ | refine uD ?_); conv => whnf) | ((first | refine Pick.dec (fun h => ?_) (fun h => ?_) | refine Pick.beq (fun h => ?_) (fun h => ?_) | refine Cond.dec (fun h => ?_) (fun h => ?_) | refine Cond.beq (fun h => ?_) (fun h => ?_) | refine Cond.nd (fun h => ?_) (fun h => ?_) | refine Pick.nd (fun h => ?_) (fun h => ?_) | refine Pick.mk (fun h => ?_) (fun h => ?_) | refine Cond.mk (fun h => ?_) (fun h => ?_)) <;> conv => whnf))
      refine EndH.mk [0] rfl (int_eq ?_) rfl
      rw [hi, List.drop_of_length_le (by omega)]; rfl
    | succ d ih =>
      intro k hk hi
      apply hs
      conv => whnf
      refine Cond.tt (decT (by omega)) ?_
      have hkl : k < l.length := by omega
      have gk : getL cIt l (Int.toNat (k : Int)) = cIt l[k] := by rw [Int.toNat_natCast]; exact getL_at (List.getElem?_eq_getElem hkl)
      have e1 : IntKind.i64.wrap ((k : Int) + 1) = ((k + 1 : Nat) : Int) := by rw [wi64_id (by omega) (by omega)]; omega
      have hd : l.drop k = l[k] :: l.drop (k + 1) := List.drop_eq_getElem_cons hkl
      have hc := read1_ret l[k] name
      by_cases hn : l[k].reads name
      · rw [decT hn] at hc
        (conv => whnf) <;> repeat' (first | (rw [gk]; conv => whnf) | (refine CalledH.mk [0] _ _ rfl (Nat.le_refl _) hc ?_; conv => whnf) | ((first | refine wN ?_ | refine wA ?_ | refine wB ?_ | refine wC ?_ | refine wD ?_ | refine vA ?_ | refine vB ?_ | refine vC ?_ | refine vD ?_ | refine uA ?_ | refine uB ?_ | refine uC ?_ | refine uD ?_); conv => whnf) | ((first | refine Pick.dec (fun h => ?_) (fun h => ?_) | refine Pick.beq (fun h => ?_) (fun h => ?_) | refine Cond.dec (fun h => ?_) (fun h => ?_) | refine Cond.beq (fun h => ?_) (fun h => ?_) | refine Cond.nd (fun h => ?_) (fun h => ?_) | refine Pick.nd (fun h => ?_) (fun h => ?_) | refine Pick.mk (fun h => ?_) (fun h => ?_) | refine Cond.mk (fun h => ?_) (fun h => ?_)) <;> conv => whnf))
        refine EndH.mk [0] rfl (int_eq ?_) rfl
        rw [hi, hd]; unfold idxR; rw [if_pos hn]
      · rw [decF hn] at hc
        (conv => whnf) <;> repeat' (first | (rw [gk]; conv => whnf) | (refine CalledH.mk [0] _ _ rfl (Nat.le_refl _) hc ?_; conv => whnf) | ((first | refine wN ?_ | refine wA ?_ | refine wB ?_ | refine wC ?_ | refine wD ?_ | refine vA ?_ | refine vB ?_ | refine vC ?_ | refine vD ?_ | refine uA ?_ | refine uB ?_ | refine uC ?_ | refine uD ?_); conv => whnf) | ((first | refine Pick.dec (fun h => ?_) (fun h => ?_) | refine Pick.beq (fun h => ?_) (fun h => ?_) | refine Cond.dec (fun h => ?_) (fun h => ?_) | refine Cond.beq (fun h => ?_) (fun h => ?_) | refine Cond.nd (fun h => ?_) (fun h => ?_) | refine Pick.nd (fun h => ?_) (fun h => ?_) | refine Pick.mk (fun h => ?_) (fun h => ?_) | refine Cond.mk (fun h => ?_) (fun h => ?_)) <;> conv => whnf))
        rw [e1]
        apply hw [0] [true, true, false, false, true, false, false, true, true] _ _ rfl
        refine ih (k + 1) (by omega) ?_
        rw [hi, hd]
        show (if l[k].reads name then (k : Int) else idxR name (k + 1) (l.drop (k + 1))) = _
        rw [if_neg hn]
  apply hw [0] [true, true, false, false, true, false, false, true, true] _ _ rfl
  exact turn l.length 0 (by omega) rfl
theorem read_ret (s : Se) (name : ByteArray) (hl : s.items.length ≤ maxLen) : Ret Try.prog 94 [.agg (cSe s), .str name] [] (.int .i64 (idxR name 0 s.items)) [] := by
  have hI := ixItem_ret s.items name hl
  refine ret_of_body atCalls tok mixed Try.func94 (by kernel_rfl) rfl (k := 9) (rs := [.tmp 4]) (by kernel_rfl) (by kernel_rfl) ?_
  (conv => whnf) <;> repeat' (first | (refine CalledH.mk [1] _ _ rfl (Nat.le_refl _) hI ?_; conv => whnf) | ((first | refine wN ?_ | refine wA ?_ | refine wB ?_ | refine wC ?_ | refine wD ?_ | refine vA ?_ | refine vB ?_ | refine vC ?_ | refine vD ?_ | refine uA ?_ | refine uB ?_ | refine uC ?_ | refine uD ?_); conv => whnf) | ((first | refine Pick.dec (fun h => ?_) (fun h => ?_) | refine Pick.beq (fun h => ?_) (fun h => ?_) | refine Cond.dec (fun h => ?_) (fun h => ?_) | refine Cond.beq (fun h => ?_) (fun h => ?_) | refine Cond.nd (fun h => ?_) (fun h => ?_) | refine Pick.nd (fun h => ?_) (fun h => ?_) | refine Pick.mk (fun h => ?_) (fun h => ?_) | refine Cond.mk (fun h => ?_) (fun h => ?_)) <;> conv => whnf))
  exact End.mk rfl rfl
theorem table1_ret (t : Tb) (name : ByteArray) : Ret Try.prog 74 [.agg (cTb t), .ptr 0 0] [.cells [.str name]] (.bool (decide (t.name = name))) [.cells [.str name]] := by
  have e : (t.name.toList == name.toList) = decide (t.name = name) := toList_eq _ _
  refine ret_of_body atCalls tok mixed Try.func74 (by kernel_rfl) rfl (k := 8) (rs := [.tmp 3]) (by kernel_rfl) (by kernel_rfl) ?_
  (conv => whnf) <;> repeat' (first | ((first | refine wN ?_ | refine wA ?_ | refine wB ?_ | refine wC ?_ | refine wD ?_ | refine vA ?_ | refine vB ?_ | refine vC ?_ | refine vD ?_ | refine uA ?_ | refine uB ?_ | refine uC ?_ | refine uD ?_); conv => whnf) | ((first | refine Pick.dec (fun h => ?_) (fun h => ?_) | refine Pick.beq (fun h => ?_) (fun h => ?_) | refine Cond.dec (fun h => ?_) (fun h => ?_) | refine Cond.beq (fun h => ?_) (fun h => ?_) | refine Cond.nd (fun h => ?_) (fun h => ?_) | refine Pick.nd (fun h => ?_) (fun h => ?_) | refine Pick.mk (fun h => ?_) (fun h => ?_) | refine Cond.mk (fun h => ?_) (fun h => ?_)) <;> conv => whnf))
  exact EndH.mk [0] rfl (bool_eq e) rfl
theorem ixTab_ret (l : List Tb) (name : ByteArray) (hl : l.length ≤ maxLen) : Ret Try.prog 73 [eL 2 cTb l, .fn 74 [] [.ptr 0 0]] [.cells [.str name]] (.int .i64 (idxT name 0 l)) [.cells [.str name]] := by
  have hm : maxLen ≤ 9223372036854775807 := by decide
  refine ret_of_body atCalls tok mixed Try.func73 (by kernel_rfl) rfl (k := 19) (rs := [.tmp 4]) (by kernel_rfl) (by kernel_rfl) ?_
  (conv => whnf) <;> repeat' (first | ((first | refine wN ?_ | refine wA ?_ | refine wB ?_ | refine wC ?_ | refine wD ?_ | refine vA ?_ | refine vB ?_ | refine vC ?_ | refine vD ?_ | refine uA ?_ | refine uB ?_ | refine uC ?_ | refine uD ?_); conv => whnf) | ((first | refine Pick.dec (fun h => ?_) (fun h => ?_) | refine Pick.beq (fun h => ?_) (fun h => ?_) | refine Cond.dec (fun h => ?_) (fun h => ?_) | refine Cond.beq (fun h => ?_) (fun h => ?_) | refine Cond.nd (fun h => ?_) (fun h => ?_) | refine Pick.nd (fun h => ?_) (fun h => ?_) | refine Pick.mk (fun h => ?_) (fun h => ?_) | refine Cond.mk (fun h => ?_) (fun h => ?_)) <;> conv => whnf))
  intro I hw hs
  have turn : ∀ (d k : Nat), k + d = l.length → idxT name 0 l = idxT name k (l.drop k) →
      I [eL 2 cTb l, .fn table1F [] [.ptr 0 0], .und, .und, .int .i64 0, .und, .und, .int .i64 (l.length : Int), .int .i64 (k : Int), .und, .und, .und, .und, .und, .und, .und, .und, .und, .und] [.cells [.str name]] := by
    intro d
    induction d with
    | zero =>
      intro k hk hi
      apply hs
      conv => whnf
      refine Cond.ff (decF (by omega)) ?_
      (conv => whnf) <;> repeat' (first | ((first | refine wN ?_ | refine wA ?_ | refine wB ?_ | refine wC ?_ | refine wD ?_ | refine vA ?_ | refine vB ?_ | refine vC ?_ | refine vD ?_ | refine uA ?_ | refine uB ?_ | refine uC ?_ | refine uD ?_); conv => whnf) | ((first | refine Pick.dec (fun h => ?_) (fun h => ?_) | refine Pick.beq (fun h => ?_) (fun h => ?_) | refine Cond.dec (fun h => ?_) (fun h => ?_) | refine Cond.beq (fun h => ?_) (fun h => ?_) | refine Cond.nd (fun h => ?_) (fun h => ?_) | refine Pick.nd (fun h => ?_) (fun h => ?_) | refine Pick.mk (fun h => ?_) (fun h => ?_) | refine Cond.mk (fun h => ?_) (fun h => ?_)) <;> conv => whnf))
      refine EndH.mk [0] rfl (int_eq ?_) rfl
      rw [hi, List.drop_of_length_le (by omega)]; rfl
    | succ d ih =>
      intro k hk hi
      apply hs
      conv => whnf
      refine Cond.tt (decT (by omega)) ?_
      have hkl : k < l.length := by omega
      have gk : getL cTb l (Int.toNat (k : Int)) = cTb l[k] := by rw [Int.toNat_natCast]; exact getL_at (List.getElem?_eq_getElem hkl)
      have e1 : IntKind.i64.wrap ((k : Int) + 1) = ((k + 1 : Nat) : Int) := by rw [wi64_id (by omega) (by omega)]; omega
      have hd : l.drop k = l[k] :: l.drop (k + 1) := List.drop_eq_getElem_cons hkl
      have hc := table1_ret l[k] name
      by_cases hn : l[k].name = name
      · rw [decT hn] at hc
        (conv => whnf) <;> repeat' (first | (rw [gk]; conv => whnf) | (refine CalledH.mk [0] _ _ rfl (Nat.le_refl _) hc ?_; conv => whnf) | ((first | refine wN ?_ | refine wA ?_ | refine wB ?_ | refine wC ?_ | refine wD ?_ | refine vA ?_ | refine vB ?_ | refine vC ?_ | refine vD ?_ | refine uA ?_ | refine uB ?_ | refine uC ?_ | refine uD ?_); conv => whnf) | ((first | refine Pick.dec (fun h => ?_) (fun h => ?_) | refine Pick.beq (fun h => ?_) (fun h => ?_) | refine Cond.dec (fun h => ?_) (fun h => ?_) | refine Cond.beq (fun h => ?_) (fun h => ?_) | refine Cond.nd (fun h => ?_) (fun h => ?_) | refine Pick.nd (fun h => ?_) (fun h => ?_) | refine Pick.mk (fun h => ?_) (fun h => ?_) | refine Cond.mk (fun h => ?_) (fun h => ?_)) <;> conv => whnf))
        refine EndH.mk [0] rfl (int_eq ?_) rfl
        rw [hi, hd]; unfold idxT; rw [if_pos hn]
      · rw [decF hn] at hc
        (conv => whnf) <;> repeat' (first | (rw [gk]; conv => whnf) | (refine CalledH.mk [0] _ _ rfl (Nat.le_refl _) hc ?_; conv => whnf) | ((first | refine wN ?_ | refine wA ?_ | refine wB ?_ | refine wC ?_ | refine wD ?_ | refine vA ?_ | refine vB ?_ | refine vC ?_ | refine vD ?_ | refine uA ?_ | refine uB ?_ | refine uC ?_ | refine uD ?_); conv => whnf) | ((first | refine Pick.dec (fun h => ?_) (fun h => ?_) | refine Pick.beq (fun h => ?_) (fun h => ?_) | refine Cond.dec (fun h => ?_) (fun h => ?_) | refine Cond.beq (fun h => ?_) (fun h => ?_) | refine Cond.nd (fun h => ?_) (fun h => ?_) | refine Pick.nd (fun h => ?_) (fun h => ?_) | refine Pick.mk (fun h => ?_) (fun h => ?_) | refine Cond.mk (fun h => ?_) (fun h => ?_)) <;> conv => whnf))
        rw [e1]
        apply hw [0] [true, true, false, false, true, false, false, true, true] _ _ rfl
        refine ih (k + 1) (by omega) ?_
        rw [hi, hd]
        show (if l[k].name = name then (k : Int) else idxT name (k + 1) (l.drop (k + 1))) = _
        rw [if_neg hn]
  apply hw [0] [true, true, false, false, true, false, false, true, true] _ _ rfl
  exact turn l.length 0 (by omega) rfl
theorem idxT_lt (name : ByteArray) : ∀ (k : Nat) (l : List Tb), idxT name k l = -1 ∨ ((k : Int) ≤ idxT name k l ∧ idxT name k l < ((k + l.length : Nat) : Int))
  | _, [] => .inl rfl
  | k, t :: r => by
    unfold idxT
    split
    · right; simp; omega
    · rcases idxT_lt name (k + 1) r with h | h
      · exact .inl h
      · right; simp; omega
/-- where a table of a name stands; is there one? -/
def tableF (l : List Tb) (name : ByteArray) : Int × Bool := if 0 ≤ idxT name 0 l then (idxT name 0 l, true) else (0, false)
theorem table_ret (d : Df) (name : ByteArray) (hl : d.tabs.length ≤ maxLen) : Ret Try.prog 53 [eDf d, .str name] [] (.tup [.int .i64 (tableF d.tabs name).1, .bool (tableF d.tabs name).2]) [] := by
  have hI := ixTab_ret d.tabs name hl
  have hlt := idxT_lt name 0 d.tabs
  by_cases h : 0 ≤ idxT name 0 d.tabs
  · have e : tableF d.tabs name = (idxT name 0 d.tabs, true) := if_pos h
    rw [e]
    generalize idxT name 0 d.tabs = j at *
    refine ret_of_body atCalls tok mixed Try.func53 (by kernel_rfl) rfl (k := 15) (rs := [.tmp 4, .tmp 5]) (by kernel_rfl) (by kernel_rfl) ?_
    (conv => whnf) <;> repeat' (first | (refine CalledH.mk [1] _ _ rfl (Nat.le_refl _) hI ?_; conv => whnf) | ((first | refine wN ?_ | refine wA ?_ | refine wB ?_ | refine wC ?_ | refine wD ?_ | refine vA ?_ | refine vB ?_ | refine vC ?_ | refine vD ?_ | refine uA ?_ | refine uB ?_ | refine uC ?_ | refine uD ?_); conv => whnf) | ((first | refine Pick.dec (fun h => ?_) (fun h => ?_) | refine Pick.beq (fun h => ?_) (fun h => ?_) | refine Cond.dec (fun h => ?_) (fun h => ?_) | refine Cond.beq (fun h => ?_) (fun h => ?_) | refine Cond.nd (fun h => ?_) (fun h => ?_) | refine Pick.nd (fun h => ?_) (fun h => ?_) | refine Pick.mk (fun h => ?_) (fun h => ?_) | refine Cond.mk (fun h => ?_) (fun h => ?_)) <;> conv => whnf))
    have e1 : pickM true 0 j = j := by unfold pickM; simp; omega
    have e2 : decide (j ≥ 0) = true := decide_eq_true h
    rw [e1, e2]
    exact End.mk rfl rfl
  · have e : tableF d.tabs name = (0, false) := if_neg h
    rw [e]
    generalize idxT name 0 d.tabs = j at *
    refine ret_of_body atCalls tok mixed Try.func53 (by kernel_rfl) rfl (k := 15) (rs := [.tmp 4, .tmp 5]) (by kernel_rfl) (by kernel_rfl) ?_
    (conv => whnf) <;> repeat' (first | (refine CalledH.mk [1] _ _ rfl (Nat.le_refl _) hI ?_; conv => whnf) | ((first | refine wN ?_ | refine wA ?_ | refine wB ?_ | refine wC ?_ | refine wD ?_ | refine vA ?_ | refine vB ?_ | refine vC ?_ | refine vD ?_ | refine uA ?_ | refine uB ?_ | refine uC ?_ | refine uD ?_); conv => whnf) | ((first | refine Pick.dec (fun h => ?_) (fun h => ?_) | refine Pick.beq (fun h => ?_) (fun h => ?_) | refine Cond.dec (fun h => ?_) (fun h => ?_) | refine Cond.beq (fun h => ?_) (fun h => ?_) | refine Cond.nd (fun h => ?_) (fun h => ?_) | refine Pick.nd (fun h => ?_) (fun h => ?_) | refine Pick.mk (fun h => ?_) (fun h => ?_) | refine Cond.mk (fun h => ?_) (fun h => ?_)) <;> conv => whnf))
    have e1 : pickM true 0 j = 0 := by unfold pickM; simp; omega
    have e2 : decide (j ≥ 0) = false := decide_eq_false h
    rw [e1, e2]
    exact End.mk rfl rfl
end Go.Proofs.Ytkglccolonpnlaa

set_option linter.unusedVariables false
set_option linter.unusedSimpArgs false
set_option maxRecDepth 100000
namespace Go.Proofs.Ytkglccolonpnlaa
open Go.AM
theorem find_ret (l : List Se) (s : Int) (name : ByteArray) (hl : l.length ≤ 64) (hi : ∀ x ∈ l, x.items.length ≤ maxLen) :
    Ret Try.prog 72 [eL 5 cSe l, .int .i64 s, .str name] [] (.tup [.int .i64 (findF l s name).1, .int .i64 (findF l s name).2.1, .bool (findF l s name).2.2]) [] := by
  have ew : IntKind.i64.wrap ((l.length : Int) + 1) = ((l.length + 1 : Nat) : Int) := by rw [wi64_id (by omega) (by omega)]; omega
  have goal : ∀ r, findF l s name = r → Ret Try.prog 72 [eL 5 cSe l, .int .i64 s, .str name] [] (.tup [.int .i64 r.1, .int .i64 r.2.1, .bool r.2.2]) [] := by
    intro r hr
    refine ret_of_body atNone tok mixed Try.func72 (by kernel_rfl) rfl (k := 39) (rs := [.tmp 6, .tmp 7, .tmp 8]) (by kernel_rfl) (by kernel_rfl) ?_
    (conv => whnf) <;> repeat' (first | ((first | refine wN ?_ | refine wA ?_ | refine wB ?_ | refine wC ?_ | refine wD ?_ | refine vA ?_ | refine vB ?_ | refine vC ?_ | refine vD ?_ | refine uA ?_ | refine uB ?_ | refine uC ?_ | refine uD ?_); conv => whnf) | ((first | refine Pick.dec (fun h => ?_) (fun h => ?_) | refine Pick.beq (fun h => ?_) (fun h => ?_) | refine Cond.dec (fun h => ?_) (fun h => ?_) | refine Cond.beq (fun h => ?_) (fun h => ?_) | refine Cond.nd (fun h => ?_) (fun h => ?_) | refine Pick.nd (fun h => ?_) (fun h => ?_) | refine Pick.mk (fun h => ?_) (fun h => ?_) | refine Cond.mk (fun h => ?_) (fun h => ?_)) <;> conv => whnf))
    rw [ew]
    intro I hw hs
    have turn : ∀ (d k : Nat) (s : Int), k + d = l.length + 1 → findN l name d s = r →
        I [eL 5 cSe l, .int .i64 s, .str name, .und, .und, .und, .und, .und, .und, .und, .und, .und, .int .i64 ((l.length + 1 : Nat) : Int), .int .i64 (k : Int), .und, .und, .und, .und, .und, .und, .und, .und, .und, .und, .und, .und, .und, .und, .und, .und, .und, .und, .und, .und, .und, .und, .und, .und, .und] [] := by
      intro d
      induction d with
      | zero =>
        intro k s hk hr
        subst hr
        apply hs
        conv => whnf
        refine Cond.ff (decF (by omega)) ?_
        (conv => whnf) <;> repeat' (first | ((first | refine wN ?_ | refine wA ?_ | refine wB ?_ | refine wC ?_ | refine wD ?_ | refine vA ?_ | refine vB ?_ | refine vC ?_ | refine vD ?_ | refine uA ?_ | refine uB ?_ | refine uC ?_ | refine uD ?_); conv => whnf) | ((first | refine Pick.dec (fun h => ?_) (fun h => ?_) | refine Pick.beq (fun h => ?_) (fun h => ?_) | refine Cond.dec (fun h => ?_) (fun h => ?_) | refine Cond.beq (fun h => ?_) (fun h => ?_) | refine Cond.nd (fun h => ?_) (fun h => ?_) | refine Pick.nd (fun h => ?_) (fun h => ?_) | refine Pick.mk (fun h => ?_) (fun h => ?_) | refine Cond.mk (fun h => ?_) (fun h => ?_)) <;> conv => whnf))
        exact End.mk rfl rfl
      | succ d im =>
        intro k s hk hr
        have e1 : IntKind.i64.wrap ((k : Int) + 1) = ((k + 1 : Nat) : Int) := by rw [wi64_id (by omega) (by omega)]; omega
        unfold findN at hr
        by_cases h0 : 0 ≤ s
        · by_cases h1 : s.toNat < l.length
          · rw [seAt_some h0 h1] at hr
            simp only at hr
            have gk : getL cSe l s.toNat = cSe l[s.toNat] := getL_at (List.getElem?_eq_getElem h1)
            have hc := read_ret l[s.toNat] name (hi _ (List.getElem_mem h1))
            generalize l[s.toNat] = x at *
            generalize idxR name 0 x.items = j at *
            apply hs
            conv => whnf
            refine Cond.tt (decT (by omega)) ?_
            by_cases hj : 0 ≤ j
            · rw [if_pos hj] at hr
              subst hr
              (conv => whnf) <;> repeat' (first | (rw [gk]; conv => whnf) | ((first | refine wN ?_ | refine wA ?_ | refine wB ?_ | refine wC ?_ | refine wD ?_ | refine Called.mk _ _ (hc) ?_ | refine vA ?_ | refine vB ?_ | refine vC ?_ | refine vD ?_ | refine uA ?_ | refine uB ?_ | refine uC ?_ | refine uD ?_); conv => whnf) | ((first | refine Pick.dec (fun h => ?_) (fun h => ?_) | refine Pick.beq (fun h => ?_) (fun h => ?_) | refine Cond.dec (fun h => ?_) (fun h => ?_) | refine Cond.beq (fun h => ?_) (fun h => ?_) | refine Cond.nd (fun h => ?_) (fun h => ?_) | refine Pick.nd (fun h => ?_) (fun h => ?_) | refine Pick.mk (fun h => ?_) (fun h => ?_) | refine Cond.mk (fun h => ?_) (fun h => ?_)) <;> conv => whnf))
              exact End.mk rfl rfl
            · rw [if_neg hj] at hr
              (conv => whnf) <;> repeat' (first | (rw [gk]; conv => whnf) | ((first | refine wN ?_ | refine wA ?_ | refine wB ?_ | refine wC ?_ | refine wD ?_ | refine Called.mk _ _ (hc) ?_ | refine vA ?_ | refine vB ?_ | refine vC ?_ | refine vD ?_ | refine uA ?_ | refine uB ?_ | refine uC ?_ | refine uD ?_); conv => whnf) | ((first | refine Pick.dec (fun h => ?_) (fun h => ?_) | refine Pick.beq (fun h => ?_) (fun h => ?_) | refine Cond.dec (fun h => ?_) (fun h => ?_) | refine Cond.beq (fun h => ?_) (fun h => ?_) | refine Cond.nd (fun h => ?_) (fun h => ?_) | refine Pick.nd (fun h => ?_) (fun h => ?_) | refine Pick.mk (fun h => ?_) (fun h => ?_) | refine Cond.mk (fun h => ?_) (fun h => ?_)) <;> conv => whnf))
              rw [e1]
              apply hw [] [true, true, true, false, false, false, false, false, false, false, false, false, true, true] _ _ rfl
              exact im (k + 1) x.par (by omega) hr
          · rw [seAt_none (.inr (by omega))] at hr
            subst hr
            apply hs
            conv => whnf
            refine Cond.tt (decT (by omega)) ?_
            (conv => whnf) <;> repeat' (first | ((first | refine wN ?_ | refine wA ?_ | refine wB ?_ | refine wC ?_ | refine wD ?_ | refine vA ?_ | refine vB ?_ | refine vC ?_ | refine vD ?_ | refine uA ?_ | refine uB ?_ | refine uC ?_ | refine uD ?_); conv => whnf) | ((first | refine Pick.dec (fun h => ?_) (fun h => ?_) | refine Pick.beq (fun h => ?_) (fun h => ?_) | refine Cond.dec (fun h => ?_) (fun h => ?_) | refine Cond.beq (fun h => ?_) (fun h => ?_) | refine Cond.nd (fun h => ?_) (fun h => ?_) | refine Pick.nd (fun h => ?_) (fun h => ?_) | refine Pick.mk (fun h => ?_) (fun h => ?_) | refine Cond.mk (fun h => ?_) (fun h => ?_)) <;> conv => whnf))
            exact End.mk rfl rfl
        · rw [seAt_none (.inl (by omega))] at hr
          subst hr
          apply hs
          conv => whnf
          refine Cond.tt (decT (by omega)) ?_
          (conv => whnf) <;> repeat' (first | ((first | refine wN ?_ | refine wA ?_ | refine wB ?_ | refine wC ?_ | refine wD ?_ | refine vA ?_ | refine vB ?_ | refine vC ?_ | refine vD ?_ | refine uA ?_ | refine uB ?_ | refine uC ?_ | refine uD ?_); conv => whnf) | ((first | refine Pick.dec (fun h => ?_) (fun h => ?_) | refine Pick.beq (fun h => ?_) (fun h => ?_) | refine Cond.dec (fun h => ?_) (fun h => ?_) | refine Cond.beq (fun h => ?_) (fun h => ?_) | refine Cond.nd (fun h => ?_) (fun h => ?_) | refine Pick.nd (fun h => ?_) (fun h => ?_) | refine Pick.mk (fun h => ?_) (fun h => ?_) | refine Cond.mk (fun h => ?_) (fun h => ?_)) <;> conv => whnf))
          exact End.mk rfl rfl
    apply hw [] [true, true, true, false, false, false, false, false, false, false, false, false, true, true] _ _ rfl
    exact turn (l.length + 1) 0 s (by omega) hr
  exact goal _ rfl
theorem kids_go (l : List Se) (s : Int) (hl : l.length ≤ 64) (vt : Val) (ht : List Blk) (h0 : kidsF l s = [] → vt = .nils ∧ ht = []) (h1 : kidsF l s ≠ [] → vt = .row 0 (kidsF l s).length ∧ ht = [.row 3 1 (kidsF l s).length (getL cI (kidsF l s)) 0]) :
    Ret Try.prog 95 [eL 5 cSe l, .int .i64 s] [] vt ht := by
  refine ret_of_body atNone tok mixed Try.func95 (by kernel_rfl) rfl (k := 29) (rs := [.tmp 4]) (by kernel_rfl) (by kernel_rfl) ?_
  (conv => whnf) <;> repeat' (first | ((first | refine wN ?_ | refine wA ?_ | refine wB ?_ | refine wC ?_ | refine wD ?_ | refine vA ?_ | refine vB ?_ | refine vC ?_ | refine vD ?_ | refine uA ?_ | refine uB ?_ | refine uC ?_ | refine uD ?_); conv => whnf) | ((first | refine Pick.dec (fun h => ?_) (fun h => ?_) | refine Pick.beq (fun h => ?_) (fun h => ?_) | refine Cond.dec (fun h => ?_) (fun h => ?_) | refine Cond.beq (fun h => ?_) (fun h => ?_) | refine Cond.nd (fun h => ?_) (fun h => ?_) | refine Pick.nd (fun h => ?_) (fun h => ?_) | refine Pick.mk (fun h => ?_) (fun h => ?_) | refine Cond.mk (fun h => ?_) (fun h => ?_)) <;> conv => whnf))
  intro I hw hs
  have turn : ∀ (d k : Nat) (out : List Int), k + d = l.length → out.length ≤ k → kidsF l s = out ++ kidsN s k (l.drop k) →
      (out = [] → I [.und, .int .i64 s, .und, .und, .und, .nils, .und, .und, eL 5 cSe l, .int .i64 (l.length : Int), .int .i64 (k : Int), .und, .und, .und, .und, .und, .und, .und, .und, .und, .und, .und, .und, .und, .und, .und, .und, .und, .und] []) ∧
      (out ≠ [] → I [.und, .int .i64 s, .und, .und, .und, .row 0 out.length, .und, .und, eL 5 cSe l, .int .i64 (l.length : Int), .int .i64 (k : Int), .und, .und, .und, .und, .und, .und, .und, .und, .und, .und, .und, .und, .und, .und, .und, .und, .und, .und] [.row 3 1 out.length (getL cI out) 0]) := by
    intro d
    induction d with
    | zero =>
      intro k out hk ho he
      rw [List.drop_of_length_le (by omega)] at he
      have he : kidsF l s = out := he.trans (List.append_nil _)
      rw [he] at h0 h1
      refine ⟨fun hn => ?_, fun hn => ?_⟩
      · obtain ⟨rfl, rfl⟩ := h0 hn
        apply hs
        conv => whnf
        refine Cond.ff (decF (by omega)) ?_
        (conv => whnf) <;> repeat' (first | ((first | refine wN ?_ | refine wA ?_ | refine wB ?_ | refine wC ?_ | refine wD ?_ | refine vA ?_ | refine vB ?_ | refine vC ?_ | refine vD ?_ | refine uA ?_ | refine uB ?_ | refine uC ?_ | refine uD ?_); conv => whnf) | ((first | refine Pick.dec (fun h => ?_) (fun h => ?_) | refine Pick.beq (fun h => ?_) (fun h => ?_) | refine Cond.dec (fun h => ?_) (fun h => ?_) | refine Cond.beq (fun h => ?_) (fun h => ?_) | refine Cond.nd (fun h => ?_) (fun h => ?_) | refine Pick.nd (fun h => ?_) (fun h => ?_) | refine Pick.mk (fun h => ?_) (fun h => ?_) | refine Cond.mk (fun h => ?_) (fun h => ?_)) <;> conv => whnf))
        exact End.mk rfl rfl
      · obtain ⟨rfl, rfl⟩ := h1 hn
        apply hs
        conv => whnf
        refine Cond.ff (decF (by omega)) ?_
        (conv => whnf) <;> repeat' (first | ((first | refine wN ?_ | refine wA ?_ | refine wB ?_ | refine wC ?_ | refine wD ?_ | refine vA ?_ | refine vB ?_ | refine vC ?_ | refine vD ?_ | refine uA ?_ | refine uB ?_ | refine uC ?_ | refine uD ?_); conv => whnf) | ((first | refine Pick.dec (fun h => ?_) (fun h => ?_) | refine Pick.beq (fun h => ?_) (fun h => ?_) | refine Cond.dec (fun h => ?_) (fun h => ?_) | refine Cond.beq (fun h => ?_) (fun h => ?_) | refine Cond.nd (fun h => ?_) (fun h => ?_) | refine Pick.nd (fun h => ?_) (fun h => ?_) | refine Pick.mk (fun h => ?_) (fun h => ?_) | refine Cond.mk (fun h => ?_) (fun h => ?_)) <;> conv => whnf))
        exact EndH.mk [0] rfl rfl rfl
    | succ d im =>
      intro k out hk ho he
      have hkl : k < l.length := by omega
      have e1 : IntKind.i64.wrap ((k : Int) + 1) = ((k + 1 : Nat) : Int) := by rw [wi64_id (by omega) (by omega)]; omega
      have gk : getL cSe l (Int.toNat (k : Int)) = cSe l[k] := by rw [Int.toNat_natCast]; exact getL_at (List.getElem?_eq_getElem hkl)
      rw [List.drop_eq_getElem_cons hkl] at he
      have imS := im (k + 1) out (by omega) (by omega)
      have imG := im (k + 1) (out ++ [(k : Int)]) (by omega) (by rw [List.length_append]; simp; omega)
      generalize l[k] = x at *
      unfold kidsN at he
      by_cases hc : 0 ≤ s ∧ x.par = s
      · rw [if_pos hc] at he
        have imG := (imG (by rw [he]; simp)).2 (by simp)
        obtain ⟨hc0, hc1⟩ := hc
        have elen : (out ++ [(k : Int)]).length = out.length + 1 := by simp
        rw [elen] at imG
        refine ⟨fun hn => ?_, fun hn => ?_⟩
        · subst hn
          apply hs
          conv => whnf
          refine Cond.tt (decT (by omega)) ?_
          (conv => whnf) <;> repeat' (first | (rw [gk]; conv => whnf) | (rw [getI_one]; conv => whnf) | ((first | refine wN ?_ | refine wA ?_ | refine wB ?_ | refine wC ?_ | refine wD ?_ | refine vA ?_ | refine vB ?_ | refine vC ?_ | refine vD ?_ | refine uA ?_ | refine uB ?_ | refine uC ?_ | refine uD ?_); conv => whnf) | ((first | refine Pick.dec (fun h => ?_) (fun h => ?_) | refine Pick.beq (fun h => ?_) (fun h => ?_) | refine Cond.dec (fun h => ?_) (fun h => ?_) | refine Cond.beq (fun h => ?_) (fun h => ?_) | refine Cond.nd (fun h => ?_) (fun h => ?_) | refine Pick.nd (fun h => ?_) (fun h => ?_) | refine Pick.mk (fun h => ?_) (fun h => ?_) | refine Cond.mk (fun h => ?_) (fun h => ?_)) <;> conv => whnf))
          rw [e1]
          apply hw [2] [false, true, false, false, false, true, false, false, true, true, true] _ _ rfl
          exact imG
        · apply hs
          conv => whnf
          refine Cond.tt (decT (by omega)) ?_
          (conv => whnf) <;> repeat' (first | (rw [gk]; conv => whnf) | (rw [getI_snoc]; conv => whnf) | ((first | refine wN ?_ | refine wA ?_ | refine wB ?_ | refine wC ?_ | refine wD ?_ | refine vA ?_ | refine vB ?_ | refine vC ?_ | refine vD ?_ | refine uA ?_ | refine uB ?_ | refine uC ?_ | refine uD ?_); conv => whnf) | ((first | refine Pick.dec (fun h => ?_) (fun h => ?_) | refine Pick.beq (fun h => ?_) (fun h => ?_) | refine Cond.dec (fun h => ?_) (fun h => ?_) | refine Cond.beq (fun h => ?_) (fun h => ?_) | refine Cond.nd (fun h => ?_) (fun h => ?_) | refine Pick.nd (fun h => ?_) (fun h => ?_) | refine Pick.mk (fun h => ?_) (fun h => ?_) | refine Cond.mk (fun h => ?_) (fun h => ?_)) <;> conv => whnf))
          rw [e1]
          apply hw [3] [false, true, false, false, false, true, false, false, true, true, true] _ _ rfl
          exact imG
      · rw [if_neg hc] at he
        have imS := imS he
        have hc : 0 ≤ s → ¬ x.par = s := fun a b => hc ⟨a, b⟩
        refine ⟨fun hn => ?_, fun hn => ?_⟩
        · by_cases hs0 : 0 ≤ s
          · have hc := hc hs0
            apply hs
            conv => whnf
            refine Cond.tt (decT (by omega)) ?_
            (conv => whnf) <;> repeat' (first | (rw [gk]; conv => whnf) | ((first | refine wN ?_ | refine wA ?_ | refine wB ?_ | refine wC ?_ | refine wD ?_ | refine vA ?_ | refine vB ?_ | refine vC ?_ | refine vD ?_ | refine uA ?_ | refine uB ?_ | refine uC ?_ | refine uD ?_); conv => whnf) | ((first | refine Pick.dec (fun h => ?_) (fun h => ?_) | refine Pick.beq (fun h => ?_) (fun h => ?_) | refine Cond.dec (fun h => ?_) (fun h => ?_) | refine Cond.beq (fun h => ?_) (fun h => ?_) | refine Cond.nd (fun h => ?_) (fun h => ?_) | refine Pick.nd (fun h => ?_) (fun h => ?_) | refine Pick.mk (fun h => ?_) (fun h => ?_) | refine Cond.mk (fun h => ?_) (fun h => ?_)) <;> conv => whnf))
            rw [e1]
            apply hw [] [false, true, false, false, false, true, false, false, true, true, true] _ _ rfl
            exact imS.1 hn
          · apply hs
            conv => whnf
            refine Cond.tt (decT (by omega)) ?_
            (conv => whnf) <;> repeat' (first | (rw [gk]; conv => whnf) | ((first | refine wN ?_ | refine wA ?_ | refine wB ?_ | refine wC ?_ | refine wD ?_ | refine vA ?_ | refine vB ?_ | refine vC ?_ | refine vD ?_ | refine uA ?_ | refine uB ?_ | refine uC ?_ | refine uD ?_); conv => whnf) | ((first | refine Pick.dec (fun h => ?_) (fun h => ?_) | refine Pick.beq (fun h => ?_) (fun h => ?_) | refine Cond.dec (fun h => ?_) (fun h => ?_) | refine Cond.beq (fun h => ?_) (fun h => ?_) | refine Cond.nd (fun h => ?_) (fun h => ?_) | refine Pick.nd (fun h => ?_) (fun h => ?_) | refine Pick.mk (fun h => ?_) (fun h => ?_) | refine Cond.mk (fun h => ?_) (fun h => ?_)) <;> conv => whnf))
            rw [e1]
            apply hw [] [false, true, false, false, false, true, false, false, true, true, true] _ _ rfl
            exact imS.1 hn
        · by_cases hs0 : 0 ≤ s
          · have hc := hc hs0
            apply hs
            conv => whnf
            refine Cond.tt (decT (by omega)) ?_
            (conv => whnf) <;> repeat' (first | (rw [gk]; conv => whnf) | ((first | refine wN ?_ | refine wA ?_ | refine wB ?_ | refine wC ?_ | refine wD ?_ | refine vA ?_ | refine vB ?_ | refine vC ?_ | refine vD ?_ | refine uA ?_ | refine uB ?_ | refine uC ?_ | refine uD ?_); conv => whnf) | ((first | refine Pick.dec (fun h => ?_) (fun h => ?_) | refine Pick.beq (fun h => ?_) (fun h => ?_) | refine Cond.dec (fun h => ?_) (fun h => ?_) | refine Cond.beq (fun h => ?_) (fun h => ?_) | refine Cond.nd (fun h => ?_) (fun h => ?_) | refine Pick.nd (fun h => ?_) (fun h => ?_) | refine Pick.mk (fun h => ?_) (fun h => ?_) | refine Cond.mk (fun h => ?_) (fun h => ?_)) <;> conv => whnf))
            rw [e1]
            apply hw [0] [false, true, false, false, false, true, false, false, true, true, true] _ _ rfl
            exact imS.2 hn
          · apply hs
            conv => whnf
            refine Cond.tt (decT (by omega)) ?_
            (conv => whnf) <;> repeat' (first | (rw [gk]; conv => whnf) | ((first | refine wN ?_ | refine wA ?_ | refine wB ?_ | refine wC ?_ | refine wD ?_ | refine vA ?_ | refine vB ?_ | refine vC ?_ | refine vD ?_ | refine uA ?_ | refine uB ?_ | refine uC ?_ | refine uD ?_); conv => whnf) | ((first | refine Pick.dec (fun h => ?_) (fun h => ?_) | refine Pick.beq (fun h => ?_) (fun h => ?_) | refine Cond.dec (fun h => ?_) (fun h => ?_) | refine Cond.beq (fun h => ?_) (fun h => ?_) | refine Cond.nd (fun h => ?_) (fun h => ?_) | refine Pick.nd (fun h => ?_) (fun h => ?_) | refine Pick.mk (fun h => ?_) (fun h => ?_) | refine Cond.mk (fun h => ?_) (fun h => ?_)) <;> conv => whnf))
            rw [e1]
            apply hw [0] [false, true, false, false, false, true, false, false, true, true, true] _ _ rfl
            exact imS.2 hn
  apply hw [] [false, true, false, false, false, true, false, false, true, true, true] _ _ rfl
  exact (turn l.length 0 [] (by omega) (by simp) rfl).1 rfl
theorem kids_ret (l : List Se) (s : Int) (hl : l.length ≤ 64) : Ret Try.prog 95 [eL 5 cSe l, .int .i64 s] [] (eL 1 cI (kidsF l s)) [] := by
  by_cases he : kidsF l s = []
  · have h := kids_go l s hl .nils [] (fun _ => ⟨rfl, rfl⟩) (fun k => absurd he k)
    rw [he]
    exact h.leR le_nils
  · have h := kids_go l s hl _ _ (fun k => absurd k he) (fun _ => ⟨rfl, rfl⟩)
    exact h.lend ⟨rfl, Nat.le_refl _, Nat.le_refl _⟩ rfl
theorem kid_ret (l : List Se) (s : Int) (name : ByteArray) (hl : l.length ≤ 64) : Ret Try.prog 76 [eL 5 cSe l, .int .i64 s, .str name] [] (.tup [.int .i64 (kidF l s name).1, .bool (kidF l s name).2]) [] := by
  have hK := kids_ret l s hl
  have hlt : ∀ i ∈ kidsF l s, 0 ≤ i ∧ i.toNat < l.length := fun i hi => by
    have := kidsN_lt s 0 l i hi
    omega
  have hlen := kidsN_len s 0 l
  have hlen : (kidsF l s).length ≤ l.length := hlen
  have goal : ∀ r, kidF l s name = r → Ret Try.prog 76 [eL 5 cSe l, .int .i64 s, .str name] [] (.tup [.int .i64 r.1, .bool r.2]) [] := by
    intro r hr
    unfold kidF at hr
    generalize kidsF l s = ks at *
    refine ret_of_body atCalls tok mixed Try.func76 (by kernel_rfl) rfl (k := 27) (rs := [.tmp 6, .tmp 7]) (by kernel_rfl) (by kernel_rfl) ?_
    (conv => whnf) <;> repeat' (first | ((first | refine wN ?_ | refine wA ?_ | refine wB ?_ | refine wC ?_ | refine wD ?_ | refine Called.mk _ _ (hK) ?_ | refine vA ?_ | refine vB ?_ | refine vC ?_ | refine vD ?_ | refine uA ?_ | refine uB ?_ | refine uC ?_ | refine uD ?_); conv => whnf) | ((first | refine Pick.dec (fun h => ?_) (fun h => ?_) | refine Pick.beq (fun h => ?_) (fun h => ?_) | refine Cond.dec (fun h => ?_) (fun h => ?_) | refine Cond.beq (fun h => ?_) (fun h => ?_) | refine Cond.nd (fun h => ?_) (fun h => ?_) | refine Pick.nd (fun h => ?_) (fun h => ?_) | refine Pick.mk (fun h => ?_) (fun h => ?_) | refine Cond.mk (fun h => ?_) (fun h => ?_)) <;> conv => whnf))
    intro I hw hs
    have turn : ∀ (d k : Nat), k + d = ks.length → (match (ks.drop k).find? fun i => decide (((l[i.toNat]?).getD Se0).name = name) with | some i => (i, true) | none => (0, false)) = r →
        I [eL 5 cSe l, .und, .str name, .und, .und, .und, .und, .und, .und, .und, .und, .und, eL 1 cI ks, .int .i64 (ks.length : Int), .int .i64 (k : Int), .und, .und, .und, .und, .und, .und, .und, .und, .und, .und, .und, .und] [] := by
      intro d
      induction d with
      | zero =>
        intro k hk he
        rw [List.drop_of_length_le (by omega)] at he
        subst he
        apply hs
        conv => whnf
        refine Cond.ff (decF (by omega)) ?_
        (conv => whnf) <;> repeat' (first | ((first | refine wN ?_ | refine wA ?_ | refine wB ?_ | refine wC ?_ | refine wD ?_ | refine vA ?_ | refine vB ?_ | refine vC ?_ | refine vD ?_ | refine uA ?_ | refine uB ?_ | refine uC ?_ | refine uD ?_); conv => whnf) | ((first | refine Pick.dec (fun h => ?_) (fun h => ?_) | refine Pick.beq (fun h => ?_) (fun h => ?_) | refine Cond.dec (fun h => ?_) (fun h => ?_) | refine Cond.beq (fun h => ?_) (fun h => ?_) | refine Cond.nd (fun h => ?_) (fun h => ?_) | refine Pick.nd (fun h => ?_) (fun h => ?_) | refine Pick.mk (fun h => ?_) (fun h => ?_) | refine Cond.mk (fun h => ?_) (fun h => ?_)) <;> conv => whnf))
        exact End.mk rfl rfl
      | succ d im =>
        intro k hk he
        have hkl : k < ks.length := by omega
        have e1 : IntKind.i64.wrap ((k : Int) + 1) = ((k + 1 : Nat) : Int) := by rw [wi64_id (by omega) (by omega)]; omega
        have gk : getL cI ks (Int.toNat (k : Int)) = cI ks[k] := by rw [Int.toNat_natCast]; exact getL_at (List.getElem?_eq_getElem hkl)
        obtain ⟨hi0, hi1⟩ := hlt ks[k] (List.getElem_mem hkl)
        rw [List.drop_eq_getElem_cons hkl] at he
        generalize ks[k] = i at *
        have gl : getL cSe l i.toNat = cSe l[i.toNat] := getL_at (List.getElem?_eq_getElem hi1)
        have hname : ((l[i.toNat]?).getD Se0).name = (l[i.toNat]).name := by rw [List.getElem?_eq_getElem hi1]; rfl
        by_cases hn : (l[i.toNat]).name = name
        · rw [List.find?_cons_of_pos (by rw [hname]; simpa using hn)] at he
          subst he
          generalize l[i.toNat] = x at *
          have hq : (x.name.toList == name.toList) = true := by rw [toList_eq]; exact decide_eq_true hn
          apply hs
          conv => whnf
          refine Cond.tt (decT (by omega)) ?_
          (conv => whnf) <;> repeat' (first | ((conv => arg 1; whnf); rw [gk]; conv => whnf) | (rw [gk]; conv => whnf) | ((conv => arg 1; whnf); rw [gl]; conv => whnf) | (rw [gl]; conv => whnf) | (rw [hq]; conv => whnf) | ((first | refine wN ?_ | refine wA ?_ | refine wB ?_ | refine wC ?_ | refine wD ?_ | refine vA ?_ | refine vB ?_ | refine vC ?_ | refine vD ?_ | refine uA ?_ | refine uB ?_ | refine uC ?_ | refine uD ?_); conv => whnf) | ((first | refine Pick.dec (fun h => ?_) (fun h => ?_) | refine Pick.beq (fun h => ?_) (fun h => ?_) | refine Cond.dec (fun h => ?_) (fun h => ?_) | refine Cond.beq (fun h => ?_) (fun h => ?_) | refine Cond.nd (fun h => ?_) (fun h => ?_) | refine Pick.nd (fun h => ?_) (fun h => ?_) | refine Pick.mk (fun h => ?_) (fun h => ?_) | refine Cond.mk (fun h => ?_) (fun h => ?_)) <;> conv => whnf))
          exact End.mk rfl rfl
        · rw [List.find?_cons_of_neg (by rw [hname]; simpa using hn)] at he
          generalize l[i.toNat] = x at *
          have hq : (x.name.toList == name.toList) = false := by rw [toList_eq]; exact decide_eq_false hn
          apply hs
          conv => whnf
          refine Cond.tt (decT (by omega)) ?_
          (conv => whnf) <;> repeat' (first | ((conv => arg 1; whnf); rw [gk]; conv => whnf) | (rw [gk]; conv => whnf) | ((conv => arg 1; whnf); rw [gl]; conv => whnf) | (rw [gl]; conv => whnf) | (rw [hq]; conv => whnf) | ((first | refine wN ?_ | refine wA ?_ | refine wB ?_ | refine wC ?_ | refine wD ?_ | refine vA ?_ | refine vB ?_ | refine vC ?_ | refine vD ?_ | refine uA ?_ | refine uB ?_ | refine uC ?_ | refine uD ?_); conv => whnf) | ((first | refine Pick.dec (fun h => ?_) (fun h => ?_) | refine Pick.beq (fun h => ?_) (fun h => ?_) | refine Cond.dec (fun h => ?_) (fun h => ?_) | refine Cond.beq (fun h => ?_) (fun h => ?_) | refine Cond.nd (fun h => ?_) (fun h => ?_) | refine Pick.nd (fun h => ?_) (fun h => ?_) | refine Pick.mk (fun h => ?_) (fun h => ?_) | refine Cond.mk (fun h => ?_) (fun h => ?_)) <;> conv => whnf))
          rw [e1]
          apply hw [] [true, false, true, false, false, false, false, false, false, false, false, false, true, true, true] _ _ rfl
          exact im (k + 1) (by omega) he
    apply hw [] [true, false, true, false, false, false, false, false, false, false, false, false, true, true, true] _ _ rfl
    exact turn ks.length 0 (by omega) hr
  exact goal _ rfl
end Go.Proofs.Ytkglccolonpnlaa

set_option linter.unusedVariables false
set_option linter.unusedSimpArgs false
set_option maxRecDepth 100000
namespace Go.Proofs.Ytkglccolonpnlaa
open Go.AM
abbrev cAs (d : Df) (l : List Se) : List Val := [.str d.name, .str d.root.name, .int .i64 d.root.max, eL 23 cIt d.root.items, .ext 4 d.root.kids.length (Sc.rows d.root.kids), eL 2 cTb d.tabs, eL 19 cPg d.pages, eL 5 cSe l]
abbrev eAs (d : Df) (l : List Se) : Val := .agg (cAs d l)
abbrev cIt0 : List Val := [.str ByteArray.empty, .int .i64 0, .int .i64 0, .int .i64 0, .bool false, .int .i64 0, .int .i64 0, .int .i64 0, .str ByteArray.empty, .str ByteArray.empty, .int .i64 0, .bool false, .int .u64 0, .int .u64 0, .int .u64 0, .int .u64 0, .int .i64 0, .bool false, .str ByteArray.empty, .int .i64 0, .int .i64 0, .int .i64 0, .nils]
def rdV (o : Option It) : Val := match o with
  | some i => .tup [.agg (cIt i), .bool true]
  | none => .tup [.agg cIt0, .bool false]
theorem readable_ret (d : Df) (l : List Se) (s : Int) (name : ByteArray) (x : Se) (hx : seAt l s = some x) (hl : l.length ≤ 64) (hi : x.items.length ≤ maxLen) :
    Ret Try.prog 77 [eAs d l, .int .i64 s, .str name] [] (rdV (x.items.find? fun i => decide (i.reads name))) [] := by
  have hm : maxLen ≤ 9223372036854775807 := by decide
  have h0 : 0 ≤ s := by
    rcases Int.lt_or_le s 0 with h | h
    · rw [seAt_none (.inl h)] at hx; cases hx
    · exact h
  have h1 : s.toNat < l.length := by
    rcases Nat.lt_or_ge s.toNat l.length with h | h
    · exact h
    · rw [seAt_none (.inr (by omega))] at hx; cases hx
  rw [seAt_some h0 h1] at hx
  have gk : getL cSe l s.toNat = cSe x := by rw [getL_at (List.getElem?_eq_getElem h1)]; injection hx with e; rw [e]
  have goal : ∀ r, (x.items.find? fun i => decide (i.reads name)) = r → Ret Try.prog 77 [eAs d l, .int .i64 s, .str name] [] (rdV r) [] := by
    intro r hr
    refine ret_of_body atNone tok mixed Try.func77 (by kernel_rfl) rfl (k := 38) (rs := [.cell 6 56, .tmp 7]) (by kernel_rfl) (by kernel_rfl) ?_
    (conv => whnf) <;> repeat' (first | (rw [gk]; conv => whnf) | ((first | refine wN ?_ | refine wA ?_ | refine wB ?_ | refine wC ?_ | refine wD ?_ | refine vA ?_ | refine vB ?_ | refine vC ?_ | refine vD ?_ | refine uA ?_ | refine uB ?_ | refine uC ?_ | refine uD ?_); conv => whnf) | ((first | refine Pick.dec (fun h => ?_) (fun h => ?_) | refine Pick.beq (fun h => ?_) (fun h => ?_) | refine Cond.dec (fun h => ?_) (fun h => ?_) | refine Cond.beq (fun h => ?_) (fun h => ?_) | refine Cond.nd (fun h => ?_) (fun h => ?_) | refine Pick.nd (fun h => ?_) (fun h => ?_) | refine Pick.mk (fun h => ?_) (fun h => ?_) | refine Cond.mk (fun h => ?_) (fun h => ?_)) <;> conv => whnf))
    intro I hw hs
    have turn : ∀ (e k : Nat), k + e = x.items.length → ((x.items.drop k).find? fun i => decide (i.reads name)) = r →
        I [.und, .und, .str name, .und, .und, .und, .ptr 0 0, .und, .und, .und, .und, .und, .und, .und, .und, eL 23 cIt x.items, .int .i64 (x.items.length : Int), .int .i64 (k : Int), .und, .und, .und, .und, .und, .und, .und, .und, .und, .und, .und, .und, .und, .und, .und, .und, .und, .und, .und, .und] [.cells cIt0] := by
      intro e
      induction e with
      | zero =>
        intro k hk he
        rw [List.drop_of_length_le (by omega)] at he
        subst he
        apply hs
        conv => whnf
        refine Cond.ff (decF (by omega)) ?_
        (conv => whnf) <;> repeat' (first | ((first | refine wN ?_ | refine wA ?_ | refine wB ?_ | refine wC ?_ | refine wD ?_ | refine vA ?_ | refine vB ?_ | refine vC ?_ | refine vD ?_ | refine uA ?_ | refine uB ?_ | refine uC ?_ | refine uD ?_); conv => whnf) | ((first | refine Pick.dec (fun h => ?_) (fun h => ?_) | refine Pick.beq (fun h => ?_) (fun h => ?_) | refine Cond.dec (fun h => ?_) (fun h => ?_) | refine Cond.beq (fun h => ?_) (fun h => ?_) | refine Cond.nd (fun h => ?_) (fun h => ?_) | refine Pick.nd (fun h => ?_) (fun h => ?_) | refine Pick.mk (fun h => ?_) (fun h => ?_) | refine Cond.mk (fun h => ?_) (fun h => ?_)) <;> conv => whnf))
        exact End.mk rfl rfl
      | succ e im =>
        intro k hk he
        have hkl : k < x.items.length := by omega
        have e1 : IntKind.i64.wrap ((k : Int) + 1) = ((k + 1 : Nat) : Int) := by rw [wi64_id (by omega) (by omega)]; omega
        have gl : getL cIt x.items (Int.toNat (k : Int)) = cIt x.items[k] := by rw [Int.toNat_natCast]; exact getL_at (List.getElem?_eq_getElem hkl)
        rw [List.drop_eq_getElem_cons hkl] at he
        generalize x.items[k] = i at *
        have kinds : (i.reads name ∧ (i.kind = 1 ∨ i.kind = 2)) ∨ (¬ i.reads name ∧ i.name = name ∧ ¬ i.kind = 1 ∧ ¬ i.kind = 2) ∨ (¬ i.reads name ∧ i.name ≠ name) := by
          by_cases hn : i.name = name
          · by_cases hk : i.kind = 1 ∨ i.kind = 2
            · exact .inl ⟨⟨hn, hk⟩, hk⟩
            · exact .inr (.inl ⟨fun h => hk h.2, hn, fun h => hk (.inl h), fun h => hk (.inr h)⟩)
          · exact .inr (.inr ⟨fun h => hn h.1, hn⟩)
        rcases kinds with ⟨hR, hk2⟩ | ⟨hR, hn, hk1, hk2⟩ | ⟨hR, hn⟩
        · rw [List.find?_cons_of_pos (by simpa using hR)] at he
          subst he
          have hq : (i.name.toList == name.toList) = true := by rw [toList_eq]; exact decide_eq_true hR.1
          apply hs
          conv => whnf
          refine Cond.tt (decT (by omega)) ?_
          rcases hk2 with hk2 | hk2
          all_goals
            (conv => whnf) <;> repeat' (first | ((conv => arg 1; whnf); rw [gl]; conv => whnf) | (rw [gl]; conv => whnf) | (rw [hq]; conv => whnf) | ((first | refine wN ?_ | refine wA ?_ | refine wB ?_ | refine wC ?_ | refine wD ?_ | refine vA ?_ | refine vB ?_ | refine vC ?_ | refine vD ?_ | refine uA ?_ | refine uB ?_ | refine uC ?_ | refine uD ?_); conv => whnf) | ((first | refine Pick.dec (fun h => ?_) (fun h => ?_) | refine Pick.beq (fun h => ?_) (fun h => ?_) | refine Cond.dec (fun h => ?_) (fun h => ?_) | refine Cond.beq (fun h => ?_) (fun h => ?_) | refine Cond.nd (fun h => ?_) (fun h => ?_) | refine Pick.nd (fun h => ?_) (fun h => ?_) | refine Pick.mk (fun h => ?_) (fun h => ?_) | refine Cond.mk (fun h => ?_) (fun h => ?_)) <;> conv => whnf))
            exact End.mk rfl rfl
        · rw [List.find?_cons_of_neg (by simpa using hR)] at he
          have hq : (i.name.toList == name.toList) = true := by rw [toList_eq]; exact decide_eq_true hn
          apply hs
          conv => whnf
          refine Cond.tt (decT (by omega)) ?_
          (conv => whnf) <;> repeat' (first | ((conv => arg 1; whnf); rw [gl]; conv => whnf) | (rw [gl]; conv => whnf) | (rw [hq]; conv => whnf) | ((first | refine wN ?_ | refine wA ?_ | refine wB ?_ | refine wC ?_ | refine wD ?_ | refine vA ?_ | refine vB ?_ | refine vC ?_ | refine vD ?_ | refine uA ?_ | refine uB ?_ | refine uC ?_ | refine uD ?_); conv => whnf) | ((first | refine Pick.dec (fun h => ?_) (fun h => ?_) | refine Pick.beq (fun h => ?_) (fun h => ?_) | refine Cond.dec (fun h => ?_) (fun h => ?_) | refine Cond.beq (fun h => ?_) (fun h => ?_) | refine Cond.nd (fun h => ?_) (fun h => ?_) | refine Pick.nd (fun h => ?_) (fun h => ?_) | refine Pick.mk (fun h => ?_) (fun h => ?_) | refine Cond.mk (fun h => ?_) (fun h => ?_)) <;> conv => whnf))
          rw [e1]
          apply hw [0] [false, false, true, false, false, false, true, false, false, false, false, false, false, false, false, true, true, true] _ _ rfl
          exact im (k + 1) (by omega) he
        · rw [List.find?_cons_of_neg (by simpa using hR)] at he
          have hq : (i.name.toList == name.toList) = false := by rw [toList_eq]; exact decide_eq_false hn
          apply hs
          conv => whnf
          refine Cond.tt (decT (by omega)) ?_
          (conv => whnf) <;> repeat' (first | ((conv => arg 1; whnf); rw [gl]; conv => whnf) | (rw [gl]; conv => whnf) | (rw [hq]; conv => whnf) | ((first | refine wN ?_ | refine wA ?_ | refine wB ?_ | refine wC ?_ | refine wD ?_ | refine vA ?_ | refine vB ?_ | refine vC ?_ | refine vD ?_ | refine uA ?_ | refine uB ?_ | refine uC ?_ | refine uD ?_); conv => whnf) | ((first | refine Pick.dec (fun h => ?_) (fun h => ?_) | refine Pick.beq (fun h => ?_) (fun h => ?_) | refine Cond.dec (fun h => ?_) (fun h => ?_) | refine Cond.beq (fun h => ?_) (fun h => ?_) | refine Cond.nd (fun h => ?_) (fun h => ?_) | refine Pick.nd (fun h => ?_) (fun h => ?_) | refine Pick.mk (fun h => ?_) (fun h => ?_) | refine Cond.mk (fun h => ?_) (fun h => ?_)) <;> conv => whnf))
          rw [e1]
          apply hw [0] [false, false, true, false, false, false, true, false, false, false, false, false, false, false, false, true, true, true] _ _ rfl
          exact im (k + 1) (by omega) he
    apply hw [1] [false, false, true, false, false, false, true, false, false, false, false, false, false, false, false, true, true, true] _ _ rfl
    exact turn x.items.length 0 (by omega) hr
  exact goal _ rfl
theorem name_ret (d : Df) (l : List Se) (sec : Int) (k o : Int) (n s : ByteArray) (v : Vl) (sc p : Int) (a : List Xp) (hl : l.length ≤ 64) (hi : ∀ x ∈ l, x.items.length ≤ maxLen) :
    Ret Try.prog 50 [eAs d l, .int .i64 sec, eE (.mk k o n s v sc p a)] [] (.tup [.int .i64 (nameF l sec n a.length).1, .int .i64 (nameF l sec n a.length).2]) [] := by
  have hf := find_ret l sec n hl hi
  have ht := findF_true (l := l) (name := n) (s := sec)
  rw [cE_mk]
  unfold nameF
  generalize findF l sec n = r at *
  obtain ⟨s1, i1, b1⟩ := r
  simp only at hf ht ⊢
  by_cases hb : b1 = true
  · subst hb
    obtain ⟨x, it, h1, h2, h3, h4⟩ := ht rfl
    rw [h4, if_pos rfl]
    have h0 : 0 ≤ s1 := by
      rcases Int.lt_or_le s1 0 with h | h
      · rw [seAt_none (.inl h)] at h1; cases h1
      · exact h
    have hl1 : s1.toNat < l.length := by
      rcases Nat.lt_or_ge s1.toNat l.length with h | h
      · exact h
      · rw [seAt_none (.inr (by omega))] at h1; cases h1
    rw [seAt_some h0 hl1] at h1
    have gk : getL cSe l s1.toNat = cSe x := by rw [getL_at (List.getElem?_eq_getElem hl1)]; injection h1 with e; rw [e]
    have gl : getL cIt x.items i1.toNat = cIt it := getL_at h3
    have hi1 : i1.toNat < x.items.length := by
      rcases Nat.lt_or_ge i1.toNat x.items.length with h | h
      · exact h
      · rw [List.getElem?_eq_none h] at h3; cases h3
    have hT := tType_ret it.tk it.ts
    generalize typeE it.tk it.ts = te at *
    by_cases ha : a.length = 0
    · by_cases hte : te = 0
      · rw [if_neg (by simp [ha, hte])]
        refine ret_of_body atCalls tok mixed Try.func50 (by kernel_rfl) rfl (k := 54) (rs := [.tmp 6, .tmp 7]) (by kernel_rfl) (by kernel_rfl) ?_
        (conv => whnf) <;> repeat' (first | (rw [gk]; conv => whnf) | (rw [gl]; conv => whnf) | ((first | refine wN ?_ | refine wA ?_ | refine wB ?_ | refine wC ?_ | refine wD ?_ | refine Called.mk _ _ (hf) ?_ | refine Called.mk _ _ (hT) ?_ | refine vA ?_ | refine vB ?_ | refine vC ?_ | refine vD ?_ | refine uA ?_ | refine uB ?_ | refine uC ?_ | refine uD ?_); conv => whnf) | ((first | refine Pick.dec (fun h => ?_) (fun h => ?_) | refine Pick.beq (fun h => ?_) (fun h => ?_) | refine Cond.dec (fun h => ?_) (fun h => ?_) | refine Cond.beq (fun h => ?_) (fun h => ?_) | refine Cond.nd (fun h => ?_) (fun h => ?_) | refine Pick.nd (fun h => ?_) (fun h => ?_) | refine Pick.mk (fun h => ?_) (fun h => ?_) | refine Cond.mk (fun h => ?_) (fun h => ?_)) <;> conv => whnf))
        exact End.mk rfl rfl
      · rw [if_pos (.inr hte)]
        refine ret_of_body atCalls tok mixed Try.func50 (by kernel_rfl) rfl (k := 54) (rs := [.tmp 6, .tmp 7]) (by kernel_rfl) (by kernel_rfl) ?_
        (conv => whnf) <;> repeat' (first | (rw [gk]; conv => whnf) | (rw [gl]; conv => whnf) | ((first | refine wN ?_ | refine wA ?_ | refine wB ?_ | refine wC ?_ | refine wD ?_ | refine Called.mk _ _ (hf) ?_ | refine Called.mk _ _ (hT) ?_ | refine vA ?_ | refine vB ?_ | refine vC ?_ | refine vD ?_ | refine uA ?_ | refine uB ?_ | refine uC ?_ | refine uD ?_); conv => whnf) | ((first | refine Pick.dec (fun h => ?_) (fun h => ?_) | refine Pick.beq (fun h => ?_) (fun h => ?_) | refine Cond.dec (fun h => ?_) (fun h => ?_) | refine Cond.beq (fun h => ?_) (fun h => ?_) | refine Cond.nd (fun h => ?_) (fun h => ?_) | refine Pick.nd (fun h => ?_) (fun h => ?_) | refine Pick.mk (fun h => ?_) (fun h => ?_) | refine Cond.mk (fun h => ?_) (fun h => ?_)) <;> conv => whnf))
        exact End.mk rfl rfl
    · rw [if_pos (.inl ha)]
      refine ret_of_body atCalls tok mixed Try.func50 (by kernel_rfl) rfl (k := 54) (rs := [.tmp 6, .tmp 7]) (by kernel_rfl) (by kernel_rfl) ?_
      (conv => whnf) <;> repeat' (first | (rw [gk]; conv => whnf) | (rw [gl]; conv => whnf) | ((first | refine wN ?_ | refine wA ?_ | refine wB ?_ | refine wC ?_ | refine wD ?_ | refine Called.mk _ _ (hf) ?_ | refine Called.mk _ _ (hT) ?_ | refine vA ?_ | refine vB ?_ | refine vC ?_ | refine vD ?_ | refine uA ?_ | refine uB ?_ | refine uC ?_ | refine uD ?_); conv => whnf) | ((first | refine Pick.dec (fun h => ?_) (fun h => ?_) | refine Pick.beq (fun h => ?_) (fun h => ?_) | refine Cond.dec (fun h => ?_) (fun h => ?_) | refine Cond.beq (fun h => ?_) (fun h => ?_) | refine Cond.nd (fun h => ?_) (fun h => ?_) | refine Pick.nd (fun h => ?_) (fun h => ?_) | refine Pick.mk (fun h => ?_) (fun h => ?_) | refine Cond.mk (fun h => ?_) (fun h => ?_)) <;> conv => whnf))
      exact End.mk rfl rfl
  · have hb : b1 = false := by simpa using hb
    subst hb
    rw [if_neg (by simp)]
    refine ret_of_body atCalls tok mixed Try.func50 (by kernel_rfl) rfl (k := 54) (rs := [.tmp 6, .tmp 7]) (by kernel_rfl) (by kernel_rfl) ?_
    (conv => whnf) <;> repeat' (first | ((first | refine wN ?_ | refine wA ?_ | refine wB ?_ | refine wC ?_ | refine wD ?_ | refine Called.mk _ _ (hf) ?_ | refine vA ?_ | refine vB ?_ | refine vC ?_ | refine vD ?_ | refine uA ?_ | refine uB ?_ | refine uC ?_ | refine uD ?_); conv => whnf) | ((first | refine Pick.dec (fun h => ?_) (fun h => ?_) | refine Pick.beq (fun h => ?_) (fun h => ?_) | refine Cond.dec (fun h => ?_) (fun h => ?_) | refine Cond.beq (fun h => ?_) (fun h => ?_) | refine Cond.nd (fun h => ?_) (fun h => ?_) | refine Pick.nd (fun h => ?_) (fun h => ?_) | refine Pick.mk (fun h => ?_) (fun h => ?_) | refine Cond.mk (fun h => ?_) (fun h => ?_)) <;> conv => whnf))
    exact End.mk rfl rfl
theorem rdAt_eq {l : List Se} {s : Int} {x : Se} {name : ByteArray} (h : seAt l s = some x) : rdAt l s name = x.items.find? fun i => decide (i.reads name) := by
  unfold rdAt; rw [h]; rfl
theorem unk_ret (d : Df) (l : List Se) (sec : Int) (k o : Int) (n s : ByteArray) (v : Vl) (sc p : Int) (a : List Xp) (hl : l.length ≤ 64) (hi : ∀ x ∈ l, x.items.length ≤ maxLen) :
    Ret Try.prog 75 [eAs d l, .int .i64 sec, eE (.mk k o n s v sc p a)] [] (.tup [.int .i64 (unkF l sec o n s).1, .int .i64 (unkF l sec o n s).2]) [] := by
  have hk := kid_ret l sec s hl
  have ht := kidF_true (l := l) (s := sec) (name := s)
  rw [cE_mk]
  unfold unkF
  generalize kidF l sec s = r at *
  obtain ⟨s1, b1⟩ := r
  simp only at hk ht ⊢
  by_cases hb : b1 = true
  · subst hb
    obtain ⟨x, hx, h1⟩ := ht rfl
    have hr := readable_ret d l s1 n x h1 hl (hi x hx)
    rw [if_pos rfl, rdAt_eq h1]
    generalize (x.items.find? fun i => decide (i.reads n)) = q at *
    cases q with
    | none =>
      by_cases ho : o = 16
      · rw [if_neg (by simp [ho])]
        refine ret_of_body atCalls tok mixed Try.func75 (by kernel_rfl) rfl (k := 38) (rs := [.tmp 6, .tmp 7]) (by kernel_rfl) (by kernel_rfl) ?_
        (conv => whnf) <;> repeat' (first | ((first | refine wN ?_ | refine wA ?_ | refine wB ?_ | refine wC ?_ | refine wD ?_ | refine Called.mk _ _ (hk) ?_ | refine Called.mk _ _ (hr) ?_ | refine vA ?_ | refine vB ?_ | refine vC ?_ | refine vD ?_ | refine uA ?_ | refine uB ?_ | refine uC ?_ | refine uD ?_); conv => whnf) | ((first | refine Pick.dec (fun h => ?_) (fun h => ?_) | refine Pick.beq (fun h => ?_) (fun h => ?_) | refine Cond.dec (fun h => ?_) (fun h => ?_) | refine Cond.beq (fun h => ?_) (fun h => ?_) | refine Cond.nd (fun h => ?_) (fun h => ?_) | refine Pick.nd (fun h => ?_) (fun h => ?_) | refine Pick.mk (fun h => ?_) (fun h => ?_) | refine Cond.mk (fun h => ?_) (fun h => ?_)) <;> conv => whnf))
        exact End.mk rfl rfl
      · rw [if_pos ⟨rfl, ho⟩]
        refine ret_of_body atCalls tok mixed Try.func75 (by kernel_rfl) rfl (k := 38) (rs := [.tmp 6, .tmp 7]) (by kernel_rfl) (by kernel_rfl) ?_
        (conv => whnf) <;> repeat' (first | ((first | refine wN ?_ | refine wA ?_ | refine wB ?_ | refine wC ?_ | refine wD ?_ | refine Called.mk _ _ (hk) ?_ | refine Called.mk _ _ (hr) ?_ | refine vA ?_ | refine vB ?_ | refine vC ?_ | refine vD ?_ | refine uA ?_ | refine uB ?_ | refine uC ?_ | refine uD ?_); conv => whnf) | ((first | refine Pick.dec (fun h => ?_) (fun h => ?_) | refine Pick.beq (fun h => ?_) (fun h => ?_) | refine Cond.dec (fun h => ?_) (fun h => ?_) | refine Cond.beq (fun h => ?_) (fun h => ?_) | refine Cond.nd (fun h => ?_) (fun h => ?_) | refine Pick.nd (fun h => ?_) (fun h => ?_) | refine Pick.mk (fun h => ?_) (fun h => ?_) | refine Cond.mk (fun h => ?_) (fun h => ?_)) <;> conv => whnf))
        exact End.mk rfl rfl
    | some it =>
      rw [if_neg (by simp)]
      refine ret_of_body atCalls tok mixed Try.func75 (by kernel_rfl) rfl (k := 38) (rs := [.tmp 6, .tmp 7]) (by kernel_rfl) (by kernel_rfl) ?_
      (conv => whnf) <;> repeat' (first | ((first | refine wN ?_ | refine wA ?_ | refine wB ?_ | refine wC ?_ | refine wD ?_ | refine Called.mk _ _ (hk) ?_ | refine Called.mk _ _ (hr) ?_ | refine vA ?_ | refine vB ?_ | refine vC ?_ | refine vD ?_ | refine uA ?_ | refine uB ?_ | refine uC ?_ | refine uD ?_); conv => whnf) | ((first | refine Pick.dec (fun h => ?_) (fun h => ?_) | refine Pick.beq (fun h => ?_) (fun h => ?_) | refine Cond.dec (fun h => ?_) (fun h => ?_) | refine Cond.beq (fun h => ?_) (fun h => ?_) | refine Cond.nd (fun h => ?_) (fun h => ?_) | refine Pick.nd (fun h => ?_) (fun h => ?_) | refine Pick.mk (fun h => ?_) (fun h => ?_) | refine Cond.mk (fun h => ?_) (fun h => ?_)) <;> conv => whnf))
      exact End.mk rfl rfl
  · have hb : b1 = false := by simpa using hb
    subst hb
    rw [if_neg (by simp)]
    refine ret_of_body atCalls tok mixed Try.func75 (by kernel_rfl) rfl (k := 38) (rs := [.tmp 6, .tmp 7]) (by kernel_rfl) (by kernel_rfl) ?_
    (conv => whnf) <;> repeat' (first | ((first | refine wN ?_ | refine wA ?_ | refine wB ?_ | refine wC ?_ | refine wD ?_ | refine Called.mk _ _ (hk) ?_ | refine vA ?_ | refine vB ?_ | refine vC ?_ | refine vD ?_ | refine uA ?_ | refine uB ?_ | refine uC ?_ | refine uD ?_); conv => whnf) | ((first | refine Pick.dec (fun h => ?_) (fun h => ?_) | refine Pick.beq (fun h => ?_) (fun h => ?_) | refine Cond.dec (fun h => ?_) (fun h => ?_) | refine Cond.beq (fun h => ?_) (fun h => ?_) | refine Cond.nd (fun h => ?_) (fun h => ?_) | refine Pick.nd (fun h => ?_) (fun h => ?_) | refine Pick.mk (fun h => ?_) (fun h => ?_) | refine Cond.mk (fun h => ?_) (fun h => ?_)) <;> conv => whnf))
    exact End.mk rfl rfl
set_option maxHeartbeats 4000000 in
theorem agg_ret (d : Df) (l : List Se) (sec : Int) (k o : Int) (n s : ByteArray) (v : Vl) (sc p : Int) (a : List Xp) (hl : l.length ≤ 64) (hi : ∀ x ∈ l, x.items.length ≤ maxLen) :
    Ret Try.prog 54 [eAs d l, .int .i64 sec, eE (.mk k o n s v sc p a)] [] (.tup [.int .i64 (aggF l sec o n s a.length).1, .int .i64 (aggF l sec o n s a.length).2]) [] := by
  have hu := unk_ret d l sec k o n s v sc p a hl hi
  by_cases hb : o < 12 ∨ 16 < o ∨ a.length ≠ 0
  · have e : aggF l sec o n s a.length = unkF l sec o n s := if_pos hb
    rw [e]
    rw [cE_mk] at hu ⊢
    generalize unkF l sec o n s = r at *
    refine ret_of_body atCalls tok mixed Try.func54 (by kernel_rfl) rfl (k := 69) (rs := [.tmp 6, .tmp 7]) (by kernel_rfl) (by kernel_rfl) ?_
    (conv => whnf) <;> repeat' (first | ((first | refine wN ?_ | refine wA ?_ | refine wB ?_ | refine wC ?_ | refine wD ?_ | refine Called.mk _ _ (hu) ?_ | refine vA ?_ | refine vB ?_ | refine vC ?_ | refine vD ?_ | refine uA ?_ | refine uB ?_ | refine uC ?_ | refine uD ?_); conv => whnf) | ((first | refine Pick.dec (fun h => ?_) (fun h => ?_) | refine Pick.beq (fun h => ?_) (fun h => ?_) | refine Cond.dec (fun h => ?_) (fun h => ?_) | refine Cond.beq (fun h => ?_) (fun h => ?_) | refine Cond.nd (fun h => ?_) (fun h => ?_) | refine Pick.nd (fun h => ?_) (fun h => ?_) | refine Pick.mk (fun h => ?_) (fun h => ?_) | refine Cond.mk (fun h => ?_) (fun h => ?_)) <;> conv => whnf))
    all_goals exact End.mk rfl rfl
  · clear hu
    have hk := kid_ret l sec s hl
    have ht := kidF_true (l := l) (s := sec) (name := s)
    have e : aggF l sec o n s a.length = _ := if_neg hb
    rw [e, cE_mk]
    generalize kidF l sec s = r at *
    obtain ⟨s1, b1⟩ := r
    simp only at hk ht ⊢
    by_cases hb1 : b1 = true
    · subst hb1
      obtain ⟨x, hx, h1⟩ := ht rfl
      have hr := readable_ret d l s1 n x h1 hl (hi x hx)
      rw [if_pos rfl]
      by_cases ho : o = 16
      · rw [if_pos ho]
        by_cases hn : n = ByteArray.empty
        · have f : (!(n.toList == ByteArray.empty.toList)) = false := by rw [toList_eq, decide_eq_true hn]; rfl
          rw [if_neg (fun h => h hn)]
          refine ret_of_body atCalls tok mixed Try.func54 (by kernel_rfl) rfl (k := 69) (rs := [.tmp 6, .tmp 7]) (by kernel_rfl) (by kernel_rfl) ?_
          (conv => whnf) <;> repeat' (first | (rw [f]; conv => whnf) | ((first | refine wN ?_ | refine wA ?_ | refine wB ?_ | refine wC ?_ | refine wD ?_ | refine Called.mk _ _ (hk) ?_ | refine vA ?_ | refine vB ?_ | refine vC ?_ | refine vD ?_ | refine uA ?_ | refine uB ?_ | refine uC ?_ | refine uD ?_); conv => whnf) | ((first | refine Pick.dec (fun h => ?_) (fun h => ?_) | refine Pick.beq (fun h => ?_) (fun h => ?_) | refine Cond.dec (fun h => ?_) (fun h => ?_) | refine Cond.beq (fun h => ?_) (fun h => ?_) | refine Cond.nd (fun h => ?_) (fun h => ?_) | refine Pick.nd (fun h => ?_) (fun h => ?_) | refine Pick.mk (fun h => ?_) (fun h => ?_) | refine Cond.mk (fun h => ?_) (fun h => ?_)) <;> conv => whnf))
          exact End.mk rfl rfl
        · have f : (!(n.toList == ByteArray.empty.toList)) = true := by rw [toList_eq, decide_eq_false hn]; rfl
          rw [if_pos hn]
          refine ret_of_body atCalls tok mixed Try.func54 (by kernel_rfl) rfl (k := 69) (rs := [.tmp 6, .tmp 7]) (by kernel_rfl) (by kernel_rfl) ?_
          (conv => whnf) <;> repeat' (first | (rw [f]; conv => whnf) | ((first | refine wN ?_ | refine wA ?_ | refine wB ?_ | refine wC ?_ | refine wD ?_ | refine Called.mk _ _ (hk) ?_ | refine vA ?_ | refine vB ?_ | refine vC ?_ | refine vD ?_ | refine uA ?_ | refine uB ?_ | refine uC ?_ | refine uD ?_); conv => whnf) | ((first | refine Pick.dec (fun h => ?_) (fun h => ?_) | refine Pick.beq (fun h => ?_) (fun h => ?_) | refine Cond.dec (fun h => ?_) (fun h => ?_) | refine Cond.beq (fun h => ?_) (fun h => ?_) | refine Cond.nd (fun h => ?_) (fun h => ?_) | refine Pick.nd (fun h => ?_) (fun h => ?_) | refine Pick.mk (fun h => ?_) (fun h => ?_) | refine Cond.mk (fun h => ?_) (fun h => ?_)) <;> conv => whnf))
          exact End.mk rfl rfl
      · rw [if_neg ho, rdAt_eq h1]
        generalize (x.items.find? fun i => decide (i.reads n)) = q at *
        cases q with
        | none =>
          refine ret_of_body atCalls tok mixed Try.func54 (by kernel_rfl) rfl (k := 69) (rs := [.tmp 6, .tmp 7]) (by kernel_rfl) (by kernel_rfl) ?_
          (conv => whnf) <;> repeat' (first | ((first | refine wN ?_ | refine wA ?_ | refine wB ?_ | refine wC ?_ | refine wD ?_ | refine Called.mk _ _ (hk) ?_ | refine Called.mk _ _ (hr) ?_ | refine vA ?_ | refine vB ?_ | refine vC ?_ | refine vD ?_ | refine uA ?_ | refine uB ?_ | refine uC ?_ | refine uD ?_); conv => whnf) | ((first | refine Pick.dec (fun h => ?_) (fun h => ?_) | refine Pick.beq (fun h => ?_) (fun h => ?_) | refine Cond.dec (fun h => ?_) (fun h => ?_) | refine Cond.beq (fun h => ?_) (fun h => ?_) | refine Cond.nd (fun h => ?_) (fun h => ?_) | refine Pick.nd (fun h => ?_) (fun h => ?_) | refine Pick.mk (fun h => ?_) (fun h => ?_) | refine Cond.mk (fun h => ?_) (fun h => ?_)) <;> conv => whnf))
          exact End.mk rfl rfl
        | some it =>
          simp only
          by_cases h13 : o = 13
          · rw [if_neg (fun h => h.1 h13)]
            refine ret_of_body atCalls tok mixed Try.func54 (by kernel_rfl) rfl (k := 69) (rs := [.tmp 6, .tmp 7]) (by kernel_rfl) (by kernel_rfl) ?_
            (conv => whnf) <;> repeat' (first | ((first | refine wN ?_ | refine wA ?_ | refine wB ?_ | refine wC ?_ | refine wD ?_ | refine Called.mk _ _ (hk) ?_ | refine Called.mk _ _ (hr) ?_ | refine vA ?_ | refine vB ?_ | refine vC ?_ | refine vD ?_ | refine uA ?_ | refine uB ?_ | refine uC ?_ | refine uD ?_); conv => whnf) | ((first | refine Pick.dec (fun h => ?_) (fun h => ?_) | refine Pick.beq (fun h => ?_) (fun h => ?_) | refine Cond.dec (fun h => ?_) (fun h => ?_) | refine Cond.beq (fun h => ?_) (fun h => ?_) | refine Cond.nd (fun h => ?_) (fun h => ?_) | refine Pick.nd (fun h => ?_) (fun h => ?_) | refine Pick.mk (fun h => ?_) (fun h => ?_) | refine Cond.mk (fun h => ?_) (fun h => ?_)) <;> conv => whnf))
            exact End.mk rfl rfl
          · by_cases h1' : it.tk = 1
            · rw [if_neg (fun h => h.2 h1')]
              refine ret_of_body atCalls tok mixed Try.func54 (by kernel_rfl) rfl (k := 69) (rs := [.tmp 6, .tmp 7]) (by kernel_rfl) (by kernel_rfl) ?_
              (conv => whnf) <;> repeat' (first | ((first | refine wN ?_ | refine wA ?_ | refine wB ?_ | refine wC ?_ | refine wD ?_ | refine Called.mk _ _ (hk) ?_ | refine Called.mk _ _ (hr) ?_ | refine vA ?_ | refine vB ?_ | refine vC ?_ | refine vD ?_ | refine uA ?_ | refine uB ?_ | refine uC ?_ | refine uD ?_); conv => whnf) | ((first | refine Pick.dec (fun h => ?_) (fun h => ?_) | refine Pick.beq (fun h => ?_) (fun h => ?_) | refine Cond.dec (fun h => ?_) (fun h => ?_) | refine Cond.beq (fun h => ?_) (fun h => ?_) | refine Cond.nd (fun h => ?_) (fun h => ?_) | refine Pick.nd (fun h => ?_) (fun h => ?_) | refine Pick.mk (fun h => ?_) (fun h => ?_) | refine Cond.mk (fun h => ?_) (fun h => ?_)) <;> conv => whnf))
              exact End.mk rfl rfl
            · rw [if_pos ⟨h13, h1'⟩]
              refine ret_of_body atCalls tok mixed Try.func54 (by kernel_rfl) rfl (k := 69) (rs := [.tmp 6, .tmp 7]) (by kernel_rfl) (by kernel_rfl) ?_
              (conv => whnf) <;> repeat' (first | ((first | refine wN ?_ | refine wA ?_ | refine wB ?_ | refine wC ?_ | refine wD ?_ | refine Called.mk _ _ (hk) ?_ | refine Called.mk _ _ (hr) ?_ | refine vA ?_ | refine vB ?_ | refine vC ?_ | refine vD ?_ | refine uA ?_ | refine uB ?_ | refine uC ?_ | refine uD ?_); conv => whnf) | ((first | refine Pick.dec (fun h => ?_) (fun h => ?_) | refine Pick.beq (fun h => ?_) (fun h => ?_) | refine Cond.dec (fun h => ?_) (fun h => ?_) | refine Cond.beq (fun h => ?_) (fun h => ?_) | refine Cond.nd (fun h => ?_) (fun h => ?_) | refine Pick.nd (fun h => ?_) (fun h => ?_) | refine Pick.mk (fun h => ?_) (fun h => ?_) | refine Cond.mk (fun h => ?_) (fun h => ?_)) <;> conv => whnf))
              exact End.mk rfl rfl
    · have hb1 : b1 = false := by simpa using hb1
      subst hb1
      rw [if_neg (by simp)]
      refine ret_of_body atCalls tok mixed Try.func54 (by kernel_rfl) rfl (k := 69) (rs := [.tmp 6, .tmp 7]) (by kernel_rfl) (by kernel_rfl) ?_
      (conv => whnf) <;> repeat' (first | ((first | refine wN ?_ | refine wA ?_ | refine wB ?_ | refine wC ?_ | refine wD ?_ | refine Called.mk _ _ (hk) ?_ | refine vA ?_ | refine vB ?_ | refine vC ?_ | refine vD ?_ | refine uA ?_ | refine uB ?_ | refine uC ?_ | refine uD ?_); conv => whnf) | ((first | refine Pick.dec (fun h => ?_) (fun h => ?_) | refine Pick.beq (fun h => ?_) (fun h => ?_) | refine Cond.dec (fun h => ?_) (fun h => ?_) | refine Cond.beq (fun h => ?_) (fun h => ?_) | refine Cond.nd (fun h => ?_) (fun h => ?_) | refine Pick.nd (fun h => ?_) (fun h => ?_) | refine Pick.mk (fun h => ?_) (fun h => ?_) | refine Cond.mk (fun h => ?_) (fun h => ?_)) <;> conv => whnf))
      exact End.mk rfl rfl
theorem only1 (out : Int) (l : List Int) (g : Nat → List Val) (hg : g 0 = cI 1) (hl : l.length ≤ maxLen) :
    Ret Try.prog 49 [.int .i64 out, eL 1 cI l, .ext 1 1 g] [] (.tup [.int .i64 (onlyF out l [1]).1, .int .i64 (onlyF out l [1]).2]) [] :=
  only_ret out l.length 1 _ g l [1] (extL_getL cI l) ⟨rfl, fun i hi => by
    obtain rfl : i = 0 := by simp at hi; omega
    exact hg⟩ hl (by decide)
set_option maxHeartbeats 4000000 in
theorem round_ret (k o : Int) (n s : ByteArray) (v : Vl) (sc p : Int) (a : List Xp) (l : List Int) (hl : l.length ≤ maxLen) :
    Ret Try.prog 52 [eE (.mk k o n s v sc p a), eL 1 cI l] [] (.tup [.int .i64 (roundF sc p l).1, .int .i64 (roundF sc p l).2]) [] := by
  have h1 : ∀ g : Nat → List Val, g 0 = cI 1 → _ := fun g hg => only1 1 l g hg hl
  rw [cE_mk]
  unfold roundF
  by_cases hq : l = [1]
  · have e : onlyF 1 l [1] = (1, 0) := if_pos hq
    rw [e] at h1
    rw [if_pos hq]
    clear hq e
    by_cases hs : sc < 0 ∨ 18 < sc
    · rw [if_pos hs]
      refine ret_of_body atCalls tok mixed Try.func52 (by kernel_rfl) rfl (k := 35) (rs := [.tmp 4, .tmp 5]) (by kernel_rfl) (by kernel_rfl) ?_
      (conv => whnf) <;> repeat' (first | ((first | refine wN ?_ | refine wA ?_ | refine wB ?_ | refine wC ?_ | refine wD ?_ | refine Called.mk _ _ (h1 _ rfl) ?_ | refine vA ?_ | refine vB ?_ | refine vC ?_ | refine vD ?_ | refine uA ?_ | refine uB ?_ | refine uC ?_ | refine uD ?_); conv => whnf) | ((first | refine Pick.dec (fun h => ?_) (fun h => ?_) | refine Pick.beq (fun h => ?_) (fun h => ?_) | refine Cond.dec (fun h => ?_) (fun h => ?_) | refine Cond.beq (fun h => ?_) (fun h => ?_) | refine Cond.nd (fun h => ?_) (fun h => ?_) | refine Pick.nd (fun h => ?_) (fun h => ?_) | refine Pick.mk (fun h => ?_) (fun h => ?_) | refine Cond.mk (fun h => ?_) (fun h => ?_)) <;> conv => whnf))
      all_goals exact End.mk rfl rfl
    · rw [if_neg hs]
      by_cases hp : p < 1 ∨ 5 < p
      · rw [if_pos hp]
        refine ret_of_body atCalls tok mixed Try.func52 (by kernel_rfl) rfl (k := 35) (rs := [.tmp 4, .tmp 5]) (by kernel_rfl) (by kernel_rfl) ?_
        (conv => whnf) <;> repeat' (first | ((first | refine wN ?_ | refine wA ?_ | refine wB ?_ | refine wC ?_ | refine wD ?_ | refine Called.mk _ _ (h1 _ rfl) ?_ | refine vA ?_ | refine vB ?_ | refine vC ?_ | refine vD ?_ | refine uA ?_ | refine uB ?_ | refine uC ?_ | refine uD ?_); conv => whnf) | ((first | refine Pick.dec (fun h => ?_) (fun h => ?_) | refine Pick.beq (fun h => ?_) (fun h => ?_) | refine Cond.dec (fun h => ?_) (fun h => ?_) | refine Cond.beq (fun h => ?_) (fun h => ?_) | refine Cond.nd (fun h => ?_) (fun h => ?_) | refine Pick.nd (fun h => ?_) (fun h => ?_) | refine Pick.mk (fun h => ?_) (fun h => ?_) | refine Cond.mk (fun h => ?_) (fun h => ?_)) <;> conv => whnf))
        all_goals exact End.mk rfl rfl
      · rw [if_neg hp]
        refine ret_of_body atCalls tok mixed Try.func52 (by kernel_rfl) rfl (k := 35) (rs := [.tmp 4, .tmp 5]) (by kernel_rfl) (by kernel_rfl) ?_
        (conv => whnf) <;> repeat' (first | ((first | refine wN ?_ | refine wA ?_ | refine wB ?_ | refine wC ?_ | refine wD ?_ | refine Called.mk _ _ (h1 _ rfl) ?_ | refine vA ?_ | refine vB ?_ | refine vC ?_ | refine vD ?_ | refine uA ?_ | refine uB ?_ | refine uC ?_ | refine uD ?_); conv => whnf) | ((first | refine Pick.dec (fun h => ?_) (fun h => ?_) | refine Pick.beq (fun h => ?_) (fun h => ?_) | refine Cond.dec (fun h => ?_) (fun h => ?_) | refine Cond.beq (fun h => ?_) (fun h => ?_) | refine Cond.nd (fun h => ?_) (fun h => ?_) | refine Pick.nd (fun h => ?_) (fun h => ?_) | refine Pick.mk (fun h => ?_) (fun h => ?_) | refine Cond.mk (fun h => ?_) (fun h => ?_)) <;> conv => whnf))
        all_goals exact End.mk rfl rfl
  · have e : onlyF 1 l [1] = kNo := if_neg hq
    rw [e] at h1
    rw [if_neg hq]
    refine ret_of_body atCalls tok mixed Try.func52 (by kernel_rfl) rfl (k := 35) (rs := [.tmp 4, .tmp 5]) (by kernel_rfl) (by kernel_rfl) ?_
    (conv => whnf) <;> repeat' (first | ((first | refine wN ?_ | refine wA ?_ | refine wB ?_ | refine wC ?_ | refine wD ?_ | refine Called.mk _ _ (h1 _ rfl) ?_ | refine vA ?_ | refine vB ?_ | refine vC ?_ | refine vD ?_ | refine uA ?_ | refine uB ?_ | refine uC ?_ | refine uD ?_); conv => whnf) | ((first | refine Pick.dec (fun h => ?_) (fun h => ?_) | refine Pick.beq (fun h => ?_) (fun h => ?_) | refine Cond.dec (fun h => ?_) (fun h => ?_) | refine Cond.beq (fun h => ?_) (fun h => ?_) | refine Cond.nd (fun h => ?_) (fun h => ?_) | refine Pick.nd (fun h => ?_) (fun h => ?_) | refine Pick.mk (fun h => ?_) (fun h => ?_) | refine Cond.mk (fun h => ?_) (fun h => ?_)) <;> conv => whnf))
    exact End.mk rfl rfl
end Go.Proofs.Ytkglccolonpnlaa

