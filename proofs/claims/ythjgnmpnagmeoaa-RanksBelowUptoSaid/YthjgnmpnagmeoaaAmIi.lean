/- ranks: Number, Of, many; exciseref11's. -/
import Derived.Test.YthjgnmpnagmeoaaAmHz
import Derived.Test.YthjgnmpnagmeoaaAmIf
set_option linter.unusedVariables false
set_option linter.unusedSimpArgs false
set_option maxRecDepth 100000
namespace Go.Proofs.Ythjgnmpnagmeoaa
open Go.AM
theorem many_ret (l : List Se) (hl : l.length ≤ 64) (hm : manyN l ≤ 1048576) : Ret Try.prog 44 [eL 5 cSe l] [] (.int .i64 ((manyN l : Nat) : Int)) [] := by
  refine ret_of_body atNone tok mixed Try.func44 (by kernel_rfl) rfl (k := 19) (rs := [.tmp 2]) (by kernel_rfl) (by kernel_rfl) ?_
  (conv => whnf) <;> repeat' (first | ((first | refine wN ?_ | refine wNc ?_ | refine wA ?_ | refine wB ?_ | refine wC ?_ | refine wD ?_ | refine vA ?_ | refine vB ?_ | refine vC ?_ | refine vD ?_ | refine uA ?_ | refine uB ?_ | refine uC ?_ | refine uD ?_); conv => whnf) | ((first | apply Pick.dec | apply Pick.beq | apply Cond.dec | apply Cond.beq | apply Cond.nd | apply Pick.nd | apply Pick.mk | apply Cond.mk) <;> intro h <;> conv => whnf))
  intro J jw js
  have key : ∀ (d k : Nat), k + d = l.length → J [.und, .und, .und, .int .i64 ((numN l k : Nat) : Int), .und, .und, eL 5 cSe l, .int .i64 (l.length : Int), .int .i64 (k : Int), .und, .und, .und, .und, .und, .und, .und, .und, .und, .und] [] := by
    intro d
    induction d with
    | zero =>
      intro k hk
      obtain rfl : k = l.length := by omega
      apply js
      conv => whnf
      refine Cond.ff (decF (by omega)) ?_
      (conv => whnf) <;> repeat' (first | ((first | refine wN ?_ | refine wNc ?_ | refine wA ?_ | refine wB ?_ | refine wC ?_ | refine wD ?_ | refine vA ?_ | refine vB ?_ | refine vC ?_ | refine vD ?_ | refine uA ?_ | refine uB ?_ | refine uC ?_ | refine uD ?_); conv => whnf) | ((first | apply Pick.dec | apply Pick.beq | apply Cond.dec | apply Cond.beq | apply Cond.nd | apply Pick.nd | apply Pick.mk | apply Cond.mk) <;> intro h <;> conv => whnf))
      exact End.mk (int_eq (by rw [numN_all])) rfl
    | succ d ih =>
      intro k hk
      have hkl : k < l.length := by omega
      have gk : getL cSe l (Int.toNat (k : Int)) = cSe l[k] := by rw [Int.toNat_natCast]; exact getL_at (List.getElem?_eq_getElem hkl)
      have e1 : IntKind.i64.wrap ((k : Int) + 1) = ((k + 1 : Nat) : Int) := by rw [wi64_id (by omega) (by omega)]; omega
      have hn := numN_succ hkl
      have hm2 := numN_mono (l := l) (k := k + 1) (by omega)
      have ih := ih (k + 1) (by omega)
      rw [hn] at ih hm2
      generalize l[k] = x at *
      have e2 : IntKind.i64.wrap (((numN l k : Nat) : Int) + (x.items.length : Int)) = ((numN l k + x.items.length : Nat) : Int) := by rw [wi64_id (by omega) (by omega)]; omega
      apply js
      conv => whnf
      refine Cond.tt (decT (by omega)) ?_
      (conv => whnf) <;> repeat' (first | ((conv => arg 1; whnf); rw [gk]; conv => whnf) | ((first | refine wN ?_ | refine wNc ?_ | refine wA ?_ | refine wB ?_ | refine wC ?_ | refine wD ?_ | refine vA ?_ | refine vB ?_ | refine vC ?_ | refine vD ?_ | refine uA ?_ | refine uB ?_ | refine uC ?_ | refine uD ?_); conv => whnf) | ((first | apply Pick.dec | apply Pick.beq | apply Cond.dec | apply Cond.beq | apply Cond.nd | apply Pick.nd | apply Pick.mk | apply Cond.mk) <;> intro h <;> conv => whnf))
      rw [e1, e2]
      apply jw [] [false, false, false, true, false, false, true, true, true] _ _ rfl
      exact ih
  apply jw [] [false, false, false, true, false, false, true, true, true] _ _ rfl
  exact key l.length 0 (by omega)
theorem rMany_ret (l : List Se) (hl : l.length ≤ 64) (hm : manyN l ≤ 1048576) : Ret Try.prog 12 [eL 5 cSe l] [] (.int .i64 ((manyN l : Nat) : Int)) [] := by
  refine ret_of_body atNone tok mixed Try.func12 (by kernel_rfl) rfl (k := 20) (rs := [.tmp 2]) (by kernel_rfl) (by kernel_rfl) ?_
  (conv => whnf) <;> repeat' (first | ((first | refine wN ?_ | refine wNc ?_ | refine wA ?_ | refine wB ?_ | refine wC ?_ | refine wD ?_ | refine vA ?_ | refine vB ?_ | refine vC ?_ | refine vD ?_ | refine uA ?_ | refine uB ?_ | refine uC ?_ | refine uD ?_); conv => whnf) | ((first | apply Pick.dec | apply Pick.beq | apply Cond.dec | apply Cond.beq | apply Cond.nd | apply Pick.nd | apply Pick.mk | apply Cond.mk) <;> intro h <;> conv => whnf))
  intro J jw js
  have key : ∀ (d k : Nat), k + d = l.length → J [eL 5 cSe l, .und, .und, .int .i64 ((numN l k : Nat) : Int), .int .i64 (k : Int), .und, .und, .und, .und, .und, .und, .und, .und, .und, .und, .und, .und, .und, .und, .und] [] := by
    intro d
    induction d with
    | zero =>
      intro k hk
      obtain rfl : k = l.length := by omega
      apply js
      conv => whnf
      refine Cond.ff (decF (by omega)) ?_
      (conv => whnf) <;> repeat' (first | ((first | refine wN ?_ | refine wNc ?_ | refine wA ?_ | refine wB ?_ | refine wC ?_ | refine wD ?_ | refine vA ?_ | refine vB ?_ | refine vC ?_ | refine vD ?_ | refine uA ?_ | refine uB ?_ | refine uC ?_ | refine uD ?_); conv => whnf) | ((first | apply Pick.dec | apply Pick.beq | apply Cond.dec | apply Cond.beq | apply Cond.nd | apply Pick.nd | apply Pick.mk | apply Cond.mk) <;> intro h <;> conv => whnf))
      exact End.mk (int_eq (by rw [numN_all])) rfl
    | succ d ih =>
      intro k hk
      have hkl : k < l.length := by omega
      have gk : getL cSe l (Int.toNat (k : Int)) = cSe l[k] := by rw [Int.toNat_natCast]; exact getL_at (List.getElem?_eq_getElem hkl)
      have e1 : IntKind.i64.wrap ((k : Int) + 1) = ((k + 1 : Nat) : Int) := by rw [wi64_id (by omega) (by omega)]; omega
      have hn := numN_succ hkl
      have hm2 := numN_mono (l := l) (k := k + 1) (by omega)
      have ih := ih (k + 1) (by omega)
      rw [hn] at ih hm2
      generalize l[k] = x at *
      have e2 : IntKind.i64.wrap (((numN l k : Nat) : Int) + (x.items.length : Int)) = ((numN l k + x.items.length : Nat) : Int) := by rw [wi64_id (by omega) (by omega)]; omega
      apply js
      conv => whnf
      refine Cond.tt (decT (by omega)) ?_
      (conv => whnf) <;> repeat' (first | ((conv => arg 1; whnf); rw [gk]; conv => whnf) | ((first | refine wN ?_ | refine wNc ?_ | refine wA ?_ | refine wB ?_ | refine wC ?_ | refine wD ?_ | refine vA ?_ | refine vB ?_ | refine vC ?_ | refine vD ?_ | refine uA ?_ | refine uB ?_ | refine uC ?_ | refine uD ?_); conv => whnf) | ((first | apply Pick.dec | apply Pick.beq | apply Cond.dec | apply Cond.beq | apply Cond.nd | apply Pick.nd | apply Pick.mk | apply Cond.mk) <;> intro h <;> conv => whnf))
      rw [e1, e2]
      apply jw [] [true, false, false, true, true] _ _ rfl
      exact ih
  apply jw [] [true, false, false, true, true] _ _ rfl
  exact key l.length 0 (by omega)
theorem ofF_neg {l : List Se} {n : Int} (h : n < 0) : ofF l n = (0, 0, false) := if_pos h
theorem of_ret (l : List Se) (n : Int) (hn : n ≤ 9223372036854775807) (hl : l.length ≤ 64) (hm : manyN l ≤ 1048576) : Ret Try.prog 22 [eL 5 cSe l, .int .i64 n] [] (.tup [.int .i64 (ofF l n).1, .int .i64 (ofF l n).2.1, .bool (ofF l n).2.2]) [] := by
  by_cases h0 : n < 0
  · rw [ofF_neg h0]
    refine ret_of_body atNone tok mixed Try.func22 (by kernel_rfl) rfl (k := 31) (rs := [.tmp 4, .tmp 5, .tmp 6]) (by kernel_rfl) (by kernel_rfl) ?_
    (conv => whnf) <;> repeat' (first | ((first | refine wN ?_ | refine wNc ?_ | refine wA ?_ | refine wB ?_ | refine wC ?_ | refine wD ?_ | refine vA ?_ | refine vB ?_ | refine vC ?_ | refine vD ?_ | refine uA ?_ | refine uB ?_ | refine uC ?_ | refine uD ?_); conv => whnf) | ((first | apply Pick.dec | apply Pick.beq | apply Cond.dec | apply Cond.beq | apply Cond.nd | apply Pick.nd | apply Pick.mk | apply Cond.mk) <;> intro h <;> conv => whnf))
    exact End.mk rfl rfl
  have goal : ∀ r, ofN 0 l n = r → Ret Try.prog 22 [eL 5 cSe l, .int .i64 n] [] (.tup [.int .i64 r.1, .int .i64 r.2.1, .bool r.2.2]) [] := by
    intro r hr
    refine ret_of_body atNone tok mixed Try.func22 (by kernel_rfl) rfl (k := 31) (rs := [.tmp 4, .tmp 5, .tmp 6]) (by kernel_rfl) (by kernel_rfl) ?_
    (conv => whnf) <;> repeat' (first | ((first | refine wN ?_ | refine wNc ?_ | refine wA ?_ | refine wB ?_ | refine wC ?_ | refine wD ?_ | refine vA ?_ | refine vB ?_ | refine vC ?_ | refine vD ?_ | refine uA ?_ | refine uB ?_ | refine uC ?_ | refine uD ?_); conv => whnf) | ((first | apply Pick.dec | apply Pick.beq | apply Cond.dec | apply Cond.beq | apply Cond.nd | apply Pick.nd | apply Pick.mk | apply Cond.mk) <;> intro h <;> conv => whnf))
    intro J jw js
    have key : ∀ (d k : Nat) (n : Int), k + d = l.length → 0 ≤ n → n ≤ 9223372036854775807 → ofN k (l.drop k) n = r → J [.und, .int .i64 n, .und, .und, .und, .und, .und, .und, .und, .und, .und, eL 5 cSe l, .int .i64 (l.length : Int), .int .i64 (k : Int), .und, .und, .und, .und, .und, .und, .und, .und, .und, .und, .und, .und, .und, .und, .und, .und, .und] [] := by
      intro d
      induction d with
      | zero =>
        intro k n hk h0 h1 hr
        rw [List.drop_of_length_le (by omega)] at hr
        subst hr
        apply js
        conv => whnf
        refine Cond.ff (decF (by omega)) ?_
        (conv => whnf) <;> repeat' (first | ((first | refine wN ?_ | refine wNc ?_ | refine wA ?_ | refine wB ?_ | refine wC ?_ | refine wD ?_ | refine vA ?_ | refine vB ?_ | refine vC ?_ | refine vD ?_ | refine uA ?_ | refine uB ?_ | refine uC ?_ | refine uD ?_); conv => whnf) | ((first | apply Pick.dec | apply Pick.beq | apply Cond.dec | apply Cond.beq | apply Cond.nd | apply Pick.nd | apply Pick.mk | apply Cond.mk) <;> intro h <;> conv => whnf))
        exact End.mk rfl rfl
      | succ d ih =>
        intro k n hk h0 h1 hr
        have hkl : k < l.length := by omega
        have gk : getL cSe l (Int.toNat (k : Int)) = cSe l[k] := by rw [Int.toNat_natCast]; exact getL_at (List.getElem?_eq_getElem hkl)
        have e1 : IntKind.i64.wrap ((k : Int) + 1) = ((k + 1 : Nat) : Int) := by rw [wi64_id (by omega) (by omega)]; omega
        have hle := numN_le (List.getElem?_eq_getElem hkl)
        rw [List.drop_eq_getElem_cons hkl] at hr
        unfold ofN at hr
        generalize l[k] = x at *
        have e2 : IntKind.i64.wrap (n - (x.items.length : Int)) = n - (x.items.length : Int) := wi64_id (by omega) (by omega)
        apply js
        conv => whnf
        refine Cond.tt (decT (by omega)) ?_
        by_cases hx : n < (x.items.length : Int)
        · rw [if_pos hx] at hr
          subst hr
          (conv => whnf) <;> repeat' (first | ((conv => arg 1; whnf); rw [gk]; conv => whnf) | ((first | refine wN ?_ | refine wNc ?_ | refine wA ?_ | refine wB ?_ | refine wC ?_ | refine wD ?_ | refine vA ?_ | refine vB ?_ | refine vC ?_ | refine vD ?_ | refine uA ?_ | refine uB ?_ | refine uC ?_ | refine uD ?_); conv => whnf) | ((first | apply Pick.dec | apply Pick.beq | apply Cond.dec | apply Cond.beq | apply Cond.nd | apply Pick.nd | apply Pick.mk | apply Cond.mk) <;> intro h <;> conv => whnf))
          exact End.mk rfl rfl
        · rw [if_neg hx] at hr
          (conv => whnf) <;> repeat' (first | ((conv => arg 1; whnf); rw [gk]; conv => whnf) | ((first | refine wN ?_ | refine wNc ?_ | refine wA ?_ | refine wB ?_ | refine wC ?_ | refine wD ?_ | refine vA ?_ | refine vB ?_ | refine vC ?_ | refine vD ?_ | refine uA ?_ | refine uB ?_ | refine uC ?_ | refine uD ?_); conv => whnf) | ((first | apply Pick.dec | apply Pick.beq | apply Cond.dec | apply Cond.beq | apply Cond.nd | apply Pick.nd | apply Pick.mk | apply Cond.mk) <;> intro h <;> conv => whnf))
          rw [e1, e2]
          apply jw [] [false, true, false, false, false, false, false, false, false, false, false, true, true, true] _ _ rfl
          exact ih (k + 1) _ (by omega) (by omega) (by omega) hr
    apply jw [] [false, true, false, false, false, false, false, false, false, false, false, true, true, true] _ _ rfl
    exact key l.length 0 n (by omega) (by omega) hn hr
  have e : ofF l n = ofN 0 l n := if_neg h0
  rw [e]
  exact goal _ rfl
theorem rOf_ret (l : List Se) (n : Int) (hn : n ≤ 9223372036854775807) (hl : l.length ≤ 64) (hm : manyN l ≤ 1048576) : Ret Try.prog 23 [eL 5 cSe l, .int .i64 n] [] (.tup [.int .i64 (ofF l n).1, .int .i64 (ofF l n).2.1, .bool (ofF l n).2.2]) [] := by
  by_cases h0 : n < 0
  · rw [ofF_neg h0]
    refine ret_of_body atNone tok mixed Try.func23 (by kernel_rfl) rfl (k := 36) (rs := [.tmp 4, .tmp 5, .tmp 6]) (by kernel_rfl) (by kernel_rfl) ?_
    (conv => whnf) <;> repeat' (first | (intro I hw hs; apply hs; conv => whnf) | (apply hs; conv => whnf) | ((first | refine wN ?_ | refine wNc ?_ | refine wA ?_ | refine wB ?_ | refine wC ?_ | refine wD ?_ | refine vA ?_ | refine vB ?_ | refine vC ?_ | refine vD ?_ | refine uA ?_ | refine uB ?_ | refine uC ?_ | refine uD ?_); conv => whnf) | ((first | apply Pick.dec | apply Pick.beq | apply Cond.dec | apply Cond.beq | apply Cond.nd | apply Pick.nd | apply Pick.mk | apply Cond.mk) <;> intro h <;> conv => whnf))
    all_goals exact End.mk rfl rfl
  have goal : ∀ r, ofN 0 l n = r → Ret Try.prog 23 [eL 5 cSe l, .int .i64 n] [] (.tup [.int .i64 r.1, .int .i64 r.2.1, .bool r.2.2]) [] := by
    intro r hr
    refine ret_of_body atNone tok mixed Try.func23 (by kernel_rfl) rfl (k := 36) (rs := [.tmp 4, .tmp 5, .tmp 6]) (by kernel_rfl) (by kernel_rfl) ?_
    (conv => whnf) <;> repeat' (first | ((first | refine wN ?_ | refine wNc ?_ | refine wA ?_ | refine wB ?_ | refine wC ?_ | refine wD ?_ | refine vA ?_ | refine vB ?_ | refine vC ?_ | refine vD ?_ | refine uA ?_ | refine uB ?_ | refine uC ?_ | refine uD ?_); conv => whnf) | ((first | apply Pick.dec | apply Pick.beq | apply Cond.dec | apply Cond.beq | apply Cond.nd | apply Pick.nd | apply Pick.mk | apply Cond.mk) <;> intro h <;> conv => whnf))
    intro J jw js
    have key : ∀ (d k : Nat) (n : Int), k + d = l.length → 0 ≤ n → n ≤ 9223372036854775807 → ofN k (l.drop k) n = r → J [eL 5 cSe l, .int .i64 n, .und, .und, .und, .und, .und, .int .i64 (k : Int), .und, .und, .und, .und, .und, .und, .und, .und, .und, .und, .und, .und, .und, .und, .und, .und, .und, .und, .und, .und, .und, .und, .und, .und, .und, .und, .und, .und] [] := by
      intro d
      induction d with
      | zero =>
        intro k n hk h0 h1 hr
        rw [List.drop_of_length_le (by omega)] at hr
        subst hr
        apply js
        (conv => whnf) <;> repeat' (first | ((first | refine wN ?_ | refine wNc ?_ | refine wA ?_ | refine wB ?_ | refine wC ?_ | refine wD ?_ | refine vA ?_ | refine vB ?_ | refine vC ?_ | refine vD ?_ | refine uA ?_ | refine uB ?_ | refine uC ?_ | refine uD ?_); conv => whnf) | ((first | apply Pick.dec | apply Pick.beq | apply Cond.dec | apply Cond.beq | apply Cond.nd | apply Pick.nd | apply Pick.mk | apply Cond.mk) <;> intro h <;> conv => whnf))
        exact End.mk rfl rfl
      | succ d ih =>
        intro k n hk h0 h1 hr
        have hkl : k < l.length := by omega
        have gk : getL cSe l (Int.toNat (k : Int)) = cSe l[k] := by rw [Int.toNat_natCast]; exact getL_at (List.getElem?_eq_getElem hkl)
        have e1 : IntKind.i64.wrap ((k : Int) + 1) = ((k + 1 : Nat) : Int) := by rw [wi64_id (by omega) (by omega)]; omega
        have hle := numN_le (List.getElem?_eq_getElem hkl)
        rw [List.drop_eq_getElem_cons hkl] at hr
        unfold ofN at hr
        generalize l[k] = x at *
        have e2 : IntKind.i64.wrap (n - (x.items.length : Int)) = n - (x.items.length : Int) := wi64_id (by omega) (by omega)
        apply js
        by_cases hx : n < (x.items.length : Int)
        · rw [if_pos hx] at hr
          subst hr
          (conv => whnf) <;> repeat' (first | ((conv => arg 1; whnf); rw [gk]; conv => whnf) | ((first | refine wN ?_ | refine wNc ?_ | refine wA ?_ | refine wB ?_ | refine wC ?_ | refine wD ?_ | refine vA ?_ | refine vB ?_ | refine vC ?_ | refine vD ?_ | refine uA ?_ | refine uB ?_ | refine uC ?_ | refine uD ?_); conv => whnf) | ((first | apply Pick.dec | apply Pick.beq | apply Cond.dec | apply Cond.beq | apply Cond.nd | apply Pick.nd | apply Pick.mk | apply Cond.mk) <;> intro h <;> conv => whnf))
          exact End.mk rfl rfl
        · rw [if_neg hx] at hr
          (conv => whnf) <;> repeat' (first | ((conv => arg 1; whnf); rw [gk]; conv => whnf) | ((first | refine wN ?_ | refine wNc ?_ | refine wA ?_ | refine wB ?_ | refine wC ?_ | refine wD ?_ | refine vA ?_ | refine vB ?_ | refine vC ?_ | refine vD ?_ | refine uA ?_ | refine uB ?_ | refine uC ?_ | refine uD ?_); conv => whnf) | ((first | apply Pick.dec | apply Pick.beq | apply Cond.dec | apply Cond.beq | apply Cond.nd | apply Pick.nd | apply Pick.mk | apply Cond.mk) <;> intro h <;> conv => whnf))
          rw [e1, e2]
          apply jw [] [true, true, false, false, false, false, false, true] _ _ rfl
          exact ih (k + 1) _ (by omega) (by omega) (by omega) hr
    apply jw [] [true, true, false, false, false, false, false, true] _ _ rfl
    exact key l.length 0 n (by omega) (by omega) hn hr
  have e : ofF l n = ofN 0 l n := if_neg h0
  rw [e]
  exact goal _ rfl
theorem number_ret (l : List Se) (s i : Int) (hi : i ≤ 9223372036854775807) (hl : l.length ≤ 64) (hm : manyN l ≤ 1048576) : Ret Try.prog 20 [eL 5 cSe l, .int .i64 s, .int .i64 i] [] (.tup [.int .i64 (numF l s i).1, .bool (numF l s i).2]) [] := by
  by_cases h0 : s < 0 ∨ (l.length : Int) ≤ s
  · rw [show numF l s i = (0, false) from if_pos (by omega)]
    refine ret_of_body atNone tok mixed Try.func20 (by kernel_rfl) rfl (k := 49) (rs := [.tmp 6, .tmp 7]) (by kernel_rfl) (by kernel_rfl) ?_
    (conv => whnf) <;> repeat' (first | ((first | refine wN ?_ | refine wNc ?_ | refine wA ?_ | refine wB ?_ | refine wC ?_ | refine wD ?_ | refine vA ?_ | refine vB ?_ | refine vC ?_ | refine vD ?_ | refine uA ?_ | refine uB ?_ | refine uC ?_ | refine uD ?_); conv => whnf) | ((first | apply Pick.dec | apply Pick.beq | apply Cond.dec | apply Cond.beq | apply Cond.nd | apply Pick.nd | apply Pick.mk | apply Cond.mk) <;> intro h <;> conv => whnf))
    all_goals exact End.mk rfl rfl
  have hsl : s.toNat < l.length := by omega
  have gs : getL cSe l (Int.toNat s) = cSe l[s.toNat] := getL_at (List.getElem?_eq_getElem hsl)
  have hit : itemsAt l s = l[s.toNat].items := by unfold itemsAt; rw [seAt_some (by omega) hsl]; rfl
  have hle := numN_le (List.getElem?_eq_getElem hsl)
  have hF : numF l s i = if i < 0 ∨ (l[s.toNat].items.length : Int) ≤ i then (0, false) else (i + (numN l s.toNat : Nat), true) := by
    unfold numF
    rw [hit]
    by_cases hc : i < 0 ∨ (l[s.toNat].items.length : Int) ≤ i
    · rw [if_pos hc, if_pos (by omega)]
    · rw [if_neg hc, if_neg (by omega)]
  rw [hF]
  clear hF hit
  obtain ⟨c, rfl⟩ : ∃ c : Nat, s = (c : Int) := ⟨s.toNat, by omega⟩
  simp only [Int.toNat_natCast] at *
  generalize hx : l[c] = x at *
  have gs : getL cSe l (Int.toNat (c : Int)) = cSe x := by rw [Int.toNat_natCast]; exact gs
  by_cases h1 : i < 0 ∨ (x.items.length : Int) ≤ i
  · rw [if_pos h1]
    refine ret_of_body atNone tok mixed Try.func20 (by kernel_rfl) rfl (k := 49) (rs := [.tmp 6, .tmp 7]) (by kernel_rfl) (by kernel_rfl) ?_
    (conv => whnf) <;> repeat' (first | ((conv => arg 1; whnf); rw [gs]; conv => whnf) | ((first | refine wN ?_ | refine wNc ?_ | refine wA ?_ | refine wB ?_ | refine wC ?_ | refine wD ?_ | refine vA ?_ | refine vB ?_ | refine vC ?_ | refine vD ?_ | refine uA ?_ | refine uB ?_ | refine uC ?_ | refine uD ?_); conv => whnf) | ((first | apply Pick.dec | apply Pick.beq | apply Cond.dec | apply Cond.beq | apply Cond.nd | apply Pick.nd | apply Pick.mk | apply Cond.mk) <;> intro h <;> conv => whnf))
    all_goals exact End.mk rfl rfl
  rw [if_neg h1]
  refine ret_of_body atNone tok mixed Try.func20 (by kernel_rfl) rfl (k := 49) (rs := [.tmp 6, .tmp 7]) (by kernel_rfl) (by kernel_rfl) ?_
  (conv => whnf) <;> repeat' (first | ((conv => arg 1; whnf); rw [gs]; conv => whnf) | ((first | refine wN ?_ | refine wNc ?_ | refine wA ?_ | refine wB ?_ | refine wC ?_ | refine wD ?_ | refine vA ?_ | refine vB ?_ | refine vC ?_ | refine vD ?_ | refine uA ?_ | refine uB ?_ | refine uC ?_ | refine uD ?_); conv => whnf) | ((first | apply Pick.dec | apply Pick.beq | apply Cond.dec | apply Cond.beq | apply Cond.nd | apply Pick.nd | apply Pick.mk | apply Cond.mk) <;> intro h <;> conv => whnf))
  intro J jw js
  have key : ∀ (d k : Nat), k + d = c → J [.und, .und, .und, .und, .und, .und, .und, .und, .int .i64 (i + ((numN l k : Nat) : Int)), .und, .und, .und, .und, .und, .und, .und, .und, .und, .und, .und, .und, .und, .und, .und, .und, .und, .und, .und, .und, .und, .und, .und, .und, .und, .und, .und, .ext 5 c (getL cSe l), .int .i64 (c : Int), .int .i64 (k : Int), .und, .und, .und, .und, .und, .und, .und, .und, .und, .und] [] := by
    intro d
    induction d with
    | zero =>
      intro k hk
      obtain rfl : k = c := by omega
      apply js
      conv => whnf
      refine Cond.ff (decF (by omega)) ?_
      (conv => whnf) <;> repeat' (first | ((first | refine wN ?_ | refine wNc ?_ | refine wA ?_ | refine wB ?_ | refine wC ?_ | refine wD ?_ | refine vA ?_ | refine vB ?_ | refine vC ?_ | refine vD ?_ | refine uA ?_ | refine uB ?_ | refine uC ?_ | refine uD ?_); conv => whnf) | ((first | apply Pick.dec | apply Pick.beq | apply Cond.dec | apply Cond.beq | apply Cond.nd | apply Pick.nd | apply Pick.mk | apply Cond.mk) <;> intro h <;> conv => whnf))
      exact End.mk rfl rfl
    | succ d ih =>
      intro k hk
      have hkl : k < l.length := by omega
      have gk : getL cSe l (Int.toNat (k : Int) + 0) = cSe l[k] := by rw [Int.toNat_natCast]; exact getL_at (List.getElem?_eq_getElem hkl)
      have gk2 : getL cSe l (Int.toNat (k : Int)) = cSe l[k] := by rw [Int.toNat_natCast]; exact getL_at (List.getElem?_eq_getElem hkl)
      have e1 : IntKind.i64.wrap ((k : Int) + 1) = ((k + 1 : Nat) : Int) := by rw [wi64_id (by omega) (by omega)]; omega
      have hn := numN_succ hkl
      have hm2 := numN_mono (l := l) (k := k + 1) (by omega)
      have ih := ih (k + 1) (by omega)
      rw [hn] at ih hm2
      generalize l[k] = y at *
      have e2 : IntKind.i64.wrap (i + ((numN l k : Nat) : Int) + (y.items.length : Int)) = i + ((numN l k + y.items.length : Nat) : Int) := by rw [wi64_id (by omega) (by omega)]; omega
      apply js
      conv => whnf
      refine Cond.tt (decT (by omega)) ?_
      (conv => whnf) <;> repeat' (first | ((conv => arg 1; whnf); rw [gk]; conv => whnf) | ((conv => arg 1; whnf); rw [gk2]; conv => whnf) | ((first | refine wN ?_ | refine wNc ?_ | refine wA ?_ | refine wB ?_ | refine wC ?_ | refine wD ?_ | refine vA ?_ | refine vB ?_ | refine vC ?_ | refine vD ?_ | refine uA ?_ | refine uB ?_ | refine uC ?_ | refine uD ?_); conv => whnf) | ((first | apply Pick.dec | apply Pick.beq | apply Cond.dec | apply Cond.beq | apply Cond.nd | apply Pick.nd | apply Pick.mk | apply Cond.mk) <;> intro h <;> conv => whnf))
      rw [e1, e2]
      apply jw [] [false, false, false, false, false, false, false, false, true, false, false, false, false, false, false, false, false, false, false, false, false, false, false, false, false, false, false, false, false, false, false, false, false, false, false, false, true, true, true] _ _ rfl
      exact ih
  have k0 := key c 0 (by omega)
  rw [show ((numN l 0 : Nat) : Int) = 0 from rfl, Int.add_zero] at k0
  apply jw [] [false, false, false, false, false, false, false, false, true, false, false, false, false, false, false, false, false, false, false, false, false, false, false, false, false, false, false, false, false, false, false, false, false, false, false, false, true, true, true] _ _ rfl
  exact k0
theorem rNumber_ret (l : List Se) (s i : Int) (hi : i ≤ 9223372036854775807) (hl : l.length ≤ 64) (hm : manyN l ≤ 1048576) : Ret Try.prog 21 [eL 5 cSe l, .int .i64 s, .int .i64 i] [] (.tup [.int .i64 (numF l s i).1, .bool (numF l s i).2]) [] := by
  by_cases h0 : s < 0 ∨ (l.length : Int) ≤ s
  · rw [show numF l s i = (0, false) from if_pos (by omega)]
    refine ret_of_body atNone tok mixed Try.func21 (by kernel_rfl) rfl (k := 47) (rs := [.tmp 6, .tmp 7]) (by kernel_rfl) (by kernel_rfl) ?_
    (conv => whnf) <;> repeat' (first | ((first | refine wN ?_ | refine wNc ?_ | refine wA ?_ | refine wB ?_ | refine wC ?_ | refine wD ?_ | refine vA ?_ | refine vB ?_ | refine vC ?_ | refine vD ?_ | refine uA ?_ | refine uB ?_ | refine uC ?_ | refine uD ?_); conv => whnf) | ((first | apply Pick.dec | apply Pick.beq | apply Cond.dec | apply Cond.beq | apply Cond.nd | apply Pick.nd | apply Pick.mk | apply Cond.mk) <;> intro h <;> conv => whnf))
    all_goals exact End.mk rfl rfl
  have hsl : s.toNat < l.length := by omega
  have gs : getL cSe l (Int.toNat s) = cSe l[s.toNat] := getL_at (List.getElem?_eq_getElem hsl)
  have hit : itemsAt l s = l[s.toNat].items := by unfold itemsAt; rw [seAt_some (by omega) hsl]; rfl
  have hle := numN_le (List.getElem?_eq_getElem hsl)
  have hF : numF l s i = if i < 0 ∨ (l[s.toNat].items.length : Int) ≤ i then (0, false) else (i + (numN l s.toNat : Nat), true) := by
    unfold numF
    rw [hit]
    by_cases hc : i < 0 ∨ (l[s.toNat].items.length : Int) ≤ i
    · rw [if_pos hc, if_pos (by omega)]
    · rw [if_neg hc, if_neg (by omega)]
  rw [hF]
  clear hF hit
  obtain ⟨c, rfl⟩ : ∃ c : Nat, s = (c : Int) := ⟨s.toNat, by omega⟩
  simp only [Int.toNat_natCast] at *
  generalize hx : l[c] = x at *
  have gs : getL cSe l (Int.toNat (c : Int)) = cSe x := by rw [Int.toNat_natCast]; exact gs
  by_cases h1 : i < 0 ∨ (x.items.length : Int) ≤ i
  · rw [if_pos h1]
    refine ret_of_body atNone tok mixed Try.func21 (by kernel_rfl) rfl (k := 47) (rs := [.tmp 6, .tmp 7]) (by kernel_rfl) (by kernel_rfl) ?_
    (conv => whnf) <;> repeat' (first | ((conv => arg 1; whnf); rw [gs]; conv => whnf) | ((first | refine wN ?_ | refine wNc ?_ | refine wA ?_ | refine wB ?_ | refine wC ?_ | refine wD ?_ | refine vA ?_ | refine vB ?_ | refine vC ?_ | refine vD ?_ | refine uA ?_ | refine uB ?_ | refine uC ?_ | refine uD ?_); conv => whnf) | ((first | apply Pick.dec | apply Pick.beq | apply Cond.dec | apply Cond.beq | apply Cond.nd | apply Pick.nd | apply Pick.mk | apply Cond.mk) <;> intro h <;> conv => whnf))
    all_goals exact End.mk rfl rfl
  rw [if_neg h1]
  refine ret_of_body atNone tok mixed Try.func21 (by kernel_rfl) rfl (k := 47) (rs := [.tmp 6, .tmp 7]) (by kernel_rfl) (by kernel_rfl) ?_
  (conv => whnf) <;> repeat' (first | ((conv => arg 1; whnf); rw [gs]; conv => whnf) | ((first | refine wN ?_ | refine wNc ?_ | refine wA ?_ | refine wB ?_ | refine wC ?_ | refine wD ?_ | refine vA ?_ | refine vB ?_ | refine vC ?_ | refine vD ?_ | refine uA ?_ | refine uB ?_ | refine uC ?_ | refine uD ?_); conv => whnf) | ((first | apply Pick.dec | apply Pick.beq | apply Cond.dec | apply Cond.beq | apply Cond.nd | apply Pick.nd | apply Pick.mk | apply Cond.mk) <;> intro h <;> conv => whnf))
  intro J jw js
  have key : ∀ (d k : Nat), k + d = c → J [eL 5 cSe l, .int .i64 (c : Int), .und, .und, .und, .und, .und, .und, .int .i64 (i + ((numN l k : Nat) : Int)), .int .i64 (k : Int), .und, .und, .und, .und, .und, .und, .und, .und, .und, .und, .und, .und, .und, .und, .und, .und, .und, .und, .und, .und, .und, .und, .und, .und, .und, .und, .und, .und, .und, .und, .und, .und, .und, .und, .und, .und, .und] [] := by
    intro d
    induction d with
    | zero =>
      intro k hk
      obtain rfl : k = c := by omega
      apply js
      conv => whnf
      refine Cond.ff (decF (by omega)) ?_
      (conv => whnf) <;> repeat' (first | ((first | refine wN ?_ | refine wNc ?_ | refine wA ?_ | refine wB ?_ | refine wC ?_ | refine wD ?_ | refine vA ?_ | refine vB ?_ | refine vC ?_ | refine vD ?_ | refine uA ?_ | refine uB ?_ | refine uC ?_ | refine uD ?_); conv => whnf) | ((first | apply Pick.dec | apply Pick.beq | apply Cond.dec | apply Cond.beq | apply Cond.nd | apply Pick.nd | apply Pick.mk | apply Cond.mk) <;> intro h <;> conv => whnf))
      exact End.mk rfl rfl
    | succ d ih =>
      intro k hk
      have hkl : k < l.length := by omega
      have gk : getL cSe l (Int.toNat (k : Int)) = cSe l[k] := by rw [Int.toNat_natCast]; exact getL_at (List.getElem?_eq_getElem hkl)
      have e1 : IntKind.i64.wrap ((k : Int) + 1) = ((k + 1 : Nat) : Int) := by rw [wi64_id (by omega) (by omega)]; omega
      have hn := numN_succ hkl
      have hm2 := numN_mono (l := l) (k := k + 1) (by omega)
      have ih := ih (k + 1) (by omega)
      rw [hn] at ih hm2
      generalize l[k] = y at *
      have e2 : IntKind.i64.wrap (i + ((numN l k : Nat) : Int) + (y.items.length : Int)) = i + ((numN l k + y.items.length : Nat) : Int) := by rw [wi64_id (by omega) (by omega)]; omega
      apply js
      conv => whnf
      refine Cond.tt (decT (by omega)) ?_
      (conv => whnf) <;> repeat' (first | ((conv => arg 1; whnf); rw [gk]; conv => whnf) | ((first | refine wN ?_ | refine wNc ?_ | refine wA ?_ | refine wB ?_ | refine wC ?_ | refine wD ?_ | refine vA ?_ | refine vB ?_ | refine vC ?_ | refine vD ?_ | refine uA ?_ | refine uB ?_ | refine uC ?_ | refine uD ?_); conv => whnf) | ((first | apply Pick.dec | apply Pick.beq | apply Cond.dec | apply Cond.beq | apply Cond.nd | apply Pick.nd | apply Pick.mk | apply Cond.mk) <;> intro h <;> conv => whnf))
      rw [e1, e2]
      apply jw [] [true, true, false, false, false, false, false, false, true, true] _ _ rfl
      exact ih
  have k0 := key c 0 (by omega)
  rw [show ((numN l 0 : Nat) : Int) = 0 from rfl, Int.add_zero] at k0
  apply jw [] [true, true, false, false, false, false, false, false, true, true] _ _ rfl
  exact k0
end Go.Proofs.Ythjgnmpnagmeoaa

set_option linter.unusedVariables false
set_option linter.unusedSimpArgs false
set_option maxRecDepth 100000
namespace Go.Proofs.Ythjgnmpnagmeoaa
open Go.AM
theorem rreadable_ret (l : List It) (name : ByteArray) (hl : l.length ≤ maxLen) : Ret Try.prog 68 [eL 23 cIt l, .str name] [] (.tup [.int .i64 (if 0 ≤ idxR name 0 l then idxR name 0 l else 0), .bool (decide (0 ≤ idxR name 0 l))]) [] := by
  have hm : maxLen ≤ 9223372036854775807 := by decide
  have goal : ∀ r, idxR name 0 l = r → Ret Try.prog 68 [eL 23 cIt l, .str name] [] (.tup [.int .i64 (if 0 ≤ r then r else 0), .bool (decide (0 ≤ r))]) [] := by
    intro r hr
    refine ret_of_body atNone tok mixed Try.func68 (by kernel_rfl) rfl (k := 37) (rs := [.tmp 4, .tmp 5]) (by kernel_rfl) (by kernel_rfl) ?_
    (conv => whnf) <;> repeat' (first | ((first | refine wN ?_ | refine wNc ?_ | refine wA ?_ | refine wB ?_ | refine wC ?_ | refine wD ?_ | refine vA ?_ | refine vB ?_ | refine vC ?_ | refine vD ?_ | refine uA ?_ | refine uB ?_ | refine uC ?_ | refine uD ?_); conv => whnf) | ((first | apply Pick.dec | apply Pick.beq | apply Cond.dec | apply Cond.beq | apply Cond.nd | apply Pick.nd | apply Pick.mk | apply Cond.mk) <;> intro h <;> conv => whnf))
    intro J jw js
    have key : ∀ (d k : Nat), k + d = l.length → idxR name k (l.drop k) = r → J [eL 23 cIt l, .str name, .und, .und, .und, .und, .int .i64 (k : Int), .und, .und, .und, .und, .und, .und, .und, .und, .und, .und, .und, .und, .und, .und, .und, .und, .und, .und, .und, .und, .und, .und, .und, .und, .und, .und, .und, .und, .und, .und] [] := by
      intro d
      induction d with
      | zero =>
        intro k hk hr
        rw [List.drop_of_length_le (by omega)] at hr
        have hr : r = -1 := hr.symm
        subst hr
        apply js
        conv => whnf
        refine Cond.ff (decF (by omega)) ?_
        (conv => whnf) <;> repeat' (first | ((first | refine wN ?_ | refine wNc ?_ | refine wA ?_ | refine wB ?_ | refine wC ?_ | refine wD ?_ | refine vA ?_ | refine vB ?_ | refine vC ?_ | refine vD ?_ | refine uA ?_ | refine uB ?_ | refine uC ?_ | refine uD ?_); conv => whnf) | ((first | apply Pick.dec | apply Pick.beq | apply Cond.dec | apply Cond.beq | apply Cond.nd | apply Pick.nd | apply Pick.mk | apply Cond.mk) <;> intro h <;> conv => whnf))
        exact End.mk rfl rfl
      | succ d ih =>
        intro k hk hr
        have hkl : k < l.length := by omega
        have gk : getL cIt l (Int.toNat (k : Int)) = cIt l[k] := by rw [Int.toNat_natCast]; exact getL_at (List.getElem?_eq_getElem hkl)
        have e1 : IntKind.i64.wrap ((k : Int) + 1) = ((k + 1 : Nat) : Int) := by rw [wi64_id (by omega) (by omega)]; omega
        rw [List.drop_eq_getElem_cons hkl] at hr
        unfold idxR at hr
        generalize l[k] = x at *
        apply js
        conv => whnf
        refine Cond.tt (decT (by omega)) ?_
        by_cases hn : x.name = name
        · have hs : (x.name.toList == name.toList) = true := by rw [toList_eq]; exact decide_eq_true hn
          by_cases k12 : x.kind = 1 ∨ x.kind = 2
          · rw [if_pos (show x.reads name from ⟨hn, k12⟩)] at hr
            subst hr
            (conv => whnf) <;> repeat' (first | ((conv => arg 1; whnf); rw [gk]; conv => whnf) | (rw [hs]; conv => whnf) | ((first | refine wN ?_ | refine wNc ?_ | refine wA ?_ | refine wB ?_ | refine wC ?_ | refine wD ?_ | refine vA ?_ | refine vB ?_ | refine vC ?_ | refine vD ?_ | refine uA ?_ | refine uB ?_ | refine uC ?_ | refine uD ?_); conv => whnf) | ((first | apply Pick.dec | apply Pick.beq | apply Cond.dec | apply Cond.beq | apply Cond.nd | apply Pick.nd | apply Pick.mk | apply Cond.mk) <;> intro h <;> conv => whnf))
            all_goals exact End.mk (tup_eq (cons_eq (int_eq (by rw [if_pos (by omega)])) (cons_eq (bool_eq (by simp)) rfl))) rfl
          · rw [if_neg (show ¬ x.reads name from fun h => k12 h.2)] at hr
            (conv => whnf) <;> repeat' (first | ((conv => arg 1; whnf); rw [gk]; conv => whnf) | (rw [hs]; conv => whnf) | ((first | refine wN ?_ | refine wNc ?_ | refine wA ?_ | refine wB ?_ | refine wC ?_ | refine wD ?_ | refine vA ?_ | refine vB ?_ | refine vC ?_ | refine vD ?_ | refine uA ?_ | refine uB ?_ | refine uC ?_ | refine uD ?_); conv => whnf) | ((first | apply Pick.dec | apply Pick.beq | apply Cond.dec | apply Cond.beq | apply Cond.nd | apply Pick.nd | apply Pick.mk | apply Cond.mk) <;> intro h <;> conv => whnf))
            rw [e1]
            apply jw [] [true, true, false, false, false, false, true] _ _ rfl
            exact ih (k + 1) (by omega) hr
        · have hs : (x.name.toList == name.toList) = false := by rw [toList_eq]; exact decide_eq_false hn
          rw [if_neg (show ¬ x.reads name from fun h => hn h.1)] at hr
          (conv => whnf) <;> repeat' (first | ((conv => arg 1; whnf); rw [gk]; conv => whnf) | (rw [hs]; conv => whnf) | ((first | refine wN ?_ | refine wNc ?_ | refine wA ?_ | refine wB ?_ | refine wC ?_ | refine wD ?_ | refine vA ?_ | refine vB ?_ | refine vC ?_ | refine vD ?_ | refine uA ?_ | refine uB ?_ | refine uC ?_ | refine uD ?_); conv => whnf) | ((first | apply Pick.dec | apply Pick.beq | apply Cond.dec | apply Cond.beq | apply Cond.nd | apply Pick.nd | apply Pick.mk | apply Cond.mk) <;> intro h <;> conv => whnf))
          rw [e1]
          apply jw [] [true, true, false, false, false, false, true] _ _ rfl
          exact ih (k + 1) (by omega) hr
    apply jw [] [true, true, false, false, false, false, true] _ _ rfl
    exact key l.length 0 (by omega) hr
  exact goal _ rfl
theorem rFind_ret (l : List Se) (s : Int) (name : ByteArray) (hl : l.length ≤ 64) (hi : ∀ x ∈ l, x.items.length ≤ maxLen) :
    Ret Try.prog 58 [eL 5 cSe l, .int .i64 s, .str name] [] (.tup [.int .i64 (findF l s name).1, .int .i64 (findF l s name).2.1, .bool (findF l s name).2.2]) [] := by
  have goal : ∀ r, findF l s name = r → Ret Try.prog 58 [eL 5 cSe l, .int .i64 s, .str name] [] (.tup [.int .i64 r.1, .int .i64 r.2.1, .bool r.2.2]) [] := by
    intro r hr
    refine ret_of_body atNone tok mixed Try.func58 (by kernel_rfl) rfl (k := 46) (rs := [.tmp 6, .tmp 7, .tmp 8]) (by kernel_rfl) (by kernel_rfl) ?_
    (conv => whnf) <;> repeat' (first | ((first | refine wN ?_ | refine wNc ?_ | refine wA ?_ | refine wB ?_ | refine wC ?_ | refine wD ?_ | refine vA ?_ | refine vB ?_ | refine vC ?_ | refine vD ?_ | refine uA ?_ | refine uB ?_ | refine uC ?_ | refine uD ?_); conv => whnf) | ((first | apply Pick.dec | apply Pick.beq | apply Cond.dec | apply Cond.beq | apply Cond.nd | apply Pick.nd | apply Pick.mk | apply Cond.mk) <;> intro h <;> conv => whnf))
    intro I hw hs
    have turn : ∀ (d k : Nat) (s : Int), k + d = l.length + 1 → findN l name d s = r →
        I [eL 5 cSe l, .int .i64 s, .str name, .und, .und, .und, .und, .und, .und, .int .i64 (k : Int), .und, .und, .und, .und, .und, .und, .und, .und, .und, .und, .und, .und, .und, .und, .und, .und, .und, .und, .und, .und, .und, .und, .und, .und, .und, .und, .und, .und, .und, .und, .und, .und, .und, .und, .und, .und] [] := by
      intro d
      induction d with
      | zero =>
        intro k s hk hr
        subst hr
        apply hs
        (conv => whnf) <;> repeat' (first | ((first | refine wN ?_ | refine wNc ?_ | refine wA ?_ | refine wB ?_ | refine wC ?_ | refine wD ?_ | refine vA ?_ | refine vB ?_ | refine vC ?_ | refine vD ?_ | refine uA ?_ | refine uB ?_ | refine uC ?_ | refine uD ?_); conv => whnf) | ((first | apply Pick.dec | apply Pick.beq | apply Cond.dec | apply Cond.beq | apply Cond.nd | apply Pick.nd | apply Pick.mk | apply Cond.mk) <;> intro h <;> conv => whnf))
        exact End.mk rfl rfl
      | succ d im =>
        intro k s hk hr
        have e1 : IntKind.i64.wrap ((k : Int) + 1) = ((k + 1 : Nat) : Int) := by rw [wi64_id (by omega) (by omega)]; omega
        unfold findN at hr
        by_cases h0 : 0 ≤ s
        · by_cases h1 : s.toNat < l.length
          · rw [seAt_some h0 h1] at hr
            simp only at hr
            have gk : getL cSe l s.toNat = cSe l[s.toNat] := getL_at (List.getElem?_eq_getElem h1)
            have hc := rreadable_ret l[s.toNat].items name (hi _ (List.getElem_mem h1))
            generalize l[s.toNat] = x at *
            generalize idxR name 0 x.items = j at *
            apply hs
            by_cases hj : 0 ≤ j
            · rw [if_pos hj] at hr hc
              rw [decide_eq_true hj] at hc
              subst hr
              (conv => whnf) <;> repeat' (first | ((conv => arg 1; whnf); rw [gk]; conv => whnf) | ((first | refine wN ?_ | refine wNc ?_ | refine wA ?_ | refine wB ?_ | refine wC ?_ | refine wD ?_ | refine Called.mk _ _ (hc) ?_ | refine vA ?_ | refine vB ?_ | refine vC ?_ | refine vD ?_ | refine uA ?_ | refine uB ?_ | refine uC ?_ | refine uD ?_); conv => whnf) | ((first | apply Pick.dec | apply Pick.beq | apply Cond.dec | apply Cond.beq | apply Cond.nd | apply Pick.nd | apply Pick.mk | apply Cond.mk) <;> intro h <;> conv => whnf))
              exact End.mk rfl rfl
            · rw [if_neg hj] at hr hc
              rw [decide_eq_false hj] at hc
              (conv => whnf) <;> repeat' (first | ((conv => arg 1; whnf); rw [gk]; conv => whnf) | ((first | refine wN ?_ | refine wNc ?_ | refine wA ?_ | refine wB ?_ | refine wC ?_ | refine wD ?_ | refine Called.mk _ _ (hc) ?_ | refine vA ?_ | refine vB ?_ | refine vC ?_ | refine vD ?_ | refine uA ?_ | refine uB ?_ | refine uC ?_ | refine uD ?_); conv => whnf) | ((first | apply Pick.dec | apply Pick.beq | apply Cond.dec | apply Cond.beq | apply Cond.nd | apply Pick.nd | apply Pick.mk | apply Cond.mk) <;> intro h <;> conv => whnf))
              rw [e1]
              apply hw [] [true, true, true, false, false, false, false, false, false, true] _ _ rfl
              exact im (k + 1) x.par (by omega) hr
          · rw [seAt_none (.inr (by omega))] at hr
            subst hr
            apply hs
            (conv => whnf) <;> repeat' (first | ((first | refine wN ?_ | refine wNc ?_ | refine wA ?_ | refine wB ?_ | refine wC ?_ | refine wD ?_ | refine vA ?_ | refine vB ?_ | refine vC ?_ | refine vD ?_ | refine uA ?_ | refine uB ?_ | refine uC ?_ | refine uD ?_); conv => whnf) | ((first | apply Pick.dec | apply Pick.beq | apply Cond.dec | apply Cond.beq | apply Cond.nd | apply Pick.nd | apply Pick.mk | apply Cond.mk) <;> intro h <;> conv => whnf))
            all_goals exact End.mk rfl rfl
        · rw [seAt_none (.inl (by omega))] at hr
          subst hr
          apply hs
          (conv => whnf) <;> repeat' (first | ((first | refine wN ?_ | refine wNc ?_ | refine wA ?_ | refine wB ?_ | refine wC ?_ | refine wD ?_ | refine vA ?_ | refine vB ?_ | refine vC ?_ | refine vD ?_ | refine uA ?_ | refine uB ?_ | refine uC ?_ | refine uD ?_); conv => whnf) | ((first | apply Pick.dec | apply Pick.beq | apply Cond.dec | apply Cond.beq | apply Cond.nd | apply Pick.nd | apply Pick.mk | apply Cond.mk) <;> intro h <;> conv => whnf))
          all_goals exact End.mk rfl rfl
    apply hw [] [true, true, true, false, false, false, false, false, false, true] _ _ rfl
    exact turn (l.length + 1) 0 s (by omega) hr
  exact goal _ rfl
theorem kidsN_neg {s : Int} (h : s < 0) : ∀ (k : Nat) (l : List Se), kidsN s k l = []
  | _, [] => rfl
  | k, x :: r => by
    unfold kidsN
    rw [if_neg (by omega)]
    exact kidsN_neg h (k + 1) r
theorem rkids_go (l : List Se) (s : Int) (hs0 : 0 ≤ s) (hl : l.length ≤ 64) (vt : Val) (ht : List Blk) (h0 : kidsF l s = [] → vt = .nils ∧ ht = []) (h1 : kidsF l s ≠ [] → vt = .row 0 (kidsF l s).length ∧ ht = [.row 3 1 (kidsF l s).length (getL cI (kidsF l s)) 0]) :
    Ret Try.prog 69 [eL 5 cSe l, .int .i64 s] [] vt ht := by
  refine ret_of_body atNone tok mixed Try.func69 (by kernel_rfl) rfl (k := 29) (rs := [.tmp 4]) (by kernel_rfl) (by kernel_rfl) ?_
  (conv => whnf) <;> repeat' (first | ((first | refine wN ?_ | refine wNc ?_ | refine wA ?_ | refine wB ?_ | refine wC ?_ | refine wD ?_ | refine vA ?_ | refine vB ?_ | refine vC ?_ | refine vD ?_ | refine uA ?_ | refine uB ?_ | refine uC ?_ | refine uD ?_); conv => whnf) | ((first | apply Pick.dec | apply Pick.beq | apply Cond.dec | apply Cond.beq | apply Cond.nd | apply Pick.nd | apply Pick.mk | apply Cond.mk) <;> intro h <;> conv => whnf))
  intro I hw hs
  have turn : ∀ (d k : Nat) (out : List Int), k + d = l.length → out.length ≤ k → kidsF l s = out ++ kidsN s k (l.drop k) →
      (out = [] → I [eL 5 cSe l, .int .i64 s, .und, .und, .und, .nils, .int .i64 (k : Int), .und, .und, .und, .und, .und, .und, .und, .und, .und, .und, .und, .und, .und, .und, .und, .und, .und, .und, .und, .und, .und, .und] []) ∧
      (out ≠ [] → I [eL 5 cSe l, .int .i64 s, .und, .und, .und, .row 0 out.length, .int .i64 (k : Int), .und, .und, .und, .und, .und, .und, .und, .und, .und, .und, .und, .und, .und, .und, .und, .und, .und, .und, .und, .und, .und, .und] [.row 3 1 out.length (getL cI out) 0]) := by
    intro d
    induction d with
    | zero =>
      intro k out hk ho he
      rw [List.drop_of_length_le (by omega)] at he
      have he : kidsF l s = out := he.trans (List.append_nil _)
      rw [he] at h0 h1
      refine ⟨fun hn => ?_, fun hn => ?_⟩
      · obtain ⟨rfl, rfl⟩ := h0 hn
        apply hs
        (conv => whnf) <;> repeat' (first | ((first | refine wN ?_ | refine wNc ?_ | refine wA ?_ | refine wB ?_ | refine wC ?_ | refine wD ?_ | refine vA ?_ | refine vB ?_ | refine vC ?_ | refine vD ?_ | refine uA ?_ | refine uB ?_ | refine uC ?_ | refine uD ?_); conv => whnf) | ((first | apply Pick.dec | apply Pick.beq | apply Cond.dec | apply Cond.beq | apply Cond.nd | apply Pick.nd | apply Pick.mk | apply Cond.mk) <;> intro h <;> conv => whnf))
        exact End.mk rfl rfl
      · obtain ⟨rfl, rfl⟩ := h1 hn
        apply hs
        (conv => whnf) <;> repeat' (first | ((first | refine wN ?_ | refine wNc ?_ | refine wA ?_ | refine wB ?_ | refine wC ?_ | refine wD ?_ | refine vA ?_ | refine vB ?_ | refine vC ?_ | refine vD ?_ | refine uA ?_ | refine uB ?_ | refine uC ?_ | refine uD ?_); conv => whnf) | ((first | apply Pick.dec | apply Pick.beq | apply Cond.dec | apply Cond.beq | apply Cond.nd | apply Pick.nd | apply Pick.mk | apply Cond.mk) <;> intro h <;> conv => whnf))
        exact EndH.mk [0] rfl rfl rfl
    | succ d im =>
      intro k out hk ho he
      have hkl : k < l.length := by omega
      have e1 : IntKind.i64.wrap ((k : Int) + 1) = ((k + 1 : Nat) : Int) := by rw [wi64_id (by omega) (by omega)]; omega
      have gk : getL cSe l (Int.toNat (k : Int)) = cSe l[k] := by rw [Int.toNat_natCast]; exact getL_at (List.getElem?_eq_getElem hkl)
      rw [List.drop_eq_getElem_cons hkl] at he
      have imS := im (k + 1) out (by omega) (by omega)
      have imG := im (k + 1) (out ++ [(k : Int)]) (by omega) (by rw [List.length_append]; simp; omega)
      generalize l[k] = x at *
      unfold kidsN at he
      by_cases hc : x.par = s
      · rw [if_pos ⟨hs0, hc⟩] at he
        have imG := (imG (by rw [he]; simp)).2 (by simp)
        have elen : (out ++ [(k : Int)]).length = out.length + 1 := by simp
        rw [elen] at imG
        refine ⟨fun hn => ?_, fun hn => ?_⟩
        · subst hn
          apply hs
          (conv => whnf) <;> repeat' (first | ((conv => arg 1; whnf); rw [gk]; conv => whnf) | (rw [getI_one]; conv => whnf) | ((first | refine wN ?_ | refine wNc ?_ | refine wA ?_ | refine wB ?_ | refine wC ?_ | refine wD ?_ | refine vA ?_ | refine vB ?_ | refine vC ?_ | refine vD ?_ | refine uA ?_ | refine uB ?_ | refine uC ?_ | refine uD ?_); conv => whnf) | ((first | apply Pick.dec | apply Pick.beq | apply Cond.dec | apply Cond.beq | apply Cond.nd | apply Pick.nd | apply Pick.mk | apply Cond.mk) <;> intro h <;> conv => whnf))
          rw [e1]
          apply hw [1] [true, true, false, false, false, true, true] _ _ rfl
          exact imG
        · apply hs
          (conv => whnf) <;> repeat' (first | ((conv => arg 1; whnf); rw [gk]; conv => whnf) | (rw [getI_snoc]; conv => whnf) | ((first | refine wN ?_ | refine wNc ?_ | refine wA ?_ | refine wB ?_ | refine wC ?_ | refine wD ?_ | refine vA ?_ | refine vB ?_ | refine vC ?_ | refine vD ?_ | refine uA ?_ | refine uB ?_ | refine uC ?_ | refine uD ?_); conv => whnf) | ((first | apply Pick.dec | apply Pick.beq | apply Cond.dec | apply Cond.beq | apply Cond.nd | apply Pick.nd | apply Pick.mk | apply Cond.mk) <;> intro h <;> conv => whnf))
          rw [e1]
          apply hw [2] [true, true, false, false, false, true, true] _ _ rfl
          exact imG
      · rw [if_neg (fun h => hc h.2)] at he
        have imS := imS he
        refine ⟨fun hn => ?_, fun hn => ?_⟩
        · apply hs
          (conv => whnf) <;> repeat' (first | ((conv => arg 1; whnf); rw [gk]; conv => whnf) | ((first | refine wN ?_ | refine wNc ?_ | refine wA ?_ | refine wB ?_ | refine wC ?_ | refine wD ?_ | refine vA ?_ | refine vB ?_ | refine vC ?_ | refine vD ?_ | refine uA ?_ | refine uB ?_ | refine uC ?_ | refine uD ?_); conv => whnf) | ((first | apply Pick.dec | apply Pick.beq | apply Cond.dec | apply Cond.beq | apply Cond.nd | apply Pick.nd | apply Pick.mk | apply Cond.mk) <;> intro h <;> conv => whnf))
          rw [e1]
          apply hw [] [true, true, false, false, false, true, true] _ _ rfl
          exact imS.1 hn
        · apply hs
          (conv => whnf) <;> repeat' (first | ((conv => arg 1; whnf); rw [gk]; conv => whnf) | ((first | refine wN ?_ | refine wNc ?_ | refine wA ?_ | refine wB ?_ | refine wC ?_ | refine wD ?_ | refine vA ?_ | refine vB ?_ | refine vC ?_ | refine vD ?_ | refine uA ?_ | refine uB ?_ | refine uC ?_ | refine uD ?_); conv => whnf) | ((first | apply Pick.dec | apply Pick.beq | apply Cond.dec | apply Cond.beq | apply Cond.nd | apply Pick.nd | apply Pick.mk | apply Cond.mk) <;> intro h <;> conv => whnf))
          rw [e1]
          apply hw [0] [true, true, false, false, false, true, true] _ _ rfl
          exact imS.2 hn
  apply hw [] [true, true, false, false, false, true, true] _ _ rfl
  exact (turn l.length 0 [] (by omega) (by simp) rfl).1 rfl
theorem rkids_ret (l : List Se) (s : Int) (hl : l.length ≤ 64) : Ret Try.prog 69 [eL 5 cSe l, .int .i64 s] [] (eL 1 cI (kidsF l s)) [] := by
  by_cases hs0 : s < 0
  · have h : Ret Try.prog 69 [eL 5 cSe l, .int .i64 s] [] .nils [] := by
      refine ret_of_body atNone tok mixed Try.func69 (by kernel_rfl) rfl (k := 29) (rs := [.tmp 4]) (by kernel_rfl) (by kernel_rfl) ?_
      (conv => whnf) <;> repeat' (first | (intro I hw hs; apply hs; conv => whnf) | (apply hs; conv => whnf) | ((first | refine wN ?_ | refine wNc ?_ | refine wA ?_ | refine wB ?_ | refine wC ?_ | refine wD ?_ | refine vA ?_ | refine vB ?_ | refine vC ?_ | refine vD ?_ | refine uA ?_ | refine uB ?_ | refine uC ?_ | refine uD ?_); conv => whnf) | ((first | apply Pick.dec | apply Pick.beq | apply Cond.dec | apply Cond.beq | apply Cond.nd | apply Pick.nd | apply Pick.mk | apply Cond.mk) <;> intro h <;> conv => whnf))
      all_goals exact End.mk rfl rfl
    have e : kidsF l s = [] := kidsN_neg hs0 0 l
    rw [e]
    exact h.leR le_nils
  · by_cases he : kidsF l s = []
    · have h := rkids_go l s (by omega) hl .nils [] (fun _ => ⟨rfl, rfl⟩) (fun k => absurd he k)
      rw [he]
      exact h.leR le_nils
    · have h := rkids_go l s (by omega) hl _ _ (fun k => absurd k he) (fun _ => ⟨rfl, rfl⟩)
      exact h.lend ⟨rfl, Nat.le_refl _, Nat.le_refl _⟩ rfl
theorem rKid_ret (l : List Se) (s : Int) (name : ByteArray) (hl : l.length ≤ 64) : Ret Try.prog 60 [eL 5 cSe l, .int .i64 s, .str name] [] (.tup [.int .i64 (kidF l s name).1, .bool (kidF l s name).2]) [] := by
  have hK := rkids_ret l s hl
  have hlt : ∀ i ∈ kidsF l s, 0 ≤ i ∧ i.toNat < l.length := fun i hi => by
    have := kidsN_lt s 0 l i hi
    omega
  have hlen := kidsN_len s 0 l
  have hlen : (kidsF l s).length ≤ l.length := hlen
  have goal : ∀ r, kidF l s name = r → Ret Try.prog 60 [eL 5 cSe l, .int .i64 s, .str name] [] (.tup [.int .i64 r.1, .bool r.2]) [] := by
    intro r hr
    unfold kidF at hr
    generalize kidsF l s = ks at *
    refine ret_of_body atCalls tok mixed Try.func60 (by kernel_rfl) rfl (k := 33) (rs := [.tmp 6, .tmp 7]) (by kernel_rfl) (by kernel_rfl) ?_
    (conv => whnf) <;> repeat' (first | ((first | refine wN ?_ | refine wNc ?_ | refine wA ?_ | refine wB ?_ | refine wC ?_ | refine wD ?_ | refine Called.mk _ _ (hK) ?_ | refine vA ?_ | refine vB ?_ | refine vC ?_ | refine vD ?_ | refine uA ?_ | refine uB ?_ | refine uC ?_ | refine uD ?_); conv => whnf) | ((first | apply Pick.dec | apply Pick.beq | apply Cond.dec | apply Cond.beq | apply Cond.nd | apply Pick.nd | apply Pick.mk | apply Cond.mk) <;> intro h <;> conv => whnf))
    intro I hw hs
    have turn : ∀ (d k : Nat), k + d = ks.length → (match (ks.drop k).find? fun i => decide (((l[i.toNat]?).getD Se0).name = name) with | some i => (i, true) | none => (0, false)) = r →
        I [eL 5 cSe l, .und, .str name, .und, .und, .und, .und, .und, eL 1 cI ks, .int .i64 (k : Int), .und, .und, .und, .und, .und, .und, .und, .und, .und, .und, .und, .und, .und, .und, .und, .und, .und, .und, .und, .und, .und, .und, .und] [] := by
      intro d
      induction d with
      | zero =>
        intro k hk he
        rw [List.drop_of_length_le (by omega)] at he
        subst he
        apply hs
        conv => whnf
        refine Cond.ff (decF (by omega)) ?_
        (conv => whnf) <;> repeat' (first | ((first | refine wN ?_ | refine wNc ?_ | refine wA ?_ | refine wB ?_ | refine wC ?_ | refine wD ?_ | refine vA ?_ | refine vB ?_ | refine vC ?_ | refine vD ?_ | refine uA ?_ | refine uB ?_ | refine uC ?_ | refine uD ?_); conv => whnf) | ((first | apply Pick.dec | apply Pick.beq | apply Cond.dec | apply Cond.beq | apply Cond.nd | apply Pick.nd | apply Pick.mk | apply Cond.mk) <;> intro h <;> conv => whnf))
        exact End.mk rfl rfl
      | succ d im =>
        intro k hk he
        have hkl : k < ks.length := by omega
        have e1 : IntKind.i64.wrap ((k : Int) + 1) = ((k + 1 : Nat) : Int) := by rw [wi64_id (by omega) (by omega)]; omega
        have gk : getL cI ks (Int.toNat (k : Int)) = cI ks[k] := by rw [Int.toNat_natCast]; exact getL_at (List.getElem?_eq_getElem hkl)
        obtain ⟨hi0, hi1⟩ := hlt ks[k] (List.getElem_mem hkl)
        rw [List.drop_eq_getElem_cons hkl] at he
        generalize ks[k] = i at *
        have gl : getL cSe l i.toNat = cSe l[i.toNat] := getL_at (List.getElem?_eq_getElem hi1)
        have hname : ((l[i.toNat]?).getD Se0).name = (l[i.toNat]).name := by rw [List.getElem?_eq_getElem hi1]; rfl
        by_cases hn : (l[i.toNat]).name = name
        · rw [List.find?_cons_of_pos (by rw [hname]; simpa using hn)] at he
          subst he
          generalize l[i.toNat] = x at *
          have hq : (x.name.toList == name.toList) = true := by rw [toList_eq]; exact decide_eq_true hn
          apply hs
          conv => whnf
          refine Cond.tt (decT (by omega)) ?_
          (conv => whnf) <;> repeat' (first | ((conv => arg 1; whnf); rw [gk]; conv => whnf) | (rw [gk]; conv => whnf) | ((conv => arg 1; whnf); rw [gl]; conv => whnf) | (rw [gl]; conv => whnf) | (rw [hq]; conv => whnf) | ((first | refine wN ?_ | refine wNc ?_ | refine wA ?_ | refine wB ?_ | refine wC ?_ | refine wD ?_ | refine vA ?_ | refine vB ?_ | refine vC ?_ | refine vD ?_ | refine uA ?_ | refine uB ?_ | refine uC ?_ | refine uD ?_); conv => whnf) | ((first | apply Pick.dec | apply Pick.beq | apply Cond.dec | apply Cond.beq | apply Cond.nd | apply Pick.nd | apply Pick.mk | apply Cond.mk) <;> intro h <;> conv => whnf))
          exact End.mk rfl rfl
        · rw [List.find?_cons_of_neg (by rw [hname]; simpa using hn)] at he
          generalize l[i.toNat] = x at *
          have hq : (x.name.toList == name.toList) = false := by rw [toList_eq]; exact decide_eq_false hn
          apply hs
          conv => whnf
          refine Cond.tt (decT (by omega)) ?_
          (conv => whnf) <;> repeat' (first | ((conv => arg 1; whnf); rw [gk]; conv => whnf) | (rw [gk]; conv => whnf) | ((conv => arg 1; whnf); rw [gl]; conv => whnf) | (rw [gl]; conv => whnf) | (rw [hq]; conv => whnf) | ((first | refine wN ?_ | refine wNc ?_ | refine wA ?_ | refine wB ?_ | refine wC ?_ | refine wD ?_ | refine vA ?_ | refine vB ?_ | refine vC ?_ | refine vD ?_ | refine uA ?_ | refine uB ?_ | refine uC ?_ | refine uD ?_); conv => whnf) | ((first | apply Pick.dec | apply Pick.beq | apply Cond.dec | apply Cond.beq | apply Cond.nd | apply Pick.nd | apply Pick.mk | apply Cond.mk) <;> intro h <;> conv => whnf))
          rw [e1]
          apply hw [] [true, false, true, false, false, false, false, false, true, true] _ _ rfl
          exact im (k + 1) (by omega) he
    apply hw [] [true, false, true, false, false, false, false, false, true, true] _ _ rfl
    exact turn ks.length 0 (by omega) hr
  exact goal _ rfl
end Go.Proofs.Ythjgnmpnagmeoaa

set_option linter.unusedVariables false
set_option linter.unusedSimpArgs false
set_option maxRecDepth 100000
namespace Go.Proofs.Ythjgnmpnagmeoaa
open Go.AM
theorem putO_take {n : Int} : ∀ {l : List Int} {k : Nat}, (∀ x ∈ l.take k, x < n) → putO n l = l.take k ++ putO n (l.drop k)
  | l, 0, _ => by simp
  | [], k + 1, _ => by simp
  | x :: r, k + 1, h => by
    rw [List.take_succ_cons] at h
    have h1 := h x (List.mem_cons_self ..)
    have ih := putO_take (l := r) (k := k) fun y hy => h y (List.mem_cons_of_mem _ hy)
    rw [List.take_succ_cons, List.drop_succ_cons, List.cons_append, ← ih]
    show (if x < n then x :: putO n r else if x = n then x :: r else n :: x :: r) = _
    rw [if_pos h1]
abbrev onePc (n : Int) : Nat → List Val := fun q => (pieces 1 1 [Val.int .i64 n]).getD q []
def putG (k : Nat) (n : Int) (l : List Int) : Nat → List Val := fun i => if i < k + 1 then (fun i => if i < k then (fun i => getL cI l (i + 0)) i else onePc n (i - k)) i else (fun i => getL cI l (i + k)) (i - (k + 1))
def putG0 (n : Int) (l : List Int) : Nat → List Val := fun i => if i < 1 then onePc n i else (fun i => getL cI l (i + 0)) (i - 1)
theorem onePc_0 (n : Int) : onePc n 0 = cI n := rfl
theorem putG_ext {k : Nat} {n : Int} {l : List Int} (hk : k ≤ l.length) : ExtL cI (k + 1 + (l.length - k)) (putG k n l) (l.take k ++ n :: l.drop k) := by
  have hlen : (l.take k ++ n :: l.drop k).length = k + 1 + (l.length - k) := by simp; omega
  refine ⟨hlen, fun i hi => ?_⟩
  have hi' := hi
  rw [hlen] at hi'
  unfold putG
  simp only [Nat.add_zero]
  by_cases h1 : i < k
  · rw [if_pos (by omega), if_pos h1, List.getElem_append_left (by simp; omega), List.getElem_take]
    exact getL_at (List.getElem?_eq_getElem (by omega))
  · by_cases h2 : i = k
    · subst h2
      rw [if_pos (by omega), if_neg (by omega), Nat.sub_self, onePc_0, List.getElem_append_right (by simp; omega)]
      simp [Nat.min_eq_left hk]
    · rw [if_neg (by omega), List.getElem_append_right (by simp; omega)]
      have e1 : i - (k + 1) + k = i - 1 := by omega
      rw [e1, getL_at (List.getElem?_eq_getElem (show i - 1 < l.length by omega))]
      congr 1
      simp only [List.length_take, Nat.min_eq_left hk]
      obtain ⟨q, hq⟩ : ∃ q, i - k = q + 1 := ⟨i - k - 1, by omega⟩
      have : i = k + q + 1 := by omega
      subst this
      simp [show k + q + 1 - k = q + 1 by omega]
theorem putG0_ext {n : Int} {l : List Int} : ExtL cI (1 + l.length) (putG0 n l) (n :: l) := by
  refine ⟨by simp; omega, fun i hi => ?_⟩
  have hi' : i < l.length + 1 := by simpa using hi
  unfold putG0
  simp only [Nat.add_zero]
  cases i with
  | zero => rfl
  | succ i =>
    rw [if_neg (by omega)]
    simp only [Nat.add_sub_cancel, List.getElem_cons_succ]
    exact getL_at (List.getElem?_eq_getElem (by omega))
theorem put_walk (l : List Int) (n : Int) (hl : l.length ≤ 1048576) (v : Val) (hp : List Blk)
    (hh : ∀ k : Nat, (∀ x ∈ l.take k, x < n) → (∀ h : k < l.length, l[k] = n → v = eL 1 cI l ∧ hp = []) ∧
      (k ≤ l.length → (∀ h : k < l.length, n < l[k]) → (k = 0 → v = .row 0 (1 + l.length) ∧ hp = [.row 3 1 (1 + l.length) (putG0 n l) 0]) ∧ (0 < k → v = .row 0 (k + 1 + (l.length - k)) ∧ hp = [.row 3 1 (k + 1 + (l.length - k)) (putG k n l) 0]))) :
    Ret Try.prog 59 [eL 1 cI l, .int .i64 n] [] v hp := by
  refine ret_of_body atNone tok mixed Try.func59 (by kernel_rfl) rfl (k := 47) (rs := [.tmp 4]) (by kernel_rfl) (by kernel_rfl) ?_
  (conv => whnf) <;> repeat' (first | ((first | refine wN ?_ | refine wNc ?_ | refine wA ?_ | refine wB ?_ | refine wC ?_ | refine wD ?_ | refine vA ?_ | refine vB ?_ | refine vC ?_ | refine vD ?_ | refine uA ?_ | refine uB ?_ | refine uC ?_ | refine uD ?_); conv => whnf) | ((first | apply Pick.dec | apply Pick.beq | apply Cond.dec | apply Cond.beq | apply Cond.nd | apply Pick.nd | apply Pick.mk | apply Cond.mk) <;> intro h <;> conv => whnf))
  intro J jw js
  have key : ∀ (d k : Nat), k + d = l.length → (∀ x ∈ l.take k, x < n) → J [eL 1 cI l, .int .i64 n, .und, .und, .und, .int .i64 (k : Int), .und, .und, .und, .und, .und, .und, .und, .und, .und, .und, .und, .und, .und, .und, .und, .und, .und, .und, .und, .und, .und, .und, .und, .und, .und, .und, .und, .und, .und, .und, .und, .und, .und, .und, .und, .und, .und, .und, .und, .und, .und] [] := by
    intro d
    induction d with
    | zero =>
      intro k hk ht
      obtain ⟨_, h2⟩ := hh k ht
      obtain ⟨h3, h4⟩ := h2 (by omega) (fun h => by omega)
      obtain rfl : k = l.length := by omega
      apply js
      rcases Nat.eq_zero_or_pos l.length with h0 | h0
      · obtain rfl : l = [] := List.eq_nil_of_length_eq_zero h0
        obtain ⟨rfl, rfl⟩ := h3 rfl
        (conv => whnf) <;> repeat' (first | ((first | refine wN ?_ | refine wNc ?_ | refine wA ?_ | refine wB ?_ | refine wC ?_ | refine wD ?_ | refine vA ?_ | refine vB ?_ | refine vC ?_ | refine vD ?_ | refine uA ?_ | refine uB ?_ | refine uC ?_ | refine uD ?_); conv => whnf) | ((first | apply Pick.dec | apply Pick.beq | apply Cond.dec | apply Cond.beq | apply Cond.nd | apply Pick.nd | apply Pick.mk | apply Cond.mk) <;> intro h <;> conv => whnf))
        exact EndH.mk [2] rfl rfl rfl
      · obtain ⟨rfl, rfl⟩ := h4 h0
        clear h2 h3 h4 hh
        cases l with
        | nil => cases h0
        | cons x r =>
          have hl' : r.length + 1 ≤ 1048576 := hl
          (conv => whnf) <;> repeat' (first | ((first | refine wN ?_ | refine wNc ?_ | refine wA ?_ | refine wB ?_ | refine wC ?_ | refine wD ?_ | refine vA ?_ | refine vB ?_ | refine vC ?_ | refine vD ?_ | refine uA ?_ | refine uB ?_ | refine uC ?_ | refine uD ?_); conv => whnf) | ((first | apply Pick.dec | apply Pick.beq | apply Cond.dec | apply Cond.beq | apply Cond.nd | apply Pick.nd | apply Pick.mk | apply Cond.mk) <;> intro h <;> conv => whnf))
          exact EndH.mk [3] rfl rfl rfl
    | succ d ih =>
      intro k hk ht
      have hkl : k < l.length := by omega
      have gk : getL cI l (Int.toNat (k : Int)) = cI l[k] := by rw [Int.toNat_natCast]; exact getL_at (List.getElem?_eq_getElem hkl)
      have e1 : IntKind.i64.wrap ((k : Int) + 1) = ((k + 1 : Nat) : Int) := by rw [wi64_id (by omega) (by omega)]; omega
      obtain ⟨h1, h2⟩ := hh k ht
      have h1 := h1 hkl
      have h2 := h2 (by omega)
      have ih := ih (k + 1) (by omega)
      have h5 : l[k] < n → ∀ x ∈ l.take (k + 1), x < n := fun h x hx => by
        rw [List.take_succ_eq_append_getElem hkl] at hx
        rcases List.mem_append.1 hx with hx | hx
        · exact ht x hx
        · obtain rfl : x = l[k] := by simpa using hx
          exact h
      have h2 : n < l[k] → _ := fun h => h2 (fun _ => h)
      generalize l[k] = x at *
      apply js
      rcases Int.lt_trichotomy x n with hx | hx | hx
      · (conv => whnf) <;> repeat' (first | ((conv => arg 1; whnf); rw [gk]; conv => whnf) | ((first | refine wN ?_ | refine wNc ?_ | refine wA ?_ | refine wB ?_ | refine wC ?_ | refine wD ?_ | refine vA ?_ | refine vB ?_ | refine vC ?_ | refine vD ?_ | refine uA ?_ | refine uB ?_ | refine uC ?_ | refine uD ?_); conv => whnf) | ((first | apply Pick.dec | apply Pick.beq | apply Cond.dec | apply Cond.beq | apply Cond.nd | apply Pick.nd | apply Pick.mk | apply Cond.mk) <;> intro h <;> conv => whnf))
        rw [e1]
        apply jw [] [true, true, false, false, false, true] _ _ rfl
        exact ih (h5 hx)
      · obtain ⟨rfl, rfl⟩ := h1 hx
        clear h2
        subst hx
        (conv => whnf) <;> repeat' (first | ((conv => arg 1; whnf); rw [gk]; conv => whnf) | ((first | refine wN ?_ | refine wNc ?_ | refine wA ?_ | refine wB ?_ | refine wC ?_ | refine wD ?_ | refine vA ?_ | refine vB ?_ | refine vC ?_ | refine vD ?_ | refine uA ?_ | refine uB ?_ | refine uC ?_ | refine uD ?_); conv => whnf) | ((first | apply Pick.dec | apply Pick.beq | apply Cond.dec | apply Cond.beq | apply Cond.nd | apply Pick.nd | apply Pick.mk | apply Cond.mk) <;> intro h <;> conv => whnf))
        exact End.mk rfl rfl
      · obtain ⟨h3, h4⟩ := h2 hx
        rcases Nat.eq_zero_or_pos k with h0 | h0
        · obtain ⟨rfl, rfl⟩ := h3 h0
          subst h0
          (conv => whnf) <;> repeat' (first | ((conv => arg 1; whnf); rw [gk]; conv => whnf) | ((first | refine wN ?_ | refine wNc ?_ | refine wA ?_ | refine wB ?_ | refine wC ?_ | refine wD ?_ | refine vA ?_ | refine vB ?_ | refine vC ?_ | refine vD ?_ | refine uA ?_ | refine uB ?_ | refine uC ?_ | refine uD ?_); conv => whnf) | ((first | apply Pick.dec | apply Pick.beq | apply Cond.dec | apply Cond.beq | apply Cond.nd | apply Pick.nd | apply Pick.mk | apply Cond.mk) <;> intro h <;> conv => whnf))
          exact EndH.mk [2] rfl rfl rfl
        · obtain ⟨rfl, rfl⟩ := h4 h0
          clear h1 h2 h3 h4
          obtain ⟨j, rfl⟩ : ∃ j, k = j + 1 := ⟨k - 1, by omega⟩
          (conv => whnf) <;> repeat' (first | ((conv => arg 1; whnf); rw [gk]; conv => whnf) | ((first | refine wN ?_ | refine wNc ?_ | refine wA ?_ | refine wB ?_ | refine wC ?_ | refine wD ?_ | refine vA ?_ | refine vB ?_ | refine vC ?_ | refine vD ?_ | refine uA ?_ | refine uB ?_ | refine uC ?_ | refine uD ?_); conv => whnf) | ((first | apply Pick.dec | apply Pick.beq | apply Cond.dec | apply Cond.beq | apply Cond.nd | apply Pick.nd | apply Pick.mk | apply Cond.mk) <;> intro h <;> conv => whnf))
          exact EndH.mk [3] rfl rfl rfl
  apply jw [] [true, true, false, false, false, true] _ _ rfl
  exact key l.length 0 (by omega) (by simp)
theorem put_ret (l : List Int) (n : Int) (hl : l.length ≤ 1048576) : Ret Try.prog 59 [eL 1 cI l, .int .i64 n] [] (eL 1 cI (putO n l)) [] := by
  -- where the number goes
  have h : ∃ k, k ≤ l.length ∧ (∀ x ∈ l.take k, x < n) ∧ ∀ h : k < l.length, n ≤ l[k] := by
    clear hl
    induction l with
    | nil => exact ⟨0, Nat.le_refl _, by simp, fun h => by simp at h⟩
    | cons x r ih =>
      by_cases hx : x < n
      · obtain ⟨k, h1, h2, h3⟩ := ih
        refine ⟨k + 1, by simp; omega, fun y hy => ?_, fun h => ?_⟩
        · rw [List.take_succ_cons] at hy
          rcases List.mem_cons.1 hy with rfl | hy
          · exact hx
          · exact h2 y hy
        · simp only [List.getElem_cons_succ]
          exact h3 (by simpa using h)
      · exact ⟨0, by simp, by simp, fun h => by simp; omega⟩
  obtain ⟨k, hk, ht, hd⟩ := h
  -- any other place where it might go is the same
  have uniq : ∀ j : Nat, (∀ x ∈ l.take j, x < n) → j ≤ l.length → (∀ h : j < l.length, n ≤ l[j]) → j = k := fun j hj hjl hjn => by
    rcases Nat.lt_trichotomy j k with h | h | h
    · exfalso
      have h1 := hjn (by omega)
      have h2 := ht l[j] (List.mem_iff_getElem.2 ⟨j, by simp; omega, by simp⟩)
      omega
    · exact h
    · exfalso
      have h1 := hd (by omega)
      have h2 := hj l[k] (List.mem_iff_getElem.2 ⟨k, by simp; omega, by simp⟩)
      omega
  rw [putO_take ht]
  by_cases hkl : k < l.length
  · have hd := hd hkl
    have e1 : putO n (l.drop k) = if l[k] = n then l.drop k else n :: l.drop k := by
      rw [List.drop_eq_getElem_cons hkl]
      show (if l[k] < n then _ else if l[k] = n then _ else _) = _
      rw [if_neg (by omega)]
    rw [e1]
    by_cases he : l[k] = n
    · rw [if_pos he, List.take_append_drop]
      refine put_walk l n hl _ _ fun j hj => ⟨fun h1 h2 => ⟨rfl, rfl⟩, fun h1 h2 => ?_⟩
      exfalso
      have := uniq j hj h1 fun h => by have := h2 h; omega
      subst this
      have := h2 hkl
      omega
    · rw [if_neg he]
      rcases Nat.eq_zero_or_pos k with h0 | h0
      · subst h0
        have h := put_walk l n hl (.row 0 (1 + l.length)) [.row 3 1 (1 + l.length) (putG0 n l) 0] fun j hj => ⟨fun h1 h2 => ?_, fun h1 h2 => ⟨fun _ => ⟨rfl, rfl⟩, fun h3 => ?_⟩⟩
        · have h2 : Ret Try.prog 59 [eL 1 cI l, .int .i64 n] [] (.ext 1 (1 + l.length) (putG0 n l)) [] := h.lend ⟨rfl, Nat.le_refl _, Nat.le_refl _⟩ rfl
          exact h2.leR (le_extL putG0_ext)
        · exfalso
          have := uniq j hj (by omega) fun h => by omega
          subst this
          exact he h2
        · exfalso
          have := uniq j hj h1 fun h => by have := h2 h; omega
          omega
      · have h := put_walk l n hl (.row 0 (k + 1 + (l.length - k))) [.row 3 1 (k + 1 + (l.length - k)) (putG k n l) 0] fun j hj => ⟨fun h1 h2 => ?_, fun h1 h2 => ?_⟩
        · have h2 : Ret Try.prog 59 [eL 1 cI l, .int .i64 n] [] (.ext 1 (k + 1 + (l.length - k)) (putG k n l)) [] := h.lend ⟨rfl, Nat.le_refl _, Nat.le_refl _⟩ rfl
          exact h2.leR (le_extL (putG_ext (by omega)))
        · exfalso
          have := uniq j hj (by omega) fun h => by omega
          subst this
          exact he h2
        · have := uniq j hj h1 fun h => by have := h2 h; omega
          subst this
          exact ⟨fun h3 => by omega, fun _ => ⟨rfl, rfl⟩⟩
  · obtain rfl : k = l.length := by omega
    have e1 : putO n (l.drop l.length) = n :: l.drop l.length := by rw [List.drop_of_length_le (Nat.le_refl _)]; rfl
    rw [e1]
    rcases Nat.eq_zero_or_pos l.length with h0 | h0
    · have e2 : l = [] := List.eq_nil_of_length_eq_zero h0
      have h := put_walk l n hl (.row 0 (1 + l.length)) [.row 3 1 (1 + l.length) (putG0 n l) 0] fun j hj => ⟨fun h1 h2 => by omega, fun h1 h2 => ⟨fun _ => ⟨rfl, rfl⟩, fun h3 => by omega⟩⟩
      have h2 : Ret Try.prog 59 [eL 1 cI l, .int .i64 n] [] (.ext 1 (1 + l.length) (putG0 n l)) [] := h.lend ⟨rfl, Nat.le_refl _, Nat.le_refl _⟩ rfl
      have h3 := h2.leR (le_extL putG0_ext)
      subst e2
      exact h3
    · have h := put_walk l n hl (.row 0 (l.length + 1 + (l.length - l.length))) [.row 3 1 (l.length + 1 + (l.length - l.length)) (putG l.length n l) 0] fun j hj => ⟨fun h1 h2 => ?_, fun h1 h2 => ?_⟩
      · have h2 : Ret Try.prog 59 [eL 1 cI l, .int .i64 n] [] (.ext 1 (l.length + 1 + (l.length - l.length)) (putG l.length n l)) [] := h.lend ⟨rfl, Nat.le_refl _, Nat.le_refl _⟩ rfl
        exact h2.leR (le_extL (putG_ext (Nat.le_refl _)))
      · exfalso
        have := uniq j hj (by omega) fun h => by omega
        omega
      · have := uniq j hj h1 fun h => by have := h2 h; omega
        subst this
        exact ⟨fun h3 => by omega, fun _ => ⟨rfl, rfl⟩⟩
end Go.Proofs.Ythjgnmpnagmeoaa

