/- types: Nodes, operator, only. -/
import Derived.Test.YthjgnmpnagmeoaaAmHy
import Derived.Test.YthjgnmpnagmeoaaAmIe
import Derived.Test.YthjgnmpnagmeoaaAmHr
import Derived.Test.YthjgnmpnagmeoaaAmX8z
set_option linter.unusedVariables false
set_option linter.unusedSimpArgs false
set_option maxRecDepth 100000
namespace Go.Proofs.Ythjgnmpnagmeoaa
open Go.AM
end Go.Proofs.Ythjgnmpnagmeoaa

set_option linter.unusedVariables false
set_option linter.unusedSimpArgs false
set_option maxRecDepth 100000
namespace Go.Proofs.Ythjgnmpnagmeoaa
open Go.AM
abbrev read1F : Nat := 64
theorem read1_ret (i : It) (name : ByteArray) : Ret Try.prog 64 [.agg (cIt i), .ptr 0 0] [.cells [.str name]] (.bool (decide (i.reads name))) [.cells [.str name]] := by
  by_cases hn : i.name = name
  · subst hn
    have hs : (i.name.toList == i.name.toList) = true := by simp
    by_cases k1 : i.kind = 1
    · have e : decide (i.reads i.name) = true := decide_eq_true ⟨rfl, .inl k1⟩
      rw [e]
      refine ret_of_body atCalls tok mixed Try.func64 (by kernel_rfl) rfl (k := 18) (rs := [.tmp 3]) (by kernel_rfl) (by kernel_rfl) ?_
      (conv => whnf) <;> repeat' (first | (rw [hs]; conv => whnf) | ((first | refine wN ?_ | refine wNc ?_ | refine wA ?_ | refine wB ?_ | refine wC ?_ | refine wD ?_ | refine vA ?_ | refine vB ?_ | refine vC ?_ | refine vD ?_ | refine uA ?_ | refine uB ?_ | refine uC ?_ | refine uD ?_); conv => whnf) | ((first | apply Pick.dec | apply Pick.beq | apply Cond.dec | apply Cond.beq | apply Cond.nd | apply Pick.nd | apply Pick.mk | apply Cond.mk) <;> intro h <;> conv => whnf))
      exact EndH.mk [0] rfl (bool_eq (by simp [k1])) rfl
    · by_cases k2 : i.kind = 2
      · have e : decide (i.reads i.name) = true := decide_eq_true ⟨rfl, .inr k2⟩
        rw [e]
        refine ret_of_body atCalls tok mixed Try.func64 (by kernel_rfl) rfl (k := 18) (rs := [.tmp 3]) (by kernel_rfl) (by kernel_rfl) ?_
        (conv => whnf) <;> repeat' (first | (rw [hs]; conv => whnf) | ((first | refine wN ?_ | refine wNc ?_ | refine wA ?_ | refine wB ?_ | refine wC ?_ | refine wD ?_ | refine vA ?_ | refine vB ?_ | refine vC ?_ | refine vD ?_ | refine uA ?_ | refine uB ?_ | refine uC ?_ | refine uD ?_); conv => whnf) | ((first | apply Pick.dec | apply Pick.beq | apply Cond.dec | apply Cond.beq | apply Cond.nd | apply Pick.nd | apply Pick.mk | apply Cond.mk) <;> intro h <;> conv => whnf))
        exact EndH.mk [0] rfl (bool_eq (by simp [k1, k2])) rfl
      · have e : decide (i.reads i.name) = false := decide_eq_false fun h => by have := h.2; omega
        rw [e]
        refine ret_of_body atCalls tok mixed Try.func64 (by kernel_rfl) rfl (k := 18) (rs := [.tmp 3]) (by kernel_rfl) (by kernel_rfl) ?_
        (conv => whnf) <;> repeat' (first | (rw [hs]; conv => whnf) | ((first | refine wN ?_ | refine wNc ?_ | refine wA ?_ | refine wB ?_ | refine wC ?_ | refine wD ?_ | refine vA ?_ | refine vB ?_ | refine vC ?_ | refine vD ?_ | refine uA ?_ | refine uB ?_ | refine uC ?_ | refine uD ?_); conv => whnf) | ((first | apply Pick.dec | apply Pick.beq | apply Cond.dec | apply Cond.beq | apply Cond.nd | apply Pick.nd | apply Pick.mk | apply Cond.mk) <;> intro h <;> conv => whnf))
        exact EndH.mk [0] rfl (bool_eq (by simp [k1, k2])) rfl
  · have hs : (i.name.toList == name.toList) = false := by rw [toList_eq]; exact decide_eq_false hn
    have e : decide (i.reads name) = false := decide_eq_false fun h => hn h.1
    rw [e]
    refine ret_of_body atCalls tok mixed Try.func64 (by kernel_rfl) rfl (k := 18) (rs := [.tmp 3]) (by kernel_rfl) (by kernel_rfl) ?_
    (conv => whnf) <;> repeat' (first | (rw [hs]; conv => whnf) | ((first | refine wN ?_ | refine wNc ?_ | refine wA ?_ | refine wB ?_ | refine wC ?_ | refine wD ?_ | refine vA ?_ | refine vB ?_ | refine vC ?_ | refine vD ?_ | refine uA ?_ | refine uB ?_ | refine uC ?_ | refine uD ?_); conv => whnf) | ((first | apply Pick.dec | apply Pick.beq | apply Cond.dec | apply Cond.beq | apply Cond.nd | apply Pick.nd | apply Pick.mk | apply Cond.mk) <;> intro h <;> conv => whnf))
    exact EndH.mk [0] rfl rfl rfl
theorem ixItem_ret (l : List It) (name : ByteArray) (hl : l.length ≤ maxLen) : Ret Try.prog 40 [eL 23 cIt l, .fn 64 [] [.ptr 0 0]] [.cells [.str name]] (.int .i64 (idxR name 0 l)) [.cells [.str name]] := by
  have hm : maxLen ≤ 9223372036854775807 := by decide
  refine ret_of_body atCalls tok mixed Try.func40 (by kernel_rfl) rfl (k := 19) (rs := [.tmp 4]) (by kernel_rfl) (by kernel_rfl) ?_
  (conv => whnf) <;> repeat' (first | ((first | refine wN ?_ | refine wNc ?_ | refine wA ?_ | refine wB ?_ | refine wC ?_ | refine wD ?_ | refine vA ?_ | refine vB ?_ | refine vC ?_ | refine vD ?_ | refine uA ?_ | refine uB ?_ | refine uC ?_ | refine uD ?_); conv => whnf) | ((first | apply Pick.dec | apply Pick.beq | apply Cond.dec | apply Cond.beq | apply Cond.nd | apply Pick.nd | apply Pick.mk | apply Cond.mk) <;> intro h <;> conv => whnf))
  intro I hw hs
  have turn : ∀ (d k : Nat), k + d = l.length → idxR name 0 l = idxR name k (l.drop k) →
      I [eL 23 cIt l, .fn read1F [] [.ptr 0 0], .und, .und, .int .i64 0, .und, .und, .int .i64 (l.length : Int), .int .i64 (k : Int), .und, .und, .und, .und, .und, .und, .und, .und, .und, .und] [.cells [.str name]] := by
    intro d
    induction d with
    | zero =>
      intro k hk hi
      apply hs
      conv => whnf
      refine Cond.ff (decF (by omega)) ?_
      (conv => whnf) <;> repeat' (first | ((first | refine wN ?_ | refine wNc ?_ | refine wA ?_ | refine wB ?_ | refine wC ?_ | refine wD ?_ | refine vA ?_ | refine vB ?_ | refine vC ?_ | refine vD ?_ | refine uA ?_ | refine uB ?_ | refine uC ?_ | refine uD ?_); conv => whnf) | ((first | apply Pick.dec | apply Pick.beq | apply Cond.dec | apply Cond.beq | apply Cond.nd | apply Pick.nd | apply Pick.mk | apply Cond.mk) <;> intro h <;> conv => whnf))
      refine EndH.mk [0] rfl (int_eq ?_) rfl
      rw [hi, List.drop_of_length_le (by omega)]; rfl
    | succ d ih =>
      intro k hk hi
      apply hs
      conv => whnf
      refine Cond.tt (decT (by omega)) ?_
      have hkl : k < l.length := by omega
      have gk : getL cIt l (Int.toNat (k : Int)) = cIt l[k] := by rw [Int.toNat_natCast]; exact getL_at (List.getElem?_eq_getElem hkl)
      have e1 : IntKind.i64.wrap ((k : Int) + 1) = ((k + 1 : Nat) : Int) := by rw [wi64_id (by omega) (by omega)]; omega
      have hd : l.drop k = l[k] :: l.drop (k + 1) := List.drop_eq_getElem_cons hkl
      have hc := read1_ret l[k] name
      by_cases hn : l[k].reads name
      · rw [decT hn] at hc
        (conv => whnf) <;> repeat' (first | (rw [gk]; conv => whnf) | (refine CalledH.mk [0] _ _ rfl (Nat.le_refl _) hc ?_; conv => whnf) | ((first | refine wN ?_ | refine wNc ?_ | refine wA ?_ | refine wB ?_ | refine wC ?_ | refine wD ?_ | refine vA ?_ | refine vB ?_ | refine vC ?_ | refine vD ?_ | refine uA ?_ | refine uB ?_ | refine uC ?_ | refine uD ?_); conv => whnf) | ((first | apply Pick.dec | apply Pick.beq | apply Cond.dec | apply Cond.beq | apply Cond.nd | apply Pick.nd | apply Pick.mk | apply Cond.mk) <;> intro h <;> conv => whnf))
        refine EndH.mk [0] rfl (int_eq ?_) rfl
        rw [hi, hd]; unfold idxR; rw [if_pos hn]
      · rw [decF hn] at hc
        (conv => whnf) <;> repeat' (first | (rw [gk]; conv => whnf) | (refine CalledH.mk [0] _ _ rfl (Nat.le_refl _) hc ?_; conv => whnf) | ((first | refine wN ?_ | refine wNc ?_ | refine wA ?_ | refine wB ?_ | refine wC ?_ | refine wD ?_ | refine vA ?_ | refine vB ?_ | refine vC ?_ | refine vD ?_ | refine uA ?_ | refine uB ?_ | refine uC ?_ | refine uD ?_); conv => whnf) | ((first | apply Pick.dec | apply Pick.beq | apply Cond.dec | apply Cond.beq | apply Cond.nd | apply Pick.nd | apply Pick.mk | apply Cond.mk) <;> intro h <;> conv => whnf))
        rw [e1]
        apply hw [0] [true, true, false, false, true, false, false, true, true] _ _ rfl
        refine ih (k + 1) (by omega) ?_
        rw [hi, hd]
        show (if l[k].reads name then (k : Int) else idxR name (k + 1) (l.drop (k + 1))) = _
        rw [if_neg hn]
  apply hw [0] [true, true, false, false, true, false, false, true, true] _ _ rfl
  exact turn l.length 0 (by omega) rfl
theorem read_ret (s : Se) (name : ByteArray) (hl : s.items.length ≤ maxLen) : Ret Try.prog 54 [.agg (cSe s), .str name] [] (.int .i64 (idxR name 0 s.items)) [] := by
  have hI := ixItem_ret s.items name hl
  refine ret_of_body atCalls tok mixed Try.func54 (by kernel_rfl) rfl (k := 9) (rs := [.tmp 4]) (by kernel_rfl) (by kernel_rfl) ?_
  (conv => whnf) <;> repeat' (first | (refine CalledH.mk [1] _ _ rfl (Nat.le_refl _) hI ?_; conv => whnf) | ((first | refine wN ?_ | refine wNc ?_ | refine wA ?_ | refine wB ?_ | refine wC ?_ | refine wD ?_ | refine vA ?_ | refine vB ?_ | refine vC ?_ | refine vD ?_ | refine uA ?_ | refine uB ?_ | refine uC ?_ | refine uD ?_); conv => whnf) | ((first | apply Pick.dec | apply Pick.beq | apply Cond.dec | apply Cond.beq | apply Cond.nd | apply Pick.nd | apply Pick.mk | apply Cond.mk) <;> intro h <;> conv => whnf))
  exact End.mk rfl rfl
end Go.Proofs.Ythjgnmpnagmeoaa

set_option linter.unusedVariables false
set_option linter.unusedSimpArgs false
set_option maxRecDepth 100000
namespace Go.Proofs.Ythjgnmpnagmeoaa
open Go.AM
theorem find_ret (l : List Se) (s : Int) (name : ByteArray) (hl : l.length ≤ 64) (hi : ∀ x ∈ l, x.items.length ≤ maxLen) :
    Ret Try.prog 38 [eL 5 cSe l, .int .i64 s, .str name] [] (.tup [.int .i64 (findF l s name).1, .int .i64 (findF l s name).2.1, .bool (findF l s name).2.2]) [] := by
  have ew : IntKind.i64.wrap ((l.length : Int) + 1) = ((l.length + 1 : Nat) : Int) := by rw [wi64_id (by omega) (by omega)]; omega
  have goal : ∀ r, findF l s name = r → Ret Try.prog 38 [eL 5 cSe l, .int .i64 s, .str name] [] (.tup [.int .i64 r.1, .int .i64 r.2.1, .bool r.2.2]) [] := by
    intro r hr
    refine ret_of_body atNone tok mixed Try.func38 (by kernel_rfl) rfl (k := 39) (rs := [.tmp 6, .tmp 7, .tmp 8]) (by kernel_rfl) (by kernel_rfl) ?_
    (conv => whnf) <;> repeat' (first | ((first | refine wN ?_ | refine wNc ?_ | refine wA ?_ | refine wB ?_ | refine wC ?_ | refine wD ?_ | refine vA ?_ | refine vB ?_ | refine vC ?_ | refine vD ?_ | refine uA ?_ | refine uB ?_ | refine uC ?_ | refine uD ?_); conv => whnf) | ((first | apply Pick.dec | apply Pick.beq | apply Cond.dec | apply Cond.beq | apply Cond.nd | apply Pick.nd | apply Pick.mk | apply Cond.mk) <;> intro h <;> conv => whnf))
    rw [ew]
    intro I hw hs
    have turn : ∀ (d k : Nat) (s : Int), k + d = l.length + 1 → findN l name d s = r →
        I [eL 5 cSe l, .int .i64 s, .str name, .und, .und, .und, .und, .und, .und, .und, .und, .und, .int .i64 ((l.length + 1 : Nat) : Int), .int .i64 (k : Int), .und, .und, .und, .und, .und, .und, .und, .und, .und, .und, .und, .und, .und, .und, .und, .und, .und, .und, .und, .und, .und, .und, .und, .und, .und] [] := by
      intro d
      induction d with
      | zero =>
        intro k s hk hr
        subst hr
        apply hs
        conv => whnf
        refine Cond.ff (decF (by omega)) ?_
        (conv => whnf) <;> repeat' (first | ((first | refine wN ?_ | refine wNc ?_ | refine wA ?_ | refine wB ?_ | refine wC ?_ | refine wD ?_ | refine vA ?_ | refine vB ?_ | refine vC ?_ | refine vD ?_ | refine uA ?_ | refine uB ?_ | refine uC ?_ | refine uD ?_); conv => whnf) | ((first | apply Pick.dec | apply Pick.beq | apply Cond.dec | apply Cond.beq | apply Cond.nd | apply Pick.nd | apply Pick.mk | apply Cond.mk) <;> intro h <;> conv => whnf))
        exact End.mk rfl rfl
      | succ d im =>
        intro k s hk hr
        have e1 : IntKind.i64.wrap ((k : Int) + 1) = ((k + 1 : Nat) : Int) := by rw [wi64_id (by omega) (by omega)]; omega
        unfold findN at hr
        by_cases h0 : 0 ≤ s
        · by_cases h1 : s.toNat < l.length
          · rw [seAt_some h0 h1] at hr
            simp only at hr
            have gk : getL cSe l s.toNat = cSe l[s.toNat] := getL_at (List.getElem?_eq_getElem h1)
            have hc := read_ret l[s.toNat] name (hi _ (List.getElem_mem h1))
            generalize l[s.toNat] = x at *
            generalize idxR name 0 x.items = j at *
            apply hs
            conv => whnf
            refine Cond.tt (decT (by omega)) ?_
            by_cases hj : 0 ≤ j
            · rw [if_pos hj] at hr
              subst hr
              (conv => whnf) <;> repeat' (first | (rw [gk]; conv => whnf) | ((first | refine wN ?_ | refine wNc ?_ | refine wA ?_ | refine wB ?_ | refine wC ?_ | refine wD ?_ | refine Called.mk _ _ (hc) ?_ | refine vA ?_ | refine vB ?_ | refine vC ?_ | refine vD ?_ | refine uA ?_ | refine uB ?_ | refine uC ?_ | refine uD ?_); conv => whnf) | ((first | apply Pick.dec | apply Pick.beq | apply Cond.dec | apply Cond.beq | apply Cond.nd | apply Pick.nd | apply Pick.mk | apply Cond.mk) <;> intro h <;> conv => whnf))
              exact End.mk rfl rfl
            · rw [if_neg hj] at hr
              (conv => whnf) <;> repeat' (first | (rw [gk]; conv => whnf) | ((first | refine wN ?_ | refine wNc ?_ | refine wA ?_ | refine wB ?_ | refine wC ?_ | refine wD ?_ | refine Called.mk _ _ (hc) ?_ | refine vA ?_ | refine vB ?_ | refine vC ?_ | refine vD ?_ | refine uA ?_ | refine uB ?_ | refine uC ?_ | refine uD ?_); conv => whnf) | ((first | apply Pick.dec | apply Pick.beq | apply Cond.dec | apply Cond.beq | apply Cond.nd | apply Pick.nd | apply Pick.mk | apply Cond.mk) <;> intro h <;> conv => whnf))
              rw [e1]
              apply hw [] [true, true, true, false, false, false, false, false, false, false, false, false, true, true] _ _ rfl
              exact im (k + 1) x.par (by omega) hr
          · rw [seAt_none (.inr (by omega))] at hr
            subst hr
            apply hs
            conv => whnf
            refine Cond.tt (decT (by omega)) ?_
            (conv => whnf) <;> repeat' (first | ((first | refine wN ?_ | refine wNc ?_ | refine wA ?_ | refine wB ?_ | refine wC ?_ | refine wD ?_ | refine vA ?_ | refine vB ?_ | refine vC ?_ | refine vD ?_ | refine uA ?_ | refine uB ?_ | refine uC ?_ | refine uD ?_); conv => whnf) | ((first | apply Pick.dec | apply Pick.beq | apply Cond.dec | apply Cond.beq | apply Cond.nd | apply Pick.nd | apply Pick.mk | apply Cond.mk) <;> intro h <;> conv => whnf))
            exact End.mk rfl rfl
        · rw [seAt_none (.inl (by omega))] at hr
          subst hr
          apply hs
          conv => whnf
          refine Cond.tt (decT (by omega)) ?_
          (conv => whnf) <;> repeat' (first | ((first | refine wN ?_ | refine wNc ?_ | refine wA ?_ | refine wB ?_ | refine wC ?_ | refine wD ?_ | refine vA ?_ | refine vB ?_ | refine vC ?_ | refine vD ?_ | refine uA ?_ | refine uB ?_ | refine uC ?_ | refine uD ?_); conv => whnf) | ((first | apply Pick.dec | apply Pick.beq | apply Cond.dec | apply Cond.beq | apply Cond.nd | apply Pick.nd | apply Pick.mk | apply Cond.mk) <;> intro h <;> conv => whnf))
          exact End.mk rfl rfl
    apply hw [] [true, true, true, false, false, false, false, false, false, false, false, false, true, true] _ _ rfl
    exact turn (l.length + 1) 0 s (by omega) hr
  exact goal _ rfl
theorem kids_go (l : List Se) (s : Int) (hl : l.length ≤ 64) (vt : Val) (ht : List Blk) (h0 : kidsF l s = [] → vt = .nils ∧ ht = []) (h1 : kidsF l s ≠ [] → vt = .row 0 (kidsF l s).length ∧ ht = [.row 3 1 (kidsF l s).length (getL cI (kidsF l s)) 0]) :
    Ret Try.prog 55 [eL 5 cSe l, .int .i64 s] [] vt ht := by
  refine ret_of_body atNone tok mixed Try.func55 (by kernel_rfl) rfl (k := 29) (rs := [.tmp 4]) (by kernel_rfl) (by kernel_rfl) ?_
  (conv => whnf) <;> repeat' (first | ((first | refine wN ?_ | refine wNc ?_ | refine wA ?_ | refine wB ?_ | refine wC ?_ | refine wD ?_ | refine vA ?_ | refine vB ?_ | refine vC ?_ | refine vD ?_ | refine uA ?_ | refine uB ?_ | refine uC ?_ | refine uD ?_); conv => whnf) | ((first | apply Pick.dec | apply Pick.beq | apply Cond.dec | apply Cond.beq | apply Cond.nd | apply Pick.nd | apply Pick.mk | apply Cond.mk) <;> intro h <;> conv => whnf))
  intro I hw hs
  have turn : ∀ (d k : Nat) (out : List Int), k + d = l.length → out.length ≤ k → kidsF l s = out ++ kidsN s k (l.drop k) →
      (out = [] → I [.und, .int .i64 s, .und, .und, .und, .nils, .und, .und, eL 5 cSe l, .int .i64 (l.length : Int), .int .i64 (k : Int), .und, .und, .und, .und, .und, .und, .und, .und, .und, .und, .und, .und, .und, .und, .und, .und, .und, .und] []) ∧
      (out ≠ [] → I [.und, .int .i64 s, .und, .und, .und, .row 0 out.length, .und, .und, eL 5 cSe l, .int .i64 (l.length : Int), .int .i64 (k : Int), .und, .und, .und, .und, .und, .und, .und, .und, .und, .und, .und, .und, .und, .und, .und, .und, .und, .und] [.row 3 1 out.length (getL cI out) 0]) := by
    intro d
    induction d with
    | zero =>
      intro k out hk ho he
      rw [List.drop_of_length_le (by omega)] at he
      have he : kidsF l s = out := he.trans (List.append_nil _)
      rw [he] at h0 h1
      refine ⟨fun hn => ?_, fun hn => ?_⟩
      · obtain ⟨rfl, rfl⟩ := h0 hn
        apply hs
        conv => whnf
        refine Cond.ff (decF (by omega)) ?_
        (conv => whnf) <;> repeat' (first | ((first | refine wN ?_ | refine wNc ?_ | refine wA ?_ | refine wB ?_ | refine wC ?_ | refine wD ?_ | refine vA ?_ | refine vB ?_ | refine vC ?_ | refine vD ?_ | refine uA ?_ | refine uB ?_ | refine uC ?_ | refine uD ?_); conv => whnf) | ((first | apply Pick.dec | apply Pick.beq | apply Cond.dec | apply Cond.beq | apply Cond.nd | apply Pick.nd | apply Pick.mk | apply Cond.mk) <;> intro h <;> conv => whnf))
        exact End.mk rfl rfl
      · obtain ⟨rfl, rfl⟩ := h1 hn
        apply hs
        conv => whnf
        refine Cond.ff (decF (by omega)) ?_
        (conv => whnf) <;> repeat' (first | ((first | refine wN ?_ | refine wNc ?_ | refine wA ?_ | refine wB ?_ | refine wC ?_ | refine wD ?_ | refine vA ?_ | refine vB ?_ | refine vC ?_ | refine vD ?_ | refine uA ?_ | refine uB ?_ | refine uC ?_ | refine uD ?_); conv => whnf) | ((first | apply Pick.dec | apply Pick.beq | apply Cond.dec | apply Cond.beq | apply Cond.nd | apply Pick.nd | apply Pick.mk | apply Cond.mk) <;> intro h <;> conv => whnf))
        exact EndH.mk [0] rfl rfl rfl
    | succ d im =>
      intro k out hk ho he
      have hkl : k < l.length := by omega
      have e1 : IntKind.i64.wrap ((k : Int) + 1) = ((k + 1 : Nat) : Int) := by rw [wi64_id (by omega) (by omega)]; omega
      have gk : getL cSe l (Int.toNat (k : Int)) = cSe l[k] := by rw [Int.toNat_natCast]; exact getL_at (List.getElem?_eq_getElem hkl)
      rw [List.drop_eq_getElem_cons hkl] at he
      have imS := im (k + 1) out (by omega) (by omega)
      have imG := im (k + 1) (out ++ [(k : Int)]) (by omega) (by rw [List.length_append]; simp; omega)
      generalize l[k] = x at *
      unfold kidsN at he
      by_cases hc : 0 ≤ s ∧ x.par = s
      · rw [if_pos hc] at he
        have imG := (imG (by rw [he]; simp)).2 (by simp)
        obtain ⟨hc0, hc1⟩ := hc
        have elen : (out ++ [(k : Int)]).length = out.length + 1 := by simp
        rw [elen] at imG
        refine ⟨fun hn => ?_, fun hn => ?_⟩
        · subst hn
          apply hs
          conv => whnf
          refine Cond.tt (decT (by omega)) ?_
          (conv => whnf) <;> repeat' (first | (rw [gk]; conv => whnf) | (rw [getI_one]; conv => whnf) | ((first | refine wN ?_ | refine wNc ?_ | refine wA ?_ | refine wB ?_ | refine wC ?_ | refine wD ?_ | refine vA ?_ | refine vB ?_ | refine vC ?_ | refine vD ?_ | refine uA ?_ | refine uB ?_ | refine uC ?_ | refine uD ?_); conv => whnf) | ((first | apply Pick.dec | apply Pick.beq | apply Cond.dec | apply Cond.beq | apply Cond.nd | apply Pick.nd | apply Pick.mk | apply Cond.mk) <;> intro h <;> conv => whnf))
          rw [e1]
          apply hw [2] [false, true, false, false, false, true, false, false, true, true, true] _ _ rfl
          exact imG
        · apply hs
          conv => whnf
          refine Cond.tt (decT (by omega)) ?_
          (conv => whnf) <;> repeat' (first | (rw [gk]; conv => whnf) | (rw [getI_snoc]; conv => whnf) | ((first | refine wN ?_ | refine wNc ?_ | refine wA ?_ | refine wB ?_ | refine wC ?_ | refine wD ?_ | refine vA ?_ | refine vB ?_ | refine vC ?_ | refine vD ?_ | refine uA ?_ | refine uB ?_ | refine uC ?_ | refine uD ?_); conv => whnf) | ((first | apply Pick.dec | apply Pick.beq | apply Cond.dec | apply Cond.beq | apply Cond.nd | apply Pick.nd | apply Pick.mk | apply Cond.mk) <;> intro h <;> conv => whnf))
          rw [e1]
          apply hw [3] [false, true, false, false, false, true, false, false, true, true, true] _ _ rfl
          exact imG
      · rw [if_neg hc] at he
        have imS := imS he
        have hc : 0 ≤ s → ¬ x.par = s := fun a b => hc ⟨a, b⟩
        refine ⟨fun hn => ?_, fun hn => ?_⟩
        · by_cases hs0 : 0 ≤ s
          · have hc := hc hs0
            apply hs
            conv => whnf
            refine Cond.tt (decT (by omega)) ?_
            (conv => whnf) <;> repeat' (first | (rw [gk]; conv => whnf) | ((first | refine wN ?_ | refine wNc ?_ | refine wA ?_ | refine wB ?_ | refine wC ?_ | refine wD ?_ | refine vA ?_ | refine vB ?_ | refine vC ?_ | refine vD ?_ | refine uA ?_ | refine uB ?_ | refine uC ?_ | refine uD ?_); conv => whnf) | ((first | apply Pick.dec | apply Pick.beq | apply Cond.dec | apply Cond.beq | apply Cond.nd | apply Pick.nd | apply Pick.mk | apply Cond.mk) <;> intro h <;> conv => whnf))
            rw [e1]
            apply hw [] [false, true, false, false, false, true, false, false, true, true, true] _ _ rfl
            exact imS.1 hn
          · apply hs
            conv => whnf
            refine Cond.tt (decT (by omega)) ?_
            (conv => whnf) <;> repeat' (first | (rw [gk]; conv => whnf) | ((first | refine wN ?_ | refine wNc ?_ | refine wA ?_ | refine wB ?_ | refine wC ?_ | refine wD ?_ | refine vA ?_ | refine vB ?_ | refine vC ?_ | refine vD ?_ | refine uA ?_ | refine uB ?_ | refine uC ?_ | refine uD ?_); conv => whnf) | ((first | apply Pick.dec | apply Pick.beq | apply Cond.dec | apply Cond.beq | apply Cond.nd | apply Pick.nd | apply Pick.mk | apply Cond.mk) <;> intro h <;> conv => whnf))
            rw [e1]
            apply hw [] [false, true, false, false, false, true, false, false, true, true, true] _ _ rfl
            exact imS.1 hn
        · by_cases hs0 : 0 ≤ s
          · have hc := hc hs0
            apply hs
            conv => whnf
            refine Cond.tt (decT (by omega)) ?_
            (conv => whnf) <;> repeat' (first | (rw [gk]; conv => whnf) | ((first | refine wN ?_ | refine wNc ?_ | refine wA ?_ | refine wB ?_ | refine wC ?_ | refine wD ?_ | refine vA ?_ | refine vB ?_ | refine vC ?_ | refine vD ?_ | refine uA ?_ | refine uB ?_ | refine uC ?_ | refine uD ?_); conv => whnf) | ((first | apply Pick.dec | apply Pick.beq | apply Cond.dec | apply Cond.beq | apply Cond.nd | apply Pick.nd | apply Pick.mk | apply Cond.mk) <;> intro h <;> conv => whnf))
            rw [e1]
            apply hw [0] [false, true, false, false, false, true, false, false, true, true, true] _ _ rfl
            exact imS.2 hn
          · apply hs
            conv => whnf
            refine Cond.tt (decT (by omega)) ?_
            (conv => whnf) <;> repeat' (first | (rw [gk]; conv => whnf) | ((first | refine wN ?_ | refine wNc ?_ | refine wA ?_ | refine wB ?_ | refine wC ?_ | refine wD ?_ | refine vA ?_ | refine vB ?_ | refine vC ?_ | refine vD ?_ | refine uA ?_ | refine uB ?_ | refine uC ?_ | refine uD ?_); conv => whnf) | ((first | apply Pick.dec | apply Pick.beq | apply Cond.dec | apply Cond.beq | apply Cond.nd | apply Pick.nd | apply Pick.mk | apply Cond.mk) <;> intro h <;> conv => whnf))
            rw [e1]
            apply hw [0] [false, true, false, false, false, true, false, false, true, true, true] _ _ rfl
            exact imS.2 hn
  apply hw [] [false, true, false, false, false, true, false, false, true, true, true] _ _ rfl
  exact (turn l.length 0 [] (by omega) (by simp) rfl).1 rfl
theorem kids_ret (l : List Se) (s : Int) (hl : l.length ≤ 64) : Ret Try.prog 55 [eL 5 cSe l, .int .i64 s] [] (eL 1 cI (kidsF l s)) [] := by
  by_cases he : kidsF l s = []
  · have h := kids_go l s hl .nils [] (fun _ => ⟨rfl, rfl⟩) (fun k => absurd he k)
    rw [he]
    exact h.leR le_nils
  · have h := kids_go l s hl _ _ (fun k => absurd k he) (fun _ => ⟨rfl, rfl⟩)
    exact h.lend ⟨rfl, Nat.le_refl _, Nat.le_refl _⟩ rfl
theorem kid_ret (l : List Se) (s : Int) (name : ByteArray) (hl : l.length ≤ 64) : Ret Try.prog 39 [eL 5 cSe l, .int .i64 s, .str name] [] (.tup [.int .i64 (kidF l s name).1, .bool (kidF l s name).2]) [] := by
  have hK := kids_ret l s hl
  have hlt : ∀ i ∈ kidsF l s, 0 ≤ i ∧ i.toNat < l.length := fun i hi => by
    have := kidsN_lt s 0 l i hi
    omega
  have hlen := kidsN_len s 0 l
  have hlen : (kidsF l s).length ≤ l.length := hlen
  have goal : ∀ r, kidF l s name = r → Ret Try.prog 39 [eL 5 cSe l, .int .i64 s, .str name] [] (.tup [.int .i64 r.1, .bool r.2]) [] := by
    intro r hr
    unfold kidF at hr
    generalize kidsF l s = ks at *
    refine ret_of_body atCalls tok mixed Try.func39 (by kernel_rfl) rfl (k := 27) (rs := [.tmp 6, .tmp 7]) (by kernel_rfl) (by kernel_rfl) ?_
    (conv => whnf) <;> repeat' (first | ((first | refine wN ?_ | refine wNc ?_ | refine wA ?_ | refine wB ?_ | refine wC ?_ | refine wD ?_ | refine Called.mk _ _ (hK) ?_ | refine vA ?_ | refine vB ?_ | refine vC ?_ | refine vD ?_ | refine uA ?_ | refine uB ?_ | refine uC ?_ | refine uD ?_); conv => whnf) | ((first | apply Pick.dec | apply Pick.beq | apply Cond.dec | apply Cond.beq | apply Cond.nd | apply Pick.nd | apply Pick.mk | apply Cond.mk) <;> intro h <;> conv => whnf))
    intro I hw hs
    have turn : ∀ (d k : Nat), k + d = ks.length → (match (ks.drop k).find? fun i => decide (((l[i.toNat]?).getD Se0).name = name) with | some i => (i, true) | none => (0, false)) = r →
        I [eL 5 cSe l, .und, .str name, .und, .und, .und, .und, .und, .und, .und, .und, .und, eL 1 cI ks, .int .i64 (ks.length : Int), .int .i64 (k : Int), .und, .und, .und, .und, .und, .und, .und, .und, .und, .und, .und, .und] [] := by
      intro d
      induction d with
      | zero =>
        intro k hk he
        rw [List.drop_of_length_le (by omega)] at he
        subst he
        apply hs
        conv => whnf
        refine Cond.ff (decF (by omega)) ?_
        (conv => whnf) <;> repeat' (first | ((first | refine wN ?_ | refine wNc ?_ | refine wA ?_ | refine wB ?_ | refine wC ?_ | refine wD ?_ | refine vA ?_ | refine vB ?_ | refine vC ?_ | refine vD ?_ | refine uA ?_ | refine uB ?_ | refine uC ?_ | refine uD ?_); conv => whnf) | ((first | apply Pick.dec | apply Pick.beq | apply Cond.dec | apply Cond.beq | apply Cond.nd | apply Pick.nd | apply Pick.mk | apply Cond.mk) <;> intro h <;> conv => whnf))
        exact End.mk rfl rfl
      | succ d im =>
        intro k hk he
        have hkl : k < ks.length := by omega
        have e1 : IntKind.i64.wrap ((k : Int) + 1) = ((k + 1 : Nat) : Int) := by rw [wi64_id (by omega) (by omega)]; omega
        have gk : getL cI ks (Int.toNat (k : Int)) = cI ks[k] := by rw [Int.toNat_natCast]; exact getL_at (List.getElem?_eq_getElem hkl)
        obtain ⟨hi0, hi1⟩ := hlt ks[k] (List.getElem_mem hkl)
        rw [List.drop_eq_getElem_cons hkl] at he
        generalize ks[k] = i at *
        have gl : getL cSe l i.toNat = cSe l[i.toNat] := getL_at (List.getElem?_eq_getElem hi1)
        have hname : ((l[i.toNat]?).getD Se0).name = (l[i.toNat]).name := by rw [List.getElem?_eq_getElem hi1]; rfl
        by_cases hn : (l[i.toNat]).name = name
        · rw [List.find?_cons_of_pos (by rw [hname]; simpa using hn)] at he
          subst he
          generalize l[i.toNat] = x at *
          have hq : (x.name.toList == name.toList) = true := by rw [toList_eq]; exact decide_eq_true hn
          apply hs
          conv => whnf
          refine Cond.tt (decT (by omega)) ?_
          (conv => whnf) <;> repeat' (first | ((conv => arg 1; whnf); rw [gk]; conv => whnf) | (rw [gk]; conv => whnf) | ((conv => arg 1; whnf); rw [gl]; conv => whnf) | (rw [gl]; conv => whnf) | (rw [hq]; conv => whnf) | ((first | refine wN ?_ | refine wNc ?_ | refine wA ?_ | refine wB ?_ | refine wC ?_ | refine wD ?_ | refine vA ?_ | refine vB ?_ | refine vC ?_ | refine vD ?_ | refine uA ?_ | refine uB ?_ | refine uC ?_ | refine uD ?_); conv => whnf) | ((first | apply Pick.dec | apply Pick.beq | apply Cond.dec | apply Cond.beq | apply Cond.nd | apply Pick.nd | apply Pick.mk | apply Cond.mk) <;> intro h <;> conv => whnf))
          exact End.mk rfl rfl
        · rw [List.find?_cons_of_neg (by rw [hname]; simpa using hn)] at he
          generalize l[i.toNat] = x at *
          have hq : (x.name.toList == name.toList) = false := by rw [toList_eq]; exact decide_eq_false hn
          apply hs
          conv => whnf
          refine Cond.tt (decT (by omega)) ?_
          (conv => whnf) <;> repeat' (first | ((conv => arg 1; whnf); rw [gk]; conv => whnf) | (rw [gk]; conv => whnf) | ((conv => arg 1; whnf); rw [gl]; conv => whnf) | (rw [gl]; conv => whnf) | (rw [hq]; conv => whnf) | ((first | refine wN ?_ | refine wNc ?_ | refine wA ?_ | refine wB ?_ | refine wC ?_ | refine wD ?_ | refine vA ?_ | refine vB ?_ | refine vC ?_ | refine vD ?_ | refine uA ?_ | refine uB ?_ | refine uC ?_ | refine uD ?_); conv => whnf) | ((first | apply Pick.dec | apply Pick.beq | apply Cond.dec | apply Cond.beq | apply Cond.nd | apply Pick.nd | apply Pick.mk | apply Cond.mk) <;> intro h <;> conv => whnf))
          rw [e1]
          apply hw [] [true, false, true, false, false, false, false, false, false, false, false, false, true, true, true] _ _ rfl
          exact im (k + 1) (by omega) he
    apply hw [] [true, false, true, false, false, false, false, false, false, false, false, false, true, true, true] _ _ rfl
    exact turn ks.length 0 (by omega) hr
  exact goal _ rfl
end Go.Proofs.Ythjgnmpnagmeoaa

