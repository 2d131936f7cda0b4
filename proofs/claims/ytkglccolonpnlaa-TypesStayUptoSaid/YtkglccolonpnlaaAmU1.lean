/- types.Reads' closure: a list that has some. -/
import Derived.Test.YtkglccolonpnlaaAmU0
set_option linter.unusedVariables false
set_option linter.unusedSimpArgs false
set_option maxRecDepth 100000
namespace Go.Proofs.Ytkglccolonpnlaa
open Go.AM
set_option maxHeartbeats 8000000 in
theorem rdC0_other (k o : Int) (n s : ByteArray) (v : Vl) (sc p : Int) (l : List Xp) (hlen : l.length ≤ maxLen) (hw' : ∀ y ∈ l, y.Wf) (ih : ∀ y ∈ l, y.Wf → RdQ y) (rl0 : List Re) (h0 : rl0 ≠ []) (k2 : k ≠ 2) (k10 : k ≠ 10) (rF : List Re) (hF : walkL readR l rl0 = rF) (hrl : rF = rl0) (hbd : rl0.length + 1 + cntL l ≤ 1048576) :
    Ret Try.prog rdF [eE (.mk k o n s v sc p l), .ptr 0 0, .ptr 1 0, .ptr 2 0] [.cells [.map 3], .cells [.row 4 rl0.length], .cells [.fn rdF [] [.ptr 0 0, .ptr 1 0, .ptr 2 0]], setRe rl0, .row 53 2 rl0.length (gR rl0) rl0.length] (.tup []) [.cells [.map 3], .cells [.row 4 rl0.length], .cells [.fn rdF [] [.ptr 0 0, .ptr 1 0, .ptr 2 0]], setRe rl0, .row 53 2 rl0.length (gR rl0) rl0.length] := by
  have hm : maxLen ≤ 9223372036854775807 := by decide
  obtain ⟨pF, hpF⟩ : ∃ q, q = rl0.length := ⟨_, rfl⟩
  have pf_ok : ∀ {i : Nat} {r1 : List Re}, i + 1 = l.length → walkL readR (l.drop (i + 1)) r1 = rF → r1.length = pF := fun {i r1} e hf => by
    rw [List.drop_of_length_le (by omega), walkL_nil] at hf
    rw [hpF, hf, hrl]
  rw [cE_mk]
  refine ret_of_body atCalls tok mixed Try.func36 (by kernel_rfl) rfl (k := 48) (rs := []) (by kernel_rfl) (by kernel_rfl) ?_
  (conv => whnf) <;> repeat' (first | ((first | refine wN ?_ | refine wA ?_ | refine wB ?_ | refine wC ?_ | refine wD ?_ | refine vA ?_ | refine vB ?_ | refine vC ?_ | refine vD ?_ | refine uA ?_ | refine uB ?_ | refine uC ?_ | refine uD ?_); conv => whnf) | ((first | refine Pick.dec (fun h => ?_) (fun h => ?_) | refine Pick.beq (fun h => ?_) (fun h => ?_) | refine Cond.dec (fun h => ?_) (fun h => ?_) | refine Cond.beq (fun h => ?_) (fun h => ?_) | refine Cond.nd (fun h => ?_) (fun h => ?_) | refine Pick.nd (fun h => ?_) (fun h => ?_) | refine Pick.mk (fun h => ?_) (fun h => ?_) | refine Cond.mk (fun h => ?_) (fun h => ?_)) <;> conv => whnf))
  intro I hw hs
  have turnC : ∀ (d i : Nat) (pr : Nat), i + d = l.length → walkL readR (l.drop i) rl0 = rF → rl0.length + cntL (l.drop i) ≤ 1048576 → (i = l.length → pr = pF) → I [.und, .ptr 0 0, .ptr 1 0, .ptr 2 0, .und, .und, .und, .und, .und, .und, .und, .und, .und, .und, .und, .und, .und, .und, .und, .und, .und, .und, .und, .und, .und, .und, .und, .und, .und, .und, .und, .und, .und, .und, .und, .und, .und, .und, .ext 17 l.length (Xp.rows l), .int .i64 (l.length : Int), .int .i64 (i : Int), .und, .und, .und, .und, .und, .und, .und] [.cells [.map 3], .cells [.row 4 rl0.length], .cells [.fn rdF [] [.ptr 0 0, .ptr 1 0, .ptr 2 0]], setRe rl0, .row 53 2 rl0.length (gR rl0) pr, .cells (hdX k o n s v sc p ++ [.ext 17 l.length (Xp.rows l)])] := by
    intro d
    induction d with
    | zero =>
      intro i pr hi hf hb hp
      have hp := hp (by omega)
      subst hp
      subst hpF
      apply hs
      conv => whnf
      refine Cond.ff (decF (by omega)) ?_
      (conv => whnf) <;> repeat' (first | ((first | refine wN ?_ | refine wA ?_ | refine wB ?_ | refine wC ?_ | refine wD ?_ | refine vA ?_ | refine vB ?_ | refine vC ?_ | refine vD ?_ | refine uA ?_ | refine uB ?_ | refine uC ?_ | refine uD ?_); conv => whnf) | ((first | refine Pick.dec (fun h => ?_) (fun h => ?_) | refine Pick.beq (fun h => ?_) (fun h => ?_) | refine Cond.dec (fun h => ?_) (fun h => ?_) | refine Cond.beq (fun h => ?_) (fun h => ?_) | refine Cond.nd (fun h => ?_) (fun h => ?_) | refine Pick.nd (fun h => ?_) (fun h => ?_) | refine Pick.mk (fun h => ?_) (fun h => ?_) | refine Cond.mk (fun h => ?_) (fun h => ?_)) <;> conv => whnf))
      exact EndH.mk [0, 1, 2, 3, 4] rfl rfl rfl
    | succ d im =>
      intro i pr hi hf hb hp
      have hil : i < l.length := by omega
      have gk : Xp.rows l (Int.toNat (i : Int)) = cE l[i] := by rw [Int.toNat_natCast]; exact (Xp.rows_ext l).2 i hil
      have e1 : IntKind.i64.wrap ((i : Int) + 1) = ((i + 1 : Nat) : Int) := by rw [wi64_id (by omega) (by omega)]; omega
      rw [List.drop_eq_getElem_cons hil] at hf hb
      rw [walkL_cons] at hf
      rw [cntL_cons] at hb
      have hl1 := walkF_len l[i] rl0
      have hl2 := walkL_len' (l.drop (i + 1)) (walkF readR l[i] rl0)
      have hQ := ih l[i] (List.getElem_mem hil) (hw' _ (List.getElem_mem hil))
      generalize l[i] = y at *
      have he : walkF readR y rl0 = rl0 := hl1.2.2 (by rw [hf, hrl] at hl2; omega)
      have hc := (hQ rl0).2.2.1 (by omega) h0 he
      rw [he] at hf
      apply hs
      conv => whnf
      refine Cond.tt (decT (by omega)) ?_
      (conv => whnf) <;> repeat' (first | ((conv => arg 1; whnf); rw [gk]; conv => whnf) | (refine CalledH.mk [0, 1, 2, 3, 4] _ _ rfl (by simp) hc ?_; conv => whnf) | ((first | refine wN ?_ | refine wA ?_ | refine wB ?_ | refine wC ?_ | refine wD ?_ | refine vA ?_ | refine vB ?_ | refine vC ?_ | refine vD ?_ | refine uA ?_ | refine uB ?_ | refine uC ?_ | refine uD ?_); conv => whnf) | ((first | refine Pick.dec (fun h => ?_) (fun h => ?_) | refine Pick.beq (fun h => ?_) (fun h => ?_) | refine Cond.dec (fun h => ?_) (fun h => ?_) | refine Cond.beq (fun h => ?_) (fun h => ?_) | refine Cond.nd (fun h => ?_) (fun h => ?_) | refine Pick.nd (fun h => ?_) (fun h => ?_) | refine Pick.mk (fun h => ?_) (fun h => ?_) | refine Cond.mk (fun h => ?_) (fun h => ?_)) <;> conv => whnf))
      rw [e1]
      apply hw [0, 1, 2, 3, 4, 5] [false, true, true, true, false, false, false, false, false, false, false, false, false, false, false, false, false, false, false, false, false, false, false, false, false, false, false, false, false, false, false, false, false, false, false, false, false, false, true, true, true] _ _ rfl
      exact im (i + 1) rl0.length (by omega) hf (by omega) (fun e => pf_ok e hf)
  apply hw [0, 1, 2, 3, 4, 5] [false, true, true, true, false, false, false, false, false, false, false, false, false, false, false, false, false, false, false, false, false, false, false, false, false, false, false, false, false, false, false, false, false, false, false, false, false, false, true, true, true] _ _ rfl
  exact turnC l.length 0 rl0.length (by omega) hF (by simp at hbd ⊢; omega) (fun e => hpF.symm)
set_option maxHeartbeats 8000000 in
theorem rdC0_name_old (k o : Int) (n s : ByteArray) (v : Vl) (sc p : Int) (l : List Xp) (hlen : l.length ≤ maxLen) (hw' : ∀ y ∈ l, y.Wf) (ih : ∀ y ∈ l, y.Wf → RdQ y) (rl0 : List Re) (h0 : rl0 ≠ []) (k2 : k = 2) (hr : (ByteArray.empty, n) ∈ rl0) (rF : List Re) (hF : walkL readR l rl0 = rF) (hrl : rF = rl0) (hbd : rl0.length + 1 + cntL l ≤ 1048576) :
    Ret Try.prog rdF [eE (.mk k o n s v sc p l), .ptr 0 0, .ptr 1 0, .ptr 2 0] [.cells [.map 3], .cells [.row 4 rl0.length], .cells [.fn rdF [] [.ptr 0 0, .ptr 1 0, .ptr 2 0]], setRe rl0, .row 53 2 rl0.length (gR rl0) rl0.length] (.tup []) [.cells [.map 3], .cells [.row 4 rl0.length], .cells [.fn rdF [] [.ptr 0 0, .ptr 1 0, .ptr 2 0]], setRe rl0, .row 53 2 rl0.length (gR rl0) rl0.length] := by
  have hm : maxLen ≤ 9223372036854775807 := by decide
  have hyes : mfind [.s (ByteArray.empty, n).1, .s (ByteArray.empty, n).2] (encM kC cT (mpR rl0)) = some [.bool true] := seen_yes hr
  simp only at hyes
  obtain ⟨pF, hpF⟩ : ∃ q, q = rl0.length := ⟨_, rfl⟩
  have pf_ok : ∀ {i : Nat} {r1 : List Re}, i + 1 = l.length → walkL readR (l.drop (i + 1)) r1 = rF → r1.length = pF := fun {i r1} e hf => by
    rw [List.drop_of_length_le (by omega), walkL_nil] at hf
    rw [hpF, hf, hrl]
  rw [cE_mk]
  refine ret_of_body atCalls tok mixed Try.func36 (by kernel_rfl) rfl (k := 48) (rs := []) (by kernel_rfl) (by kernel_rfl) ?_
  (conv => whnf) <;> repeat' (first | ((conv => arg 1; whnf); rw [hyes]; conv => whnf) | ((first | refine wN ?_ | refine wA ?_ | refine wB ?_ | refine wC ?_ | refine wD ?_ | refine vA ?_ | refine vB ?_ | refine vC ?_ | refine vD ?_ | refine uA ?_ | refine uB ?_ | refine uC ?_ | refine uD ?_); conv => whnf) | ((first | refine Pick.dec (fun h => ?_) (fun h => ?_) | refine Pick.beq (fun h => ?_) (fun h => ?_) | refine Cond.dec (fun h => ?_) (fun h => ?_) | refine Cond.beq (fun h => ?_) (fun h => ?_) | refine Cond.nd (fun h => ?_) (fun h => ?_) | refine Pick.nd (fun h => ?_) (fun h => ?_) | refine Pick.mk (fun h => ?_) (fun h => ?_) | refine Cond.mk (fun h => ?_) (fun h => ?_)) <;> conv => whnf))
  intro I hw hs
  have turnC : ∀ (d i : Nat) (pr : Nat), i + d = l.length → walkL readR (l.drop i) rl0 = rF → rl0.length + cntL (l.drop i) ≤ 1048576 → (i = l.length → pr = pF) → I [.und, .ptr 0 0, .ptr 1 0, .ptr 2 0, .und, .und, .und, .und, .und, .und, .und, .und, .und, .und, .und, .und, .und, .und, .und, .und, .und, .und, .und, .und, .und, .und, .und, .und, .und, .und, .und, .und, .und, .und, .und, .und, .und, .und, .ext 17 l.length (Xp.rows l), .int .i64 (l.length : Int), .int .i64 (i : Int), .und, .und, .und, .und, .und, .und, .und] [.cells [.map 3], .cells [.row 4 rl0.length], .cells [.fn rdF [] [.ptr 0 0, .ptr 1 0, .ptr 2 0]], setRe rl0, .row 53 2 rl0.length (gR rl0) pr, .cells (hdX k o n s v sc p ++ [.ext 17 l.length (Xp.rows l)])] := by
    intro d
    induction d with
    | zero =>
      intro i pr hi hf hb hp
      have hp := hp (by omega)
      subst hp
      subst hpF
      apply hs
      conv => whnf
      refine Cond.ff (decF (by omega)) ?_
      (conv => whnf) <;> repeat' (first | ((first | refine wN ?_ | refine wA ?_ | refine wB ?_ | refine wC ?_ | refine wD ?_ | refine vA ?_ | refine vB ?_ | refine vC ?_ | refine vD ?_ | refine uA ?_ | refine uB ?_ | refine uC ?_ | refine uD ?_); conv => whnf) | ((first | refine Pick.dec (fun h => ?_) (fun h => ?_) | refine Pick.beq (fun h => ?_) (fun h => ?_) | refine Cond.dec (fun h => ?_) (fun h => ?_) | refine Cond.beq (fun h => ?_) (fun h => ?_) | refine Cond.nd (fun h => ?_) (fun h => ?_) | refine Pick.nd (fun h => ?_) (fun h => ?_) | refine Pick.mk (fun h => ?_) (fun h => ?_) | refine Cond.mk (fun h => ?_) (fun h => ?_)) <;> conv => whnf))
      exact EndH.mk [0, 1, 2, 3, 4] rfl rfl rfl
    | succ d im =>
      intro i pr hi hf hb hp
      have hil : i < l.length := by omega
      have gk : Xp.rows l (Int.toNat (i : Int)) = cE l[i] := by rw [Int.toNat_natCast]; exact (Xp.rows_ext l).2 i hil
      have e1 : IntKind.i64.wrap ((i : Int) + 1) = ((i + 1 : Nat) : Int) := by rw [wi64_id (by omega) (by omega)]; omega
      rw [List.drop_eq_getElem_cons hil] at hf hb
      rw [walkL_cons] at hf
      rw [cntL_cons] at hb
      have hl1 := walkF_len l[i] rl0
      have hl2 := walkL_len' (l.drop (i + 1)) (walkF readR l[i] rl0)
      have hQ := ih l[i] (List.getElem_mem hil) (hw' _ (List.getElem_mem hil))
      generalize l[i] = y at *
      have he : walkF readR y rl0 = rl0 := hl1.2.2 (by rw [hf, hrl] at hl2; omega)
      have hc := (hQ rl0).2.2.1 (by omega) h0 he
      rw [he] at hf
      apply hs
      conv => whnf
      refine Cond.tt (decT (by omega)) ?_
      (conv => whnf) <;> repeat' (first | ((conv => arg 1; whnf); rw [gk]; conv => whnf) | (refine CalledH.mk [0, 1, 2, 3, 4] _ _ rfl (by simp) hc ?_; conv => whnf) | ((first | refine wN ?_ | refine wA ?_ | refine wB ?_ | refine wC ?_ | refine wD ?_ | refine vA ?_ | refine vB ?_ | refine vC ?_ | refine vD ?_ | refine uA ?_ | refine uB ?_ | refine uC ?_ | refine uD ?_); conv => whnf) | ((first | refine Pick.dec (fun h => ?_) (fun h => ?_) | refine Pick.beq (fun h => ?_) (fun h => ?_) | refine Cond.dec (fun h => ?_) (fun h => ?_) | refine Cond.beq (fun h => ?_) (fun h => ?_) | refine Cond.nd (fun h => ?_) (fun h => ?_) | refine Pick.nd (fun h => ?_) (fun h => ?_) | refine Pick.mk (fun h => ?_) (fun h => ?_) | refine Cond.mk (fun h => ?_) (fun h => ?_)) <;> conv => whnf))
      rw [e1]
      apply hw [0, 1, 2, 3, 4, 5] [false, true, true, true, false, false, false, false, false, false, false, false, false, false, false, false, false, false, false, false, false, false, false, false, false, false, false, false, false, false, false, false, false, false, false, false, false, false, true, true, true] _ _ rfl
      exact im (i + 1) rl0.length (by omega) hf (by omega) (fun e => pf_ok e hf)
  apply hw [0, 1, 2, 3, 4, 5] [false, true, true, true, false, false, false, false, false, false, false, false, false, false, false, false, false, false, false, false, false, false, false, false, false, false, false, false, false, false, false, false, false, false, false, false, false, false, true, true, true] _ _ rfl
  exact turnC l.length 0 rl0.length (by omega) hF (by simp at hbd ⊢; omega) (fun e => hpF.symm)
set_option maxHeartbeats 8000000 in
theorem rdC0_agg_old (k o : Int) (n s : ByteArray) (v : Vl) (sc p : Int) (l : List Xp) (hlen : l.length ≤ maxLen) (hw' : ∀ y ∈ l, y.Wf) (ih : ∀ y ∈ l, y.Wf → RdQ y) (rl0 : List Re) (h0 : rl0 ≠ []) (k10 : k = 10) (hr : (s, n) ∈ rl0) (rF : List Re) (hF : walkL readR l rl0 = rF) (hrl : rF = rl0) (hbd : rl0.length + 1 + cntL l ≤ 1048576) :
    Ret Try.prog rdF [eE (.mk k o n s v sc p l), .ptr 0 0, .ptr 1 0, .ptr 2 0] [.cells [.map 3], .cells [.row 4 rl0.length], .cells [.fn rdF [] [.ptr 0 0, .ptr 1 0, .ptr 2 0]], setRe rl0, .row 53 2 rl0.length (gR rl0) rl0.length] (.tup []) [.cells [.map 3], .cells [.row 4 rl0.length], .cells [.fn rdF [] [.ptr 0 0, .ptr 1 0, .ptr 2 0]], setRe rl0, .row 53 2 rl0.length (gR rl0) rl0.length] := by
  have hm : maxLen ≤ 9223372036854775807 := by decide
  have hyes : mfind [.s (s, n).1, .s (s, n).2] (encM kC cT (mpR rl0)) = some [.bool true] := seen_yes hr
  simp only at hyes
  obtain ⟨pF, hpF⟩ : ∃ q, q = rl0.length := ⟨_, rfl⟩
  have pf_ok : ∀ {i : Nat} {r1 : List Re}, i + 1 = l.length → walkL readR (l.drop (i + 1)) r1 = rF → r1.length = pF := fun {i r1} e hf => by
    rw [List.drop_of_length_le (by omega), walkL_nil] at hf
    rw [hpF, hf, hrl]
  rw [cE_mk]
  refine ret_of_body atCalls tok mixed Try.func36 (by kernel_rfl) rfl (k := 48) (rs := []) (by kernel_rfl) (by kernel_rfl) ?_
  (conv => whnf) <;> repeat' (first | ((conv => arg 1; whnf); rw [hyes]; conv => whnf) | ((first | refine wN ?_ | refine wA ?_ | refine wB ?_ | refine wC ?_ | refine wD ?_ | refine vA ?_ | refine vB ?_ | refine vC ?_ | refine vD ?_ | refine uA ?_ | refine uB ?_ | refine uC ?_ | refine uD ?_); conv => whnf) | ((first | refine Pick.dec (fun h => ?_) (fun h => ?_) | refine Pick.beq (fun h => ?_) (fun h => ?_) | refine Cond.dec (fun h => ?_) (fun h => ?_) | refine Cond.beq (fun h => ?_) (fun h => ?_) | refine Cond.nd (fun h => ?_) (fun h => ?_) | refine Pick.nd (fun h => ?_) (fun h => ?_) | refine Pick.mk (fun h => ?_) (fun h => ?_) | refine Cond.mk (fun h => ?_) (fun h => ?_)) <;> conv => whnf))
  intro I hw hs
  have turnC : ∀ (d i : Nat) (pr : Nat), i + d = l.length → walkL readR (l.drop i) rl0 = rF → rl0.length + cntL (l.drop i) ≤ 1048576 → (i = l.length → pr = pF) → I [.und, .ptr 0 0, .ptr 1 0, .ptr 2 0, .und, .und, .und, .und, .und, .und, .und, .und, .und, .und, .und, .und, .und, .und, .und, .und, .und, .und, .und, .und, .und, .und, .und, .und, .und, .und, .und, .und, .und, .und, .und, .und, .und, .und, .ext 17 l.length (Xp.rows l), .int .i64 (l.length : Int), .int .i64 (i : Int), .und, .und, .und, .und, .und, .und, .und] [.cells [.map 3], .cells [.row 4 rl0.length], .cells [.fn rdF [] [.ptr 0 0, .ptr 1 0, .ptr 2 0]], setRe rl0, .row 53 2 rl0.length (gR rl0) pr, .cells (hdX k o n s v sc p ++ [.ext 17 l.length (Xp.rows l)])] := by
    intro d
    induction d with
    | zero =>
      intro i pr hi hf hb hp
      have hp := hp (by omega)
      subst hp
      subst hpF
      apply hs
      conv => whnf
      refine Cond.ff (decF (by omega)) ?_
      (conv => whnf) <;> repeat' (first | ((first | refine wN ?_ | refine wA ?_ | refine wB ?_ | refine wC ?_ | refine wD ?_ | refine vA ?_ | refine vB ?_ | refine vC ?_ | refine vD ?_ | refine uA ?_ | refine uB ?_ | refine uC ?_ | refine uD ?_); conv => whnf) | ((first | refine Pick.dec (fun h => ?_) (fun h => ?_) | refine Pick.beq (fun h => ?_) (fun h => ?_) | refine Cond.dec (fun h => ?_) (fun h => ?_) | refine Cond.beq (fun h => ?_) (fun h => ?_) | refine Cond.nd (fun h => ?_) (fun h => ?_) | refine Pick.nd (fun h => ?_) (fun h => ?_) | refine Pick.mk (fun h => ?_) (fun h => ?_) | refine Cond.mk (fun h => ?_) (fun h => ?_)) <;> conv => whnf))
      exact EndH.mk [0, 1, 2, 3, 4] rfl rfl rfl
    | succ d im =>
      intro i pr hi hf hb hp
      have hil : i < l.length := by omega
      have gk : Xp.rows l (Int.toNat (i : Int)) = cE l[i] := by rw [Int.toNat_natCast]; exact (Xp.rows_ext l).2 i hil
      have e1 : IntKind.i64.wrap ((i : Int) + 1) = ((i + 1 : Nat) : Int) := by rw [wi64_id (by omega) (by omega)]; omega
      rw [List.drop_eq_getElem_cons hil] at hf hb
      rw [walkL_cons] at hf
      rw [cntL_cons] at hb
      have hl1 := walkF_len l[i] rl0
      have hl2 := walkL_len' (l.drop (i + 1)) (walkF readR l[i] rl0)
      have hQ := ih l[i] (List.getElem_mem hil) (hw' _ (List.getElem_mem hil))
      generalize l[i] = y at *
      have he : walkF readR y rl0 = rl0 := hl1.2.2 (by rw [hf, hrl] at hl2; omega)
      have hc := (hQ rl0).2.2.1 (by omega) h0 he
      rw [he] at hf
      apply hs
      conv => whnf
      refine Cond.tt (decT (by omega)) ?_
      (conv => whnf) <;> repeat' (first | ((conv => arg 1; whnf); rw [gk]; conv => whnf) | (refine CalledH.mk [0, 1, 2, 3, 4] _ _ rfl (by simp) hc ?_; conv => whnf) | ((first | refine wN ?_ | refine wA ?_ | refine wB ?_ | refine wC ?_ | refine wD ?_ | refine vA ?_ | refine vB ?_ | refine vC ?_ | refine vD ?_ | refine uA ?_ | refine uB ?_ | refine uC ?_ | refine uD ?_); conv => whnf) | ((first | refine Pick.dec (fun h => ?_) (fun h => ?_) | refine Pick.beq (fun h => ?_) (fun h => ?_) | refine Cond.dec (fun h => ?_) (fun h => ?_) | refine Cond.beq (fun h => ?_) (fun h => ?_) | refine Cond.nd (fun h => ?_) (fun h => ?_) | refine Pick.nd (fun h => ?_) (fun h => ?_) | refine Pick.mk (fun h => ?_) (fun h => ?_) | refine Cond.mk (fun h => ?_) (fun h => ?_)) <;> conv => whnf))
      rw [e1]
      apply hw [0, 1, 2, 3, 4, 5] [false, true, true, true, false, false, false, false, false, false, false, false, false, false, false, false, false, false, false, false, false, false, false, false, false, false, false, false, false, false, false, false, false, false, false, false, false, false, true, true, true] _ _ rfl
      exact im (i + 1) rl0.length (by omega) hf (by omega) (fun e => pf_ok e hf)
  apply hw [0, 1, 2, 3, 4, 5] [false, true, true, true, false, false, false, false, false, false, false, false, false, false, false, false, false, false, false, false, false, false, false, false, false, false, false, false, false, false, false, false, false, false, false, false, false, false, true, true, true] _ _ rfl
  exact turnC l.length 0 rl0.length (by omega) hF (by simp at hbd ⊢; omega) (fun e => hpF.symm)
set_option maxHeartbeats 8000000 in
theorem rdC1_other (k o : Int) (n s : ByteArray) (v : Vl) (sc p : Int) (l : List Xp) (hlen : l.length ≤ maxLen) (hw' : ∀ y ∈ l, y.Wf) (ih : ∀ y ∈ l, y.Wf → RdQ y) (rl0 : List Re) (h0 : rl0 ≠ []) (k2 : k ≠ 2) (k10 : k ≠ 10) (rF : List Re) (hF : walkL readR l rl0 = rF) (hrF : ¬ rF = rl0) (hbd : rl0.length + 1 + cntL l ≤ 1048576) :
    Ret Try.prog rdF [eE (.mk k o n s v sc p l), .ptr 0 0, .ptr 1 0, .ptr 2 0] [.cells [.map 3], .cells [.row 4 rl0.length], .cells [.fn rdF [] [.ptr 0 0, .ptr 1 0, .ptr 2 0]], setRe rl0, .row 53 2 rl0.length (gR rl0) rl0.length] (.tup []) [.cells [.map 3], .cells [.row 5 rF.length], .cells [.fn rdF [] [.ptr 0 0, .ptr 1 0, .ptr 2 0]], setRe rF, .gone, .row 53 2 rF.length (gR rF) (if l = [] then rl0.length else rF.length)] := by
  have hm : maxLen ≤ 9223372036854775807 := by decide
  obtain ⟨pF, hpF⟩ : ∃ q, q = (if l = [] then rl0.length else rF.length) := ⟨_, rfl⟩
  rw [← hpF]
  have pf_ok : ∀ {i : Nat} {r1 : List Re}, i + 1 = l.length → walkL readR (l.drop (i + 1)) r1 = rF → r1.length = pF := fun {i r1} e hf => by
    rw [List.drop_of_length_le (by omega), walkL_nil] at hf
    rw [hpF, hf]
    rw [if_neg (by intro e0; subst e0; simp at e)]
  rw [cE_mk]
  refine ret_of_body atCalls tok mixed Try.func36 (by kernel_rfl) rfl (k := 48) (rs := []) (by kernel_rfl) (by kernel_rfl) ?_
  (conv => whnf) <;> repeat' (first | ((first | refine wN ?_ | refine wA ?_ | refine wB ?_ | refine wC ?_ | refine wD ?_ | refine vA ?_ | refine vB ?_ | refine vC ?_ | refine vD ?_ | refine uA ?_ | refine uB ?_ | refine uC ?_ | refine uD ?_); conv => whnf) | ((first | refine Pick.dec (fun h => ?_) (fun h => ?_) | refine Pick.beq (fun h => ?_) (fun h => ?_) | refine Cond.dec (fun h => ?_) (fun h => ?_) | refine Cond.beq (fun h => ?_) (fun h => ?_) | refine Cond.nd (fun h => ?_) (fun h => ?_) | refine Pick.nd (fun h => ?_) (fun h => ?_) | refine Pick.mk (fun h => ?_) (fun h => ?_) | refine Cond.mk (fun h => ?_) (fun h => ?_)) <;> conv => whnf))
  intro I hw hs
  have turnD : ∀ (d i : Nat) (rl : List Re) (pr : Nat), i + d = l.length → rl ≠ [] → walkL readR (l.drop i) rl = rF → rl.length + cntL (l.drop i) ≤ 1048576 → (i = l.length → pr = pF) → I [.und, .ptr 0 0, .ptr 1 0, .ptr 2 0, .und, .und, .und, .und, .und, .und, .und, .und, .und, .und, .und, .und, .und, .und, .und, .und, .und, .und, .und, .und, .und, .und, .und, .und, .und, .und, .und, .und, .und, .und, .und, .und, .und, .und, .ext 17 l.length (Xp.rows l), .int .i64 (l.length : Int), .int .i64 (i : Int), .und, .und, .und, .und, .und, .und, .und] [.cells [.map 3], .cells [.row 6 rl.length], .cells [.fn rdF [] [.ptr 0 0, .ptr 1 0, .ptr 2 0]], setRe rl, .gone, .cells (hdX k o n s v sc p ++ [.ext 17 l.length (Xp.rows l)]), .row 53 2 rl.length (gR rl) pr] := by
    intro d
    induction d with
    | zero =>
      intro i rl pr hi hne hf hb hp
      rw [List.drop_of_length_le (by omega), walkL_nil] at hf
      have hp := hp (by omega)
      subst hp
      subst hf
      apply hs
      conv => whnf
      refine Cond.ff (decF (by omega)) ?_
      (conv => whnf) <;> repeat' (first | ((first | refine wN ?_ | refine wA ?_ | refine wB ?_ | refine wC ?_ | refine wD ?_ | refine vA ?_ | refine vB ?_ | refine vC ?_ | refine vD ?_ | refine uA ?_ | refine uB ?_ | refine uC ?_ | refine uD ?_); conv => whnf) | ((first | refine Pick.dec (fun h => ?_) (fun h => ?_) | refine Pick.beq (fun h => ?_) (fun h => ?_) | refine Cond.dec (fun h => ?_) (fun h => ?_) | refine Cond.beq (fun h => ?_) (fun h => ?_) | refine Cond.nd (fun h => ?_) (fun h => ?_) | refine Pick.nd (fun h => ?_) (fun h => ?_) | refine Pick.mk (fun h => ?_) (fun h => ?_) | refine Cond.mk (fun h => ?_) (fun h => ?_)) <;> conv => whnf))
      exact EndH.mk [0, 1, 2, 3, 4, 6] rfl rfl rfl
    | succ d im =>
      intro i rl pr hi hne hf hb hp
      have hil : i < l.length := by omega
      have gk : Xp.rows l (Int.toNat (i : Int)) = cE l[i] := by rw [Int.toNat_natCast]; exact (Xp.rows_ext l).2 i hil
      have e1 : IntKind.i64.wrap ((i : Int) + 1) = ((i + 1 : Nat) : Int) := by rw [wi64_id (by omega) (by omega)]; omega
      rw [List.drop_eq_getElem_cons hil] at hf hb
      rw [walkL_cons] at hf
      rw [cntL_cons] at hb
      have hl1 := walkF_len l[i] rl
      have hl2 := walkL_len' (l.drop (i + 1)) (walkF readR l[i] rl)
      have hQ := ih l[i] (List.getElem_mem hil) (hw' _ (List.getElem_mem hil))
      generalize l[i] = y at *
      by_cases he : walkF readR y rl = rl
      · have hc := (hQ rl).2.2.1 (by omega) hne he
        rw [he] at hf
        apply hs
        conv => whnf
        refine Cond.tt (decT (by omega)) ?_
        (conv => whnf) <;> repeat' (first | ((conv => arg 1; whnf); rw [gk]; conv => whnf) | (refine CalledH.mk [0, 1, 2, 3, 6] _ _ rfl (by simp) hc ?_; conv => whnf) | ((first | refine wN ?_ | refine wA ?_ | refine wB ?_ | refine wC ?_ | refine wD ?_ | refine vA ?_ | refine vB ?_ | refine vC ?_ | refine vD ?_ | refine uA ?_ | refine uB ?_ | refine uC ?_ | refine uD ?_); conv => whnf) | ((first | refine Pick.dec (fun h => ?_) (fun h => ?_) | refine Pick.beq (fun h => ?_) (fun h => ?_) | refine Cond.dec (fun h => ?_) (fun h => ?_) | refine Cond.beq (fun h => ?_) (fun h => ?_) | refine Cond.nd (fun h => ?_) (fun h => ?_) | refine Pick.nd (fun h => ?_) (fun h => ?_) | refine Pick.mk (fun h => ?_) (fun h => ?_) | refine Cond.mk (fun h => ?_) (fun h => ?_)) <;> conv => whnf))
        rw [e1]
        apply hw [0, 1, 2, 3, 4, 5, 6] [false, true, true, true, false, false, false, false, false, false, false, false, false, false, false, false, false, false, false, false, false, false, false, false, false, false, false, false, false, false, false, false, false, false, false, false, false, false, true, true, true] _ _ rfl
        exact im (i + 1) rl rl.length (by omega) hne hf (by omega) (fun e => pf_ok e hf)
      · have hc := (hQ rl).2.2.2 (by omega) hne he
        have hn1 : walkF readR y rl ≠ [] := fun e => by rw [e] at hl1; exact hne (List.eq_nil_of_length_eq_zero (by simpa using hl1.1))
        generalize walkF readR y rl = r1 at *
        apply hs
        conv => whnf
        refine Cond.tt (decT (by omega)) ?_
        (conv => whnf) <;> repeat' (first | ((conv => arg 1; whnf); rw [gk]; conv => whnf) | (refine CalledH.mk [0, 1, 2, 3, 6] _ _ rfl (by simp) hc ?_; conv => whnf) | ((first | refine wN ?_ | refine wA ?_ | refine wB ?_ | refine wC ?_ | refine wD ?_ | refine vA ?_ | refine vB ?_ | refine vC ?_ | refine vD ?_ | refine uA ?_ | refine uB ?_ | refine uC ?_ | refine uD ?_); conv => whnf) | ((first | refine Pick.dec (fun h => ?_) (fun h => ?_) | refine Pick.beq (fun h => ?_) (fun h => ?_) | refine Cond.dec (fun h => ?_) (fun h => ?_) | refine Cond.beq (fun h => ?_) (fun h => ?_) | refine Cond.nd (fun h => ?_) (fun h => ?_) | refine Pick.nd (fun h => ?_) (fun h => ?_) | refine Pick.mk (fun h => ?_) (fun h => ?_) | refine Cond.mk (fun h => ?_) (fun h => ?_)) <;> conv => whnf))
        rw [e1]
        apply hw [0, 1, 2, 3, 4, 5, 8] [false, true, true, true, false, false, false, false, false, false, false, false, false, false, false, false, false, false, false, false, false, false, false, false, false, false, false, false, false, false, false, false, false, false, false, false, false, false, true, true, true] _ _ rfl
        exact im (i + 1) r1 r1.length (by omega) hn1 hf (by omega) (fun e => pf_ok e hf)
  have turnC : ∀ (d i : Nat) (pr : Nat), i + d = l.length → walkL readR (l.drop i) rl0 = rF → rl0.length + cntL (l.drop i) ≤ 1048576 → (i = l.length → pr = pF) → I [.und, .ptr 0 0, .ptr 1 0, .ptr 2 0, .und, .und, .und, .und, .und, .und, .und, .und, .und, .und, .und, .und, .und, .und, .und, .und, .und, .und, .und, .und, .und, .und, .und, .und, .und, .und, .und, .und, .und, .und, .und, .und, .und, .und, .ext 17 l.length (Xp.rows l), .int .i64 (l.length : Int), .int .i64 (i : Int), .und, .und, .und, .und, .und, .und, .und] [.cells [.map 3], .cells [.row 4 rl0.length], .cells [.fn rdF [] [.ptr 0 0, .ptr 1 0, .ptr 2 0]], setRe rl0, .row 53 2 rl0.length (gR rl0) pr, .cells (hdX k o n s v sc p ++ [.ext 17 l.length (Xp.rows l)])] := by
    intro d
    induction d with
    | zero =>
      intro i pr hi hf hb hp
      rw [List.drop_of_length_le (by omega), walkL_nil] at hf
      exact absurd hf.symm hrF
    | succ d im =>
      intro i pr hi hf hb hp
      have hil : i < l.length := by omega
      have gk : Xp.rows l (Int.toNat (i : Int)) = cE l[i] := by rw [Int.toNat_natCast]; exact (Xp.rows_ext l).2 i hil
      have e1 : IntKind.i64.wrap ((i : Int) + 1) = ((i + 1 : Nat) : Int) := by rw [wi64_id (by omega) (by omega)]; omega
      rw [List.drop_eq_getElem_cons hil] at hf hb
      rw [walkL_cons] at hf
      rw [cntL_cons] at hb
      have hl1 := walkF_len l[i] rl0
      have hl2 := walkL_len' (l.drop (i + 1)) (walkF readR l[i] rl0)
      have hQ := ih l[i] (List.getElem_mem hil) (hw' _ (List.getElem_mem hil))
      generalize l[i] = y at *
      by_cases he : walkF readR y rl0 = rl0
      ·
        have hc := (hQ rl0).2.2.1 (by omega) h0 he
        rw [he] at hf
        apply hs
        conv => whnf
        refine Cond.tt (decT (by omega)) ?_
        (conv => whnf) <;> repeat' (first | ((conv => arg 1; whnf); rw [gk]; conv => whnf) | (refine CalledH.mk [0, 1, 2, 3, 4] _ _ rfl (by simp) hc ?_; conv => whnf) | ((first | refine wN ?_ | refine wA ?_ | refine wB ?_ | refine wC ?_ | refine wD ?_ | refine vA ?_ | refine vB ?_ | refine vC ?_ | refine vD ?_ | refine uA ?_ | refine uB ?_ | refine uC ?_ | refine uD ?_); conv => whnf) | ((first | refine Pick.dec (fun h => ?_) (fun h => ?_) | refine Pick.beq (fun h => ?_) (fun h => ?_) | refine Cond.dec (fun h => ?_) (fun h => ?_) | refine Cond.beq (fun h => ?_) (fun h => ?_) | refine Cond.nd (fun h => ?_) (fun h => ?_) | refine Pick.nd (fun h => ?_) (fun h => ?_) | refine Pick.mk (fun h => ?_) (fun h => ?_) | refine Cond.mk (fun h => ?_) (fun h => ?_)) <;> conv => whnf))
        rw [e1]
        apply hw [0, 1, 2, 3, 4, 5] [false, true, true, true, false, false, false, false, false, false, false, false, false, false, false, false, false, false, false, false, false, false, false, false, false, false, false, false, false, false, false, false, false, false, false, false, false, false, true, true, true] _ _ rfl
        exact im (i + 1) rl0.length (by omega) hf (by omega) (fun e => pf_ok e hf)
      ·
        have hc := (hQ rl0).2.2.2 (by omega) h0 he
        have hn1 : walkF readR y rl0 ≠ [] := fun e => by rw [e] at hl1; exact h0 (List.eq_nil_of_length_eq_zero (by simpa using hl1.1))
        generalize walkF readR y rl0 = r1 at *
        apply hs
        conv => whnf
        refine Cond.tt (decT (by omega)) ?_
        (conv => whnf) <;> repeat' (first | ((conv => arg 1; whnf); rw [gk]; conv => whnf) | (refine CalledH.mk [0, 1, 2, 3, 4] _ _ rfl (by simp) hc ?_; conv => whnf) | ((first | refine wN ?_ | refine wA ?_ | refine wB ?_ | refine wC ?_ | refine wD ?_ | refine vA ?_ | refine vB ?_ | refine vC ?_ | refine vD ?_ | refine uA ?_ | refine uB ?_ | refine uC ?_ | refine uD ?_); conv => whnf) | ((first | refine Pick.dec (fun h => ?_) (fun h => ?_) | refine Pick.beq (fun h => ?_) (fun h => ?_) | refine Cond.dec (fun h => ?_) (fun h => ?_) | refine Cond.beq (fun h => ?_) (fun h => ?_) | refine Cond.nd (fun h => ?_) (fun h => ?_) | refine Pick.nd (fun h => ?_) (fun h => ?_) | refine Pick.mk (fun h => ?_) (fun h => ?_) | refine Cond.mk (fun h => ?_) (fun h => ?_)) <;> conv => whnf))
        rw [e1]
        apply hw [0, 1, 2, 3, 4, 5, 7] [false, true, true, true, false, false, false, false, false, false, false, false, false, false, false, false, false, false, false, false, false, false, false, false, false, false, false, false, false, false, false, false, false, false, false, false, false, false, true, true, true] _ _ rfl
        exact turnD d (i + 1) r1 r1.length (by omega) hn1 hf (by omega) (fun e => pf_ok e hf)
  apply hw [0, 1, 2, 3, 4, 5] [false, true, true, true, false, false, false, false, false, false, false, false, false, false, false, false, false, false, false, false, false, false, false, false, false, false, false, false, false, false, false, false, false, false, false, false, false, false, true, true, true] _ _ rfl
  exact turnC l.length 0 rl0.length (by omega) hF (by simp at hbd ⊢; omega) (fun e => by rw [hpF, if_pos (List.eq_nil_of_length_eq_zero e.symm)])
set_option maxHeartbeats 8000000 in
theorem rdC1_name_old (k o : Int) (n s : ByteArray) (v : Vl) (sc p : Int) (l : List Xp) (hlen : l.length ≤ maxLen) (hw' : ∀ y ∈ l, y.Wf) (ih : ∀ y ∈ l, y.Wf → RdQ y) (rl0 : List Re) (h0 : rl0 ≠ []) (k2 : k = 2) (hr : (ByteArray.empty, n) ∈ rl0) (rF : List Re) (hF : walkL readR l rl0 = rF) (hrF : ¬ rF = rl0) (hbd : rl0.length + 1 + cntL l ≤ 1048576) :
    Ret Try.prog rdF [eE (.mk k o n s v sc p l), .ptr 0 0, .ptr 1 0, .ptr 2 0] [.cells [.map 3], .cells [.row 4 rl0.length], .cells [.fn rdF [] [.ptr 0 0, .ptr 1 0, .ptr 2 0]], setRe rl0, .row 53 2 rl0.length (gR rl0) rl0.length] (.tup []) [.cells [.map 3], .cells [.row 5 rF.length], .cells [.fn rdF [] [.ptr 0 0, .ptr 1 0, .ptr 2 0]], setRe rF, .gone, .row 53 2 rF.length (gR rF) (if l = [] then rl0.length else rF.length)] := by
  have hm : maxLen ≤ 9223372036854775807 := by decide
  have hyes : mfind [.s (ByteArray.empty, n).1, .s (ByteArray.empty, n).2] (encM kC cT (mpR rl0)) = some [.bool true] := seen_yes hr
  simp only at hyes
  obtain ⟨pF, hpF⟩ : ∃ q, q = (if l = [] then rl0.length else rF.length) := ⟨_, rfl⟩
  rw [← hpF]
  have pf_ok : ∀ {i : Nat} {r1 : List Re}, i + 1 = l.length → walkL readR (l.drop (i + 1)) r1 = rF → r1.length = pF := fun {i r1} e hf => by
    rw [List.drop_of_length_le (by omega), walkL_nil] at hf
    rw [hpF, hf]
    rw [if_neg (by intro e0; subst e0; simp at e)]
  rw [cE_mk]
  refine ret_of_body atCalls tok mixed Try.func36 (by kernel_rfl) rfl (k := 48) (rs := []) (by kernel_rfl) (by kernel_rfl) ?_
  (conv => whnf) <;> repeat' (first | ((conv => arg 1; whnf); rw [hyes]; conv => whnf) | ((first | refine wN ?_ | refine wA ?_ | refine wB ?_ | refine wC ?_ | refine wD ?_ | refine vA ?_ | refine vB ?_ | refine vC ?_ | refine vD ?_ | refine uA ?_ | refine uB ?_ | refine uC ?_ | refine uD ?_); conv => whnf) | ((first | refine Pick.dec (fun h => ?_) (fun h => ?_) | refine Pick.beq (fun h => ?_) (fun h => ?_) | refine Cond.dec (fun h => ?_) (fun h => ?_) | refine Cond.beq (fun h => ?_) (fun h => ?_) | refine Cond.nd (fun h => ?_) (fun h => ?_) | refine Pick.nd (fun h => ?_) (fun h => ?_) | refine Pick.mk (fun h => ?_) (fun h => ?_) | refine Cond.mk (fun h => ?_) (fun h => ?_)) <;> conv => whnf))
  intro I hw hs
  have turnD : ∀ (d i : Nat) (rl : List Re) (pr : Nat), i + d = l.length → rl ≠ [] → walkL readR (l.drop i) rl = rF → rl.length + cntL (l.drop i) ≤ 1048576 → (i = l.length → pr = pF) → I [.und, .ptr 0 0, .ptr 1 0, .ptr 2 0, .und, .und, .und, .und, .und, .und, .und, .und, .und, .und, .und, .und, .und, .und, .und, .und, .und, .und, .und, .und, .und, .und, .und, .und, .und, .und, .und, .und, .und, .und, .und, .und, .und, .und, .ext 17 l.length (Xp.rows l), .int .i64 (l.length : Int), .int .i64 (i : Int), .und, .und, .und, .und, .und, .und, .und] [.cells [.map 3], .cells [.row 6 rl.length], .cells [.fn rdF [] [.ptr 0 0, .ptr 1 0, .ptr 2 0]], setRe rl, .gone, .cells (hdX k o n s v sc p ++ [.ext 17 l.length (Xp.rows l)]), .row 53 2 rl.length (gR rl) pr] := by
    intro d
    induction d with
    | zero =>
      intro i rl pr hi hne hf hb hp
      rw [List.drop_of_length_le (by omega), walkL_nil] at hf
      have hp := hp (by omega)
      subst hp
      subst hf
      apply hs
      conv => whnf
      refine Cond.ff (decF (by omega)) ?_
      (conv => whnf) <;> repeat' (first | ((first | refine wN ?_ | refine wA ?_ | refine wB ?_ | refine wC ?_ | refine wD ?_ | refine vA ?_ | refine vB ?_ | refine vC ?_ | refine vD ?_ | refine uA ?_ | refine uB ?_ | refine uC ?_ | refine uD ?_); conv => whnf) | ((first | refine Pick.dec (fun h => ?_) (fun h => ?_) | refine Pick.beq (fun h => ?_) (fun h => ?_) | refine Cond.dec (fun h => ?_) (fun h => ?_) | refine Cond.beq (fun h => ?_) (fun h => ?_) | refine Cond.nd (fun h => ?_) (fun h => ?_) | refine Pick.nd (fun h => ?_) (fun h => ?_) | refine Pick.mk (fun h => ?_) (fun h => ?_) | refine Cond.mk (fun h => ?_) (fun h => ?_)) <;> conv => whnf))
      exact EndH.mk [0, 1, 2, 3, 4, 6] rfl rfl rfl
    | succ d im =>
      intro i rl pr hi hne hf hb hp
      have hil : i < l.length := by omega
      have gk : Xp.rows l (Int.toNat (i : Int)) = cE l[i] := by rw [Int.toNat_natCast]; exact (Xp.rows_ext l).2 i hil
      have e1 : IntKind.i64.wrap ((i : Int) + 1) = ((i + 1 : Nat) : Int) := by rw [wi64_id (by omega) (by omega)]; omega
      rw [List.drop_eq_getElem_cons hil] at hf hb
      rw [walkL_cons] at hf
      rw [cntL_cons] at hb
      have hl1 := walkF_len l[i] rl
      have hl2 := walkL_len' (l.drop (i + 1)) (walkF readR l[i] rl)
      have hQ := ih l[i] (List.getElem_mem hil) (hw' _ (List.getElem_mem hil))
      generalize l[i] = y at *
      by_cases he : walkF readR y rl = rl
      · have hc := (hQ rl).2.2.1 (by omega) hne he
        rw [he] at hf
        apply hs
        conv => whnf
        refine Cond.tt (decT (by omega)) ?_
        (conv => whnf) <;> repeat' (first | ((conv => arg 1; whnf); rw [gk]; conv => whnf) | (refine CalledH.mk [0, 1, 2, 3, 6] _ _ rfl (by simp) hc ?_; conv => whnf) | ((first | refine wN ?_ | refine wA ?_ | refine wB ?_ | refine wC ?_ | refine wD ?_ | refine vA ?_ | refine vB ?_ | refine vC ?_ | refine vD ?_ | refine uA ?_ | refine uB ?_ | refine uC ?_ | refine uD ?_); conv => whnf) | ((first | refine Pick.dec (fun h => ?_) (fun h => ?_) | refine Pick.beq (fun h => ?_) (fun h => ?_) | refine Cond.dec (fun h => ?_) (fun h => ?_) | refine Cond.beq (fun h => ?_) (fun h => ?_) | refine Cond.nd (fun h => ?_) (fun h => ?_) | refine Pick.nd (fun h => ?_) (fun h => ?_) | refine Pick.mk (fun h => ?_) (fun h => ?_) | refine Cond.mk (fun h => ?_) (fun h => ?_)) <;> conv => whnf))
        rw [e1]
        apply hw [0, 1, 2, 3, 4, 5, 6] [false, true, true, true, false, false, false, false, false, false, false, false, false, false, false, false, false, false, false, false, false, false, false, false, false, false, false, false, false, false, false, false, false, false, false, false, false, false, true, true, true] _ _ rfl
        exact im (i + 1) rl rl.length (by omega) hne hf (by omega) (fun e => pf_ok e hf)
      · have hc := (hQ rl).2.2.2 (by omega) hne he
        have hn1 : walkF readR y rl ≠ [] := fun e => by rw [e] at hl1; exact hne (List.eq_nil_of_length_eq_zero (by simpa using hl1.1))
        generalize walkF readR y rl = r1 at *
        apply hs
        conv => whnf
        refine Cond.tt (decT (by omega)) ?_
        (conv => whnf) <;> repeat' (first | ((conv => arg 1; whnf); rw [gk]; conv => whnf) | (refine CalledH.mk [0, 1, 2, 3, 6] _ _ rfl (by simp) hc ?_; conv => whnf) | ((first | refine wN ?_ | refine wA ?_ | refine wB ?_ | refine wC ?_ | refine wD ?_ | refine vA ?_ | refine vB ?_ | refine vC ?_ | refine vD ?_ | refine uA ?_ | refine uB ?_ | refine uC ?_ | refine uD ?_); conv => whnf) | ((first | refine Pick.dec (fun h => ?_) (fun h => ?_) | refine Pick.beq (fun h => ?_) (fun h => ?_) | refine Cond.dec (fun h => ?_) (fun h => ?_) | refine Cond.beq (fun h => ?_) (fun h => ?_) | refine Cond.nd (fun h => ?_) (fun h => ?_) | refine Pick.nd (fun h => ?_) (fun h => ?_) | refine Pick.mk (fun h => ?_) (fun h => ?_) | refine Cond.mk (fun h => ?_) (fun h => ?_)) <;> conv => whnf))
        rw [e1]
        apply hw [0, 1, 2, 3, 4, 5, 8] [false, true, true, true, false, false, false, false, false, false, false, false, false, false, false, false, false, false, false, false, false, false, false, false, false, false, false, false, false, false, false, false, false, false, false, false, false, false, true, true, true] _ _ rfl
        exact im (i + 1) r1 r1.length (by omega) hn1 hf (by omega) (fun e => pf_ok e hf)
  have turnC : ∀ (d i : Nat) (pr : Nat), i + d = l.length → walkL readR (l.drop i) rl0 = rF → rl0.length + cntL (l.drop i) ≤ 1048576 → (i = l.length → pr = pF) → I [.und, .ptr 0 0, .ptr 1 0, .ptr 2 0, .und, .und, .und, .und, .und, .und, .und, .und, .und, .und, .und, .und, .und, .und, .und, .und, .und, .und, .und, .und, .und, .und, .und, .und, .und, .und, .und, .und, .und, .und, .und, .und, .und, .und, .ext 17 l.length (Xp.rows l), .int .i64 (l.length : Int), .int .i64 (i : Int), .und, .und, .und, .und, .und, .und, .und] [.cells [.map 3], .cells [.row 4 rl0.length], .cells [.fn rdF [] [.ptr 0 0, .ptr 1 0, .ptr 2 0]], setRe rl0, .row 53 2 rl0.length (gR rl0) pr, .cells (hdX k o n s v sc p ++ [.ext 17 l.length (Xp.rows l)])] := by
    intro d
    induction d with
    | zero =>
      intro i pr hi hf hb hp
      rw [List.drop_of_length_le (by omega), walkL_nil] at hf
      exact absurd hf.symm hrF
    | succ d im =>
      intro i pr hi hf hb hp
      have hil : i < l.length := by omega
      have gk : Xp.rows l (Int.toNat (i : Int)) = cE l[i] := by rw [Int.toNat_natCast]; exact (Xp.rows_ext l).2 i hil
      have e1 : IntKind.i64.wrap ((i : Int) + 1) = ((i + 1 : Nat) : Int) := by rw [wi64_id (by omega) (by omega)]; omega
      rw [List.drop_eq_getElem_cons hil] at hf hb
      rw [walkL_cons] at hf
      rw [cntL_cons] at hb
      have hl1 := walkF_len l[i] rl0
      have hl2 := walkL_len' (l.drop (i + 1)) (walkF readR l[i] rl0)
      have hQ := ih l[i] (List.getElem_mem hil) (hw' _ (List.getElem_mem hil))
      generalize l[i] = y at *
      by_cases he : walkF readR y rl0 = rl0
      ·
        have hc := (hQ rl0).2.2.1 (by omega) h0 he
        rw [he] at hf
        apply hs
        conv => whnf
        refine Cond.tt (decT (by omega)) ?_
        (conv => whnf) <;> repeat' (first | ((conv => arg 1; whnf); rw [gk]; conv => whnf) | (refine CalledH.mk [0, 1, 2, 3, 4] _ _ rfl (by simp) hc ?_; conv => whnf) | ((first | refine wN ?_ | refine wA ?_ | refine wB ?_ | refine wC ?_ | refine wD ?_ | refine vA ?_ | refine vB ?_ | refine vC ?_ | refine vD ?_ | refine uA ?_ | refine uB ?_ | refine uC ?_ | refine uD ?_); conv => whnf) | ((first | refine Pick.dec (fun h => ?_) (fun h => ?_) | refine Pick.beq (fun h => ?_) (fun h => ?_) | refine Cond.dec (fun h => ?_) (fun h => ?_) | refine Cond.beq (fun h => ?_) (fun h => ?_) | refine Cond.nd (fun h => ?_) (fun h => ?_) | refine Pick.nd (fun h => ?_) (fun h => ?_) | refine Pick.mk (fun h => ?_) (fun h => ?_) | refine Cond.mk (fun h => ?_) (fun h => ?_)) <;> conv => whnf))
        rw [e1]
        apply hw [0, 1, 2, 3, 4, 5] [false, true, true, true, false, false, false, false, false, false, false, false, false, false, false, false, false, false, false, false, false, false, false, false, false, false, false, false, false, false, false, false, false, false, false, false, false, false, true, true, true] _ _ rfl
        exact im (i + 1) rl0.length (by omega) hf (by omega) (fun e => pf_ok e hf)
      ·
        have hc := (hQ rl0).2.2.2 (by omega) h0 he
        have hn1 : walkF readR y rl0 ≠ [] := fun e => by rw [e] at hl1; exact h0 (List.eq_nil_of_length_eq_zero (by simpa using hl1.1))
        generalize walkF readR y rl0 = r1 at *
        apply hs
        conv => whnf
        refine Cond.tt (decT (by omega)) ?_
        (conv => whnf) <;> repeat' (first | ((conv => arg 1; whnf); rw [gk]; conv => whnf) | (refine CalledH.mk [0, 1, 2, 3, 4] _ _ rfl (by simp) hc ?_; conv => whnf) | ((first | refine wN ?_ | refine wA ?_ | refine wB ?_ | refine wC ?_ | refine wD ?_ | refine vA ?_ | refine vB ?_ | refine vC ?_ | refine vD ?_ | refine uA ?_ | refine uB ?_ | refine uC ?_ | refine uD ?_); conv => whnf) | ((first | refine Pick.dec (fun h => ?_) (fun h => ?_) | refine Pick.beq (fun h => ?_) (fun h => ?_) | refine Cond.dec (fun h => ?_) (fun h => ?_) | refine Cond.beq (fun h => ?_) (fun h => ?_) | refine Cond.nd (fun h => ?_) (fun h => ?_) | refine Pick.nd (fun h => ?_) (fun h => ?_) | refine Pick.mk (fun h => ?_) (fun h => ?_) | refine Cond.mk (fun h => ?_) (fun h => ?_)) <;> conv => whnf))
        rw [e1]
        apply hw [0, 1, 2, 3, 4, 5, 7] [false, true, true, true, false, false, false, false, false, false, false, false, false, false, false, false, false, false, false, false, false, false, false, false, false, false, false, false, false, false, false, false, false, false, false, false, false, false, true, true, true] _ _ rfl
        exact turnD d (i + 1) r1 r1.length (by omega) hn1 hf (by omega) (fun e => pf_ok e hf)
  apply hw [0, 1, 2, 3, 4, 5] [false, true, true, true, false, false, false, false, false, false, false, false, false, false, false, false, false, false, false, false, false, false, false, false, false, false, false, false, false, false, false, false, false, false, false, false, false, false, true, true, true] _ _ rfl
  exact turnC l.length 0 rl0.length (by omega) hF (by simp at hbd ⊢; omega) (fun e => by rw [hpF, if_pos (List.eq_nil_of_length_eq_zero e.symm)])
set_option maxHeartbeats 8000000 in
theorem rdC1_agg_old (k o : Int) (n s : ByteArray) (v : Vl) (sc p : Int) (l : List Xp) (hlen : l.length ≤ maxLen) (hw' : ∀ y ∈ l, y.Wf) (ih : ∀ y ∈ l, y.Wf → RdQ y) (rl0 : List Re) (h0 : rl0 ≠ []) (k10 : k = 10) (hr : (s, n) ∈ rl0) (rF : List Re) (hF : walkL readR l rl0 = rF) (hrF : ¬ rF = rl0) (hbd : rl0.length + 1 + cntL l ≤ 1048576) :
    Ret Try.prog rdF [eE (.mk k o n s v sc p l), .ptr 0 0, .ptr 1 0, .ptr 2 0] [.cells [.map 3], .cells [.row 4 rl0.length], .cells [.fn rdF [] [.ptr 0 0, .ptr 1 0, .ptr 2 0]], setRe rl0, .row 53 2 rl0.length (gR rl0) rl0.length] (.tup []) [.cells [.map 3], .cells [.row 5 rF.length], .cells [.fn rdF [] [.ptr 0 0, .ptr 1 0, .ptr 2 0]], setRe rF, .gone, .row 53 2 rF.length (gR rF) (if l = [] then rl0.length else rF.length)] := by
  have hm : maxLen ≤ 9223372036854775807 := by decide
  have hyes : mfind [.s (s, n).1, .s (s, n).2] (encM kC cT (mpR rl0)) = some [.bool true] := seen_yes hr
  simp only at hyes
  obtain ⟨pF, hpF⟩ : ∃ q, q = (if l = [] then rl0.length else rF.length) := ⟨_, rfl⟩
  rw [← hpF]
  have pf_ok : ∀ {i : Nat} {r1 : List Re}, i + 1 = l.length → walkL readR (l.drop (i + 1)) r1 = rF → r1.length = pF := fun {i r1} e hf => by
    rw [List.drop_of_length_le (by omega), walkL_nil] at hf
    rw [hpF, hf]
    rw [if_neg (by intro e0; subst e0; simp at e)]
  rw [cE_mk]
  refine ret_of_body atCalls tok mixed Try.func36 (by kernel_rfl) rfl (k := 48) (rs := []) (by kernel_rfl) (by kernel_rfl) ?_
  (conv => whnf) <;> repeat' (first | ((conv => arg 1; whnf); rw [hyes]; conv => whnf) | ((first | refine wN ?_ | refine wA ?_ | refine wB ?_ | refine wC ?_ | refine wD ?_ | refine vA ?_ | refine vB ?_ | refine vC ?_ | refine vD ?_ | refine uA ?_ | refine uB ?_ | refine uC ?_ | refine uD ?_); conv => whnf) | ((first | refine Pick.dec (fun h => ?_) (fun h => ?_) | refine Pick.beq (fun h => ?_) (fun h => ?_) | refine Cond.dec (fun h => ?_) (fun h => ?_) | refine Cond.beq (fun h => ?_) (fun h => ?_) | refine Cond.nd (fun h => ?_) (fun h => ?_) | refine Pick.nd (fun h => ?_) (fun h => ?_) | refine Pick.mk (fun h => ?_) (fun h => ?_) | refine Cond.mk (fun h => ?_) (fun h => ?_)) <;> conv => whnf))
  intro I hw hs
  have turnD : ∀ (d i : Nat) (rl : List Re) (pr : Nat), i + d = l.length → rl ≠ [] → walkL readR (l.drop i) rl = rF → rl.length + cntL (l.drop i) ≤ 1048576 → (i = l.length → pr = pF) → I [.und, .ptr 0 0, .ptr 1 0, .ptr 2 0, .und, .und, .und, .und, .und, .und, .und, .und, .und, .und, .und, .und, .und, .und, .und, .und, .und, .und, .und, .und, .und, .und, .und, .und, .und, .und, .und, .und, .und, .und, .und, .und, .und, .und, .ext 17 l.length (Xp.rows l), .int .i64 (l.length : Int), .int .i64 (i : Int), .und, .und, .und, .und, .und, .und, .und] [.cells [.map 3], .cells [.row 6 rl.length], .cells [.fn rdF [] [.ptr 0 0, .ptr 1 0, .ptr 2 0]], setRe rl, .gone, .cells (hdX k o n s v sc p ++ [.ext 17 l.length (Xp.rows l)]), .row 53 2 rl.length (gR rl) pr] := by
    intro d
    induction d with
    | zero =>
      intro i rl pr hi hne hf hb hp
      rw [List.drop_of_length_le (by omega), walkL_nil] at hf
      have hp := hp (by omega)
      subst hp
      subst hf
      apply hs
      conv => whnf
      refine Cond.ff (decF (by omega)) ?_
      (conv => whnf) <;> repeat' (first | ((first | refine wN ?_ | refine wA ?_ | refine wB ?_ | refine wC ?_ | refine wD ?_ | refine vA ?_ | refine vB ?_ | refine vC ?_ | refine vD ?_ | refine uA ?_ | refine uB ?_ | refine uC ?_ | refine uD ?_); conv => whnf) | ((first | refine Pick.dec (fun h => ?_) (fun h => ?_) | refine Pick.beq (fun h => ?_) (fun h => ?_) | refine Cond.dec (fun h => ?_) (fun h => ?_) | refine Cond.beq (fun h => ?_) (fun h => ?_) | refine Cond.nd (fun h => ?_) (fun h => ?_) | refine Pick.nd (fun h => ?_) (fun h => ?_) | refine Pick.mk (fun h => ?_) (fun h => ?_) | refine Cond.mk (fun h => ?_) (fun h => ?_)) <;> conv => whnf))
      exact EndH.mk [0, 1, 2, 3, 4, 6] rfl rfl rfl
    | succ d im =>
      intro i rl pr hi hne hf hb hp
      have hil : i < l.length := by omega
      have gk : Xp.rows l (Int.toNat (i : Int)) = cE l[i] := by rw [Int.toNat_natCast]; exact (Xp.rows_ext l).2 i hil
      have e1 : IntKind.i64.wrap ((i : Int) + 1) = ((i + 1 : Nat) : Int) := by rw [wi64_id (by omega) (by omega)]; omega
      rw [List.drop_eq_getElem_cons hil] at hf hb
      rw [walkL_cons] at hf
      rw [cntL_cons] at hb
      have hl1 := walkF_len l[i] rl
      have hl2 := walkL_len' (l.drop (i + 1)) (walkF readR l[i] rl)
      have hQ := ih l[i] (List.getElem_mem hil) (hw' _ (List.getElem_mem hil))
      generalize l[i] = y at *
      by_cases he : walkF readR y rl = rl
      · have hc := (hQ rl).2.2.1 (by omega) hne he
        rw [he] at hf
        apply hs
        conv => whnf
        refine Cond.tt (decT (by omega)) ?_
        (conv => whnf) <;> repeat' (first | ((conv => arg 1; whnf); rw [gk]; conv => whnf) | (refine CalledH.mk [0, 1, 2, 3, 6] _ _ rfl (by simp) hc ?_; conv => whnf) | ((first | refine wN ?_ | refine wA ?_ | refine wB ?_ | refine wC ?_ | refine wD ?_ | refine vA ?_ | refine vB ?_ | refine vC ?_ | refine vD ?_ | refine uA ?_ | refine uB ?_ | refine uC ?_ | refine uD ?_); conv => whnf) | ((first | refine Pick.dec (fun h => ?_) (fun h => ?_) | refine Pick.beq (fun h => ?_) (fun h => ?_) | refine Cond.dec (fun h => ?_) (fun h => ?_) | refine Cond.beq (fun h => ?_) (fun h => ?_) | refine Cond.nd (fun h => ?_) (fun h => ?_) | refine Pick.nd (fun h => ?_) (fun h => ?_) | refine Pick.mk (fun h => ?_) (fun h => ?_) | refine Cond.mk (fun h => ?_) (fun h => ?_)) <;> conv => whnf))
        rw [e1]
        apply hw [0, 1, 2, 3, 4, 5, 6] [false, true, true, true, false, false, false, false, false, false, false, false, false, false, false, false, false, false, false, false, false, false, false, false, false, false, false, false, false, false, false, false, false, false, false, false, false, false, true, true, true] _ _ rfl
        exact im (i + 1) rl rl.length (by omega) hne hf (by omega) (fun e => pf_ok e hf)
      · have hc := (hQ rl).2.2.2 (by omega) hne he
        have hn1 : walkF readR y rl ≠ [] := fun e => by rw [e] at hl1; exact hne (List.eq_nil_of_length_eq_zero (by simpa using hl1.1))
        generalize walkF readR y rl = r1 at *
        apply hs
        conv => whnf
        refine Cond.tt (decT (by omega)) ?_
        (conv => whnf) <;> repeat' (first | ((conv => arg 1; whnf); rw [gk]; conv => whnf) | (refine CalledH.mk [0, 1, 2, 3, 6] _ _ rfl (by simp) hc ?_; conv => whnf) | ((first | refine wN ?_ | refine wA ?_ | refine wB ?_ | refine wC ?_ | refine wD ?_ | refine vA ?_ | refine vB ?_ | refine vC ?_ | refine vD ?_ | refine uA ?_ | refine uB ?_ | refine uC ?_ | refine uD ?_); conv => whnf) | ((first | refine Pick.dec (fun h => ?_) (fun h => ?_) | refine Pick.beq (fun h => ?_) (fun h => ?_) | refine Cond.dec (fun h => ?_) (fun h => ?_) | refine Cond.beq (fun h => ?_) (fun h => ?_) | refine Cond.nd (fun h => ?_) (fun h => ?_) | refine Pick.nd (fun h => ?_) (fun h => ?_) | refine Pick.mk (fun h => ?_) (fun h => ?_) | refine Cond.mk (fun h => ?_) (fun h => ?_)) <;> conv => whnf))
        rw [e1]
        apply hw [0, 1, 2, 3, 4, 5, 8] [false, true, true, true, false, false, false, false, false, false, false, false, false, false, false, false, false, false, false, false, false, false, false, false, false, false, false, false, false, false, false, false, false, false, false, false, false, false, true, true, true] _ _ rfl
        exact im (i + 1) r1 r1.length (by omega) hn1 hf (by omega) (fun e => pf_ok e hf)
  have turnC : ∀ (d i : Nat) (pr : Nat), i + d = l.length → walkL readR (l.drop i) rl0 = rF → rl0.length + cntL (l.drop i) ≤ 1048576 → (i = l.length → pr = pF) → I [.und, .ptr 0 0, .ptr 1 0, .ptr 2 0, .und, .und, .und, .und, .und, .und, .und, .und, .und, .und, .und, .und, .und, .und, .und, .und, .und, .und, .und, .und, .und, .und, .und, .und, .und, .und, .und, .und, .und, .und, .und, .und, .und, .und, .ext 17 l.length (Xp.rows l), .int .i64 (l.length : Int), .int .i64 (i : Int), .und, .und, .und, .und, .und, .und, .und] [.cells [.map 3], .cells [.row 4 rl0.length], .cells [.fn rdF [] [.ptr 0 0, .ptr 1 0, .ptr 2 0]], setRe rl0, .row 53 2 rl0.length (gR rl0) pr, .cells (hdX k o n s v sc p ++ [.ext 17 l.length (Xp.rows l)])] := by
    intro d
    induction d with
    | zero =>
      intro i pr hi hf hb hp
      rw [List.drop_of_length_le (by omega), walkL_nil] at hf
      exact absurd hf.symm hrF
    | succ d im =>
      intro i pr hi hf hb hp
      have hil : i < l.length := by omega
      have gk : Xp.rows l (Int.toNat (i : Int)) = cE l[i] := by rw [Int.toNat_natCast]; exact (Xp.rows_ext l).2 i hil
      have e1 : IntKind.i64.wrap ((i : Int) + 1) = ((i + 1 : Nat) : Int) := by rw [wi64_id (by omega) (by omega)]; omega
      rw [List.drop_eq_getElem_cons hil] at hf hb
      rw [walkL_cons] at hf
      rw [cntL_cons] at hb
      have hl1 := walkF_len l[i] rl0
      have hl2 := walkL_len' (l.drop (i + 1)) (walkF readR l[i] rl0)
      have hQ := ih l[i] (List.getElem_mem hil) (hw' _ (List.getElem_mem hil))
      generalize l[i] = y at *
      by_cases he : walkF readR y rl0 = rl0
      ·
        have hc := (hQ rl0).2.2.1 (by omega) h0 he
        rw [he] at hf
        apply hs
        conv => whnf
        refine Cond.tt (decT (by omega)) ?_
        (conv => whnf) <;> repeat' (first | ((conv => arg 1; whnf); rw [gk]; conv => whnf) | (refine CalledH.mk [0, 1, 2, 3, 4] _ _ rfl (by simp) hc ?_; conv => whnf) | ((first | refine wN ?_ | refine wA ?_ | refine wB ?_ | refine wC ?_ | refine wD ?_ | refine vA ?_ | refine vB ?_ | refine vC ?_ | refine vD ?_ | refine uA ?_ | refine uB ?_ | refine uC ?_ | refine uD ?_); conv => whnf) | ((first | refine Pick.dec (fun h => ?_) (fun h => ?_) | refine Pick.beq (fun h => ?_) (fun h => ?_) | refine Cond.dec (fun h => ?_) (fun h => ?_) | refine Cond.beq (fun h => ?_) (fun h => ?_) | refine Cond.nd (fun h => ?_) (fun h => ?_) | refine Pick.nd (fun h => ?_) (fun h => ?_) | refine Pick.mk (fun h => ?_) (fun h => ?_) | refine Cond.mk (fun h => ?_) (fun h => ?_)) <;> conv => whnf))
        rw [e1]
        apply hw [0, 1, 2, 3, 4, 5] [false, true, true, true, false, false, false, false, false, false, false, false, false, false, false, false, false, false, false, false, false, false, false, false, false, false, false, false, false, false, false, false, false, false, false, false, false, false, true, true, true] _ _ rfl
        exact im (i + 1) rl0.length (by omega) hf (by omega) (fun e => pf_ok e hf)
      ·
        have hc := (hQ rl0).2.2.2 (by omega) h0 he
        have hn1 : walkF readR y rl0 ≠ [] := fun e => by rw [e] at hl1; exact h0 (List.eq_nil_of_length_eq_zero (by simpa using hl1.1))
        generalize walkF readR y rl0 = r1 at *
        apply hs
        conv => whnf
        refine Cond.tt (decT (by omega)) ?_
        (conv => whnf) <;> repeat' (first | ((conv => arg 1; whnf); rw [gk]; conv => whnf) | (refine CalledH.mk [0, 1, 2, 3, 4] _ _ rfl (by simp) hc ?_; conv => whnf) | ((first | refine wN ?_ | refine wA ?_ | refine wB ?_ | refine wC ?_ | refine wD ?_ | refine vA ?_ | refine vB ?_ | refine vC ?_ | refine vD ?_ | refine uA ?_ | refine uB ?_ | refine uC ?_ | refine uD ?_); conv => whnf) | ((first | refine Pick.dec (fun h => ?_) (fun h => ?_) | refine Pick.beq (fun h => ?_) (fun h => ?_) | refine Cond.dec (fun h => ?_) (fun h => ?_) | refine Cond.beq (fun h => ?_) (fun h => ?_) | refine Cond.nd (fun h => ?_) (fun h => ?_) | refine Pick.nd (fun h => ?_) (fun h => ?_) | refine Pick.mk (fun h => ?_) (fun h => ?_) | refine Cond.mk (fun h => ?_) (fun h => ?_)) <;> conv => whnf))
        rw [e1]
        apply hw [0, 1, 2, 3, 4, 5, 7] [false, true, true, true, false, false, false, false, false, false, false, false, false, false, false, false, false, false, false, false, false, false, false, false, false, false, false, false, false, false, false, false, false, false, false, false, false, false, true, true, true] _ _ rfl
        exact turnD d (i + 1) r1 r1.length (by omega) hn1 hf (by omega) (fun e => pf_ok e hf)
  apply hw [0, 1, 2, 3, 4, 5] [false, true, true, true, false, false, false, false, false, false, false, false, false, false, false, false, false, false, false, false, false, false, false, false, false, false, false, false, false, false, false, false, false, false, false, false, false, false, true, true, true] _ _ rfl
  exact turnC l.length 0 rl0.length (by omega) hF (by simp at hbd ⊢; omega) (fun e => by rw [hpF, if_pos (List.eq_nil_of_length_eq_zero e.symm)])
set_option maxHeartbeats 8000000 in
theorem rdC1_name_new (k o : Int) (n s : ByteArray) (v : Vl) (sc p : Int) (l : List Xp) (hlen : l.length ≤ maxLen) (hw' : ∀ y ∈ l, y.Wf) (ih : ∀ y ∈ l, y.Wf → RdQ y) (rl0 : List Re) (h0 : rl0 ≠ []) (k2 : k = 2) (hr : (ByteArray.empty, n) ∉ rl0) (rF : List Re) (hF : walkL readR l ((ByteArray.empty, n) :: rl0) = rF) (hrF : ¬ rF = rl0) (hbd : rl0.length + 1 + cntL l ≤ 1048576) :
    Ret Try.prog rdF [eE (.mk k o n s v sc p l), .ptr 0 0, .ptr 1 0, .ptr 2 0] [.cells [.map 3], .cells [.row 4 rl0.length], .cells [.fn rdF [] [.ptr 0 0, .ptr 1 0, .ptr 2 0]], setRe rl0, .row 53 2 rl0.length (gR rl0) rl0.length] (.tup []) [.cells [.map 3], .cells [.row 5 rF.length], .cells [.fn rdF [] [.ptr 0 0, .ptr 1 0, .ptr 2 0]], setRe rF, .gone, .row 53 2 rF.length (gR rF) (if l = [] then rl0.length else rF.length)] := by
  have hm : maxLen ≤ 9223372036854775807 := by decide
  have hno : mfind [.s (ByteArray.empty, n).1, .s (ByteArray.empty, n).2] (encM kC cT (mpR rl0)) = none := seen_no hr
  have hput : mput [.s (ByteArray.empty, n).1, .s (ByteArray.empty, n).2] [.bool true] (encM kC cT (mpR rl0)) = encM kC cT (mpR ((ByteArray.empty, n) :: rl0)) := seen_put hr
  simp only at hno hput
  obtain ⟨pF, hpF⟩ : ∃ q, q = (if l = [] then rl0.length else rF.length) := ⟨_, rfl⟩
  rw [← hpF]
  have pf_ok : ∀ {i : Nat} {r1 : List Re}, i + 1 = l.length → walkL readR (l.drop (i + 1)) r1 = rF → r1.length = pF := fun {i r1} e hf => by
    rw [List.drop_of_length_le (by omega), walkL_nil] at hf
    rw [hpF, hf]
    rw [if_neg (by intro e0; subst e0; simp at e)]
  rw [cE_mk]
  refine ret_of_body atCalls tok mixed Try.func36 (by kernel_rfl) rfl (k := 48) (rs := []) (by kernel_rfl) (by kernel_rfl) ?_
  (conv => whnf) <;> repeat' (first | ((conv => arg 1; whnf); rw [hno]; conv => whnf) | (rw [hput]; conv => whnf) | ((first | refine wN ?_ | refine wA ?_ | refine wB ?_ | refine wC ?_ | refine wD ?_ | refine vA ?_ | refine vB ?_ | refine vC ?_ | refine vD ?_ | refine uA ?_ | refine uB ?_ | refine uC ?_ | refine uD ?_); conv => whnf) | ((first | refine Pick.dec (fun h => ?_) (fun h => ?_) | refine Pick.beq (fun h => ?_) (fun h => ?_) | refine Cond.dec (fun h => ?_) (fun h => ?_) | refine Cond.beq (fun h => ?_) (fun h => ?_) | refine Cond.nd (fun h => ?_) (fun h => ?_) | refine Pick.nd (fun h => ?_) (fun h => ?_) | refine Pick.mk (fun h => ?_) (fun h => ?_) | refine Cond.mk (fun h => ?_) (fun h => ?_)) <;> conv => whnf))
  intro I hw hs
  have turnD : ∀ (d i : Nat) (rl : List Re) (pr : Nat), i + d = l.length → rl ≠ [] → walkL readR (l.drop i) rl = rF → rl.length + cntL (l.drop i) ≤ 1048576 → (i = l.length → pr = pF) → I [.und, .ptr 0 0, .ptr 1 0, .ptr 2 0, .und, .und, .und, .und, .und, .und, .und, .und, .und, .und, .und, .und, .und, .und, .und, .und, .und, .und, .und, .und, .und, .und, .und, .und, .und, .und, .und, .und, .und, .und, .und, .und, .und, .und, .ext 17 l.length (Xp.rows l), .int .i64 (l.length : Int), .int .i64 (i : Int), .und, .und, .und, .und, .und, .und, .und] [.cells [.map 3], .cells [.row 6 rl.length], .cells [.fn rdF [] [.ptr 0 0, .ptr 1 0, .ptr 2 0]], setRe rl, .gone, .cells (hdX k o n s v sc p ++ [.ext 17 l.length (Xp.rows l)]), .row 53 2 rl.length (gR rl) pr] := by
    intro d
    induction d with
    | zero =>
      intro i rl pr hi hne hf hb hp
      rw [List.drop_of_length_le (by omega), walkL_nil] at hf
      have hp := hp (by omega)
      subst hp
      subst hf
      apply hs
      conv => whnf
      refine Cond.ff (decF (by omega)) ?_
      (conv => whnf) <;> repeat' (first | ((first | refine wN ?_ | refine wA ?_ | refine wB ?_ | refine wC ?_ | refine wD ?_ | refine vA ?_ | refine vB ?_ | refine vC ?_ | refine vD ?_ | refine uA ?_ | refine uB ?_ | refine uC ?_ | refine uD ?_); conv => whnf) | ((first | refine Pick.dec (fun h => ?_) (fun h => ?_) | refine Pick.beq (fun h => ?_) (fun h => ?_) | refine Cond.dec (fun h => ?_) (fun h => ?_) | refine Cond.beq (fun h => ?_) (fun h => ?_) | refine Cond.nd (fun h => ?_) (fun h => ?_) | refine Pick.nd (fun h => ?_) (fun h => ?_) | refine Pick.mk (fun h => ?_) (fun h => ?_) | refine Cond.mk (fun h => ?_) (fun h => ?_)) <;> conv => whnf))
      exact EndH.mk [0, 1, 2, 3, 4, 6] rfl rfl rfl
    | succ d im =>
      intro i rl pr hi hne hf hb hp
      have hil : i < l.length := by omega
      have gk : Xp.rows l (Int.toNat (i : Int)) = cE l[i] := by rw [Int.toNat_natCast]; exact (Xp.rows_ext l).2 i hil
      have e1 : IntKind.i64.wrap ((i : Int) + 1) = ((i + 1 : Nat) : Int) := by rw [wi64_id (by omega) (by omega)]; omega
      rw [List.drop_eq_getElem_cons hil] at hf hb
      rw [walkL_cons] at hf
      rw [cntL_cons] at hb
      have hl1 := walkF_len l[i] rl
      have hl2 := walkL_len' (l.drop (i + 1)) (walkF readR l[i] rl)
      have hQ := ih l[i] (List.getElem_mem hil) (hw' _ (List.getElem_mem hil))
      generalize l[i] = y at *
      by_cases he : walkF readR y rl = rl
      · have hc := (hQ rl).2.2.1 (by omega) hne he
        rw [he] at hf
        apply hs
        conv => whnf
        refine Cond.tt (decT (by omega)) ?_
        (conv => whnf) <;> repeat' (first | ((conv => arg 1; whnf); rw [gk]; conv => whnf) | (refine CalledH.mk [0, 1, 2, 3, 6] _ _ rfl (by simp) hc ?_; conv => whnf) | ((first | refine wN ?_ | refine wA ?_ | refine wB ?_ | refine wC ?_ | refine wD ?_ | refine vA ?_ | refine vB ?_ | refine vC ?_ | refine vD ?_ | refine uA ?_ | refine uB ?_ | refine uC ?_ | refine uD ?_); conv => whnf) | ((first | refine Pick.dec (fun h => ?_) (fun h => ?_) | refine Pick.beq (fun h => ?_) (fun h => ?_) | refine Cond.dec (fun h => ?_) (fun h => ?_) | refine Cond.beq (fun h => ?_) (fun h => ?_) | refine Cond.nd (fun h => ?_) (fun h => ?_) | refine Pick.nd (fun h => ?_) (fun h => ?_) | refine Pick.mk (fun h => ?_) (fun h => ?_) | refine Cond.mk (fun h => ?_) (fun h => ?_)) <;> conv => whnf))
        rw [e1]
        apply hw [0, 1, 2, 3, 4, 5, 6] [false, true, true, true, false, false, false, false, false, false, false, false, false, false, false, false, false, false, false, false, false, false, false, false, false, false, false, false, false, false, false, false, false, false, false, false, false, false, true, true, true] _ _ rfl
        exact im (i + 1) rl rl.length (by omega) hne hf (by omega) (fun e => pf_ok e hf)
      · have hc := (hQ rl).2.2.2 (by omega) hne he
        have hn1 : walkF readR y rl ≠ [] := fun e => by rw [e] at hl1; exact hne (List.eq_nil_of_length_eq_zero (by simpa using hl1.1))
        generalize walkF readR y rl = r1 at *
        apply hs
        conv => whnf
        refine Cond.tt (decT (by omega)) ?_
        (conv => whnf) <;> repeat' (first | ((conv => arg 1; whnf); rw [gk]; conv => whnf) | (refine CalledH.mk [0, 1, 2, 3, 6] _ _ rfl (by simp) hc ?_; conv => whnf) | ((first | refine wN ?_ | refine wA ?_ | refine wB ?_ | refine wC ?_ | refine wD ?_ | refine vA ?_ | refine vB ?_ | refine vC ?_ | refine vD ?_ | refine uA ?_ | refine uB ?_ | refine uC ?_ | refine uD ?_); conv => whnf) | ((first | refine Pick.dec (fun h => ?_) (fun h => ?_) | refine Pick.beq (fun h => ?_) (fun h => ?_) | refine Cond.dec (fun h => ?_) (fun h => ?_) | refine Cond.beq (fun h => ?_) (fun h => ?_) | refine Cond.nd (fun h => ?_) (fun h => ?_) | refine Pick.nd (fun h => ?_) (fun h => ?_) | refine Pick.mk (fun h => ?_) (fun h => ?_) | refine Cond.mk (fun h => ?_) (fun h => ?_)) <;> conv => whnf))
        rw [e1]
        apply hw [0, 1, 2, 3, 4, 5, 8] [false, true, true, true, false, false, false, false, false, false, false, false, false, false, false, false, false, false, false, false, false, false, false, false, false, false, false, false, false, false, false, false, false, false, false, false, false, false, true, true, true] _ _ rfl
        exact im (i + 1) r1 r1.length (by omega) hn1 hf (by omega) (fun e => pf_ok e hf)
  apply hw [0, 1, 2, 3, 4, 5, 8] [false, true, true, true, false, false, false, false, false, false, false, false, false, false, false, false, false, false, false, false, false, false, false, false, false, false, false, false, false, false, false, false, false, false, false, false, false, false, true, true, true] _ _ rfl
  obtain ⟨q0, t0, hq⟩ : ∃ q t, rl0 = q :: t := by
    cases rl0 with
    | nil => exact absurd rfl h0
    | cons q t => exact ⟨q, t, rfl⟩
  subst hq
  exact turnD l.length 0 _ (q0 :: t0).length (by omega) (by simp) hF (by simp at hbd ⊢; omega) (fun e => by rw [hpF, if_pos (List.eq_nil_of_length_eq_zero e.symm)])
set_option maxHeartbeats 8000000 in
theorem rdC1_agg_new (k o : Int) (n s : ByteArray) (v : Vl) (sc p : Int) (l : List Xp) (hlen : l.length ≤ maxLen) (hw' : ∀ y ∈ l, y.Wf) (ih : ∀ y ∈ l, y.Wf → RdQ y) (rl0 : List Re) (h0 : rl0 ≠ []) (k10 : k = 10) (hr : (s, n) ∉ rl0) (rF : List Re) (hF : walkL readR l ((s, n) :: rl0) = rF) (hrF : ¬ rF = rl0) (hbd : rl0.length + 1 + cntL l ≤ 1048576) :
    Ret Try.prog rdF [eE (.mk k o n s v sc p l), .ptr 0 0, .ptr 1 0, .ptr 2 0] [.cells [.map 3], .cells [.row 4 rl0.length], .cells [.fn rdF [] [.ptr 0 0, .ptr 1 0, .ptr 2 0]], setRe rl0, .row 53 2 rl0.length (gR rl0) rl0.length] (.tup []) [.cells [.map 3], .cells [.row 5 rF.length], .cells [.fn rdF [] [.ptr 0 0, .ptr 1 0, .ptr 2 0]], setRe rF, .gone, .row 53 2 rF.length (gR rF) (if l = [] then rl0.length else rF.length)] := by
  have hm : maxLen ≤ 9223372036854775807 := by decide
  have hno : mfind [.s (s, n).1, .s (s, n).2] (encM kC cT (mpR rl0)) = none := seen_no hr
  have hput : mput [.s (s, n).1, .s (s, n).2] [.bool true] (encM kC cT (mpR rl0)) = encM kC cT (mpR ((s, n) :: rl0)) := seen_put hr
  simp only at hno hput
  obtain ⟨pF, hpF⟩ : ∃ q, q = (if l = [] then rl0.length else rF.length) := ⟨_, rfl⟩
  rw [← hpF]
  have pf_ok : ∀ {i : Nat} {r1 : List Re}, i + 1 = l.length → walkL readR (l.drop (i + 1)) r1 = rF → r1.length = pF := fun {i r1} e hf => by
    rw [List.drop_of_length_le (by omega), walkL_nil] at hf
    rw [hpF, hf]
    rw [if_neg (by intro e0; subst e0; simp at e)]
  rw [cE_mk]
  refine ret_of_body atCalls tok mixed Try.func36 (by kernel_rfl) rfl (k := 48) (rs := []) (by kernel_rfl) (by kernel_rfl) ?_
  (conv => whnf) <;> repeat' (first | ((conv => arg 1; whnf); rw [hno]; conv => whnf) | (rw [hput]; conv => whnf) | ((first | refine wN ?_ | refine wA ?_ | refine wB ?_ | refine wC ?_ | refine wD ?_ | refine vA ?_ | refine vB ?_ | refine vC ?_ | refine vD ?_ | refine uA ?_ | refine uB ?_ | refine uC ?_ | refine uD ?_); conv => whnf) | ((first | refine Pick.dec (fun h => ?_) (fun h => ?_) | refine Pick.beq (fun h => ?_) (fun h => ?_) | refine Cond.dec (fun h => ?_) (fun h => ?_) | refine Cond.beq (fun h => ?_) (fun h => ?_) | refine Cond.nd (fun h => ?_) (fun h => ?_) | refine Pick.nd (fun h => ?_) (fun h => ?_) | refine Pick.mk (fun h => ?_) (fun h => ?_) | refine Cond.mk (fun h => ?_) (fun h => ?_)) <;> conv => whnf))
  intro I hw hs
  have turnD : ∀ (d i : Nat) (rl : List Re) (pr : Nat), i + d = l.length → rl ≠ [] → walkL readR (l.drop i) rl = rF → rl.length + cntL (l.drop i) ≤ 1048576 → (i = l.length → pr = pF) → I [.und, .ptr 0 0, .ptr 1 0, .ptr 2 0, .und, .und, .und, .und, .und, .und, .und, .und, .und, .und, .und, .und, .und, .und, .und, .und, .und, .und, .und, .und, .und, .und, .und, .und, .und, .und, .und, .und, .und, .und, .und, .und, .und, .und, .ext 17 l.length (Xp.rows l), .int .i64 (l.length : Int), .int .i64 (i : Int), .und, .und, .und, .und, .und, .und, .und] [.cells [.map 3], .cells [.row 6 rl.length], .cells [.fn rdF [] [.ptr 0 0, .ptr 1 0, .ptr 2 0]], setRe rl, .gone, .cells (hdX k o n s v sc p ++ [.ext 17 l.length (Xp.rows l)]), .row 53 2 rl.length (gR rl) pr] := by
    intro d
    induction d with
    | zero =>
      intro i rl pr hi hne hf hb hp
      rw [List.drop_of_length_le (by omega), walkL_nil] at hf
      have hp := hp (by omega)
      subst hp
      subst hf
      apply hs
      conv => whnf
      refine Cond.ff (decF (by omega)) ?_
      (conv => whnf) <;> repeat' (first | ((first | refine wN ?_ | refine wA ?_ | refine wB ?_ | refine wC ?_ | refine wD ?_ | refine vA ?_ | refine vB ?_ | refine vC ?_ | refine vD ?_ | refine uA ?_ | refine uB ?_ | refine uC ?_ | refine uD ?_); conv => whnf) | ((first | refine Pick.dec (fun h => ?_) (fun h => ?_) | refine Pick.beq (fun h => ?_) (fun h => ?_) | refine Cond.dec (fun h => ?_) (fun h => ?_) | refine Cond.beq (fun h => ?_) (fun h => ?_) | refine Cond.nd (fun h => ?_) (fun h => ?_) | refine Pick.nd (fun h => ?_) (fun h => ?_) | refine Pick.mk (fun h => ?_) (fun h => ?_) | refine Cond.mk (fun h => ?_) (fun h => ?_)) <;> conv => whnf))
      exact EndH.mk [0, 1, 2, 3, 4, 6] rfl rfl rfl
    | succ d im =>
      intro i rl pr hi hne hf hb hp
      have hil : i < l.length := by omega
      have gk : Xp.rows l (Int.toNat (i : Int)) = cE l[i] := by rw [Int.toNat_natCast]; exact (Xp.rows_ext l).2 i hil
      have e1 : IntKind.i64.wrap ((i : Int) + 1) = ((i + 1 : Nat) : Int) := by rw [wi64_id (by omega) (by omega)]; omega
      rw [List.drop_eq_getElem_cons hil] at hf hb
      rw [walkL_cons] at hf
      rw [cntL_cons] at hb
      have hl1 := walkF_len l[i] rl
      have hl2 := walkL_len' (l.drop (i + 1)) (walkF readR l[i] rl)
      have hQ := ih l[i] (List.getElem_mem hil) (hw' _ (List.getElem_mem hil))
      generalize l[i] = y at *
      by_cases he : walkF readR y rl = rl
      · have hc := (hQ rl).2.2.1 (by omega) hne he
        rw [he] at hf
        apply hs
        conv => whnf
        refine Cond.tt (decT (by omega)) ?_
        (conv => whnf) <;> repeat' (first | ((conv => arg 1; whnf); rw [gk]; conv => whnf) | (refine CalledH.mk [0, 1, 2, 3, 6] _ _ rfl (by simp) hc ?_; conv => whnf) | ((first | refine wN ?_ | refine wA ?_ | refine wB ?_ | refine wC ?_ | refine wD ?_ | refine vA ?_ | refine vB ?_ | refine vC ?_ | refine vD ?_ | refine uA ?_ | refine uB ?_ | refine uC ?_ | refine uD ?_); conv => whnf) | ((first | refine Pick.dec (fun h => ?_) (fun h => ?_) | refine Pick.beq (fun h => ?_) (fun h => ?_) | refine Cond.dec (fun h => ?_) (fun h => ?_) | refine Cond.beq (fun h => ?_) (fun h => ?_) | refine Cond.nd (fun h => ?_) (fun h => ?_) | refine Pick.nd (fun h => ?_) (fun h => ?_) | refine Pick.mk (fun h => ?_) (fun h => ?_) | refine Cond.mk (fun h => ?_) (fun h => ?_)) <;> conv => whnf))
        rw [e1]
        apply hw [0, 1, 2, 3, 4, 5, 6] [false, true, true, true, false, false, false, false, false, false, false, false, false, false, false, false, false, false, false, false, false, false, false, false, false, false, false, false, false, false, false, false, false, false, false, false, false, false, true, true, true] _ _ rfl
        exact im (i + 1) rl rl.length (by omega) hne hf (by omega) (fun e => pf_ok e hf)
      · have hc := (hQ rl).2.2.2 (by omega) hne he
        have hn1 : walkF readR y rl ≠ [] := fun e => by rw [e] at hl1; exact hne (List.eq_nil_of_length_eq_zero (by simpa using hl1.1))
        generalize walkF readR y rl = r1 at *
        apply hs
        conv => whnf
        refine Cond.tt (decT (by omega)) ?_
        (conv => whnf) <;> repeat' (first | ((conv => arg 1; whnf); rw [gk]; conv => whnf) | (refine CalledH.mk [0, 1, 2, 3, 6] _ _ rfl (by simp) hc ?_; conv => whnf) | ((first | refine wN ?_ | refine wA ?_ | refine wB ?_ | refine wC ?_ | refine wD ?_ | refine vA ?_ | refine vB ?_ | refine vC ?_ | refine vD ?_ | refine uA ?_ | refine uB ?_ | refine uC ?_ | refine uD ?_); conv => whnf) | ((first | refine Pick.dec (fun h => ?_) (fun h => ?_) | refine Pick.beq (fun h => ?_) (fun h => ?_) | refine Cond.dec (fun h => ?_) (fun h => ?_) | refine Cond.beq (fun h => ?_) (fun h => ?_) | refine Cond.nd (fun h => ?_) (fun h => ?_) | refine Pick.nd (fun h => ?_) (fun h => ?_) | refine Pick.mk (fun h => ?_) (fun h => ?_) | refine Cond.mk (fun h => ?_) (fun h => ?_)) <;> conv => whnf))
        rw [e1]
        apply hw [0, 1, 2, 3, 4, 5, 8] [false, true, true, true, false, false, false, false, false, false, false, false, false, false, false, false, false, false, false, false, false, false, false, false, false, false, false, false, false, false, false, false, false, false, false, false, false, false, true, true, true] _ _ rfl
        exact im (i + 1) r1 r1.length (by omega) hn1 hf (by omega) (fun e => pf_ok e hf)
  apply hw [0, 1, 2, 3, 4, 5, 8] [false, true, true, true, false, false, false, false, false, false, false, false, false, false, false, false, false, false, false, false, false, false, false, false, false, false, false, false, false, false, false, false, false, false, false, false, false, false, true, true, true] _ _ rfl
  obtain ⟨q0, t0, hq⟩ : ∃ q t, rl0 = q :: t := by
    cases rl0 with
    | nil => exact absurd rfl h0
    | cons q t => exact ⟨q, t, rfl⟩
  subst hq
  exact turnD l.length 0 _ (q0 :: t0).length (by omega) (by simp) hF (by simp at hbd ⊢; omega) (fun e => by rw [hpF, if_pos (List.eq_nil_of_length_eq_zero e.symm)])
end Go.Proofs.Ytkglccolonpnlaa

