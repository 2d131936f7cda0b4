/- ranks.Reads' closures. Printed by wip/tools/rkwalk.py. -/
import Derived.Test.YthjgnmpnagmeoaaAmM3
set_option linter.unusedVariables false
set_option linter.unusedSimpArgs false
set_option maxRecDepth 100000
namespace Go.Proofs.Ythjgnmpnagmeoaa
open Go.AM
abbrev rpF : FuncId := 36
abbrev rwF : FuncId := 37
abbrev riF : FuncId := 41
theorem rput_ret (l : List Se) (hL : LOk l) (s i : Int) (hi : i ≤ 9223372036854775807) (b : Bool) (es : List (Int × Unit)) : Ret Try.prog rpF [.int .i64 s, .int .i64 i, .bool b, .ptr 0 0, .ptr 1 0] [.cells [eL 5 cSe l], .cells [.map 2], setZ es] (.tup []) [.cells [eL 5 cSe l], .cells [.map 2], setZ (if b = true ∧ (numF l s i).2 = true then aput (numF l s i).1 () es else es)] := by
  have hN := number_ret l s i hi hL.len hL.many
  generalize numF l s i = q at *
  obtain ⟨q1, q2⟩ := q
  have hP : mput [.i .i64 q1] [.bool true] (encM kI cT es) = encM kI cT (aput q1 () es) := mput_enc (ev := cT) kI_inj q1 () es
  cases b with
  | false =>
    rw [if_neg (fun h => by cases h.1)]
    refine ret_of_body atCalls tok mixed Try.func36 (by kernel_rfl) rfl (k := 23) (rs := []) (by kernel_rfl) (by kernel_rfl) ?_
    (conv => whnf) <;> repeat' (first | ((first | refine wN ?_ | refine wNc ?_ | refine wA ?_ | refine wB ?_ | refine wC ?_ | refine wD ?_ | refine Called.mk _ _ (hN) ?_ | refine vA ?_ | refine vB ?_ | refine vC ?_ | refine vD ?_ | refine uA ?_ | refine uB ?_ | refine uC ?_ | refine uD ?_); conv => whnf) | ((first | apply Pick.dec | apply Pick.beq | apply Cond.dec | apply Cond.beq | apply Cond.nd | apply Pick.nd | apply Pick.mk | apply Cond.mk) <;> intro h <;> conv => whnf))
    exact EndH.mk [0, 1, 2] rfl rfl rfl
  | true =>
    cases q2 with
    | false =>
      rw [if_neg (fun h => by cases h.2)]
      refine ret_of_body atCalls tok mixed Try.func36 (by kernel_rfl) rfl (k := 23) (rs := []) (by kernel_rfl) (by kernel_rfl) ?_
      (conv => whnf) <;> repeat' (first | ((first | refine wN ?_ | refine wNc ?_ | refine wA ?_ | refine wB ?_ | refine wC ?_ | refine wD ?_ | refine Called.mk _ _ (hN) ?_ | refine vA ?_ | refine vB ?_ | refine vC ?_ | refine vD ?_ | refine uA ?_ | refine uB ?_ | refine uC ?_ | refine uD ?_); conv => whnf) | ((first | apply Pick.dec | apply Pick.beq | apply Cond.dec | apply Cond.beq | apply Cond.nd | apply Pick.nd | apply Pick.mk | apply Cond.mk) <;> intro h <;> conv => whnf))
      exact EndH.mk [0, 1, 2] rfl rfl rfl
    | true =>
      rw [if_pos ⟨rfl, rfl⟩]
      refine ret_of_body atCalls tok mixed Try.func36 (by kernel_rfl) rfl (k := 23) (rs := []) (by kernel_rfl) (by kernel_rfl) ?_
      (conv => whnf) <;> repeat' (first | ((first | refine wN ?_ | refine wNc ?_ | refine wA ?_ | refine wB ?_ | refine wC ?_ | refine wD ?_ | refine Called.mk _ _ (hN) ?_ | refine vA ?_ | refine vB ?_ | refine vC ?_ | refine vD ?_ | refine uA ?_ | refine uB ?_ | refine uC ?_ | refine uD ?_); conv => whnf) | ((first | apply Pick.dec | apply Pick.beq | apply Cond.dec | apply Cond.beq | apply Cond.nd | apply Pick.nd | apply Pick.mk | apply Cond.mk) <;> intro h <;> conv => whnf))
      rw [hP]
      exact EndH.mk [0, 1, 2] rfl rfl rfl
theorem rix1_ret (i : It) (k o : Int) (n s : ByteArray) (v : Vl) (sc p : Int) (ar : List Xp) : Ret Try.prog riF [.agg (cIt i), .ptr 0 0] [.cells [.int .i64 k, .int .i64 o, .str n, .str s, .int .i64 v.kind, .bool v.num.neg, .int .u64 (l0 v.num.n), .int .u64 (l1 v.num.n), .int .u64 (l2 v.num.n), .int .u64 (l3 v.num.n), .int .i64 v.num.scale, .bool v.flag, .str v.text, .int .i64 v.err, .int .i64 sc, .int .i64 p, .ext 17 ar.length (Xp.rows ar)]] (.bool (decide (i.reads n))) [.cells [.int .i64 k, .int .i64 o, .str n, .str s, .int .i64 v.kind, .bool v.num.neg, .int .u64 (l0 v.num.n), .int .u64 (l1 v.num.n), .int .u64 (l2 v.num.n), .int .u64 (l3 v.num.n), .int .i64 v.num.scale, .bool v.flag, .str v.text, .int .i64 v.err, .int .i64 sc, .int .i64 p, .ext 17 ar.length (Xp.rows ar)]] := by
  by_cases hn : i.name = n
  · have hs : (i.name.toList == n.toList) = true := by rw [toList_eq]; exact decide_eq_true hn
    by_cases k1 : i.kind = 1
    · rw [show decide (i.reads n) = true from decide_eq_true ⟨hn, .inl k1⟩]
      refine ret_of_body atCalls tok mixed Try.func41 (by kernel_rfl) rfl (k := 19) (rs := [.tmp 3]) (by kernel_rfl) (by kernel_rfl) ?_
      (conv => whnf) <;> repeat' (first | (rw [hs]; conv => whnf) | ((first | refine wN ?_ | refine wNc ?_ | refine wA ?_ | refine wB ?_ | refine wC ?_ | refine wD ?_ | refine vA ?_ | refine vB ?_ | refine vC ?_ | refine vD ?_ | refine uA ?_ | refine uB ?_ | refine uC ?_ | refine uD ?_); conv => whnf) | ((first | apply Pick.dec | apply Pick.beq | apply Cond.dec | apply Cond.beq | apply Cond.nd | apply Pick.nd | apply Pick.mk | apply Cond.mk) <;> intro h <;> conv => whnf))
      exact EndH.mk [0] rfl (bool_eq (by simp [k1])) rfl
    · by_cases k2 : i.kind = 2
      · rw [show decide (i.reads n) = true from decide_eq_true ⟨hn, .inr k2⟩]
        refine ret_of_body atCalls tok mixed Try.func41 (by kernel_rfl) rfl (k := 19) (rs := [.tmp 3]) (by kernel_rfl) (by kernel_rfl) ?_
        (conv => whnf) <;> repeat' (first | (rw [hs]; conv => whnf) | ((first | refine wN ?_ | refine wNc ?_ | refine wA ?_ | refine wB ?_ | refine wC ?_ | refine wD ?_ | refine vA ?_ | refine vB ?_ | refine vC ?_ | refine vD ?_ | refine uA ?_ | refine uB ?_ | refine uC ?_ | refine uD ?_); conv => whnf) | ((first | apply Pick.dec | apply Pick.beq | apply Cond.dec | apply Cond.beq | apply Cond.nd | apply Pick.nd | apply Pick.mk | apply Cond.mk) <;> intro h <;> conv => whnf))
        exact EndH.mk [0] rfl (bool_eq (by simp [k1, k2])) rfl
      · rw [show decide (i.reads n) = false from decide_eq_false fun h => by have := h.2; omega]
        refine ret_of_body atCalls tok mixed Try.func41 (by kernel_rfl) rfl (k := 19) (rs := [.tmp 3]) (by kernel_rfl) (by kernel_rfl) ?_
        (conv => whnf) <;> repeat' (first | (rw [hs]; conv => whnf) | ((first | refine wN ?_ | refine wNc ?_ | refine wA ?_ | refine wB ?_ | refine wC ?_ | refine wD ?_ | refine vA ?_ | refine vB ?_ | refine vC ?_ | refine vD ?_ | refine uA ?_ | refine uB ?_ | refine uC ?_ | refine uD ?_); conv => whnf) | ((first | apply Pick.dec | apply Pick.beq | apply Cond.dec | apply Cond.beq | apply Cond.nd | apply Pick.nd | apply Pick.mk | apply Cond.mk) <;> intro h <;> conv => whnf))
        exact EndH.mk [0] rfl (bool_eq (by simp [k1, k2])) rfl
  · have hs : (i.name.toList == n.toList) = false := by rw [toList_eq]; exact decide_eq_false hn
    rw [show decide (i.reads n) = false from decide_eq_false fun h => hn h.1]
    refine ret_of_body atCalls tok mixed Try.func41 (by kernel_rfl) rfl (k := 19) (rs := [.tmp 3]) (by kernel_rfl) (by kernel_rfl) ?_
    (conv => whnf) <;> repeat' (first | (rw [hs]; conv => whnf) | ((first | refine wN ?_ | refine wNc ?_ | refine wA ?_ | refine wB ?_ | refine wC ?_ | refine wD ?_ | refine vA ?_ | refine vB ?_ | refine vC ?_ | refine vD ?_ | refine uA ?_ | refine uB ?_ | refine uC ?_ | refine uD ?_); conv => whnf) | ((first | apply Pick.dec | apply Pick.beq | apply Cond.dec | apply Cond.beq | apply Cond.nd | apply Pick.nd | apply Pick.mk | apply Cond.mk) <;> intro h <;> conv => whnf))
    exact EndH.mk [0] rfl rfl rfl
theorem rix_ret (it : List It) (hl : it.length ≤ maxLen) (k o : Int) (n s : ByteArray) (v : Vl) (sc p : Int) (ar : List Xp) : Ret Try.prog 40 [eL 23 cIt it, .fn 41 [] [.ptr 0 0]] [.cells [.int .i64 k, .int .i64 o, .str n, .str s, .int .i64 v.kind, .bool v.num.neg, .int .u64 (l0 v.num.n), .int .u64 (l1 v.num.n), .int .u64 (l2 v.num.n), .int .u64 (l3 v.num.n), .int .i64 v.num.scale, .bool v.flag, .str v.text, .int .i64 v.err, .int .i64 sc, .int .i64 p, .ext 17 ar.length (Xp.rows ar)]] (.int .i64 (idxR n 0 it)) [.cells [.int .i64 k, .int .i64 o, .str n, .str s, .int .i64 v.kind, .bool v.num.neg, .int .u64 (l0 v.num.n), .int .u64 (l1 v.num.n), .int .u64 (l2 v.num.n), .int .u64 (l3 v.num.n), .int .i64 v.num.scale, .bool v.flag, .str v.text, .int .i64 v.err, .int .i64 sc, .int .i64 p, .ext 17 ar.length (Xp.rows ar)]] := by
  have hm : maxLen ≤ 9223372036854775807 := by decide
  refine ret_of_body atCalls tok mixed Try.func40 (by kernel_rfl) rfl (k := 19) (rs := [.tmp 4]) (by kernel_rfl) (by kernel_rfl) ?_
  (conv => whnf) <;> repeat' (first | ((first | refine wN ?_ | refine wNc ?_ | refine wA ?_ | refine wB ?_ | refine wC ?_ | refine wD ?_ | refine vA ?_ | refine vB ?_ | refine vC ?_ | refine vD ?_ | refine uA ?_ | refine uB ?_ | refine uC ?_ | refine uD ?_); conv => whnf) | ((first | apply Pick.dec | apply Pick.beq | apply Cond.dec | apply Cond.beq | apply Cond.nd | apply Pick.nd | apply Pick.mk | apply Cond.mk) <;> intro h <;> conv => whnf))
  intro I hw hs
  have turn : ∀ (d j : Nat), j + d = it.length → idxR n 0 it = idxR n j (it.drop j) →
      I [eL 23 cIt it, .fn riF [] [.ptr 0 0], .und, .und, .int .i64 0, .und, .und, .int .i64 (it.length : Int), .int .i64 (j : Int), .und, .und, .und, .und, .und, .und, .und, .und, .und, .und] [.cells [.int .i64 k, .int .i64 o, .str n, .str s, .int .i64 v.kind, .bool v.num.neg, .int .u64 (l0 v.num.n), .int .u64 (l1 v.num.n), .int .u64 (l2 v.num.n), .int .u64 (l3 v.num.n), .int .i64 v.num.scale, .bool v.flag, .str v.text, .int .i64 v.err, .int .i64 sc, .int .i64 p, .ext 17 ar.length (Xp.rows ar)]] := by
    intro d
    induction d with
    | zero =>
      intro j hk hi
      apply hs
      conv => whnf
      refine Cond.ff (decF (by omega)) ?_
      (conv => whnf) <;> repeat' (first | ((first | refine wN ?_ | refine wNc ?_ | refine wA ?_ | refine wB ?_ | refine wC ?_ | refine wD ?_ | refine vA ?_ | refine vB ?_ | refine vC ?_ | refine vD ?_ | refine uA ?_ | refine uB ?_ | refine uC ?_ | refine uD ?_); conv => whnf) | ((first | apply Pick.dec | apply Pick.beq | apply Cond.dec | apply Cond.beq | apply Cond.nd | apply Pick.nd | apply Pick.mk | apply Cond.mk) <;> intro h <;> conv => whnf))
      refine EndH.mk [0] rfl (int_eq ?_) rfl
      rw [hi, List.drop_of_length_le (by omega)]; rfl
    | succ d ih =>
      intro j hk hi
      apply hs
      conv => whnf
      refine Cond.tt (decT (by omega)) ?_
      have hkl : j < it.length := by omega
      have gk : getL cIt it (Int.toNat (j : Int)) = cIt it[j] := by rw [Int.toNat_natCast]; exact getL_at (List.getElem?_eq_getElem hkl)
      have e1 : IntKind.i64.wrap ((j : Int) + 1) = ((j + 1 : Nat) : Int) := by rw [wi64_id (by omega) (by omega)]; omega
      have hd : it.drop j = it[j] :: it.drop (j + 1) := List.drop_eq_getElem_cons hkl
      have hc := rix1_ret it[j] k o n s v sc p ar
      by_cases hn : it[j].reads n
      · rw [decide_eq_true hn] at hc
        (conv => whnf) <;> repeat' (first | (rw [gk]; conv => whnf) | (refine CalledH.mk [0] _ _ rfl (Nat.le_refl _) hc ?_; conv => whnf) | ((first | refine wN ?_ | refine wNc ?_ | refine wA ?_ | refine wB ?_ | refine wC ?_ | refine wD ?_ | refine vA ?_ | refine vB ?_ | refine vC ?_ | refine vD ?_ | refine uA ?_ | refine uB ?_ | refine uC ?_ | refine uD ?_); conv => whnf) | ((first | apply Pick.dec | apply Pick.beq | apply Cond.dec | apply Cond.beq | apply Cond.nd | apply Pick.nd | apply Pick.mk | apply Cond.mk) <;> intro h <;> conv => whnf))
        refine EndH.mk [0] rfl (int_eq ?_) rfl
        rw [hi, hd]; unfold idxR; rw [if_pos hn]
      · rw [decide_eq_false hn] at hc
        (conv => whnf) <;> repeat' (first | (rw [gk]; conv => whnf) | (refine CalledH.mk [0] _ _ rfl (Nat.le_refl _) hc ?_; conv => whnf) | ((first | refine wN ?_ | refine wNc ?_ | refine wA ?_ | refine wB ?_ | refine wC ?_ | refine wD ?_ | refine vA ?_ | refine vB ?_ | refine vC ?_ | refine vD ?_ | refine uA ?_ | refine uB ?_ | refine uC ?_ | refine uD ?_); conv => whnf) | ((first | apply Pick.dec | apply Pick.beq | apply Cond.dec | apply Cond.beq | apply Cond.nd | apply Pick.nd | apply Pick.mk | apply Cond.mk) <;> intro h <;> conv => whnf))
        rw [e1]
        apply hw [0] [true, true, false, false, true, false, false, true, true] _ _ rfl
        refine ih (j + 1) (by omega) ?_
        rw [hi, hd]
        show (if it[j].reads n then (j : Int) else idxR n (j + 1) (it.drop (j + 1))) = _
        rw [if_neg hn]
  apply hw [0] [true, true, false, false, true, false, false, true, true] _ _ rfl
  exact turn it.length 0 (by omega) rfl
abbrev wkF (l : List Se) (sec : Int) (y : Xp) (es : List (Int × Unit)) : List (Int × Unit) := setK (ownK l sec y) es
set_option maxHeartbeats 8000000 in
theorem rwalk_ret (l : List Se) (hL : LOk l) (sec : Int) (x : Xp) : x.Wf → ∀ es : List (Int × Unit), Ret Try.prog rwF [eE x, .ptr 0 0, .ptr 1 0, .ptr 2 0, .ptr 3 0] [.cells [.fn rpF [] [.ptr 1 0, .ptr 4 0]], .cells [eL 5 cSe l], .cells [.int .i64 sec], .cells [.fn rwF [] [.ptr 0 0, .ptr 1 0, .ptr 2 0, .ptr 3 0]], .cells [.map 5], setZ es] (.tup []) [.cells [.fn rpF [] [.ptr 1 0, .ptr 4 0]], .cells [eL 5 cSe l], .cells [.int .i64 sec], .cells [.fn rwF [] [.ptr 0 0, .ptr 1 0, .ptr 2 0, .ptr 3 0]], .cells [.map 5], setZ (readsW l sec x es)] := by
  refine Xp.ind (Q := fun x => x.Wf → ∀ es : List (Int × Unit), Ret Try.prog rwF [eE x, .ptr 0 0, .ptr 1 0, .ptr 2 0, .ptr 3 0] [.cells [.fn rpF [] [.ptr 1 0, .ptr 4 0]], .cells [eL 5 cSe l], .cells [.int .i64 sec], .cells [.fn rwF [] [.ptr 0 0, .ptr 1 0, .ptr 2 0, .ptr 3 0]], .cells [.map 5], setZ es] (.tup []) [.cells [.fn rpF [] [.ptr 1 0, .ptr 4 0]], .cells [eL 5 cSe l], .cells [.int .i64 sec], .cells [.fn rwF [] [.ptr 0 0, .ptr 1 0, .ptr 2 0, .ptr 3 0]], .cells [.map 5], setZ (readsW l sec x es)]) ?_ x
  clear x
  intro x ih hx es
  have hm : maxLen ≤ 9223372036854775807 := by decide
  have har := hx.one.len
  have hl64 := hL.len
  obtain ⟨k, o, n, s, v, sc, p, ar⟩ := x
  have har : ar.length ≤ maxLen := har
  have ihy : ∀ y ∈ ar, ∀ es : List (Int × Unit), Ret Try.prog rwF [eE y, .ptr 0 0, .ptr 1 0, .ptr 2 0, .ptr 3 0] [.cells [.fn rpF [] [.ptr 1 0, .ptr 4 0]], .cells [eL 5 cSe l], .cells [.int .i64 sec], .cells [.fn rwF [] [.ptr 0 0, .ptr 1 0, .ptr 2 0, .ptr 3 0]], .cells [.map 5], setZ es] (.tup []) [.cells [.fn rpF [] [.ptr 1 0, .ptr 4 0]], .cells [eL 5 cSe l], .cells [.int .i64 sec], .cells [.fn rwF [] [.ptr 0 0, .ptr 1 0, .ptr 2 0, .ptr 3 0]], .cells [.map 5], setZ (readsW l sec y es)] := fun y hy => ih y hy (hx.arg hy)
  have hF := find_ret l sec n hL.len (fun x hx => (hL.ok x hx).1)
  have hKd := kid_ret l sec s hL.len
  have e0 : readsW l sec (.mk k o n s v sc p ar) es = walkL (wkF l sec) ar (setK (ownK l sec (.mk k o n s v sc p ar)) es) := walkF_mk ..
  rw [e0]
  obtain ⟨eF, hrF⟩ : ∃ eF, walkL (wkF l sec) ar (setK (ownK l sec (.mk k o n s v sc p ar)) es) = eF := ⟨_, rfl⟩
  rw [hrF, cE_mk]
  clear e0 hx ih
  by_cases k2 : k = 2
  · subst k2
    have hown : ownK l sec (.mk 2 o n s v sc p ar) = if (findF l sec n).2.2 = true then some (numF l (findF l sec n).1 (findF l sec n).2.1).1 else none := if_pos rfl
    rw [hown] at hrF
    clear hown hKd
    have hi : (findF l sec n).2.1 ≤ 9223372036854775807 := by
      by_cases hf : (findF l sec n).2.2 = true
      · obtain ⟨x, it, h1, h2, h3, _⟩ := findF_true hf
        have h4 := (List.getElem?_eq_some_iff.1 h3).1
        have h5 : x ∈ l := by unfold seAt at h1; split at h1; exact List.mem_of_getElem? h1; cases h1
        have := (hL.ok x h5).1
        omega
      · rw [findF_no (by simpa using hf)]; decide
    have hP := rput_ret l hL (findF l sec n).1 (findF l sec n).2.1 hi (findF l sec n).2.2 es
    have e1 : setK (if (findF l sec n).2.2 = true then some (numF l (findF l sec n).1 (findF l sec n).2.1).1 else none) es = if (findF l sec n).2.2 = true ∧ (numF l (findF l sec n).1 (findF l sec n).2.1).2 = true then aput (numF l (findF l sec n).1 (findF l sec n).2.1).1 () es else es := by
      by_cases hf : (findF l sec n).2.2 = true
      · rw [if_pos hf, if_pos ⟨hf, find_num hf⟩]; rfl
      · rw [if_neg hf, if_neg (fun h => hf h.1)]; rfl
    rw [e1] at hrF
    clear e1 hi
    generalize (if (findF l sec n).2.2 = true ∧ (numF l (findF l sec n).1 (findF l sec n).2.1).2 = true then aput (numF l (findF l sec n).1 (findF l sec n).2.1).1 () es else es) = e1 at *
    generalize findF l sec n = r at *
    refine ret_of_body atCalls tok mixed Try.func37 (by kernel_rfl) rfl (k := 67) (rs := []) (by kernel_rfl) (by kernel_rfl) ?_
    (conv => whnf) <;> repeat' (first | (refine CalledH.mk [1, 4, 5] _ _ rfl (by simp) hP ?_; conv => whnf) | ((first | refine wN ?_ | refine wNc ?_ | refine wA ?_ | refine wB ?_ | refine wC ?_ | refine wD ?_ | refine Called.mk _ _ (hF) ?_ | refine vA ?_ | refine vB ?_ | refine vC ?_ | refine vD ?_ | refine uA ?_ | refine uB ?_ | refine uC ?_ | refine uD ?_); conv => whnf) | ((first | apply Pick.dec | apply Pick.beq | apply Cond.dec | apply Cond.beq | apply Cond.nd | apply Pick.nd | apply Pick.mk | apply Cond.mk) <;> intro h <;> conv => whnf))
    intro I hw hs
    have turn : ∀ (d i : Nat) (e1 : List (Int × Unit)), i + d = ar.length → walkL (wkF l sec) (ar.drop i) e1 = eF → I [.und, .ptr 0 0, .ptr 1 0, .ptr 2 0, .ptr 3 0, .und, .und, .und, .und, .und, .und, .und, .und, .und, .und, .und, .und, .und, .und, .und, .und, .und, .und, .und, .und, .und, .und, .und, .und, .und, .und, .und, .und, .und, .und, .und, .und, .und, .und, .und, .und, .und, .und, .und, .und, .und, .und, .und, .und, .und, .und, .und, .und, .und, .und, .und, .und, .ext 17 ar.length (Xp.rows ar), .int .i64 (ar.length : Int), .int .i64 (i : Int), .und, .und, .und, .und, .und, .und, .und] [.cells [.fn rpF [] [.ptr 1 0, .ptr 4 0]], .cells [eL 5 cSe l], .cells [.int .i64 sec], .cells [.fn rwF [] [.ptr 0 0, .ptr 1 0, .ptr 2 0, .ptr 3 0]], .cells [.map 5], setZ e1, .cells [.int .i64 2, .int .i64 o, .str n, .str s, .int .i64 v.kind, .bool v.num.neg, .int .u64 (l0 v.num.n), .int .u64 (l1 v.num.n), .int .u64 (l2 v.num.n), .int .u64 (l3 v.num.n), .int .i64 v.num.scale, .bool v.flag, .str v.text, .int .i64 v.err, .int .i64 sc, .int .i64 p, .ext 17 ar.length (Xp.rows ar)]] := by
      intro d
      induction d with
      | zero =>
        intro i e1 hi hf
        rw [List.drop_of_length_le (by omega), walkL_nil] at hf
        subst hf
        apply hs
        conv => whnf
        refine Cond.ff (decF (by omega)) ?_
        (conv => whnf) <;> repeat' (first | ((first | refine wN ?_ | refine wNc ?_ | refine wA ?_ | refine wB ?_ | refine wC ?_ | refine wD ?_ | refine vA ?_ | refine vB ?_ | refine vC ?_ | refine vD ?_ | refine uA ?_ | refine uB ?_ | refine uC ?_ | refine uD ?_); conv => whnf) | ((first | apply Pick.dec | apply Pick.beq | apply Cond.dec | apply Cond.beq | apply Cond.nd | apply Pick.nd | apply Pick.mk | apply Cond.mk) <;> intro h <;> conv => whnf))
        exact EndH.mk [0, 1, 2, 3, 4, 5] rfl rfl rfl
      | succ d im =>
        intro i e1 hi hf
        have hil : i < ar.length := by omega
        have gk : Xp.rows ar (Int.toNat (i : Int)) = cE ar[i] := by rw [Int.toNat_natCast]; exact (Xp.rows_ext ar).2 i hil
        have e1' : IntKind.i64.wrap ((i : Int) + 1) = ((i + 1 : Nat) : Int) := by rw [wi64_id (by omega) (by omega)]; omega
        rw [List.drop_eq_getElem_cons hil] at hf
        rw [walkL_cons] at hf
        have hc := ihy ar[i] (List.getElem_mem hil) e1
        have im := im (i + 1) (readsW l sec ar[i] e1) (by omega) hf
        generalize readsW l sec ar[i] e1 = e2 at *
        generalize ar[i] = y at *
        apply hs
        conv => whnf
        refine Cond.tt (decT (by omega)) ?_
        (conv => whnf) <;> repeat' (first | ((conv => arg 1; whnf); rw [gk]; conv => whnf) | (refine CalledH.mk [0, 1, 2, 3, 4, 5] _ _ rfl (by simp) hc ?_; conv => whnf) | ((first | refine wN ?_ | refine wNc ?_ | refine wA ?_ | refine wB ?_ | refine wC ?_ | refine wD ?_ | refine vA ?_ | refine vB ?_ | refine vC ?_ | refine vD ?_ | refine uA ?_ | refine uB ?_ | refine uC ?_ | refine uD ?_); conv => whnf) | ((first | apply Pick.dec | apply Pick.beq | apply Cond.dec | apply Cond.beq | apply Cond.nd | apply Pick.nd | apply Pick.mk | apply Cond.mk) <;> intro h <;> conv => whnf))
        rw [e1']
        apply hw [0, 1, 2, 3, 4, 5, 6] [false, true, true, true, true, false, false, false, false, false, false, false, false, false, false, false, false, false, false, false, false, false, false, false, false, false, false, false, false, false, false, false, false, false, false, false, false, false, false, false, false, false, false, false, false, false, false, false, false, false, false, false, false, false, false, false, false, true, true, true] _ _ rfl
        exact im
    apply hw [0, 1, 2, 3, 4, 5, 6] [false, true, true, true, true, false, false, false, false, false, false, false, false, false, false, false, false, false, false, false, false, false, false, false, false, false, false, false, false, false, false, false, false, false, false, false, false, false, false, false, false, false, false, false, false, false, false, false, false, false, false, false, false, false, false, false, false, true, true, true] _ _ rfl
    exact turn ar.length 0 e1 (by omega) hrF
  by_cases k10 : k = 10 ∧ o ≠ 16
  · obtain ⟨rfl, o16⟩ := k10
    have hown : ownK l sec (.mk 10 o n s v sc p ar) = if (kidF l sec s).2 = true ∧ 0 ≤ idxR n 0 (itemsAt l (kidF l sec s).1) then some (numF l (kidF l sec s).1 (idxR n 0 (itemsAt l (kidF l sec s).1))).1 else none := by
      show (if (10 : Int) = 2 then _ else if (10 : Int) = 10 ∧ o ≠ 16 then _ else _) = _
      rw [if_neg (by decide), if_pos ⟨rfl, o16⟩]
      rfl
    rw [hown] at hrF
    clear hown hF
    by_cases hk : (kidF l sec s).2 = true
    · obtain ⟨xs, hxm, hxs⟩ := kidF_true hk
      have hit : itemsAt l (kidF l sec s).1 = xs.items := by unfold itemsAt; rw [hxs]; rfl
      have h0 : 0 ≤ (kidF l sec s).1 ∧ (kidF l sec s).1.toNat < l.length ∧ l[(kidF l sec s).1.toNat]? = some xs := by
        unfold seAt at hxs
        split at hxs
        · exact ⟨by assumption, (List.getElem?_eq_some_iff.1 hxs).1, hxs⟩
        · cases hxs
      have hxi := (hL.ok xs hxm).1
      have hkn := fun h => kid_num (nm := n) hk h
      rw [hit, hk] at hrF
      rw [hit] at hkn
      rw [hk] at hKd
      have hi : idxR n 0 xs.items ≤ 9223372036854775807 := by
        rcases idxR_find n 0 xs.items with ⟨_, e⟩ | ⟨j, t, h1, _, e⟩
        · omega
        · have := (List.getElem?_eq_some_iff.1 h1).1
          omega
      have gs : getL cSe l (kidF l sec s).1.toNat = cSe xs := getL_at h0.2.2
      have hX := rix_ret xs.items hxi 10 o n s v sc p ar
      have hP := rput_ret l hL (kidF l sec s).1 (idxR n 0 xs.items) hi (decide (idxR n 0 xs.items ≥ 0)) es
      have e1 : setK (if True ∧ 0 ≤ idxR n 0 xs.items then some (numF l (kidF l sec s).1 (idxR n 0 xs.items)).1 else none) es = if decide (idxR n 0 xs.items ≥ 0) = true ∧ (numF l (kidF l sec s).1 (idxR n 0 xs.items)).2 = true then aput (numF l (kidF l sec s).1 (idxR n 0 xs.items)).1 () es else es := by
        by_cases hf : 0 ≤ idxR n 0 xs.items
        · rw [if_pos ⟨trivial, hf⟩, if_pos ⟨decide_eq_true hf, hkn hf⟩]; rfl
        · rw [if_neg (fun h => hf h.2), if_neg (fun h => hf (of_decide_eq_true h.1))]; rfl
      simp only [true_and] at e1 hrF
      rw [e1] at hrF
      clear e1 hi hkn
      generalize (if decide (idxR n 0 xs.items ≥ 0) = true ∧ (numF l (kidF l sec s).1 (idxR n 0 xs.items)).2 = true then aput (numF l (kidF l sec s).1 (idxR n 0 xs.items)).1 () es else es) = e1 at *
      generalize idxR n 0 xs.items = ix at *
      generalize kidF l sec s = kd at *
      obtain ⟨kd1, kd2⟩ := kd
      simp only at *
      refine ret_of_body atCalls tok mixed Try.func37 (by kernel_rfl) rfl (k := 67) (rs := []) (by kernel_rfl) (by kernel_rfl) ?_
      (conv => whnf) <;> repeat' (first | ((conv => arg 1; whnf); rw [gs]; conv => whnf) | (refine CalledH.mk [6] _ _ rfl (Nat.le_refl _) hX ?_; conv => whnf) | (refine CalledH.mk [1, 4, 5] _ _ rfl (by simp) hP ?_; conv => whnf) | ((first | refine wN ?_ | refine wNc ?_ | refine wA ?_ | refine wB ?_ | refine wC ?_ | refine wD ?_ | refine Called.mk _ _ (hKd) ?_ | refine vA ?_ | refine vB ?_ | refine vC ?_ | refine vD ?_ | refine uA ?_ | refine uB ?_ | refine uC ?_ | refine uD ?_); conv => whnf) | ((first | apply Pick.dec | apply Pick.beq | apply Cond.dec | apply Cond.beq | apply Cond.nd | apply Pick.nd | apply Pick.mk | apply Cond.mk) <;> intro h <;> conv => whnf))
      intro I hw hs
      have turn : ∀ (d i : Nat) (e1 : List (Int × Unit)), i + d = ar.length → walkL (wkF l sec) (ar.drop i) e1 = eF → I [.und, .ptr 0 0, .ptr 1 0, .ptr 2 0, .ptr 3 0, .und, .und, .und, .und, .und, .und, .und, .und, .und, .und, .und, .und, .und, .und, .und, .und, .und, .und, .und, .und, .und, .und, .und, .und, .und, .und, .und, .und, .und, .und, .und, .und, .und, .und, .und, .und, .und, .und, .und, .und, .und, .und, .und, .und, .und, .und, .und, .und, .und, .und, .und, .und, .ext 17 ar.length (Xp.rows ar), .int .i64 (ar.length : Int), .int .i64 (i : Int), .und, .und, .und, .und, .und, .und, .und] [.cells [.fn rpF [] [.ptr 1 0, .ptr 4 0]], .cells [eL 5 cSe l], .cells [.int .i64 sec], .cells [.fn rwF [] [.ptr 0 0, .ptr 1 0, .ptr 2 0, .ptr 3 0]], .cells [.map 5], setZ e1, .cells [.int .i64 10, .int .i64 o, .str n, .str s, .int .i64 v.kind, .bool v.num.neg, .int .u64 (l0 v.num.n), .int .u64 (l1 v.num.n), .int .u64 (l2 v.num.n), .int .u64 (l3 v.num.n), .int .i64 v.num.scale, .bool v.flag, .str v.text, .int .i64 v.err, .int .i64 sc, .int .i64 p, .ext 17 ar.length (Xp.rows ar)]] := by
        intro d
        induction d with
        | zero =>
          intro i e1 hi hf
          rw [List.drop_of_length_le (by omega), walkL_nil] at hf
          subst hf
          apply hs
          conv => whnf
          refine Cond.ff (decF (by omega)) ?_
          (conv => whnf) <;> repeat' (first | ((first | refine wN ?_ | refine wNc ?_ | refine wA ?_ | refine wB ?_ | refine wC ?_ | refine wD ?_ | refine vA ?_ | refine vB ?_ | refine vC ?_ | refine vD ?_ | refine uA ?_ | refine uB ?_ | refine uC ?_ | refine uD ?_); conv => whnf) | ((first | apply Pick.dec | apply Pick.beq | apply Cond.dec | apply Cond.beq | apply Cond.nd | apply Pick.nd | apply Pick.mk | apply Cond.mk) <;> intro h <;> conv => whnf))
          exact EndH.mk [0, 1, 2, 3, 4, 5] rfl rfl rfl
        | succ d im =>
          intro i e1 hi hf
          have hil : i < ar.length := by omega
          have gk : Xp.rows ar (Int.toNat (i : Int)) = cE ar[i] := by rw [Int.toNat_natCast]; exact (Xp.rows_ext ar).2 i hil
          have e1' : IntKind.i64.wrap ((i : Int) + 1) = ((i + 1 : Nat) : Int) := by rw [wi64_id (by omega) (by omega)]; omega
          rw [List.drop_eq_getElem_cons hil] at hf
          rw [walkL_cons] at hf
          have hc := ihy ar[i] (List.getElem_mem hil) e1
          have im := im (i + 1) (readsW l sec ar[i] e1) (by omega) hf
          generalize readsW l sec ar[i] e1 = e2 at *
          generalize ar[i] = y at *
          apply hs
          conv => whnf
          refine Cond.tt (decT (by omega)) ?_
          (conv => whnf) <;> repeat' (first | ((conv => arg 1; whnf); rw [gk]; conv => whnf) | (refine CalledH.mk [0, 1, 2, 3, 4, 5] _ _ rfl (by simp) hc ?_; conv => whnf) | ((first | refine wN ?_ | refine wNc ?_ | refine wA ?_ | refine wB ?_ | refine wC ?_ | refine wD ?_ | refine vA ?_ | refine vB ?_ | refine vC ?_ | refine vD ?_ | refine uA ?_ | refine uB ?_ | refine uC ?_ | refine uD ?_); conv => whnf) | ((first | apply Pick.dec | apply Pick.beq | apply Cond.dec | apply Cond.beq | apply Cond.nd | apply Pick.nd | apply Pick.mk | apply Cond.mk) <;> intro h <;> conv => whnf))
          rw [e1']
          apply hw [0, 1, 2, 3, 4, 5, 6] [false, true, true, true, true, false, false, false, false, false, false, false, false, false, false, false, false, false, false, false, false, false, false, false, false, false, false, false, false, false, false, false, false, false, false, false, false, false, false, false, false, false, false, false, false, false, false, false, false, false, false, false, false, false, false, false, false, true, true, true] _ _ rfl
          exact im
      apply hw [0, 1, 2, 3, 4, 5, 6] [false, true, true, true, true, false, false, false, false, false, false, false, false, false, false, false, false, false, false, false, false, false, false, false, false, false, false, false, false, false, false, false, false, false, false, false, false, false, false, false, false, false, false, false, false, false, false, false, false, false, false, false, false, false, false, false, false, true, true, true] _ _ rfl
      exact turn ar.length 0 e1 (by omega) hrF
    · rw [if_neg (fun h => hk h.1)] at hrF
      have hk' : (kidF l sec s).2 = false := by simpa using hk
      rw [hk'] at hKd
      have hrF : walkL (wkF l sec) ar es = eF := hrF
      generalize kidF l sec s = kd at *
      refine ret_of_body atCalls tok mixed Try.func37 (by kernel_rfl) rfl (k := 67) (rs := []) (by kernel_rfl) (by kernel_rfl) ?_
      (conv => whnf) <;> repeat' (first | ((first | refine wN ?_ | refine wNc ?_ | refine wA ?_ | refine wB ?_ | refine wC ?_ | refine wD ?_ | refine Called.mk _ _ (hKd) ?_ | refine vA ?_ | refine vB ?_ | refine vC ?_ | refine vD ?_ | refine uA ?_ | refine uB ?_ | refine uC ?_ | refine uD ?_); conv => whnf) | ((first | apply Pick.dec | apply Pick.beq | apply Cond.dec | apply Cond.beq | apply Cond.nd | apply Pick.nd | apply Pick.mk | apply Cond.mk) <;> intro h <;> conv => whnf))
      intro I hw hs
      have turn : ∀ (d i : Nat) (e1 : List (Int × Unit)), i + d = ar.length → walkL (wkF l sec) (ar.drop i) e1 = eF → I [.und, .ptr 0 0, .ptr 1 0, .ptr 2 0, .ptr 3 0, .und, .und, .und, .und, .und, .und, .und, .und, .und, .und, .und, .und, .und, .und, .und, .und, .und, .und, .und, .und, .und, .und, .und, .und, .und, .und, .und, .und, .und, .und, .und, .und, .und, .und, .und, .und, .und, .und, .und, .und, .und, .und, .und, .und, .und, .und, .und, .und, .und, .und, .und, .und, .ext 17 ar.length (Xp.rows ar), .int .i64 (ar.length : Int), .int .i64 (i : Int), .und, .und, .und, .und, .und, .und, .und] [.cells [.fn rpF [] [.ptr 1 0, .ptr 4 0]], .cells [eL 5 cSe l], .cells [.int .i64 sec], .cells [.fn rwF [] [.ptr 0 0, .ptr 1 0, .ptr 2 0, .ptr 3 0]], .cells [.map 5], setZ e1, .cells [.int .i64 10, .int .i64 o, .str n, .str s, .int .i64 v.kind, .bool v.num.neg, .int .u64 (l0 v.num.n), .int .u64 (l1 v.num.n), .int .u64 (l2 v.num.n), .int .u64 (l3 v.num.n), .int .i64 v.num.scale, .bool v.flag, .str v.text, .int .i64 v.err, .int .i64 sc, .int .i64 p, .ext 17 ar.length (Xp.rows ar)]] := by
        intro d
        induction d with
        | zero =>
          intro i e1 hi hf
          rw [List.drop_of_length_le (by omega), walkL_nil] at hf
          subst hf
          apply hs
          conv => whnf
          refine Cond.ff (decF (by omega)) ?_
          (conv => whnf) <;> repeat' (first | ((first | refine wN ?_ | refine wNc ?_ | refine wA ?_ | refine wB ?_ | refine wC ?_ | refine wD ?_ | refine vA ?_ | refine vB ?_ | refine vC ?_ | refine vD ?_ | refine uA ?_ | refine uB ?_ | refine uC ?_ | refine uD ?_); conv => whnf) | ((first | apply Pick.dec | apply Pick.beq | apply Cond.dec | apply Cond.beq | apply Cond.nd | apply Pick.nd | apply Pick.mk | apply Cond.mk) <;> intro h <;> conv => whnf))
          exact EndH.mk [0, 1, 2, 3, 4, 5] rfl rfl rfl
        | succ d im =>
          intro i e1 hi hf
          have hil : i < ar.length := by omega
          have gk : Xp.rows ar (Int.toNat (i : Int)) = cE ar[i] := by rw [Int.toNat_natCast]; exact (Xp.rows_ext ar).2 i hil
          have e1' : IntKind.i64.wrap ((i : Int) + 1) = ((i + 1 : Nat) : Int) := by rw [wi64_id (by omega) (by omega)]; omega
          rw [List.drop_eq_getElem_cons hil] at hf
          rw [walkL_cons] at hf
          have hc := ihy ar[i] (List.getElem_mem hil) e1
          have im := im (i + 1) (readsW l sec ar[i] e1) (by omega) hf
          generalize readsW l sec ar[i] e1 = e2 at *
          generalize ar[i] = y at *
          apply hs
          conv => whnf
          refine Cond.tt (decT (by omega)) ?_
          (conv => whnf) <;> repeat' (first | ((conv => arg 1; whnf); rw [gk]; conv => whnf) | (refine CalledH.mk [0, 1, 2, 3, 4, 5] _ _ rfl (by simp) hc ?_; conv => whnf) | ((first | refine wN ?_ | refine wNc ?_ | refine wA ?_ | refine wB ?_ | refine wC ?_ | refine wD ?_ | refine vA ?_ | refine vB ?_ | refine vC ?_ | refine vD ?_ | refine uA ?_ | refine uB ?_ | refine uC ?_ | refine uD ?_); conv => whnf) | ((first | apply Pick.dec | apply Pick.beq | apply Cond.dec | apply Cond.beq | apply Cond.nd | apply Pick.nd | apply Pick.mk | apply Cond.mk) <;> intro h <;> conv => whnf))
          rw [e1']
          apply hw [0, 1, 2, 3, 4, 5, 6] [false, true, true, true, true, false, false, false, false, false, false, false, false, false, false, false, false, false, false, false, false, false, false, false, false, false, false, false, false, false, false, false, false, false, false, false, false, false, false, false, false, false, false, false, false, false, false, false, false, false, false, false, false, false, false, false, false, true, true, true] _ _ rfl
          exact im
      apply hw [0, 1, 2, 3, 4, 5, 6] [false, true, true, true, true, false, false, false, false, false, false, false, false, false, false, false, false, false, false, false, false, false, false, false, false, false, false, false, false, false, false, false, false, false, false, false, false, false, false, false, false, false, false, false, false, false, false, false, false, false, false, false, false, false, false, false, false, true, true, true] _ _ rfl
      exact turn ar.length 0 es (by omega) hrF
  · have hown : ownK l sec (.mk k o n s v sc p ar) = none := by
      show (if k = 2 then _ else if k = 10 ∧ o ≠ 16 then _ else _) = _
      rw [if_neg k2, if_neg k10]
    rw [hown] at hrF
    have hrF : walkL (wkF l sec) ar es = eF := hrF
    clear hF hKd
    by_cases k10' : k = 10
    · have ho16 : o = 16 := Classical.byContradiction fun h => k10 ⟨k10', h⟩
      refine ret_of_body atCalls tok mixed Try.func37 (by kernel_rfl) rfl (k := 67) (rs := []) (by kernel_rfl) (by kernel_rfl) ?_
      (conv => whnf) <;> repeat' (first | ((first | refine wN ?_ | refine wNc ?_ | refine wA ?_ | refine wB ?_ | refine wC ?_ | refine wD ?_ | refine vA ?_ | refine vB ?_ | refine vC ?_ | refine vD ?_ | refine uA ?_ | refine uB ?_ | refine uC ?_ | refine uD ?_); conv => whnf) | ((first | apply Pick.dec | apply Pick.beq | apply Cond.dec | apply Cond.beq | apply Cond.nd | apply Pick.nd | apply Pick.mk | apply Cond.mk) <;> intro h <;> conv => whnf))
      intro I hw hs
      have turn : ∀ (d i : Nat) (e1 : List (Int × Unit)), i + d = ar.length → walkL (wkF l sec) (ar.drop i) e1 = eF → I [.und, .ptr 0 0, .ptr 1 0, .ptr 2 0, .ptr 3 0, .und, .und, .und, .und, .und, .und, .und, .und, .und, .und, .und, .und, .und, .und, .und, .und, .und, .und, .und, .und, .und, .und, .und, .und, .und, .und, .und, .und, .und, .und, .und, .und, .und, .und, .und, .und, .und, .und, .und, .und, .und, .und, .und, .und, .und, .und, .und, .und, .und, .und, .und, .und, .ext 17 ar.length (Xp.rows ar), .int .i64 (ar.length : Int), .int .i64 (i : Int), .und, .und, .und, .und, .und, .und, .und] [.cells [.fn rpF [] [.ptr 1 0, .ptr 4 0]], .cells [eL 5 cSe l], .cells [.int .i64 sec], .cells [.fn rwF [] [.ptr 0 0, .ptr 1 0, .ptr 2 0, .ptr 3 0]], .cells [.map 5], setZ e1, .cells [.int .i64 k, .int .i64 o, .str n, .str s, .int .i64 v.kind, .bool v.num.neg, .int .u64 (l0 v.num.n), .int .u64 (l1 v.num.n), .int .u64 (l2 v.num.n), .int .u64 (l3 v.num.n), .int .i64 v.num.scale, .bool v.flag, .str v.text, .int .i64 v.err, .int .i64 sc, .int .i64 p, .ext 17 ar.length (Xp.rows ar)]] := by
        intro d
        induction d with
        | zero =>
          intro i e1 hi hf
          rw [List.drop_of_length_le (by omega), walkL_nil] at hf
          subst hf
          apply hs
          conv => whnf
          refine Cond.ff (decF (by omega)) ?_
          (conv => whnf) <;> repeat' (first | ((first | refine wN ?_ | refine wNc ?_ | refine wA ?_ | refine wB ?_ | refine wC ?_ | refine wD ?_ | refine vA ?_ | refine vB ?_ | refine vC ?_ | refine vD ?_ | refine uA ?_ | refine uB ?_ | refine uC ?_ | refine uD ?_); conv => whnf) | ((first | apply Pick.dec | apply Pick.beq | apply Cond.dec | apply Cond.beq | apply Cond.nd | apply Pick.nd | apply Pick.mk | apply Cond.mk) <;> intro h <;> conv => whnf))
          exact EndH.mk [0, 1, 2, 3, 4, 5] rfl rfl rfl
        | succ d im =>
          intro i e1 hi hf
          have hil : i < ar.length := by omega
          have gk : Xp.rows ar (Int.toNat (i : Int)) = cE ar[i] := by rw [Int.toNat_natCast]; exact (Xp.rows_ext ar).2 i hil
          have e1' : IntKind.i64.wrap ((i : Int) + 1) = ((i + 1 : Nat) : Int) := by rw [wi64_id (by omega) (by omega)]; omega
          rw [List.drop_eq_getElem_cons hil] at hf
          rw [walkL_cons] at hf
          have hc := ihy ar[i] (List.getElem_mem hil) e1
          have im := im (i + 1) (readsW l sec ar[i] e1) (by omega) hf
          generalize readsW l sec ar[i] e1 = e2 at *
          generalize ar[i] = y at *
          apply hs
          conv => whnf
          refine Cond.tt (decT (by omega)) ?_
          (conv => whnf) <;> repeat' (first | ((conv => arg 1; whnf); rw [gk]; conv => whnf) | (refine CalledH.mk [0, 1, 2, 3, 4, 5] _ _ rfl (by simp) hc ?_; conv => whnf) | ((first | refine wN ?_ | refine wNc ?_ | refine wA ?_ | refine wB ?_ | refine wC ?_ | refine wD ?_ | refine vA ?_ | refine vB ?_ | refine vC ?_ | refine vD ?_ | refine uA ?_ | refine uB ?_ | refine uC ?_ | refine uD ?_); conv => whnf) | ((first | apply Pick.dec | apply Pick.beq | apply Cond.dec | apply Cond.beq | apply Cond.nd | apply Pick.nd | apply Pick.mk | apply Cond.mk) <;> intro h <;> conv => whnf))
          rw [e1']
          apply hw [0, 1, 2, 3, 4, 5, 6] [false, true, true, true, true, false, false, false, false, false, false, false, false, false, false, false, false, false, false, false, false, false, false, false, false, false, false, false, false, false, false, false, false, false, false, false, false, false, false, false, false, false, false, false, false, false, false, false, false, false, false, false, false, false, false, false, false, true, true, true] _ _ rfl
          exact im
      apply hw [0, 1, 2, 3, 4, 5, 6] [false, true, true, true, true, false, false, false, false, false, false, false, false, false, false, false, false, false, false, false, false, false, false, false, false, false, false, false, false, false, false, false, false, false, false, false, false, false, false, false, false, false, false, false, false, false, false, false, false, false, false, false, false, false, false, false, false, true, true, true] _ _ rfl
      exact turn ar.length 0 es (by omega) hrF
    · refine ret_of_body atCalls tok mixed Try.func37 (by kernel_rfl) rfl (k := 67) (rs := []) (by kernel_rfl) (by kernel_rfl) ?_
      (conv => whnf) <;> repeat' (first | ((first | refine wN ?_ | refine wNc ?_ | refine wA ?_ | refine wB ?_ | refine wC ?_ | refine wD ?_ | refine vA ?_ | refine vB ?_ | refine vC ?_ | refine vD ?_ | refine uA ?_ | refine uB ?_ | refine uC ?_ | refine uD ?_); conv => whnf) | ((first | apply Pick.dec | apply Pick.beq | apply Cond.dec | apply Cond.beq | apply Cond.nd | apply Pick.nd | apply Pick.mk | apply Cond.mk) <;> intro h <;> conv => whnf))
      intro I hw hs
      have turn : ∀ (d i : Nat) (e1 : List (Int × Unit)), i + d = ar.length → walkL (wkF l sec) (ar.drop i) e1 = eF → I [.und, .ptr 0 0, .ptr 1 0, .ptr 2 0, .ptr 3 0, .und, .und, .und, .und, .und, .und, .und, .und, .und, .und, .und, .und, .und, .und, .und, .und, .und, .und, .und, .und, .und, .und, .und, .und, .und, .und, .und, .und, .und, .und, .und, .und, .und, .und, .und, .und, .und, .und, .und, .und, .und, .und, .und, .und, .und, .und, .und, .und, .und, .und, .und, .und, .ext 17 ar.length (Xp.rows ar), .int .i64 (ar.length : Int), .int .i64 (i : Int), .und, .und, .und, .und, .und, .und, .und] [.cells [.fn rpF [] [.ptr 1 0, .ptr 4 0]], .cells [eL 5 cSe l], .cells [.int .i64 sec], .cells [.fn rwF [] [.ptr 0 0, .ptr 1 0, .ptr 2 0, .ptr 3 0]], .cells [.map 5], setZ e1, .cells [.int .i64 k, .int .i64 o, .str n, .str s, .int .i64 v.kind, .bool v.num.neg, .int .u64 (l0 v.num.n), .int .u64 (l1 v.num.n), .int .u64 (l2 v.num.n), .int .u64 (l3 v.num.n), .int .i64 v.num.scale, .bool v.flag, .str v.text, .int .i64 v.err, .int .i64 sc, .int .i64 p, .ext 17 ar.length (Xp.rows ar)]] := by
        intro d
        induction d with
        | zero =>
          intro i e1 hi hf
          rw [List.drop_of_length_le (by omega), walkL_nil] at hf
          subst hf
          apply hs
          conv => whnf
          refine Cond.ff (decF (by omega)) ?_
          (conv => whnf) <;> repeat' (first | ((first | refine wN ?_ | refine wNc ?_ | refine wA ?_ | refine wB ?_ | refine wC ?_ | refine wD ?_ | refine vA ?_ | refine vB ?_ | refine vC ?_ | refine vD ?_ | refine uA ?_ | refine uB ?_ | refine uC ?_ | refine uD ?_); conv => whnf) | ((first | apply Pick.dec | apply Pick.beq | apply Cond.dec | apply Cond.beq | apply Cond.nd | apply Pick.nd | apply Pick.mk | apply Cond.mk) <;> intro h <;> conv => whnf))
          exact EndH.mk [0, 1, 2, 3, 4, 5] rfl rfl rfl
        | succ d im =>
          intro i e1 hi hf
          have hil : i < ar.length := by omega
          have gk : Xp.rows ar (Int.toNat (i : Int)) = cE ar[i] := by rw [Int.toNat_natCast]; exact (Xp.rows_ext ar).2 i hil
          have e1' : IntKind.i64.wrap ((i : Int) + 1) = ((i + 1 : Nat) : Int) := by rw [wi64_id (by omega) (by omega)]; omega
          rw [List.drop_eq_getElem_cons hil] at hf
          rw [walkL_cons] at hf
          have hc := ihy ar[i] (List.getElem_mem hil) e1
          have im := im (i + 1) (readsW l sec ar[i] e1) (by omega) hf
          generalize readsW l sec ar[i] e1 = e2 at *
          generalize ar[i] = y at *
          apply hs
          conv => whnf
          refine Cond.tt (decT (by omega)) ?_
          (conv => whnf) <;> repeat' (first | ((conv => arg 1; whnf); rw [gk]; conv => whnf) | (refine CalledH.mk [0, 1, 2, 3, 4, 5] _ _ rfl (by simp) hc ?_; conv => whnf) | ((first | refine wN ?_ | refine wNc ?_ | refine wA ?_ | refine wB ?_ | refine wC ?_ | refine wD ?_ | refine vA ?_ | refine vB ?_ | refine vC ?_ | refine vD ?_ | refine uA ?_ | refine uB ?_ | refine uC ?_ | refine uD ?_); conv => whnf) | ((first | apply Pick.dec | apply Pick.beq | apply Cond.dec | apply Cond.beq | apply Cond.nd | apply Pick.nd | apply Pick.mk | apply Cond.mk) <;> intro h <;> conv => whnf))
          rw [e1']
          apply hw [0, 1, 2, 3, 4, 5, 6] [false, true, true, true, true, false, false, false, false, false, false, false, false, false, false, false, false, false, false, false, false, false, false, false, false, false, false, false, false, false, false, false, false, false, false, false, false, false, false, false, false, false, false, false, false, false, false, false, false, false, false, false, false, false, false, false, false, true, true, true] _ _ rfl
          exact im
      apply hw [0, 1, 2, 3, 4, 5, 6] [false, true, true, true, true, false, false, false, false, false, false, false, false, false, false, false, false, false, false, false, false, false, false, false, false, false, false, false, false, false, false, false, false, false, false, false, false, false, false, false, false, false, false, false, false, false, false, false, false, false, false, false, false, false, false, false, false, true, true, true] _ _ rfl
      exact turn ar.length 0 es (by omega) hrF
end Go.Proofs.Ythjgnmpnagmeoaa

