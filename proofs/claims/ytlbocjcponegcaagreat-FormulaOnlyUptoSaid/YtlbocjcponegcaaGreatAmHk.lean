/- formula: args, may, column, says; exciseref17's. -/
import Derived.Test.YtlbocjcponegcaaGreatAmGY
import Derived.Test.YtlbocjcponegcaaGreatAmGS
import Derived.Test.YtlbocjcponegcaaGreatAmGI
import Derived.Test.YtlbocjcponegcaaGreatAmHj
set_option linter.unusedVariables false
set_option linter.unusedSimpArgs false
set_option maxRecDepth 100000
namespace Go.Proofs.YtlbocjcponegcaaGreat
open Go.AM
theorem fargs_ret (k : Int) : Ret Tryz.prog 31 [.int .i64 k] [] (.int .i64 (argsN k)) [] := by
  refine ret_of_body atNone tok mixed Tryz.func31 (by kernel_rfl) rfl (k := 18) (rs := [.tmp 2]) (by kernel_rfl) (by kernel_rfl) ?_
  (conv => whnf) <;> repeat' (first | ((first | refine wN ?_ | refine wNc ?_ | refine wA ?_ | refine wB ?_ | refine wC ?_ | refine wD ?_ | refine vA ?_ | refine vB ?_ | refine vC ?_ | refine vD ?_ | refine uA ?_ | refine uB ?_ | refine uC ?_ | refine uD ?_); conv => whnf) | ((first | apply Pick.dec | apply Pick.beq | apply Cond.dec | apply Cond.beq | apply Cond.nd | apply Pick.nd | apply Pick.mk | apply Cond.mk) <;> intro h <;> conv => whnf))
  all_goals
    refine End.mk (int_eq ?_) rfl
    unfold argsN
    repeat' split
    all_goals omega
theorem fmay_ret (v : Vl) : Ret Tryz.prog 33 [eV v] [] (eV (mayV v)) [] := by
  have hc := vCheck_ret v
  by_cases h : v.valid
  · rw [checkV_0 h] at hc
    rw [show mayV v = v from if_pos h]
    refine ret_of_body atNone tok mixed Tryz.func33 (by kernel_rfl) rfl (k := 8) (rs := [.cell 2 28]) (by kernel_rfl) (by kernel_rfl) ?_
    (conv => whnf) <;> repeat' (first | ((first | refine wN ?_ | refine wNc ?_ | refine wA ?_ | refine wB ?_ | refine wC ?_ | refine wD ?_ | refine Called.mk _ _ (hc) ?_ | refine Called.mk _ _ (vBad2) ?_ | refine vA ?_ | refine vB ?_ | refine vC ?_ | refine vD ?_ | refine uA ?_ | refine uB ?_ | refine uC ?_ | refine uD ?_); conv => whnf) | ((first | apply Pick.dec | apply Pick.beq | apply Cond.dec | apply Cond.beq | apply Cond.nd | apply Pick.nd | apply Pick.mk | apply Cond.mk) <;> intro h <;> conv => whnf))
    exact End.mk rfl rfl
  · rw [checkV_1 h] at hc
    rw [show mayV v = errV 2 from if_neg h]
    refine ret_of_body atNone tok mixed Tryz.func33 (by kernel_rfl) rfl (k := 8) (rs := [.cell 2 28]) (by kernel_rfl) (by kernel_rfl) ?_
    (conv => whnf) <;> repeat' (first | ((first | refine wN ?_ | refine wNc ?_ | refine wA ?_ | refine wB ?_ | refine wC ?_ | refine wD ?_ | refine Called.mk _ _ (hc) ?_ | refine Called.mk _ _ (vBad2) ?_ | refine vA ?_ | refine vB ?_ | refine vC ?_ | refine vD ?_ | refine uA ?_ | refine uB ?_ | refine uC ?_ | refine uD ?_); conv => whnf) | ((first | apply Pick.dec | apply Pick.beq | apply Cond.dec | apply Cond.beq | apply Cond.nd | apply Pick.nd | apply Pick.mk | apply Cond.mk) <;> intro h <;> conv => whnf))
    exact End.mk rfl rfl
theorem vBad5 : Ret Tryz.prog 32 [.int .i64 5] [] (eV (errV 5)) [] := vBad_ret 5
def eCK (k : CK) : Val := .agg [.str k.1, .str k.2]
theorem fcolumn_ret (x : Xp) : Ret Tryz.prog 41 [eE x] [] (eCK (colK x.op x.sect x.name)) [] := by
  refine ret_of_body atNone tok mixed Tryz.func41 (by kernel_rfl) rfl (k := 14) (rs := [.cell 2 64]) (by kernel_rfl) (by kernel_rfl) ?_
  (conv => whnf) <;> repeat' (first | ((first | refine wN ?_ | refine wNc ?_ | refine wA ?_ | refine wB ?_ | refine wC ?_ | refine wD ?_ | refine vA ?_ | refine vB ?_ | refine vC ?_ | refine vD ?_ | refine uA ?_ | refine uB ?_ | refine uC ?_ | refine uD ?_); conv => whnf) | ((first | apply Pick.dec | apply Pick.beq | apply Cond.dec | apply Cond.beq | apply Cond.nd | apply Pick.nd | apply Pick.mk | apply Cond.mk) <;> intro h <;> conv => whnf))
  · rw [show colK x.op x.sect x.name = (x.sect, ByteArray.empty) from if_pos h]; exact End.mk rfl rfl
  · rw [show colK x.op x.sect x.name = (x.sect, x.name) from if_neg h]; exact End.mk rfl rfl
theorem fsays1_ret (t : Tb) (name : ByteArray) : Ret Tryz.prog 83 [eTb t, .ptr 0 0] [.cells [.str name]] (.bool (decide (t.name = name))) [.cells [.str name]] := by
  refine ret_of_body atNone tok mixed Tryz.func83 (by kernel_rfl) rfl (k := 8) (rs := [.tmp 3]) (by kernel_rfl) (by kernel_rfl) ?_
  (conv => whnf) <;> repeat' (first | ((first | refine wN ?_ | refine wNc ?_ | refine wA ?_ | refine wB ?_ | refine wC ?_ | refine wD ?_ | refine vA ?_ | refine vB ?_ | refine vC ?_ | refine vD ?_ | refine uA ?_ | refine uB ?_ | refine uC ?_ | refine uD ?_); conv => whnf) | ((first | apply Pick.dec | apply Pick.beq | apply Cond.dec | apply Cond.beq | apply Cond.nd | apply Pick.nd | apply Pick.mk | apply Cond.mk) <;> intro h <;> conv => whnf))
  refine EndH.mk [0] rfl (bool_eq ?_) rfl
  rw [toList_eq]
end Go.Proofs.YtlbocjcponegcaaGreat

set_option linter.unusedVariables false
set_option linter.unusedSimpArgs false
set_option maxRecDepth 100000
namespace Go.Proofs.YtlbocjcponegcaaGreat
open Go.AM
abbrev says1F : Nat := 83
theorem findex_ret (tabs : List Tb) (name : ByteArray) (hl : tabs.length ≤ 9223372036854775807) : Ret Tryz.prog 82 [eL 2 cTb tabs, .fn 83 [] [.ptr 0 0]] [.cells [.str name]] (.int .i64 (idxT name 0 tabs)) [.cells [.str name]] := by
  refine ret_of_body atCalls tok mixed Tryz.func82 (by kernel_rfl) rfl (k := 19) (rs := [.tmp 4]) (by kernel_rfl) (by kernel_rfl) ?_
  (conv => whnf) <;> repeat' (first | ((first | refine wN ?_ | refine wNc ?_ | refine wA ?_ | refine wB ?_ | refine wC ?_ | refine wD ?_ | refine vA ?_ | refine vB ?_ | refine vC ?_ | refine vD ?_ | refine uA ?_ | refine uB ?_ | refine uC ?_ | refine uD ?_); conv => whnf) | ((first | apply Pick.dec | apply Pick.beq | apply Cond.dec | apply Cond.beq | apply Cond.nd | apply Pick.nd | apply Pick.mk | apply Cond.mk) <;> intro h <;> conv => whnf))
  intro I hw hs
  have turn : ∀ (d k : Nat), k + d = tabs.length → idxT name 0 tabs = idxT name k (tabs.drop k) →
      I [eL 2 cTb tabs, .fn says1F [] [.ptr 0 0], .und, .und, .int .i64 0, .und, .und, .int .i64 (tabs.length : Int), .int .i64 (k : Int), .und, .und, .und, .und, .und, .und, .und, .und, .und, .und] [.cells [.str name]] := by
    intro d
    induction d with
    | zero =>
      intro k hk hi
      apply hs
      conv => whnf
      refine Cond.ff (decF (by omega)) ?_
      (conv => whnf) <;> repeat' (first | ((first | refine wN ?_ | refine wNc ?_ | refine wA ?_ | refine wB ?_ | refine wC ?_ | refine wD ?_ | refine vA ?_ | refine vB ?_ | refine vC ?_ | refine vD ?_ | refine uA ?_ | refine uB ?_ | refine uC ?_ | refine uD ?_); conv => whnf) | ((first | apply Pick.dec | apply Pick.beq | apply Cond.dec | apply Cond.beq | apply Cond.nd | apply Pick.nd | apply Pick.mk | apply Cond.mk) <;> intro h <;> conv => whnf))
      refine EndH.mk [0] rfl (int_eq ?_) rfl
      rw [hi, List.drop_of_length_le (by omega)]; rfl
    | succ d ih =>
      intro k hk hi
      apply hs
      conv => whnf
      refine Cond.tt (decT (by omega)) ?_
      have hkl : k < tabs.length := by omega
      have gk : getL cTb tabs (Int.toNat (k : Int)) = cTb tabs[k] := by rw [Int.toNat_natCast]; exact getL_at (List.getElem?_eq_getElem hkl)
      have e1 : IntKind.i64.wrap ((k : Int) + 1) = ((k + 1 : Nat) : Int) := by rw [wi64_id (by omega) (by omega)]; omega
      have hd : tabs.drop k = tabs[k] :: tabs.drop (k + 1) := List.drop_eq_getElem_cons hkl
      have hc := fsays1_ret tabs[k] name
      by_cases hn : tabs[k].name = name
      · rw [decT hn] at hc
        (conv => whnf) <;> repeat' (first | (rw [gk]; conv => whnf) | (refine CalledH.mk [0] _ _ rfl (Nat.le_refl _) hc ?_; conv => whnf) | ((first | refine wN ?_ | refine wNc ?_ | refine wA ?_ | refine wB ?_ | refine wC ?_ | refine wD ?_ | refine vA ?_ | refine vB ?_ | refine vC ?_ | refine vD ?_ | refine uA ?_ | refine uB ?_ | refine uC ?_ | refine uD ?_); conv => whnf) | ((first | apply Pick.dec | apply Pick.beq | apply Cond.dec | apply Cond.beq | apply Cond.nd | apply Pick.nd | apply Pick.mk | apply Cond.mk) <;> intro h <;> conv => whnf))
        refine EndH.mk [0] rfl (int_eq ?_) rfl
        rw [hi, hd]; unfold idxT; rw [if_pos hn]
      · rw [decF hn] at hc
        (conv => whnf) <;> repeat' (first | (rw [gk]; conv => whnf) | (refine CalledH.mk [0] _ _ rfl (Nat.le_refl _) hc ?_; conv => whnf) | ((first | refine wN ?_ | refine wNc ?_ | refine wA ?_ | refine wB ?_ | refine wC ?_ | refine wD ?_ | refine vA ?_ | refine vB ?_ | refine vC ?_ | refine vD ?_ | refine uA ?_ | refine uB ?_ | refine uC ?_ | refine uD ?_); conv => whnf) | ((first | apply Pick.dec | apply Pick.beq | apply Cond.dec | apply Cond.beq | apply Cond.nd | apply Pick.nd | apply Pick.mk | apply Cond.mk) <;> intro h <;> conv => whnf))
        rw [e1]
        apply hw [0] [true, true, false, false, true, false, false, true, true] _ _ rfl
        refine ih (k + 1) (by omega) ?_
        rw [hi, hd]
        show (if tabs[k].name = name then (k : Int) else idxT name (k + 1) (tabs.drop (k + 1))) = _
        rw [if_neg hn]
  apply hw [0] [true, true, false, false, true, false, false, true, true] _ _ rfl
  exact turn tabs.length 0 (by omega) rfl
theorem tableV_4 {name : ByteArray} {v : Vl} {tabs : List Tb} (h : (mayV v).kind = 4) : tableV name v tabs = mayV v := if_pos h
theorem tableV_0 {name : ByteArray} {v : Vl} {tabs : List Tb} (h : (mayV v).kind = 0) : tableV name v tabs = errV 3 := by unfold tableV; rw [if_neg (by omega), if_pos h]
theorem tableV_x {name : ByteArray} {v : Vl} {tabs : List Tb} (h4 : (mayV v).kind ≠ 4) (h0 : (mayV v).kind ≠ 0) (h1 : (mayV v).kind ≠ 1) : tableV name v tabs = errV 2 := by unfold tableV; rw [if_neg h4, if_neg h0, if_neg h1]
theorem tableV_n {name : ByteArray} {v : Vl} {tabs : List Tb} (h : (mayV v).kind = 1) (hf : (tabs.find? fun t => decide (t.name = name)) = none) : tableV name v tabs = errV 2 := by unfold tableV; rw [if_neg (by omega), if_neg (by omega), if_pos h, hf]
theorem tableV_s {name : ByteArray} {v : Vl} {tabs : List Tb} {t : Tb} (h : (mayV v).kind = 1) (hf : (tabs.find? fun t => decide (t.name = name)) = some t) :
    tableV name v tabs = if (atT t.steps (mayV v).num).2 = 0 then numV (atT t.steps (mayV v).num).1 else if (atT t.steps (mayV v).num).2 = 141 then errV 5 else if (atT t.steps (mayV v).num).2 = 7 then errV 1 else errV 2 := by
  unfold tableV; rw [if_neg (by omega), if_neg (by omega), if_pos h, hf]
theorem fsays_ret (name : ByteArray) (v : Vl) (tabs : List Tb) (hl : tabs.length ≤ 9223372036854775807) : Ret Tryz.prog 40 [.str name, eV v, eL 2 cTb tabs] [] (eV (tableV name v tabs)) [] := by
  have hm := fmay_ret v
  by_cases h4 : (mayV v).kind = 4
  · rw [tableV_4 h4]
    generalize mayV v = w at *
    refine ret_of_body atNone tok mixed Tryz.func40 (by kernel_rfl) rfl (k := 51) (rs := [.cell 6 28]) (by kernel_rfl) (by kernel_rfl) ?_
    (conv => whnf) <;> repeat' (first | ((first | refine wN ?_ | refine wNc ?_ | refine wA ?_ | refine wB ?_ | refine wC ?_ | refine wD ?_ | refine Called.mk _ _ (hm) ?_ | refine vA ?_ | refine vB ?_ | refine vC ?_ | refine vD ?_ | refine uA ?_ | refine uB ?_ | refine uC ?_ | refine uD ?_); conv => whnf) | ((first | apply Pick.dec | apply Pick.beq | apply Cond.dec | apply Cond.beq | apply Cond.nd | apply Pick.nd | apply Pick.mk | apply Cond.mk) <;> intro h <;> conv => whnf))
    exact End.mk rfl rfl
  by_cases h0 : (mayV v).kind = 0
  · rw [tableV_0 h0]
    generalize mayV v = w at *
    refine ret_of_body atNone tok mixed Tryz.func40 (by kernel_rfl) rfl (k := 51) (rs := [.cell 6 28]) (by kernel_rfl) (by kernel_rfl) ?_
    (conv => whnf) <;> repeat' (first | ((first | refine wN ?_ | refine wNc ?_ | refine wA ?_ | refine wB ?_ | refine wC ?_ | refine wD ?_ | refine Called.mk _ _ (hm) ?_ | refine Called.mk _ _ (vBad3) ?_ | refine vA ?_ | refine vB ?_ | refine vC ?_ | refine vD ?_ | refine uA ?_ | refine uB ?_ | refine uC ?_ | refine uD ?_); conv => whnf) | ((first | apply Pick.dec | apply Pick.beq | apply Cond.dec | apply Cond.beq | apply Cond.nd | apply Pick.nd | apply Pick.mk | apply Cond.mk) <;> intro h <;> conv => whnf))
    exact End.mk rfl rfl
  by_cases h1 : (mayV v).kind = 1
  · have hI := findex_ret tabs name hl
    rcases idxT_find name 0 tabs with ⟨hf, hi⟩ | ⟨j, t, hj, hf, hi⟩
    · rw [tableV_n h1 hf]
      rw [hi] at hI
      generalize mayV v = w at *
      refine ret_of_body atNone tok mixed Tryz.func40 (by kernel_rfl) rfl (k := 51) (rs := [.cell 6 28]) (by kernel_rfl) (by kernel_rfl) ?_
      (conv => whnf) <;> repeat' (first | (refine CalledH.mk [0] _ _ rfl (Nat.le_refl _) hI ?_; conv => whnf) | ((first | refine wN ?_ | refine wNc ?_ | refine wA ?_ | refine wB ?_ | refine wC ?_ | refine wD ?_ | refine Called.mk _ _ (hm) ?_ | refine Called.mk _ _ (vBad2) ?_ | refine vA ?_ | refine vB ?_ | refine vC ?_ | refine vD ?_ | refine uA ?_ | refine uB ?_ | refine uC ?_ | refine uD ?_); conv => whnf) | ((first | apply Pick.dec | apply Pick.beq | apply Cond.dec | apply Cond.beq | apply Cond.nd | apply Pick.nd | apply Pick.mk | apply Cond.mk) <;> intro h <;> conv => whnf))
      exact End.mk rfl rfl
    · rw [tableV_s h1 hf]
      rw [hi, Nat.zero_add] at hI
      generalize mayV v = w at *
      obtain ⟨hjl, _⟩ := List.getElem?_eq_some_iff.1 hj
      have gk : getL cTb tabs (Int.toNat (j : Int)) = cTb t := by rw [Int.toNat_natCast]; exact getL_at hj
      have hA := bAt_ret t.name t.steps.length (getL cSt t.steps) t.steps w.num (extL_getL cSt t.steps)
      generalize atT t.steps w.num = q at *
      refine ret_of_body atNone tok mixed Tryz.func40 (by kernel_rfl) rfl (k := 51) (rs := [.cell 6 28]) (by kernel_rfl) (by kernel_rfl) ?_
      (conv => whnf) <;> repeat' (first | (refine CalledH.mk [0] _ _ rfl (Nat.le_refl _) hI ?_; conv => whnf) | (rw [gk]; conv => whnf) | ((first | refine wN ?_ | refine wNc ?_ | refine wA ?_ | refine wB ?_ | refine wC ?_ | refine wD ?_ | refine Called.mk _ _ (hm) ?_ | refine Called.mk _ _ (vBad5) ?_ | refine Called.mk _ _ (vBad1) ?_ | refine Called.mk _ _ (vBad2) ?_ | refine Called.mk _ _ (hA) ?_ | refine vA ?_ | refine vB ?_ | refine vC ?_ | refine vD ?_ | refine uA ?_ | refine uB ?_ | refine uC ?_ | refine uD ?_); conv => whnf) | ((first | apply Pick.dec | apply Pick.beq | apply Cond.dec | apply Cond.beq | apply Cond.nd | apply Pick.nd | apply Pick.mk | apply Cond.mk) <;> intro h <;> conv => whnf))
      · rw [if_pos h]; exact End.mk rfl rfl
      · rename_i k1; rw [if_neg k1, if_pos h]; exact End.mk rfl rfl
      · rename_i k1 k2; rw [if_neg k1, if_neg k2, if_pos h]; exact End.mk rfl rfl
      · rename_i k1 k2; rw [if_neg k1, if_neg k2, if_neg h]; exact End.mk rfl rfl
  · rw [tableV_x h4 h0 h1]
    generalize mayV v = w at *
    refine ret_of_body atNone tok mixed Tryz.func40 (by kernel_rfl) rfl (k := 51) (rs := [.cell 6 28]) (by kernel_rfl) (by kernel_rfl) ?_
    (conv => whnf) <;> repeat' (first | ((first | refine wN ?_ | refine wNc ?_ | refine wA ?_ | refine wB ?_ | refine wC ?_ | refine wD ?_ | refine Called.mk _ _ (hm) ?_ | refine Called.mk _ _ (vBad2) ?_ | refine vA ?_ | refine vB ?_ | refine vC ?_ | refine vD ?_ | refine uA ?_ | refine uB ?_ | refine uC ?_ | refine uD ?_); conv => whnf) | ((first | apply Pick.dec | apply Pick.beq | apply Cond.dec | apply Cond.beq | apply Cond.nd | apply Pick.nd | apply Pick.mk | apply Cond.mk) <;> intro h <;> conv => whnf))
    exact End.mk rfl rfl
end Go.Proofs.YtlbocjcponegcaaGreat

set_option linter.unusedVariables false
set_option linter.unusedSimpArgs false
set_option maxRecDepth 100000
namespace Go.Proofs.YtlbocjcponegcaaGreat
open Go.AM
set_option maxHeartbeats 4000000 in
theorem feval_bad (b1 b2 : Bool) (e : EnvS) (x : Xp) (h : (x.args.length : Int) ≠ argsN x.kind) : Ret Tryz.prog 13 [eE x, envV b1 b2 e] (envH b1 b2 e) (eV (evalE e x)) (envH b1 b2 e) := by
  have hA := fargs_ret x.kind
  rw [evalE_eq, nodeV_bad (by rw [List.length_map]; exact h)]
  generalize argsN x.kind = m at *
  cases b1 <;> cases b2
  · refine ret_of_body atCalls tok mixed Tryz.func13 (by kernel_rfl) rfl (k := 110) (rs := [.cell 4 28]) (by kernel_rfl) (by kernel_rfl) ?_
    (conv => whnf) <;> repeat' (first | ((first | refine wN ?_ | refine wNc ?_ | refine wA ?_ | refine wB ?_ | refine wC ?_ | refine wD ?_ | refine Called.mk _ _ (hA) ?_ | refine Called.mk _ _ (vBad2) ?_ | refine vA ?_ | refine vB ?_ | refine vC ?_ | refine vD ?_ | refine uA ?_ | refine uB ?_ | refine uC ?_ | refine uD ?_); conv => whnf) | ((first | apply Pick.dec | apply Pick.beq | apply Cond.dec | apply Cond.beq | apply Cond.nd | apply Pick.nd | apply Pick.mk | apply Cond.mk) <;> intro h <;> conv => whnf))
    exact EndH.mk [0, 1] rfl rfl rfl
  · refine ret_of_body atCalls tok mixed Tryz.func13 (by kernel_rfl) rfl (k := 110) (rs := [.cell 4 28]) (by kernel_rfl) (by kernel_rfl) ?_
    (conv => whnf) <;> repeat' (first | ((first | refine wN ?_ | refine wNc ?_ | refine wA ?_ | refine wB ?_ | refine wC ?_ | refine wD ?_ | refine Called.mk _ _ (hA) ?_ | refine Called.mk _ _ (vBad2) ?_ | refine vA ?_ | refine vB ?_ | refine vC ?_ | refine vD ?_ | refine uA ?_ | refine uB ?_ | refine uC ?_ | refine uD ?_); conv => whnf) | ((first | apply Pick.dec | apply Pick.beq | apply Cond.dec | apply Cond.beq | apply Cond.nd | apply Pick.nd | apply Pick.mk | apply Cond.mk) <;> intro h <;> conv => whnf))
    exact EndH.mk [0] rfl rfl rfl
  · refine ret_of_body atCalls tok mixed Tryz.func13 (by kernel_rfl) rfl (k := 110) (rs := [.cell 4 28]) (by kernel_rfl) (by kernel_rfl) ?_
    (conv => whnf) <;> repeat' (first | ((first | refine wN ?_ | refine wNc ?_ | refine wA ?_ | refine wB ?_ | refine wC ?_ | refine wD ?_ | refine Called.mk _ _ (hA) ?_ | refine Called.mk _ _ (vBad2) ?_ | refine vA ?_ | refine vB ?_ | refine vC ?_ | refine vD ?_ | refine uA ?_ | refine uB ?_ | refine uC ?_ | refine uD ?_); conv => whnf) | ((first | apply Pick.dec | apply Pick.beq | apply Cond.dec | apply Cond.beq | apply Cond.nd | apply Pick.nd | apply Pick.mk | apply Cond.mk) <;> intro h <;> conv => whnf))
    exact EndH.mk [0] rfl rfl rfl
  · refine ret_of_body atCalls tok mixed Tryz.func13 (by kernel_rfl) rfl (k := 110) (rs := [.cell 4 28]) (by kernel_rfl) (by kernel_rfl) ?_
    (conv => whnf) <;> repeat' (first | ((first | refine wN ?_ | refine wNc ?_ | refine wA ?_ | refine wB ?_ | refine wC ?_ | refine wD ?_ | refine Called.mk _ _ (hA) ?_ | refine Called.mk _ _ (vBad2) ?_ | refine vA ?_ | refine vB ?_ | refine vC ?_ | refine vD ?_ | refine uA ?_ | refine uB ?_ | refine uC ?_ | refine uD ?_); conv => whnf) | ((first | apply Pick.dec | apply Pick.beq | apply Cond.dec | apply Cond.beq | apply Cond.nd | apply Pick.nd | apply Pick.mk | apply Cond.mk) <;> intro h <;> conv => whnf))
    exact End.mk rfl rfl
end Go.Proofs.YtlbocjcponegcaaGreat

set_option linter.unusedVariables false
set_option linter.unusedSimpArgs false
set_option maxRecDepth 100000
namespace Go.Proofs.YtlbocjcponegcaaGreat
open Go.AM
theorem cE_mk (k o : Int) (n s : ByteArray) (v : Vl) (sc p : Int) (l : List Xp) : eE (.mk k o n s v sc p l) = .agg [.int .i64 k, .int .i64 o, .str n, .str s, .int .i64 v.kind, .bool v.num.neg, .int .u64 (l0 v.num.n), .int .u64 (l1 v.num.n), .int .u64 (l2 v.num.n), .int .u64 (l3 v.num.n), .int .i64 v.num.scale,
    .bool v.flag, .str v.text, .int .i64 v.err, .int .i64 sc, .int .i64 p, .ext 17 l.length (Xp.rows l)] := rfl
set_option maxHeartbeats 4000000 in
theorem feval_neg (b1 b2 : Bool) (e : EnvS) (ok : EnvOk b1 b2 e) (o : Int) (n s : ByteArray) (v : Vl) (sc p : Int) (a : Xp) (w0 : Vl) (hy0 : Ret Tryz.prog 13 [eE a, envV b1 b2 e] (envH b1 b2 e) (eV w0) (envH b1 b2 e)) :
    Ret Tryz.prog 13 [eE (.mk 3 o n s v sc p [a]), envV b1 b2 e] (envH b1 b2 e) (eV (negV w0)) (envH b1 b2 e) := by
  have hA : Ret Tryz.prog 31 [.int .i64 3] [] (.int .i64 (1)) [] := fargs_ret 3
  have r0 : Xp.rows [a] (Int.toNat 0) = cE a := rows1 a
  rw [cE_mk]
  cases b1 <;> cases b2
  · refine ret_of_body atCalls tok mixed Tryz.func13 (by kernel_rfl) rfl (k := 110) (rs := [.cell 4 28]) (by kernel_rfl) (by kernel_rfl) ?_
    (conv => whnf) <;> repeat' (first | (intro I hw hs; apply hs; conv => whnf) | (apply hs; conv => whnf) | ((conv => arg 1; whnf); rw [r0]; conv => whnf) | (refine CalledH.mk [0, 1] _ _ rfl (Nat.le_refl _) hy0 ?_; conv => whnf) | ((first | refine wN ?_ | refine wNc ?_ | refine wA ?_ | refine wB ?_ | refine wC ?_ | refine wD ?_ | refine Called.mk _ _ (hA) ?_ | refine Called.mk _ _ (vNeg_ret w0) ?_ | refine vA ?_ | refine vB ?_ | refine vC ?_ | refine vD ?_ | refine uA ?_ | refine uB ?_ | refine uC ?_ | refine uD ?_); conv => whnf) | ((first | apply Pick.dec | apply Pick.beq | apply Cond.dec | apply Cond.beq | apply Cond.nd | apply Pick.nd | apply Pick.mk | apply Cond.mk) <;> intro h <;> conv => whnf))
    exact EndH.mk [0, 1] rfl rfl rfl
  · refine ret_of_body atCalls tok mixed Tryz.func13 (by kernel_rfl) rfl (k := 110) (rs := [.cell 4 28]) (by kernel_rfl) (by kernel_rfl) ?_
    (conv => whnf) <;> repeat' (first | (intro I hw hs; apply hs; conv => whnf) | (apply hs; conv => whnf) | ((conv => arg 1; whnf); rw [r0]; conv => whnf) | (refine CalledH.mk [0] _ _ rfl (Nat.le_refl _) hy0 ?_; conv => whnf) | ((first | refine wN ?_ | refine wNc ?_ | refine wA ?_ | refine wB ?_ | refine wC ?_ | refine wD ?_ | refine Called.mk _ _ (hA) ?_ | refine Called.mk _ _ (vNeg_ret w0) ?_ | refine vA ?_ | refine vB ?_ | refine vC ?_ | refine vD ?_ | refine uA ?_ | refine uB ?_ | refine uC ?_ | refine uD ?_); conv => whnf) | ((first | apply Pick.dec | apply Pick.beq | apply Cond.dec | apply Cond.beq | apply Cond.nd | apply Pick.nd | apply Pick.mk | apply Cond.mk) <;> intro h <;> conv => whnf))
    exact EndH.mk [0] rfl rfl rfl
  · refine ret_of_body atCalls tok mixed Tryz.func13 (by kernel_rfl) rfl (k := 110) (rs := [.cell 4 28]) (by kernel_rfl) (by kernel_rfl) ?_
    (conv => whnf) <;> repeat' (first | (intro I hw hs; apply hs; conv => whnf) | (apply hs; conv => whnf) | ((conv => arg 1; whnf); rw [r0]; conv => whnf) | (refine CalledH.mk [0] _ _ rfl (Nat.le_refl _) hy0 ?_; conv => whnf) | ((first | refine wN ?_ | refine wNc ?_ | refine wA ?_ | refine wB ?_ | refine wC ?_ | refine wD ?_ | refine Called.mk _ _ (hA) ?_ | refine Called.mk _ _ (vNeg_ret w0) ?_ | refine vA ?_ | refine vB ?_ | refine vC ?_ | refine vD ?_ | refine uA ?_ | refine uB ?_ | refine uC ?_ | refine uD ?_); conv => whnf) | ((first | apply Pick.dec | apply Pick.beq | apply Cond.dec | apply Cond.beq | apply Cond.nd | apply Pick.nd | apply Pick.mk | apply Cond.mk) <;> intro h <;> conv => whnf))
    exact EndH.mk [0] rfl rfl rfl
  · refine ret_of_body atCalls tok mixed Tryz.func13 (by kernel_rfl) rfl (k := 110) (rs := [.cell 4 28]) (by kernel_rfl) (by kernel_rfl) ?_
    (conv => whnf) <;> repeat' (first | (intro I hw hs; apply hs; conv => whnf) | (apply hs; conv => whnf) | ((conv => arg 1; whnf); rw [r0]; conv => whnf) | ((first | refine wN ?_ | refine wNc ?_ | refine wA ?_ | refine wB ?_ | refine wC ?_ | refine wD ?_ | refine Called.mk _ _ (hA) ?_ | refine Called.mk _ _ (hy0) ?_ | refine Called.mk _ _ (vNeg_ret w0) ?_ | refine vA ?_ | refine vB ?_ | refine vC ?_ | refine vD ?_ | refine uA ?_ | refine uB ?_ | refine uC ?_ | refine uD ?_); conv => whnf) | ((first | apply Pick.dec | apply Pick.beq | apply Cond.dec | apply Cond.beq | apply Cond.nd | apply Pick.nd | apply Pick.mk | apply Cond.mk) <;> intro h <;> conv => whnf))
    exact End.mk rfl rfl
set_option maxHeartbeats 4000000 in
theorem feval_not (b1 b2 : Bool) (e : EnvS) (ok : EnvOk b1 b2 e) (o : Int) (n s : ByteArray) (v : Vl) (sc p : Int) (a : Xp) (w0 : Vl) (hy0 : Ret Tryz.prog 13 [eE a, envV b1 b2 e] (envH b1 b2 e) (eV w0) (envH b1 b2 e)) :
    Ret Tryz.prog 13 [eE (.mk 4 o n s v sc p [a]), envV b1 b2 e] (envH b1 b2 e) (eV (notV w0)) (envH b1 b2 e) := by
  have hA : Ret Tryz.prog 31 [.int .i64 4] [] (.int .i64 (1)) [] := fargs_ret 4
  have r0 : Xp.rows [a] (Int.toNat 0) = cE a := rows1 a
  rw [cE_mk]
  cases b1 <;> cases b2
  · refine ret_of_body atCalls tok mixed Tryz.func13 (by kernel_rfl) rfl (k := 110) (rs := [.cell 4 28]) (by kernel_rfl) (by kernel_rfl) ?_
    (conv => whnf) <;> repeat' (first | (intro I hw hs; apply hs; conv => whnf) | (apply hs; conv => whnf) | ((conv => arg 1; whnf); rw [r0]; conv => whnf) | (refine CalledH.mk [0, 1] _ _ rfl (Nat.le_refl _) hy0 ?_; conv => whnf) | ((first | refine wN ?_ | refine wNc ?_ | refine wA ?_ | refine wB ?_ | refine wC ?_ | refine wD ?_ | refine Called.mk _ _ (hA) ?_ | refine Called.mk _ _ (vNot_ret w0) ?_ | refine vA ?_ | refine vB ?_ | refine vC ?_ | refine vD ?_ | refine uA ?_ | refine uB ?_ | refine uC ?_ | refine uD ?_); conv => whnf) | ((first | apply Pick.dec | apply Pick.beq | apply Cond.dec | apply Cond.beq | apply Cond.nd | apply Pick.nd | apply Pick.mk | apply Cond.mk) <;> intro h <;> conv => whnf))
    exact EndH.mk [0, 1] rfl rfl rfl
  · refine ret_of_body atCalls tok mixed Tryz.func13 (by kernel_rfl) rfl (k := 110) (rs := [.cell 4 28]) (by kernel_rfl) (by kernel_rfl) ?_
    (conv => whnf) <;> repeat' (first | (intro I hw hs; apply hs; conv => whnf) | (apply hs; conv => whnf) | ((conv => arg 1; whnf); rw [r0]; conv => whnf) | (refine CalledH.mk [0] _ _ rfl (Nat.le_refl _) hy0 ?_; conv => whnf) | ((first | refine wN ?_ | refine wNc ?_ | refine wA ?_ | refine wB ?_ | refine wC ?_ | refine wD ?_ | refine Called.mk _ _ (hA) ?_ | refine Called.mk _ _ (vNot_ret w0) ?_ | refine vA ?_ | refine vB ?_ | refine vC ?_ | refine vD ?_ | refine uA ?_ | refine uB ?_ | refine uC ?_ | refine uD ?_); conv => whnf) | ((first | apply Pick.dec | apply Pick.beq | apply Cond.dec | apply Cond.beq | apply Cond.nd | apply Pick.nd | apply Pick.mk | apply Cond.mk) <;> intro h <;> conv => whnf))
    exact EndH.mk [0] rfl rfl rfl
  · refine ret_of_body atCalls tok mixed Tryz.func13 (by kernel_rfl) rfl (k := 110) (rs := [.cell 4 28]) (by kernel_rfl) (by kernel_rfl) ?_
    (conv => whnf) <;> repeat' (first | (intro I hw hs; apply hs; conv => whnf) | (apply hs; conv => whnf) | ((conv => arg 1; whnf); rw [r0]; conv => whnf) | (refine CalledH.mk [0] _ _ rfl (Nat.le_refl _) hy0 ?_; conv => whnf) | ((first | refine wN ?_ | refine wNc ?_ | refine wA ?_ | refine wB ?_ | refine wC ?_ | refine wD ?_ | refine Called.mk _ _ (hA) ?_ | refine Called.mk _ _ (vNot_ret w0) ?_ | refine vA ?_ | refine vB ?_ | refine vC ?_ | refine vD ?_ | refine uA ?_ | refine uB ?_ | refine uC ?_ | refine uD ?_); conv => whnf) | ((first | apply Pick.dec | apply Pick.beq | apply Cond.dec | apply Cond.beq | apply Cond.nd | apply Pick.nd | apply Pick.mk | apply Cond.mk) <;> intro h <;> conv => whnf))
    exact EndH.mk [0] rfl rfl rfl
  · refine ret_of_body atCalls tok mixed Tryz.func13 (by kernel_rfl) rfl (k := 110) (rs := [.cell 4 28]) (by kernel_rfl) (by kernel_rfl) ?_
    (conv => whnf) <;> repeat' (first | (intro I hw hs; apply hs; conv => whnf) | (apply hs; conv => whnf) | ((conv => arg 1; whnf); rw [r0]; conv => whnf) | ((first | refine wN ?_ | refine wNc ?_ | refine wA ?_ | refine wB ?_ | refine wC ?_ | refine wD ?_ | refine Called.mk _ _ (hA) ?_ | refine Called.mk _ _ (hy0) ?_ | refine Called.mk _ _ (vNot_ret w0) ?_ | refine vA ?_ | refine vB ?_ | refine vC ?_ | refine vD ?_ | refine uA ?_ | refine uB ?_ | refine uC ?_ | refine uD ?_); conv => whnf) | ((first | apply Pick.dec | apply Pick.beq | apply Cond.dec | apply Cond.beq | apply Cond.nd | apply Pick.nd | apply Pick.mk | apply Cond.mk) <;> intro h <;> conv => whnf))
    exact End.mk rfl rfl
set_option maxHeartbeats 4000000 in
theorem feval_blank (b1 b2 : Bool) (e : EnvS) (ok : EnvOk b1 b2 e) (o : Int) (n s : ByteArray) (v : Vl) (sc p : Int) (a : Xp) (w0 : Vl) (hy0 : Ret Tryz.prog 13 [eE a, envV b1 b2 e] (envH b1 b2 e) (eV w0) (envH b1 b2 e)) :
    Ret Tryz.prog 13 [eE (.mk 9 o n s v sc p [a]), envV b1 b2 e] (envH b1 b2 e) (eV (blankV w0)) (envH b1 b2 e) := by
  have hA : Ret Tryz.prog 31 [.int .i64 9] [] (.int .i64 (1)) [] := fargs_ret 9
  have r0 : Xp.rows [a] (Int.toNat 0) = cE a := rows1 a
  rw [cE_mk]
  cases b1 <;> cases b2
  · refine ret_of_body atCalls tok mixed Tryz.func13 (by kernel_rfl) rfl (k := 110) (rs := [.cell 4 28]) (by kernel_rfl) (by kernel_rfl) ?_
    (conv => whnf) <;> repeat' (first | (intro I hw hs; apply hs; conv => whnf) | (apply hs; conv => whnf) | ((conv => arg 1; whnf); rw [r0]; conv => whnf) | (refine CalledH.mk [0, 1] _ _ rfl (Nat.le_refl _) hy0 ?_; conv => whnf) | ((first | refine wN ?_ | refine wNc ?_ | refine wA ?_ | refine wB ?_ | refine wC ?_ | refine wD ?_ | refine Called.mk _ _ (hA) ?_ | refine Called.mk _ _ (vBlank_ret w0) ?_ | refine vA ?_ | refine vB ?_ | refine vC ?_ | refine vD ?_ | refine uA ?_ | refine uB ?_ | refine uC ?_ | refine uD ?_); conv => whnf) | ((first | apply Pick.dec | apply Pick.beq | apply Cond.dec | apply Cond.beq | apply Cond.nd | apply Pick.nd | apply Pick.mk | apply Cond.mk) <;> intro h <;> conv => whnf))
    exact EndH.mk [0, 1] rfl rfl rfl
  · refine ret_of_body atCalls tok mixed Tryz.func13 (by kernel_rfl) rfl (k := 110) (rs := [.cell 4 28]) (by kernel_rfl) (by kernel_rfl) ?_
    (conv => whnf) <;> repeat' (first | (intro I hw hs; apply hs; conv => whnf) | (apply hs; conv => whnf) | ((conv => arg 1; whnf); rw [r0]; conv => whnf) | (refine CalledH.mk [0] _ _ rfl (Nat.le_refl _) hy0 ?_; conv => whnf) | ((first | refine wN ?_ | refine wNc ?_ | refine wA ?_ | refine wB ?_ | refine wC ?_ | refine wD ?_ | refine Called.mk _ _ (hA) ?_ | refine Called.mk _ _ (vBlank_ret w0) ?_ | refine vA ?_ | refine vB ?_ | refine vC ?_ | refine vD ?_ | refine uA ?_ | refine uB ?_ | refine uC ?_ | refine uD ?_); conv => whnf) | ((first | apply Pick.dec | apply Pick.beq | apply Cond.dec | apply Cond.beq | apply Cond.nd | apply Pick.nd | apply Pick.mk | apply Cond.mk) <;> intro h <;> conv => whnf))
    exact EndH.mk [0] rfl rfl rfl
  · refine ret_of_body atCalls tok mixed Tryz.func13 (by kernel_rfl) rfl (k := 110) (rs := [.cell 4 28]) (by kernel_rfl) (by kernel_rfl) ?_
    (conv => whnf) <;> repeat' (first | (intro I hw hs; apply hs; conv => whnf) | (apply hs; conv => whnf) | ((conv => arg 1; whnf); rw [r0]; conv => whnf) | (refine CalledH.mk [0] _ _ rfl (Nat.le_refl _) hy0 ?_; conv => whnf) | ((first | refine wN ?_ | refine wNc ?_ | refine wA ?_ | refine wB ?_ | refine wC ?_ | refine wD ?_ | refine Called.mk _ _ (hA) ?_ | refine Called.mk _ _ (vBlank_ret w0) ?_ | refine vA ?_ | refine vB ?_ | refine vC ?_ | refine vD ?_ | refine uA ?_ | refine uB ?_ | refine uC ?_ | refine uD ?_); conv => whnf) | ((first | apply Pick.dec | apply Pick.beq | apply Cond.dec | apply Cond.beq | apply Cond.nd | apply Pick.nd | apply Pick.mk | apply Cond.mk) <;> intro h <;> conv => whnf))
    exact EndH.mk [0] rfl rfl rfl
  · refine ret_of_body atCalls tok mixed Tryz.func13 (by kernel_rfl) rfl (k := 110) (rs := [.cell 4 28]) (by kernel_rfl) (by kernel_rfl) ?_
    (conv => whnf) <;> repeat' (first | (intro I hw hs; apply hs; conv => whnf) | (apply hs; conv => whnf) | ((conv => arg 1; whnf); rw [r0]; conv => whnf) | ((first | refine wN ?_ | refine wNc ?_ | refine wA ?_ | refine wB ?_ | refine wC ?_ | refine wD ?_ | refine Called.mk _ _ (hA) ?_ | refine Called.mk _ _ (hy0) ?_ | refine Called.mk _ _ (vBlank_ret w0) ?_ | refine vA ?_ | refine vB ?_ | refine vC ?_ | refine vD ?_ | refine uA ?_ | refine uB ?_ | refine uC ?_ | refine uD ?_); conv => whnf) | ((first | apply Pick.dec | apply Pick.beq | apply Cond.dec | apply Cond.beq | apply Cond.nd | apply Pick.nd | apply Pick.mk | apply Cond.mk) <;> intro h <;> conv => whnf))
    exact End.mk rfl rfl
set_option maxHeartbeats 4000000 in
theorem feval_round (b1 b2 : Bool) (e : EnvS) (ok : EnvOk b1 b2 e) (o : Int) (n s : ByteArray) (v : Vl) (sc p : Int) (a : Xp) (w0 : Vl) (hy0 : Ret Tryz.prog 13 [eE a, envV b1 b2 e] (envH b1 b2 e) (eV w0) (envH b1 b2 e)) :
    Ret Tryz.prog 13 [eE (.mk 7 o n s v sc p [a]), envV b1 b2 e] (envH b1 b2 e) (eV (roundV w0 sc p)) (envH b1 b2 e) := by
  have hA : Ret Tryz.prog 31 [.int .i64 7] [] (.int .i64 (1)) [] := fargs_ret 7
  have r0 : Xp.rows [a] (Int.toNat 0) = cE a := rows1 a
  rw [cE_mk]
  cases b1 <;> cases b2
  · refine ret_of_body atCalls tok mixed Tryz.func13 (by kernel_rfl) rfl (k := 110) (rs := [.cell 4 28]) (by kernel_rfl) (by kernel_rfl) ?_
    (conv => whnf) <;> repeat' (first | (intro I hw hs; apply hs; conv => whnf) | (apply hs; conv => whnf) | ((conv => arg 1; whnf); rw [r0]; conv => whnf) | (refine CalledH.mk [0, 1] _ _ rfl (Nat.le_refl _) hy0 ?_; conv => whnf) | ((first | refine wN ?_ | refine wNc ?_ | refine wA ?_ | refine wB ?_ | refine wC ?_ | refine wD ?_ | refine Called.mk _ _ (hA) ?_ | refine Called.mk _ _ (vRound_ret w0 sc p) ?_ | refine vA ?_ | refine vB ?_ | refine vC ?_ | refine vD ?_ | refine uA ?_ | refine uB ?_ | refine uC ?_ | refine uD ?_); conv => whnf) | ((first | apply Pick.dec | apply Pick.beq | apply Cond.dec | apply Cond.beq | apply Cond.nd | apply Pick.nd | apply Pick.mk | apply Cond.mk) <;> intro h <;> conv => whnf))
    exact EndH.mk [0, 1] rfl rfl rfl
  · refine ret_of_body atCalls tok mixed Tryz.func13 (by kernel_rfl) rfl (k := 110) (rs := [.cell 4 28]) (by kernel_rfl) (by kernel_rfl) ?_
    (conv => whnf) <;> repeat' (first | (intro I hw hs; apply hs; conv => whnf) | (apply hs; conv => whnf) | ((conv => arg 1; whnf); rw [r0]; conv => whnf) | (refine CalledH.mk [0] _ _ rfl (Nat.le_refl _) hy0 ?_; conv => whnf) | ((first | refine wN ?_ | refine wNc ?_ | refine wA ?_ | refine wB ?_ | refine wC ?_ | refine wD ?_ | refine Called.mk _ _ (hA) ?_ | refine Called.mk _ _ (vRound_ret w0 sc p) ?_ | refine vA ?_ | refine vB ?_ | refine vC ?_ | refine vD ?_ | refine uA ?_ | refine uB ?_ | refine uC ?_ | refine uD ?_); conv => whnf) | ((first | apply Pick.dec | apply Pick.beq | apply Cond.dec | apply Cond.beq | apply Cond.nd | apply Pick.nd | apply Pick.mk | apply Cond.mk) <;> intro h <;> conv => whnf))
    exact EndH.mk [0] rfl rfl rfl
  · refine ret_of_body atCalls tok mixed Tryz.func13 (by kernel_rfl) rfl (k := 110) (rs := [.cell 4 28]) (by kernel_rfl) (by kernel_rfl) ?_
    (conv => whnf) <;> repeat' (first | (intro I hw hs; apply hs; conv => whnf) | (apply hs; conv => whnf) | ((conv => arg 1; whnf); rw [r0]; conv => whnf) | (refine CalledH.mk [0] _ _ rfl (Nat.le_refl _) hy0 ?_; conv => whnf) | ((first | refine wN ?_ | refine wNc ?_ | refine wA ?_ | refine wB ?_ | refine wC ?_ | refine wD ?_ | refine Called.mk _ _ (hA) ?_ | refine Called.mk _ _ (vRound_ret w0 sc p) ?_ | refine vA ?_ | refine vB ?_ | refine vC ?_ | refine vD ?_ | refine uA ?_ | refine uB ?_ | refine uC ?_ | refine uD ?_); conv => whnf) | ((first | apply Pick.dec | apply Pick.beq | apply Cond.dec | apply Cond.beq | apply Cond.nd | apply Pick.nd | apply Pick.mk | apply Cond.mk) <;> intro h <;> conv => whnf))
    exact EndH.mk [0] rfl rfl rfl
  · refine ret_of_body atCalls tok mixed Tryz.func13 (by kernel_rfl) rfl (k := 110) (rs := [.cell 4 28]) (by kernel_rfl) (by kernel_rfl) ?_
    (conv => whnf) <;> repeat' (first | (intro I hw hs; apply hs; conv => whnf) | (apply hs; conv => whnf) | ((conv => arg 1; whnf); rw [r0]; conv => whnf) | ((first | refine wN ?_ | refine wNc ?_ | refine wA ?_ | refine wB ?_ | refine wC ?_ | refine wD ?_ | refine Called.mk _ _ (hA) ?_ | refine Called.mk _ _ (hy0) ?_ | refine Called.mk _ _ (vRound_ret w0 sc p) ?_ | refine vA ?_ | refine vB ?_ | refine vC ?_ | refine vD ?_ | refine uA ?_ | refine uB ?_ | refine uC ?_ | refine uD ?_); conv => whnf) | ((first | apply Pick.dec | apply Pick.beq | apply Cond.dec | apply Cond.beq | apply Cond.nd | apply Pick.nd | apply Pick.mk | apply Cond.mk) <;> intro h <;> conv => whnf))
    exact End.mk rfl rfl
set_option maxHeartbeats 4000000 in
theorem feval_says (b1 b2 : Bool) (e : EnvS) (ok : EnvOk b1 b2 e) (o : Int) (n s : ByteArray) (v : Vl) (sc p : Int) (a : Xp) (w0 : Vl) (hy0 : Ret Tryz.prog 13 [eE a, envV b1 b2 e] (envH b1 b2 e) (eV w0) (envH b1 b2 e)) :
    Ret Tryz.prog 13 [eE (.mk 8 o n s v sc p [a]), envV b1 b2 e] (envH b1 b2 e) (eV (tableV n w0 e.tabs)) (envH b1 b2 e) := by
  have hA : Ret Tryz.prog 31 [.int .i64 8] [] (.int .i64 (1)) [] := fargs_ret 8
  have r0 : Xp.rows [a] (Int.toNat 0) = cE a := rows1 a
  rw [cE_mk]
  cases b1 <;> cases b2
  · refine ret_of_body atCalls tok mixed Tryz.func13 (by kernel_rfl) rfl (k := 110) (rs := [.cell 4 28]) (by kernel_rfl) (by kernel_rfl) ?_
    (conv => whnf) <;> repeat' (first | (intro I hw hs; apply hs; conv => whnf) | (apply hs; conv => whnf) | ((conv => arg 1; whnf); rw [r0]; conv => whnf) | (refine CalledH.mk [0, 1] _ _ rfl (Nat.le_refl _) hy0 ?_; conv => whnf) | ((first | refine wN ?_ | refine wNc ?_ | refine wA ?_ | refine wB ?_ | refine wC ?_ | refine wD ?_ | refine Called.mk _ _ (hA) ?_ | refine Called.mk _ _ (fsays_ret n w0 e.tabs ok.tabs) ?_ | refine vA ?_ | refine vB ?_ | refine vC ?_ | refine vD ?_ | refine uA ?_ | refine uB ?_ | refine uC ?_ | refine uD ?_); conv => whnf) | ((first | apply Pick.dec | apply Pick.beq | apply Cond.dec | apply Cond.beq | apply Cond.nd | apply Pick.nd | apply Pick.mk | apply Cond.mk) <;> intro h <;> conv => whnf))
    exact EndH.mk [0, 1] rfl rfl rfl
  · refine ret_of_body atCalls tok mixed Tryz.func13 (by kernel_rfl) rfl (k := 110) (rs := [.cell 4 28]) (by kernel_rfl) (by kernel_rfl) ?_
    (conv => whnf) <;> repeat' (first | (intro I hw hs; apply hs; conv => whnf) | (apply hs; conv => whnf) | ((conv => arg 1; whnf); rw [r0]; conv => whnf) | (refine CalledH.mk [0] _ _ rfl (Nat.le_refl _) hy0 ?_; conv => whnf) | ((first | refine wN ?_ | refine wNc ?_ | refine wA ?_ | refine wB ?_ | refine wC ?_ | refine wD ?_ | refine Called.mk _ _ (hA) ?_ | refine Called.mk _ _ (fsays_ret n w0 e.tabs ok.tabs) ?_ | refine vA ?_ | refine vB ?_ | refine vC ?_ | refine vD ?_ | refine uA ?_ | refine uB ?_ | refine uC ?_ | refine uD ?_); conv => whnf) | ((first | apply Pick.dec | apply Pick.beq | apply Cond.dec | apply Cond.beq | apply Cond.nd | apply Pick.nd | apply Pick.mk | apply Cond.mk) <;> intro h <;> conv => whnf))
    exact EndH.mk [0] rfl rfl rfl
  · refine ret_of_body atCalls tok mixed Tryz.func13 (by kernel_rfl) rfl (k := 110) (rs := [.cell 4 28]) (by kernel_rfl) (by kernel_rfl) ?_
    (conv => whnf) <;> repeat' (first | (intro I hw hs; apply hs; conv => whnf) | (apply hs; conv => whnf) | ((conv => arg 1; whnf); rw [r0]; conv => whnf) | (refine CalledH.mk [0] _ _ rfl (Nat.le_refl _) hy0 ?_; conv => whnf) | ((first | refine wN ?_ | refine wNc ?_ | refine wA ?_ | refine wB ?_ | refine wC ?_ | refine wD ?_ | refine Called.mk _ _ (hA) ?_ | refine Called.mk _ _ (fsays_ret n w0 e.tabs ok.tabs) ?_ | refine vA ?_ | refine vB ?_ | refine vC ?_ | refine vD ?_ | refine uA ?_ | refine uB ?_ | refine uC ?_ | refine uD ?_); conv => whnf) | ((first | apply Pick.dec | apply Pick.beq | apply Cond.dec | apply Cond.beq | apply Cond.nd | apply Pick.nd | apply Pick.mk | apply Cond.mk) <;> intro h <;> conv => whnf))
    exact EndH.mk [0] rfl rfl rfl
  · refine ret_of_body atCalls tok mixed Tryz.func13 (by kernel_rfl) rfl (k := 110) (rs := [.cell 4 28]) (by kernel_rfl) (by kernel_rfl) ?_
    (conv => whnf) <;> repeat' (first | (intro I hw hs; apply hs; conv => whnf) | (apply hs; conv => whnf) | ((conv => arg 1; whnf); rw [r0]; conv => whnf) | ((first | refine wN ?_ | refine wNc ?_ | refine wA ?_ | refine wB ?_ | refine wC ?_ | refine wD ?_ | refine Called.mk _ _ (hA) ?_ | refine Called.mk _ _ (hy0) ?_ | refine Called.mk _ _ (fsays_ret n w0 e.tabs ok.tabs) ?_ | refine vA ?_ | refine vB ?_ | refine vC ?_ | refine vD ?_ | refine uA ?_ | refine uB ?_ | refine uC ?_ | refine uD ?_); conv => whnf) | ((first | apply Pick.dec | apply Pick.beq | apply Cond.dec | apply Cond.beq | apply Cond.nd | apply Pick.nd | apply Pick.mk | apply Cond.mk) <;> intro h <;> conv => whnf))
    exact End.mk rfl rfl
set_option maxHeartbeats 4000000 in
theorem feval_op (b1 b2 : Bool) (e : EnvS) (ok : EnvOk b1 b2 e) (o : Int) (n s : ByteArray) (v : Vl) (sc p : Int) (a b : Xp) (w0 w1 : Vl) (hy0 : Ret Tryz.prog 13 [eE a, envV b1 b2 e] (envH b1 b2 e) (eV w0) (envH b1 b2 e)) (hy1 : Ret Tryz.prog 13 [eE b, envV b1 b2 e] (envH b1 b2 e) (eV w1) (envH b1 b2 e)) :
    Ret Tryz.prog 13 [eE (.mk 5 o n s v sc p [a, b]), envV b1 b2 e] (envH b1 b2 e) (eV (opV o w0 w1)) (envH b1 b2 e) := by
  have hA : Ret Tryz.prog 31 [.int .i64 5] [] (.int .i64 (2)) [] := fargs_ret 5
  have r0 : Xp.rows [a, b] (Int.toNat 0) = cE a := (rows2 a b).1
  have r1 : Xp.rows [a, b] (Int.toNat 1) = cE b := (rows2 a b).2
  have e1 : IntKind.i64.wrap (0 + 1) = 1 := rfl
  have e2 : IntKind.i64.wrap (1 + 1) = 2 := rfl
  have e3 : IntKind.i64.wrap (2 + 1) = 3 := rfl
  rw [cE_mk]
  cases b1 <;> cases b2
  · refine ret_of_body atCalls tok mixed Tryz.func13 (by kernel_rfl) rfl (k := 110) (rs := [.cell 4 28]) (by kernel_rfl) (by kernel_rfl) ?_
    (conv => whnf) <;> repeat' (first | (intro I hw hs; apply hs; conv => whnf) | (apply hs; conv => whnf) | (rw [e1]; conv => whnf) | (rw [e2]; conv => whnf) | (rw [e3]; conv => whnf) | ((conv => arg 1; whnf); rw [r0]; conv => whnf) | ((conv => arg 1; whnf); rw [r1]; conv => whnf) | (refine CalledH.mk [0, 1] _ _ rfl (Nat.le_refl _) hy0 ?_; conv => whnf) | (refine CalledH.mk [0, 1] _ _ rfl (Nat.le_refl _) hy1 ?_; conv => whnf) | ((first | refine wN ?_ | refine wNc ?_ | refine wA ?_ | refine wB ?_ | refine wC ?_ | refine wD ?_ | refine Called.mk _ _ (hA) ?_ | refine Called.mk _ _ (vOp_ret o w0 w1) ?_ | refine vA ?_ | refine vB ?_ | refine vC ?_ | refine vD ?_ | refine uA ?_ | refine uB ?_ | refine uC ?_ | refine uD ?_); conv => whnf) | ((first | apply Pick.dec | apply Pick.beq | apply Cond.dec | apply Cond.beq | apply Cond.nd | apply Pick.nd | apply Pick.mk | apply Cond.mk) <;> intro h <;> conv => whnf))
    exact EndH.mk [0, 1] rfl rfl rfl
  · refine ret_of_body atCalls tok mixed Tryz.func13 (by kernel_rfl) rfl (k := 110) (rs := [.cell 4 28]) (by kernel_rfl) (by kernel_rfl) ?_
    (conv => whnf) <;> repeat' (first | (intro I hw hs; apply hs; conv => whnf) | (apply hs; conv => whnf) | (rw [e1]; conv => whnf) | (rw [e2]; conv => whnf) | (rw [e3]; conv => whnf) | ((conv => arg 1; whnf); rw [r0]; conv => whnf) | ((conv => arg 1; whnf); rw [r1]; conv => whnf) | (refine CalledH.mk [0] _ _ rfl (Nat.le_refl _) hy0 ?_; conv => whnf) | (refine CalledH.mk [0] _ _ rfl (Nat.le_refl _) hy1 ?_; conv => whnf) | ((first | refine wN ?_ | refine wNc ?_ | refine wA ?_ | refine wB ?_ | refine wC ?_ | refine wD ?_ | refine Called.mk _ _ (hA) ?_ | refine Called.mk _ _ (vOp_ret o w0 w1) ?_ | refine vA ?_ | refine vB ?_ | refine vC ?_ | refine vD ?_ | refine uA ?_ | refine uB ?_ | refine uC ?_ | refine uD ?_); conv => whnf) | ((first | apply Pick.dec | apply Pick.beq | apply Cond.dec | apply Cond.beq | apply Cond.nd | apply Pick.nd | apply Pick.mk | apply Cond.mk) <;> intro h <;> conv => whnf))
    exact EndH.mk [0] rfl rfl rfl
  · refine ret_of_body atCalls tok mixed Tryz.func13 (by kernel_rfl) rfl (k := 110) (rs := [.cell 4 28]) (by kernel_rfl) (by kernel_rfl) ?_
    (conv => whnf) <;> repeat' (first | (intro I hw hs; apply hs; conv => whnf) | (apply hs; conv => whnf) | (rw [e1]; conv => whnf) | (rw [e2]; conv => whnf) | (rw [e3]; conv => whnf) | ((conv => arg 1; whnf); rw [r0]; conv => whnf) | ((conv => arg 1; whnf); rw [r1]; conv => whnf) | (refine CalledH.mk [0] _ _ rfl (Nat.le_refl _) hy0 ?_; conv => whnf) | (refine CalledH.mk [0] _ _ rfl (Nat.le_refl _) hy1 ?_; conv => whnf) | ((first | refine wN ?_ | refine wNc ?_ | refine wA ?_ | refine wB ?_ | refine wC ?_ | refine wD ?_ | refine Called.mk _ _ (hA) ?_ | refine Called.mk _ _ (vOp_ret o w0 w1) ?_ | refine vA ?_ | refine vB ?_ | refine vC ?_ | refine vD ?_ | refine uA ?_ | refine uB ?_ | refine uC ?_ | refine uD ?_); conv => whnf) | ((first | apply Pick.dec | apply Pick.beq | apply Cond.dec | apply Cond.beq | apply Cond.nd | apply Pick.nd | apply Pick.mk | apply Cond.mk) <;> intro h <;> conv => whnf))
    exact EndH.mk [0] rfl rfl rfl
  · refine ret_of_body atCalls tok mixed Tryz.func13 (by kernel_rfl) rfl (k := 110) (rs := [.cell 4 28]) (by kernel_rfl) (by kernel_rfl) ?_
    (conv => whnf) <;> repeat' (first | (intro I hw hs; apply hs; conv => whnf) | (apply hs; conv => whnf) | (rw [e1]; conv => whnf) | (rw [e2]; conv => whnf) | (rw [e3]; conv => whnf) | ((conv => arg 1; whnf); rw [r0]; conv => whnf) | ((conv => arg 1; whnf); rw [r1]; conv => whnf) | ((first | refine wN ?_ | refine wNc ?_ | refine wA ?_ | refine wB ?_ | refine wC ?_ | refine wD ?_ | refine Called.mk _ _ (hA) ?_ | refine Called.mk _ _ (hy0) ?_ | refine Called.mk _ _ (hy1) ?_ | refine Called.mk _ _ (vOp_ret o w0 w1) ?_ | refine vA ?_ | refine vB ?_ | refine vC ?_ | refine vD ?_ | refine uA ?_ | refine uB ?_ | refine uC ?_ | refine uD ?_); conv => whnf) | ((first | apply Pick.dec | apply Pick.beq | apply Cond.dec | apply Cond.beq | apply Cond.nd | apply Pick.nd | apply Pick.mk | apply Cond.mk) <;> intro h <;> conv => whnf))
    exact End.mk rfl rfl
set_option maxHeartbeats 4000000 in
theorem feval_if (b1 b2 : Bool) (e : EnvS) (ok : EnvOk b1 b2 e) (o : Int) (n s : ByteArray) (v : Vl) (sc p : Int) (a b c : Xp) (w0 w1 w2 : Vl) (hy0 : Ret Tryz.prog 13 [eE a, envV b1 b2 e] (envH b1 b2 e) (eV w0) (envH b1 b2 e)) (hy1 : Ret Tryz.prog 13 [eE b, envV b1 b2 e] (envH b1 b2 e) (eV w1) (envH b1 b2 e)) (hy2 : Ret Tryz.prog 13 [eE c, envV b1 b2 e] (envH b1 b2 e) (eV w2) (envH b1 b2 e)) :
    Ret Tryz.prog 13 [eE (.mk 6 o n s v sc p [a, b, c]), envV b1 b2 e] (envH b1 b2 e) (eV (ifV w0 w1 w2)) (envH b1 b2 e) := by
  have hA : Ret Tryz.prog 31 [.int .i64 6] [] (.int .i64 (3)) [] := fargs_ret 6
  have r0 : Xp.rows [a, b, c] (Int.toNat 0) = cE a := (rows3 a b c).1
  have r1 : Xp.rows [a, b, c] (Int.toNat 1) = cE b := (rows3 a b c).2.1
  have r2 : Xp.rows [a, b, c] (Int.toNat 2) = cE c := (rows3 a b c).2.2
  have e1 : IntKind.i64.wrap (0 + 1) = 1 := rfl
  have e2 : IntKind.i64.wrap (1 + 1) = 2 := rfl
  have e3 : IntKind.i64.wrap (2 + 1) = 3 := rfl
  rw [cE_mk]
  cases b1 <;> cases b2
  · refine ret_of_body atCalls tok mixed Tryz.func13 (by kernel_rfl) rfl (k := 110) (rs := [.cell 4 28]) (by kernel_rfl) (by kernel_rfl) ?_
    (conv => whnf) <;> repeat' (first | (intro I hw hs; apply hs; conv => whnf) | (apply hs; conv => whnf) | (rw [e1]; conv => whnf) | (rw [e2]; conv => whnf) | (rw [e3]; conv => whnf) | ((conv => arg 1; whnf); rw [r0]; conv => whnf) | ((conv => arg 1; whnf); rw [r1]; conv => whnf) | ((conv => arg 1; whnf); rw [r2]; conv => whnf) | (refine CalledH.mk [0, 1] _ _ rfl (Nat.le_refl _) hy0 ?_; conv => whnf) | (refine CalledH.mk [0, 1] _ _ rfl (Nat.le_refl _) hy1 ?_; conv => whnf) | (refine CalledH.mk [0, 1] _ _ rfl (Nat.le_refl _) hy2 ?_; conv => whnf) | ((first | refine wN ?_ | refine wNc ?_ | refine wA ?_ | refine wB ?_ | refine wC ?_ | refine wD ?_ | refine Called.mk _ _ (hA) ?_ | refine Called.mk _ _ (vIf_ret w0 w1 w2) ?_ | refine vA ?_ | refine vB ?_ | refine vC ?_ | refine vD ?_ | refine uA ?_ | refine uB ?_ | refine uC ?_ | refine uD ?_); conv => whnf) | ((first | apply Pick.dec | apply Pick.beq | apply Cond.dec | apply Cond.beq | apply Cond.nd | apply Pick.nd | apply Pick.mk | apply Cond.mk) <;> intro h <;> conv => whnf))
    exact EndH.mk [0, 1] rfl rfl rfl
  · refine ret_of_body atCalls tok mixed Tryz.func13 (by kernel_rfl) rfl (k := 110) (rs := [.cell 4 28]) (by kernel_rfl) (by kernel_rfl) ?_
    (conv => whnf) <;> repeat' (first | (intro I hw hs; apply hs; conv => whnf) | (apply hs; conv => whnf) | (rw [e1]; conv => whnf) | (rw [e2]; conv => whnf) | (rw [e3]; conv => whnf) | ((conv => arg 1; whnf); rw [r0]; conv => whnf) | ((conv => arg 1; whnf); rw [r1]; conv => whnf) | ((conv => arg 1; whnf); rw [r2]; conv => whnf) | (refine CalledH.mk [0] _ _ rfl (Nat.le_refl _) hy0 ?_; conv => whnf) | (refine CalledH.mk [0] _ _ rfl (Nat.le_refl _) hy1 ?_; conv => whnf) | (refine CalledH.mk [0] _ _ rfl (Nat.le_refl _) hy2 ?_; conv => whnf) | ((first | refine wN ?_ | refine wNc ?_ | refine wA ?_ | refine wB ?_ | refine wC ?_ | refine wD ?_ | refine Called.mk _ _ (hA) ?_ | refine Called.mk _ _ (vIf_ret w0 w1 w2) ?_ | refine vA ?_ | refine vB ?_ | refine vC ?_ | refine vD ?_ | refine uA ?_ | refine uB ?_ | refine uC ?_ | refine uD ?_); conv => whnf) | ((first | apply Pick.dec | apply Pick.beq | apply Cond.dec | apply Cond.beq | apply Cond.nd | apply Pick.nd | apply Pick.mk | apply Cond.mk) <;> intro h <;> conv => whnf))
    exact EndH.mk [0] rfl rfl rfl
  · refine ret_of_body atCalls tok mixed Tryz.func13 (by kernel_rfl) rfl (k := 110) (rs := [.cell 4 28]) (by kernel_rfl) (by kernel_rfl) ?_
    (conv => whnf) <;> repeat' (first | (intro I hw hs; apply hs; conv => whnf) | (apply hs; conv => whnf) | (rw [e1]; conv => whnf) | (rw [e2]; conv => whnf) | (rw [e3]; conv => whnf) | ((conv => arg 1; whnf); rw [r0]; conv => whnf) | ((conv => arg 1; whnf); rw [r1]; conv => whnf) | ((conv => arg 1; whnf); rw [r2]; conv => whnf) | (refine CalledH.mk [0] _ _ rfl (Nat.le_refl _) hy0 ?_; conv => whnf) | (refine CalledH.mk [0] _ _ rfl (Nat.le_refl _) hy1 ?_; conv => whnf) | (refine CalledH.mk [0] _ _ rfl (Nat.le_refl _) hy2 ?_; conv => whnf) | ((first | refine wN ?_ | refine wNc ?_ | refine wA ?_ | refine wB ?_ | refine wC ?_ | refine wD ?_ | refine Called.mk _ _ (hA) ?_ | refine Called.mk _ _ (vIf_ret w0 w1 w2) ?_ | refine vA ?_ | refine vB ?_ | refine vC ?_ | refine vD ?_ | refine uA ?_ | refine uB ?_ | refine uC ?_ | refine uD ?_); conv => whnf) | ((first | apply Pick.dec | apply Pick.beq | apply Cond.dec | apply Cond.beq | apply Cond.nd | apply Pick.nd | apply Pick.mk | apply Cond.mk) <;> intro h <;> conv => whnf))
    exact EndH.mk [0] rfl rfl rfl
  · refine ret_of_body atCalls tok mixed Tryz.func13 (by kernel_rfl) rfl (k := 110) (rs := [.cell 4 28]) (by kernel_rfl) (by kernel_rfl) ?_
    (conv => whnf) <;> repeat' (first | (intro I hw hs; apply hs; conv => whnf) | (apply hs; conv => whnf) | (rw [e1]; conv => whnf) | (rw [e2]; conv => whnf) | (rw [e3]; conv => whnf) | ((conv => arg 1; whnf); rw [r0]; conv => whnf) | ((conv => arg 1; whnf); rw [r1]; conv => whnf) | ((conv => arg 1; whnf); rw [r2]; conv => whnf) | ((first | refine wN ?_ | refine wNc ?_ | refine wA ?_ | refine wB ?_ | refine wC ?_ | refine wD ?_ | refine Called.mk _ _ (hA) ?_ | refine Called.mk _ _ (hy0) ?_ | refine Called.mk _ _ (hy1) ?_ | refine Called.mk _ _ (hy2) ?_ | refine Called.mk _ _ (vIf_ret w0 w1 w2) ?_ | refine vA ?_ | refine vB ?_ | refine vC ?_ | refine vD ?_ | refine uA ?_ | refine uB ?_ | refine uC ?_ | refine uD ?_); conv => whnf) | ((first | apply Pick.dec | apply Pick.beq | apply Cond.dec | apply Cond.beq | apply Cond.nd | apply Pick.nd | apply Pick.mk | apply Cond.mk) <;> intro h <;> conv => whnf))
    exact End.mk rfl rfl
end Go.Proofs.YtlbocjcponegcaaGreat

