/- formula: what folding needs -/
import Derived.Test.YtlbocjcponegcaaGreatAmHl
import Derived.Test.YtlbocjcponegcaaGreatAmHm
import Derived.Test.YtlbocjcponegcaaGreatAmHr
set_option linter.unusedVariables false
set_option linter.unusedSimpArgs false
set_option maxRecDepth 100000
namespace Go.Proofs.YtlbocjcponegcaaGreat
open Go.AM
theorem env0_ok {tabs : List Tb} (ht : tabs.length ≤ 9223372036854775807) : EnvOk true true (env0 tabs) :=
  ⟨fun _ => rfl, fun _ => rfl, ht, fun c => by
    have e : (env0 tabs).col c = (Sm0, 0) := rfl
    rw [e]
    exact ⟨⟨by decide, by decide⟩, ⟨by decide, by decide⟩⟩⟩
theorem constX_ways (z : Xp) : (constX z = true ∧ z.kind = 1 ∧ (z.args.length : Int) = 0) ∨ (constX z = false ∧ z.kind ≠ 1) ∨ (constX z = false ∧ z.kind = 1 ∧ (z.args.length : Int) ≠ 0) := by
  unfold constX
  by_cases h1 : z.kind = 1
  · by_cases h2 : z.args.length = 0
    · exact .inl ⟨by rw [decT h1, decT h2]; rfl, h1, by omega⟩
    · exact .inr (.inr ⟨by rw [decT h1, decF h2]; rfl, h1, by omega⟩)
  · exact .inr (.inl ⟨by rw [decF h1]; rfl, h1⟩)
theorem fconst_ret (z : Xp) : Ret Tryz.prog 58 [eE z] [] (.bool (constX z)) [] := by
  rcases constX_ways z with ⟨h, h1, h2⟩ | ⟨h, h1⟩ | ⟨h, h1, h2⟩ <;> rw [h]
  · refine ret_of_body atNone tok mixed Tryz.func58 (by kernel_rfl) rfl (k := 12) (rs := [.tmp 2]) (by kernel_rfl) (by kernel_rfl) ?_
    (conv => whnf) <;> repeat' (first | ((first | refine wN ?_ | refine wA ?_ | refine wB ?_ | refine wC ?_ | refine wD ?_ | refine vA ?_ | refine vB ?_ | refine vC ?_ | refine vD ?_ | refine uA ?_ | refine uB ?_ | refine uC ?_ | refine uD ?_); conv => whnf) | ((first | apply Pick.dec | apply Pick.beq | apply Cond.dec | apply Cond.beq | apply Cond.nd | apply Pick.nd | apply Pick.mk | apply Cond.mk) <;> intro h <;> conv => whnf))
    exact End.mk (bool_eq (by simp [h2])) rfl
  · refine ret_of_body atNone tok mixed Tryz.func58 (by kernel_rfl) rfl (k := 12) (rs := [.tmp 2]) (by kernel_rfl) (by kernel_rfl) ?_
    (conv => whnf) <;> repeat' (first | ((first | refine wN ?_ | refine wA ?_ | refine wB ?_ | refine wC ?_ | refine wD ?_ | refine vA ?_ | refine vB ?_ | refine vC ?_ | refine vD ?_ | refine uA ?_ | refine uB ?_ | refine uC ?_ | refine uD ?_); conv => whnf) | ((first | apply Pick.dec | apply Pick.beq | apply Cond.dec | apply Cond.beq | apply Cond.nd | apply Pick.nd | apply Pick.mk | apply Cond.mk) <;> intro h <;> conv => whnf))
    exact End.mk rfl rfl
  · refine ret_of_body atNone tok mixed Tryz.func58 (by kernel_rfl) rfl (k := 12) (rs := [.tmp 2]) (by kernel_rfl) (by kernel_rfl) ?_
    (conv => whnf) <;> repeat' (first | ((first | refine wN ?_ | refine wA ?_ | refine wB ?_ | refine wC ?_ | refine wD ?_ | refine vA ?_ | refine vB ?_ | refine vC ?_ | refine vD ?_ | refine uA ?_ | refine uB ?_ | refine uC ?_ | refine uD ?_); conv => whnf) | ((first | apply Pick.dec | apply Pick.beq | apply Cond.dec | apply Cond.beq | apply Cond.nd | apply Pick.nd | apply Pick.mk | apply Cond.mk) <;> intro h <;> conv => whnf))
    exact End.mk (bool_eq (by simpa using h2)) rfl
end Go.Proofs.YtlbocjcponegcaaGreat

set_option linter.unusedVariables false
set_option linter.unusedSimpArgs false
set_option maxRecDepth 100000
namespace Go.Proofs.YtlbocjcponegcaaGreat
open Go.AM
set_option maxHeartbeats 4000000 in
theorem ffold_0k2 (tabs : List Tb) (ht : tabs.length ≤ 9223372036854775807) (o : Int) (n s : ByteArray) (v : Vl) (sc p : Int) :
    Ret Tryz.prog 19 [eE (.mk 2 o n s v sc p []), eL 2 cTb tabs] [] (eE (foldN tabs 2 o n s v sc p [])) [] := by
  have hA := fargs_ret 2
  rw [show argsN 2 = 0 by decide] at hA
  rw [show foldN tabs 2 o n s v sc p [] = .mk 2 o n s v sc p [] by simp [foldN, argsN]]
  refine nil_x ?_
  rw [cE_mk]
  refine ret_of_body atCalls tok mixed Tryz.func19 (by kernel_rfl) rfl (k := 106) (rs := [.cell 4 31]) (by kernel_rfl) (by kernel_rfl) ?_
  (conv => whnf) <;> repeat' (first | (intro I hw hs; apply hs; conv => whnf) | (apply hs; conv => whnf) | ((first | refine wN ?_ | refine wA ?_ | refine wB ?_ | refine wC ?_ | refine wD ?_ | refine Called.mk _ _ (hA) ?_ | refine vA ?_ | refine vB ?_ | refine vC ?_ | refine vD ?_ | refine uA ?_ | refine uB ?_ | refine uC ?_ | refine uD ?_); conv => whnf) | ((first | apply Pick.dec | apply Pick.beq | apply Cond.dec | apply Cond.beq | apply Cond.nd | apply Pick.nd | apply Pick.mk | apply Cond.mk) <;> intro h <;> conv => whnf))
  exact End.mk rfl rfl
set_option maxHeartbeats 4000000 in
theorem ffold_0k10 (tabs : List Tb) (ht : tabs.length ≤ 9223372036854775807) (o : Int) (n s : ByteArray) (v : Vl) (sc p : Int) :
    Ret Tryz.prog 19 [eE (.mk 10 o n s v sc p []), eL 2 cTb tabs] [] (eE (foldN tabs 10 o n s v sc p [])) [] := by
  have hA := fargs_ret 10
  rw [show argsN 10 = 0 by decide] at hA
  rw [show foldN tabs 10 o n s v sc p [] = .mk 10 o n s v sc p [] by simp [foldN, argsN]]
  refine nil_x ?_
  rw [cE_mk]
  refine ret_of_body atCalls tok mixed Tryz.func19 (by kernel_rfl) rfl (k := 106) (rs := [.cell 4 31]) (by kernel_rfl) (by kernel_rfl) ?_
  (conv => whnf) <;> repeat' (first | (intro I hw hs; apply hs; conv => whnf) | (apply hs; conv => whnf) | ((first | refine wN ?_ | refine wA ?_ | refine wB ?_ | refine wC ?_ | refine wD ?_ | refine Called.mk _ _ (hA) ?_ | refine vA ?_ | refine vB ?_ | refine vC ?_ | refine vD ?_ | refine uA ?_ | refine uB ?_ | refine uC ?_ | refine uD ?_); conv => whnf) | ((first | apply Pick.dec | apply Pick.beq | apply Cond.dec | apply Cond.beq | apply Cond.nd | apply Pick.nd | apply Pick.mk | apply Cond.mk) <;> intro h <;> conv => whnf))
  exact End.mk rfl rfl
set_option maxHeartbeats 4000000 in
theorem ffold_0k1 (tabs : List Tb) (ht : tabs.length ≤ 9223372036854775807) (o : Int) (n s : ByteArray) (v : Vl) (sc p : Int) :
    Ret Tryz.prog 19 [eE (.mk 1 o n s v sc p []), eL 2 cTb tabs] [] (eE (foldN tabs 1 o n s v sc p [])) [] := by
  have hA := fargs_ret 1
  rw [show argsN 1 = 0 by decide] at hA
  rw [show foldN tabs 1 o n s v sc p [] = c0 (evalE (env0 tabs) (.mk 1 o n s v sc p [])) by simp [foldN, argsN]]
  have hE := feval_ret true true (env0 tabs) (env0_ok ht) (.mk 1 o n s v sc p [])
  replace hE := Ret.exn hE
  generalize evalE (env0 tabs) (.mk 1 o n s v sc p []) = w at *
  refine nil_x ?_
  rw [cE_mk]
  refine ret_of_body atCalls tok mixed Tryz.func19 (by kernel_rfl) rfl (k := 106) (rs := [.cell 4 31]) (by kernel_rfl) (by kernel_rfl) ?_
  (conv => whnf) <;> repeat' (first | (intro I hw hs; apply hs; conv => whnf) | (apply hs; conv => whnf) | ((first | refine wN ?_ | refine wA ?_ | refine wB ?_ | refine wC ?_ | refine wD ?_ | refine Called.mk _ _ (hA) ?_ | refine Called.mk _ _ (hE) ?_ | refine vA ?_ | refine vB ?_ | refine vC ?_ | refine vD ?_ | refine uA ?_ | refine uB ?_ | refine uC ?_ | refine uD ?_); conv => whnf) | ((first | apply Pick.dec | apply Pick.beq | apply Cond.dec | apply Cond.beq | apply Cond.nd | apply Pick.nd | apply Pick.mk | apply Cond.mk) <;> intro h <;> conv => whnf))
  exact End.mk rfl rfl
set_option maxHeartbeats 4000000 in
theorem ffold_1 (tabs : List Tb) (ht : tabs.length ≤ 9223372036854775807) (o : Int) (n s : ByteArray) (v : Vl) (sc p : Int) (a : Xp) (z0 : Xp) (k : Int) (hk : argsN k = 1) (h0 : Ret Tryz.prog 19 [eE a, eL 2 cTb tabs] [] (eE z0) []) :
    Ret Tryz.prog 19 [eE (.mk k o n s v sc p [a]), eL 2 cTb tabs] [] (eE (foldN tabs k o n s v sc p [z0])) [] := by
  have hA := fargs_ret k
  have hkk := args1 hk
  have k2 : k ≠ 2 := by omega
  have k6 : k ≠ 6 := by omega
  have k10 : k ≠ 10 := by omega
  rw [hk] at hA
  have r0 : Xp.rows [a] (Int.toNat 0) = cE a := rows1 a
  have cn0 := fconst_ret z0
  cases q0 : constX z0 <;> rw [q0] at cn0
  ·
    rw [show foldN tabs k o n s v sc p [z0] = .mk k o n s v sc p [z0] by simp [foldN, *]]
    refine lend_x (e := 31) [z0] ?_
    rw [cE_mk]
    refine ret_of_body atCalls tok mixed Tryz.func19 (by kernel_rfl) rfl (k := 106) (rs := [.cell 4 31]) (by kernel_rfl) (by kernel_rfl) ?_
    (conv => whnf) <;> repeat' (first | (intro I hw hs; apply hs; conv => whnf) | (apply hs; conv => whnf) | ((conv => arg 1; whnf); rw [r0]; conv => whnf) | ((first | refine wN ?_ | refine wA ?_ | refine wB ?_ | refine wC ?_ | refine wD ?_ | refine Called.mk _ _ (hA) ?_ | refine Called.mk _ _ (h0) ?_ | refine Called.mk _ _ (cn0) ?_ | refine vA ?_ | refine vB ?_ | refine vC ?_ | refine vD ?_ | refine uA ?_ | refine uB ?_ | refine uC ?_ | refine uD ?_); conv => whnf) | ((first | apply Pick.dec | apply Pick.beq | apply Cond.dec | apply Cond.beq | apply Cond.nd | apply Pick.nd | apply Pick.mk | apply Cond.mk) <;> intro h <;> conv => whnf))
    exact EndH.mk [6] rfl rfl rfl
  ·
    rw [show foldN tabs k o n s v sc p [z0] = c0 (evalE (env0 tabs) (.mk k o n s v sc p [z0])) by simp [foldN, *]]
    have hE := feval_ret true true (env0 tabs) (env0_ok ht) (.mk k o n s v sc p [z0])
    replace hE := Ret.ex (g := growG [z0] 1) hE (fun i hi => (growG_at _ _ i hi).trans (rows_at _ i hi).symm)
    generalize evalE (env0 tabs) (.mk k o n s v sc p [z0]) = w at *
    refine nil_x ?_
    rw [cE_mk]
    refine ret_of_body atCalls tok mixed Tryz.func19 (by kernel_rfl) rfl (k := 106) (rs := [.cell 4 31]) (by kernel_rfl) (by kernel_rfl) ?_
    (conv => whnf) <;> repeat' (first | (intro I hw hs; apply hs; conv => whnf) | (apply hs; conv => whnf) | ((conv => arg 1; whnf); rw [r0]; conv => whnf) | ((first | refine wN ?_ | refine wA ?_ | refine wB ?_ | refine wC ?_ | refine wD ?_ | refine Called.mk _ _ (hA) ?_ | refine Called.mk _ _ (h0) ?_ | refine Called.mk _ _ (cn0) ?_ | refine Called.mk _ _ (hE) ?_ | refine vA ?_ | refine vB ?_ | refine vC ?_ | refine vD ?_ | refine uA ?_ | refine uB ?_ | refine uC ?_ | refine uD ?_); conv => whnf) | ((first | apply Pick.dec | apply Pick.beq | apply Cond.dec | apply Cond.beq | apply Cond.nd | apply Pick.nd | apply Pick.mk | apply Cond.mk) <;> intro h <;> conv => whnf))
    exact End.mk rfl rfl
set_option maxHeartbeats 4000000 in
theorem ffold_2 (tabs : List Tb) (ht : tabs.length ≤ 9223372036854775807) (o : Int) (n s : ByteArray) (v : Vl) (sc p : Int) (a b : Xp) (z0 z1 : Xp) (h0 : Ret Tryz.prog 19 [eE a, eL 2 cTb tabs] [] (eE z0) []) (h1 : Ret Tryz.prog 19 [eE b, eL 2 cTb tabs] [] (eE z1) []) :
    Ret Tryz.prog 19 [eE (.mk 5 o n s v sc p [a, b]), eL 2 cTb tabs] [] (eE (foldN tabs 5 o n s v sc p [z0, z1])) [] := by
  have hA := fargs_ret 5
  rw [show argsN 5 = 2 by decide] at hA
  have r0 : Xp.rows [a, b] (Int.toNat 0) = cE a := (rows2 a b).1
  have r1 : Xp.rows [a, b] (Int.toNat 1) = cE b := (rows2 a b).2
  have w1 : IntKind.i64.wrap (0 + 1) = 1 := rfl
  have w2 : IntKind.i64.wrap (1 + 1) = 2 := rfl
  have w3 : IntKind.i64.wrap (2 + 1) = 3 := rfl
  have cn0 := fconst_ret z0
  have cn1 := fconst_ret z1
  cases q0 : constX z0 <;> rw [q0] at cn0
  ·
    rw [show foldN tabs 5 o n s v sc p [z0, z1] = .mk 5 o n s v sc p [z0, z1] by simp [foldN, argsN, *]]
    refine lend_x (e := 31) [z0, z1] ?_
    rw [cE_mk]
    refine ret_of_body atCalls tok mixed Tryz.func19 (by kernel_rfl) rfl (k := 106) (rs := [.cell 4 31]) (by kernel_rfl) (by kernel_rfl) ?_
    (conv => whnf) <;> repeat' (first | (intro I hw hs; apply hs; conv => whnf) | (apply hs; conv => whnf) | (rw [w1]; conv => whnf) | (rw [w2]; conv => whnf) | (rw [w3]; conv => whnf) | ((conv => arg 1; whnf); rw [r0]; conv => whnf) | ((conv => arg 1; whnf); rw [r1]; conv => whnf) | ((first | refine wN ?_ | refine wA ?_ | refine wB ?_ | refine wC ?_ | refine wD ?_ | refine Called.mk _ _ (hA) ?_ | refine Called.mk _ _ (h0) ?_ | refine Called.mk _ _ (h1) ?_ | refine Called.mk _ _ (cn0) ?_ | refine Called.mk _ _ (cn1) ?_ | refine vA ?_ | refine vB ?_ | refine vC ?_ | refine vD ?_ | refine uA ?_ | refine uB ?_ | refine uC ?_ | refine uD ?_); conv => whnf) | ((first | apply Pick.dec | apply Pick.beq | apply Cond.dec | apply Cond.beq | apply Cond.nd | apply Pick.nd | apply Pick.mk | apply Cond.mk) <;> intro h <;> conv => whnf))
    exact EndH.mk [10] rfl rfl rfl
  cases q1 : constX z1 <;> rw [q1] at cn1
  ·
    rw [show foldN tabs 5 o n s v sc p [z0, z1] = .mk 5 o n s v sc p [z0, z1] by simp [foldN, argsN, *]]
    refine lend_x (e := 31) [z0, z1] ?_
    rw [cE_mk]
    refine ret_of_body atCalls tok mixed Tryz.func19 (by kernel_rfl) rfl (k := 106) (rs := [.cell 4 31]) (by kernel_rfl) (by kernel_rfl) ?_
    (conv => whnf) <;> repeat' (first | (intro I hw hs; apply hs; conv => whnf) | (apply hs; conv => whnf) | (rw [w1]; conv => whnf) | (rw [w2]; conv => whnf) | (rw [w3]; conv => whnf) | ((conv => arg 1; whnf); rw [r0]; conv => whnf) | ((conv => arg 1; whnf); rw [r1]; conv => whnf) | ((first | refine wN ?_ | refine wA ?_ | refine wB ?_ | refine wC ?_ | refine wD ?_ | refine Called.mk _ _ (hA) ?_ | refine Called.mk _ _ (h0) ?_ | refine Called.mk _ _ (h1) ?_ | refine Called.mk _ _ (cn0) ?_ | refine Called.mk _ _ (cn1) ?_ | refine vA ?_ | refine vB ?_ | refine vC ?_ | refine vD ?_ | refine uA ?_ | refine uB ?_ | refine uC ?_ | refine uD ?_); conv => whnf) | ((first | apply Pick.dec | apply Pick.beq | apply Cond.dec | apply Cond.beq | apply Cond.nd | apply Pick.nd | apply Pick.mk | apply Cond.mk) <;> intro h <;> conv => whnf))
    exact EndH.mk [10] rfl rfl rfl
  ·
    rw [show foldN tabs 5 o n s v sc p [z0, z1] = c0 (evalE (env0 tabs) (.mk 5 o n s v sc p [z0, z1])) by simp [foldN, argsN, *]]
    have hE := feval_ret true true (env0 tabs) (env0_ok ht) (.mk 5 o n s v sc p [z0, z1])
    replace hE := Ret.ex (g := growG [z0, z1] 2) hE (fun i hi => (growG_at _ _ i hi).trans (rows_at _ i hi).symm)
    generalize evalE (env0 tabs) (.mk 5 o n s v sc p [z0, z1]) = w at *
    refine nil_x ?_
    rw [cE_mk]
    refine ret_of_body atCalls tok mixed Tryz.func19 (by kernel_rfl) rfl (k := 106) (rs := [.cell 4 31]) (by kernel_rfl) (by kernel_rfl) ?_
    (conv => whnf) <;> repeat' (first | (intro I hw hs; apply hs; conv => whnf) | (apply hs; conv => whnf) | (rw [w1]; conv => whnf) | (rw [w2]; conv => whnf) | (rw [w3]; conv => whnf) | ((conv => arg 1; whnf); rw [r0]; conv => whnf) | ((conv => arg 1; whnf); rw [r1]; conv => whnf) | ((first | refine wN ?_ | refine wA ?_ | refine wB ?_ | refine wC ?_ | refine wD ?_ | refine Called.mk _ _ (hA) ?_ | refine Called.mk _ _ (h0) ?_ | refine Called.mk _ _ (h1) ?_ | refine Called.mk _ _ (cn0) ?_ | refine Called.mk _ _ (cn1) ?_ | refine Called.mk _ _ (hE) ?_ | refine vA ?_ | refine vB ?_ | refine vC ?_ | refine vD ?_ | refine uA ?_ | refine uB ?_ | refine uC ?_ | refine uD ?_); conv => whnf) | ((first | apply Pick.dec | apply Pick.beq | apply Cond.dec | apply Cond.beq | apply Cond.nd | apply Pick.nd | apply Pick.mk | apply Cond.mk) <;> intro h <;> conv => whnf))
    exact End.mk rfl rfl
end Go.Proofs.YtlbocjcponegcaaGreat

set_option linter.unusedVariables false
set_option linter.unusedSimpArgs false
set_option maxRecDepth 100000
namespace Go.Proofs.YtlbocjcponegcaaGreat
open Go.AM
set_option maxHeartbeats 4000000 in
theorem ffold_3a (tabs : List Tb) (ht : tabs.length ≤ 9223372036854775807) (o : Int) (n s : ByteArray) (v : Vl) (sc p : Int) (a b c : Xp) (z0 z1 z2 : Xp) (q0 : constX z0 = false) (h0 : Ret Tryz.prog 19 [eE a, eL 2 cTb tabs] [] (eE z0) []) (h1 : Ret Tryz.prog 19 [eE b, eL 2 cTb tabs] [] (eE z1) []) (h2 : Ret Tryz.prog 19 [eE c, eL 2 cTb tabs] [] (eE z2) []) :
    Ret Tryz.prog 19 [eE (.mk 6 o n s v sc p [a, b, c]), eL 2 cTb tabs] [] (eE (foldN tabs 6 o n s v sc p [z0, z1, z2])) [] := by
  have hA := fargs_ret 6
  rw [show argsN 6 = 3 by decide] at hA
  have r0 : Xp.rows [a, b, c] (Int.toNat 0) = cE a := (rows3 a b c).1
  have r1 : Xp.rows [a, b, c] (Int.toNat 1) = cE b := (rows3 a b c).2.1
  have r2 : Xp.rows [a, b, c] (Int.toNat 2) = cE c := (rows3 a b c).2.2
  have w1 : IntKind.i64.wrap (0 + 1) = 1 := rfl
  have w2 : IntKind.i64.wrap (1 + 1) = 2 := rfl
  have w3 : IntKind.i64.wrap (2 + 1) = 3 := rfl
  have cn0 := fconst_ret z0
  have cn1 := fconst_ret z1
  have cn2 := fconst_ret z2
  rw [q0] at cn0
  rw [show foldN tabs 6 o n s v sc p [z0, z1, z2] = .mk 6 o n s v sc p [z0, z1, z2] by simp [foldN, argsN, *]]
  refine lend_x (e := 31) [z0, z1, z2] ?_
  rw [cE_mk]
  refine ret_of_body atCalls tok mixed Tryz.func19 (by kernel_rfl) rfl (k := 106) (rs := [.cell 4 31]) (by kernel_rfl) (by kernel_rfl) ?_
  (conv => whnf) <;> repeat' (first | (intro I hw hs; apply hs; conv => whnf) | (apply hs; conv => whnf) | (rw [w1]; conv => whnf) | (rw [w2]; conv => whnf) | (rw [w3]; conv => whnf) | ((conv => arg 1; whnf); rw [r0]; conv => whnf) | ((conv => arg 1; whnf); rw [r1]; conv => whnf) | ((conv => arg 1; whnf); rw [r2]; conv => whnf) | ((first | refine wN ?_ | refine wA ?_ | refine wB ?_ | refine wC ?_ | refine wD ?_ | refine Called.mk _ _ (hA) ?_ | refine Called.mk _ _ (h0) ?_ | refine Called.mk _ _ (h1) ?_ | refine Called.mk _ _ (h2) ?_ | refine Called.mk _ _ (cn0) ?_ | refine Called.mk _ _ (cn1) ?_ | refine Called.mk _ _ (cn2) ?_ | refine vA ?_ | refine vB ?_ | refine vC ?_ | refine vD ?_ | refine uA ?_ | refine uB ?_ | refine uC ?_ | refine uD ?_); conv => whnf) | ((first | apply Pick.dec | apply Pick.beq | apply Cond.dec | apply Cond.beq | apply Cond.nd | apply Pick.nd | apply Pick.mk | apply Cond.mk) <;> intro h <;> conv => whnf))
  exact EndH.mk [14] rfl rfl rfl
set_option maxHeartbeats 4000000 in
theorem ffold_3b (tabs : List Tb) (ht : tabs.length ≤ 9223372036854775807) (o : Int) (n s : ByteArray) (v : Vl) (sc p : Int) (a b c : Xp) (z0 z1 z2 : Xp) (q0 : constX z0 = true) (q1 : constX z1 = false) (h0 : Ret Tryz.prog 19 [eE a, eL 2 cTb tabs] [] (eE z0) []) (h1 : Ret Tryz.prog 19 [eE b, eL 2 cTb tabs] [] (eE z1) []) (h2 : Ret Tryz.prog 19 [eE c, eL 2 cTb tabs] [] (eE z2) []) :
    Ret Tryz.prog 19 [eE (.mk 6 o n s v sc p [a, b, c]), eL 2 cTb tabs] [] (eE (foldN tabs 6 o n s v sc p [z0, z1, z2])) [] := by
  have hA := fargs_ret 6
  rw [show argsN 6 = 3 by decide] at hA
  have r0 : Xp.rows [a, b, c] (Int.toNat 0) = cE a := (rows3 a b c).1
  have r1 : Xp.rows [a, b, c] (Int.toNat 1) = cE b := (rows3 a b c).2.1
  have r2 : Xp.rows [a, b, c] (Int.toNat 2) = cE c := (rows3 a b c).2.2
  have w1 : IntKind.i64.wrap (0 + 1) = 1 := rfl
  have w2 : IntKind.i64.wrap (1 + 1) = 2 := rfl
  have w3 : IntKind.i64.wrap (2 + 1) = 3 := rfl
  have cn0 := fconst_ret z0
  have cn1 := fconst_ret z1
  have cn2 := fconst_ret z2
  rw [q0] at cn0
  rw [q1] at cn1
  have hV := vCheck_ret z0.val
  by_cases hv : z0.val.valid
  ·
    rw [checkV_0 hv] at hV
    by_cases hk : z0.val.kind = 2
    ·
      cases hf : z0.val.flag
      ·
        rw [show foldN tabs 6 o n s v sc p [z0, z1, z2] = z2 by simp [foldN, argsN, *]]
        rw [cE_mk]
        refine ret_of_body atCalls tok mixed Tryz.func19 (by kernel_rfl) rfl (k := 106) (rs := [.cell 4 31]) (by kernel_rfl) (by kernel_rfl) ?_
        (conv => whnf) <;> repeat' (first | (intro I hw hs; apply hs; conv => whnf) | (apply hs; conv => whnf) | (rw [w1]; conv => whnf) | (rw [w2]; conv => whnf) | (rw [w3]; conv => whnf) | ((conv => arg 1; whnf); rw [r0]; conv => whnf) | ((conv => arg 1; whnf); rw [r1]; conv => whnf) | ((conv => arg 1; whnf); rw [r2]; conv => whnf) | ((first | refine wN ?_ | refine wA ?_ | refine wB ?_ | refine wC ?_ | refine wD ?_ | refine Called.mk _ _ (hA) ?_ | refine Called.mk _ _ (h0) ?_ | refine Called.mk _ _ (h1) ?_ | refine Called.mk _ _ (h2) ?_ | refine Called.mk _ _ (cn0) ?_ | refine Called.mk _ _ (cn1) ?_ | refine Called.mk _ _ (cn2) ?_ | refine Called.mk _ _ (hV) ?_ | refine vA ?_ | refine vB ?_ | refine vC ?_ | refine vD ?_ | refine uA ?_ | refine uB ?_ | refine uC ?_ | refine uD ?_); conv => whnf) | ((first | apply Pick.dec | apply Pick.beq | apply Cond.dec | apply Cond.beq | apply Cond.nd | apply Pick.nd | apply Pick.mk | apply Cond.mk) <;> intro h <;> conv => whnf))
        exact End.mk rfl rfl
      ·
        rw [show foldN tabs 6 o n s v sc p [z0, z1, z2] = z1 by simp [foldN, argsN, *]]
        rw [cE_mk]
        refine ret_of_body atCalls tok mixed Tryz.func19 (by kernel_rfl) rfl (k := 106) (rs := [.cell 4 31]) (by kernel_rfl) (by kernel_rfl) ?_
        (conv => whnf) <;> repeat' (first | (intro I hw hs; apply hs; conv => whnf) | (apply hs; conv => whnf) | (rw [w1]; conv => whnf) | (rw [w2]; conv => whnf) | (rw [w3]; conv => whnf) | ((conv => arg 1; whnf); rw [r0]; conv => whnf) | ((conv => arg 1; whnf); rw [r1]; conv => whnf) | ((conv => arg 1; whnf); rw [r2]; conv => whnf) | ((first | refine wN ?_ | refine wA ?_ | refine wB ?_ | refine wC ?_ | refine wD ?_ | refine Called.mk _ _ (hA) ?_ | refine Called.mk _ _ (h0) ?_ | refine Called.mk _ _ (h1) ?_ | refine Called.mk _ _ (h2) ?_ | refine Called.mk _ _ (cn0) ?_ | refine Called.mk _ _ (cn1) ?_ | refine Called.mk _ _ (cn2) ?_ | refine Called.mk _ _ (hV) ?_ | refine vA ?_ | refine vB ?_ | refine vC ?_ | refine vD ?_ | refine uA ?_ | refine uB ?_ | refine uC ?_ | refine uD ?_); conv => whnf) | ((first | apply Pick.dec | apply Pick.beq | apply Cond.dec | apply Cond.beq | apply Cond.nd | apply Pick.nd | apply Pick.mk | apply Cond.mk) <;> intro h <;> conv => whnf))
        exact End.mk rfl rfl
    ·
      rw [show foldN tabs 6 o n s v sc p [z0, z1, z2] = .mk 6 o n s v sc p [z0, z1, z2] by simp [foldN, argsN, *]]
      refine lend_x (e := 31) [z0, z1, z2] ?_
      rw [cE_mk]
      refine ret_of_body atCalls tok mixed Tryz.func19 (by kernel_rfl) rfl (k := 106) (rs := [.cell 4 31]) (by kernel_rfl) (by kernel_rfl) ?_
      (conv => whnf) <;> repeat' (first | (intro I hw hs; apply hs; conv => whnf) | (apply hs; conv => whnf) | (rw [w1]; conv => whnf) | (rw [w2]; conv => whnf) | (rw [w3]; conv => whnf) | ((conv => arg 1; whnf); rw [r0]; conv => whnf) | ((conv => arg 1; whnf); rw [r1]; conv => whnf) | ((conv => arg 1; whnf); rw [r2]; conv => whnf) | ((first | refine wN ?_ | refine wA ?_ | refine wB ?_ | refine wC ?_ | refine wD ?_ | refine Called.mk _ _ (hA) ?_ | refine Called.mk _ _ (h0) ?_ | refine Called.mk _ _ (h1) ?_ | refine Called.mk _ _ (h2) ?_ | refine Called.mk _ _ (cn0) ?_ | refine Called.mk _ _ (cn1) ?_ | refine Called.mk _ _ (cn2) ?_ | refine Called.mk _ _ (hV) ?_ | refine vA ?_ | refine vB ?_ | refine vC ?_ | refine vD ?_ | refine uA ?_ | refine uB ?_ | refine uC ?_ | refine uD ?_); conv => whnf) | ((first | apply Pick.dec | apply Pick.beq | apply Cond.dec | apply Cond.beq | apply Cond.nd | apply Pick.nd | apply Pick.mk | apply Cond.mk) <;> intro h <;> conv => whnf))
      exact EndH.mk [14] rfl rfl rfl
  ·
    rw [checkV_1 hv] at hV
    rw [show foldN tabs 6 o n s v sc p [z0, z1, z2] = .mk 6 o n s v sc p [z0, z1, z2] by simp [foldN, argsN, *]]
    refine lend_x (e := 31) [z0, z1, z2] ?_
    rw [cE_mk]
    refine ret_of_body atCalls tok mixed Tryz.func19 (by kernel_rfl) rfl (k := 106) (rs := [.cell 4 31]) (by kernel_rfl) (by kernel_rfl) ?_
    (conv => whnf) <;> repeat' (first | (intro I hw hs; apply hs; conv => whnf) | (apply hs; conv => whnf) | (rw [w1]; conv => whnf) | (rw [w2]; conv => whnf) | (rw [w3]; conv => whnf) | ((conv => arg 1; whnf); rw [r0]; conv => whnf) | ((conv => arg 1; whnf); rw [r1]; conv => whnf) | ((conv => arg 1; whnf); rw [r2]; conv => whnf) | ((first | refine wN ?_ | refine wA ?_ | refine wB ?_ | refine wC ?_ | refine wD ?_ | refine Called.mk _ _ (hA) ?_ | refine Called.mk _ _ (h0) ?_ | refine Called.mk _ _ (h1) ?_ | refine Called.mk _ _ (h2) ?_ | refine Called.mk _ _ (cn0) ?_ | refine Called.mk _ _ (cn1) ?_ | refine Called.mk _ _ (cn2) ?_ | refine Called.mk _ _ (hV) ?_ | refine vA ?_ | refine vB ?_ | refine vC ?_ | refine vD ?_ | refine uA ?_ | refine uB ?_ | refine uC ?_ | refine uD ?_); conv => whnf) | ((first | apply Pick.dec | apply Pick.beq | apply Cond.dec | apply Cond.beq | apply Cond.nd | apply Pick.nd | apply Pick.mk | apply Cond.mk) <;> intro h <;> conv => whnf))
    exact EndH.mk [14] rfl rfl rfl
set_option maxHeartbeats 4000000 in
theorem ffold_3c (tabs : List Tb) (ht : tabs.length ≤ 9223372036854775807) (o : Int) (n s : ByteArray) (v : Vl) (sc p : Int) (a b c : Xp) (z0 z1 z2 : Xp) (q0 : constX z0 = true) (q1 : constX z1 = true) (q2 : constX z2 = false) (h0 : Ret Tryz.prog 19 [eE a, eL 2 cTb tabs] [] (eE z0) []) (h1 : Ret Tryz.prog 19 [eE b, eL 2 cTb tabs] [] (eE z1) []) (h2 : Ret Tryz.prog 19 [eE c, eL 2 cTb tabs] [] (eE z2) []) :
    Ret Tryz.prog 19 [eE (.mk 6 o n s v sc p [a, b, c]), eL 2 cTb tabs] [] (eE (foldN tabs 6 o n s v sc p [z0, z1, z2])) [] := by
  have hA := fargs_ret 6
  rw [show argsN 6 = 3 by decide] at hA
  have r0 : Xp.rows [a, b, c] (Int.toNat 0) = cE a := (rows3 a b c).1
  have r1 : Xp.rows [a, b, c] (Int.toNat 1) = cE b := (rows3 a b c).2.1
  have r2 : Xp.rows [a, b, c] (Int.toNat 2) = cE c := (rows3 a b c).2.2
  have w1 : IntKind.i64.wrap (0 + 1) = 1 := rfl
  have w2 : IntKind.i64.wrap (1 + 1) = 2 := rfl
  have w3 : IntKind.i64.wrap (2 + 1) = 3 := rfl
  have cn0 := fconst_ret z0
  have cn1 := fconst_ret z1
  have cn2 := fconst_ret z2
  rw [q0] at cn0
  rw [q1] at cn1
  rw [q2] at cn2
  have hV := vCheck_ret z0.val
  by_cases hv : z0.val.valid
  ·
    rw [checkV_0 hv] at hV
    by_cases hk : z0.val.kind = 2
    ·
      cases hf : z0.val.flag
      ·
        rw [show foldN tabs 6 o n s v sc p [z0, z1, z2] = z2 by simp [foldN, argsN, *]]
        rw [cE_mk]
        refine ret_of_body atCalls tok mixed Tryz.func19 (by kernel_rfl) rfl (k := 106) (rs := [.cell 4 31]) (by kernel_rfl) (by kernel_rfl) ?_
        (conv => whnf) <;> repeat' (first | (intro I hw hs; apply hs; conv => whnf) | (apply hs; conv => whnf) | (rw [w1]; conv => whnf) | (rw [w2]; conv => whnf) | (rw [w3]; conv => whnf) | ((conv => arg 1; whnf); rw [r0]; conv => whnf) | ((conv => arg 1; whnf); rw [r1]; conv => whnf) | ((conv => arg 1; whnf); rw [r2]; conv => whnf) | ((first | refine wN ?_ | refine wA ?_ | refine wB ?_ | refine wC ?_ | refine wD ?_ | refine Called.mk _ _ (hA) ?_ | refine Called.mk _ _ (h0) ?_ | refine Called.mk _ _ (h1) ?_ | refine Called.mk _ _ (h2) ?_ | refine Called.mk _ _ (cn0) ?_ | refine Called.mk _ _ (cn1) ?_ | refine Called.mk _ _ (cn2) ?_ | refine Called.mk _ _ (hV) ?_ | refine vA ?_ | refine vB ?_ | refine vC ?_ | refine vD ?_ | refine uA ?_ | refine uB ?_ | refine uC ?_ | refine uD ?_); conv => whnf) | ((first | apply Pick.dec | apply Pick.beq | apply Cond.dec | apply Cond.beq | apply Cond.nd | apply Pick.nd | apply Pick.mk | apply Cond.mk) <;> intro h <;> conv => whnf))
        exact End.mk rfl rfl
      ·
        rw [show foldN tabs 6 o n s v sc p [z0, z1, z2] = z1 by simp [foldN, argsN, *]]
        rw [cE_mk]
        refine ret_of_body atCalls tok mixed Tryz.func19 (by kernel_rfl) rfl (k := 106) (rs := [.cell 4 31]) (by kernel_rfl) (by kernel_rfl) ?_
        (conv => whnf) <;> repeat' (first | (intro I hw hs; apply hs; conv => whnf) | (apply hs; conv => whnf) | (rw [w1]; conv => whnf) | (rw [w2]; conv => whnf) | (rw [w3]; conv => whnf) | ((conv => arg 1; whnf); rw [r0]; conv => whnf) | ((conv => arg 1; whnf); rw [r1]; conv => whnf) | ((conv => arg 1; whnf); rw [r2]; conv => whnf) | ((first | refine wN ?_ | refine wA ?_ | refine wB ?_ | refine wC ?_ | refine wD ?_ | refine Called.mk _ _ (hA) ?_ | refine Called.mk _ _ (h0) ?_ | refine Called.mk _ _ (h1) ?_ | refine Called.mk _ _ (h2) ?_ | refine Called.mk _ _ (cn0) ?_ | refine Called.mk _ _ (cn1) ?_ | refine Called.mk _ _ (cn2) ?_ | refine Called.mk _ _ (hV) ?_ | refine vA ?_ | refine vB ?_ | refine vC ?_ | refine vD ?_ | refine uA ?_ | refine uB ?_ | refine uC ?_ | refine uD ?_); conv => whnf) | ((first | apply Pick.dec | apply Pick.beq | apply Cond.dec | apply Cond.beq | apply Cond.nd | apply Pick.nd | apply Pick.mk | apply Cond.mk) <;> intro h <;> conv => whnf))
        exact End.mk rfl rfl
    ·
      rw [show foldN tabs 6 o n s v sc p [z0, z1, z2] = .mk 6 o n s v sc p [z0, z1, z2] by simp [foldN, argsN, *]]
      refine lend_x (e := 31) [z0, z1, z2] ?_
      rw [cE_mk]
      refine ret_of_body atCalls tok mixed Tryz.func19 (by kernel_rfl) rfl (k := 106) (rs := [.cell 4 31]) (by kernel_rfl) (by kernel_rfl) ?_
      (conv => whnf) <;> repeat' (first | (intro I hw hs; apply hs; conv => whnf) | (apply hs; conv => whnf) | (rw [w1]; conv => whnf) | (rw [w2]; conv => whnf) | (rw [w3]; conv => whnf) | ((conv => arg 1; whnf); rw [r0]; conv => whnf) | ((conv => arg 1; whnf); rw [r1]; conv => whnf) | ((conv => arg 1; whnf); rw [r2]; conv => whnf) | ((first | refine wN ?_ | refine wA ?_ | refine wB ?_ | refine wC ?_ | refine wD ?_ | refine Called.mk _ _ (hA) ?_ | refine Called.mk _ _ (h0) ?_ | refine Called.mk _ _ (h1) ?_ | refine Called.mk _ _ (h2) ?_ | refine Called.mk _ _ (cn0) ?_ | refine Called.mk _ _ (cn1) ?_ | refine Called.mk _ _ (cn2) ?_ | refine Called.mk _ _ (hV) ?_ | refine vA ?_ | refine vB ?_ | refine vC ?_ | refine vD ?_ | refine uA ?_ | refine uB ?_ | refine uC ?_ | refine uD ?_); conv => whnf) | ((first | apply Pick.dec | apply Pick.beq | apply Cond.dec | apply Cond.beq | apply Cond.nd | apply Pick.nd | apply Pick.mk | apply Cond.mk) <;> intro h <;> conv => whnf))
      exact EndH.mk [14] rfl rfl rfl
  ·
    rw [checkV_1 hv] at hV
    rw [show foldN tabs 6 o n s v sc p [z0, z1, z2] = .mk 6 o n s v sc p [z0, z1, z2] by simp [foldN, argsN, *]]
    refine lend_x (e := 31) [z0, z1, z2] ?_
    rw [cE_mk]
    refine ret_of_body atCalls tok mixed Tryz.func19 (by kernel_rfl) rfl (k := 106) (rs := [.cell 4 31]) (by kernel_rfl) (by kernel_rfl) ?_
    (conv => whnf) <;> repeat' (first | (intro I hw hs; apply hs; conv => whnf) | (apply hs; conv => whnf) | (rw [w1]; conv => whnf) | (rw [w2]; conv => whnf) | (rw [w3]; conv => whnf) | ((conv => arg 1; whnf); rw [r0]; conv => whnf) | ((conv => arg 1; whnf); rw [r1]; conv => whnf) | ((conv => arg 1; whnf); rw [r2]; conv => whnf) | ((first | refine wN ?_ | refine wA ?_ | refine wB ?_ | refine wC ?_ | refine wD ?_ | refine Called.mk _ _ (hA) ?_ | refine Called.mk _ _ (h0) ?_ | refine Called.mk _ _ (h1) ?_ | refine Called.mk _ _ (h2) ?_ | refine Called.mk _ _ (cn0) ?_ | refine Called.mk _ _ (cn1) ?_ | refine Called.mk _ _ (cn2) ?_ | refine Called.mk _ _ (hV) ?_ | refine vA ?_ | refine vB ?_ | refine vC ?_ | refine vD ?_ | refine uA ?_ | refine uB ?_ | refine uC ?_ | refine uD ?_); conv => whnf) | ((first | apply Pick.dec | apply Pick.beq | apply Cond.dec | apply Cond.beq | apply Cond.nd | apply Pick.nd | apply Pick.mk | apply Cond.mk) <;> intro h <;> conv => whnf))
    exact EndH.mk [14] rfl rfl rfl
set_option maxHeartbeats 4000000 in
theorem ffold_3d (tabs : List Tb) (ht : tabs.length ≤ 9223372036854775807) (o : Int) (n s : ByteArray) (v : Vl) (sc p : Int) (a b c : Xp) (z0 z1 z2 : Xp) (q0 : constX z0 = true) (q1 : constX z1 = true) (q2 : constX z2 = true) (h0 : Ret Tryz.prog 19 [eE a, eL 2 cTb tabs] [] (eE z0) []) (h1 : Ret Tryz.prog 19 [eE b, eL 2 cTb tabs] [] (eE z1) []) (h2 : Ret Tryz.prog 19 [eE c, eL 2 cTb tabs] [] (eE z2) []) :
    Ret Tryz.prog 19 [eE (.mk 6 o n s v sc p [a, b, c]), eL 2 cTb tabs] [] (eE (foldN tabs 6 o n s v sc p [z0, z1, z2])) [] := by
  have hA := fargs_ret 6
  rw [show argsN 6 = 3 by decide] at hA
  have r0 : Xp.rows [a, b, c] (Int.toNat 0) = cE a := (rows3 a b c).1
  have r1 : Xp.rows [a, b, c] (Int.toNat 1) = cE b := (rows3 a b c).2.1
  have r2 : Xp.rows [a, b, c] (Int.toNat 2) = cE c := (rows3 a b c).2.2
  have w1 : IntKind.i64.wrap (0 + 1) = 1 := rfl
  have w2 : IntKind.i64.wrap (1 + 1) = 2 := rfl
  have w3 : IntKind.i64.wrap (2 + 1) = 3 := rfl
  have cn0 := fconst_ret z0
  have cn1 := fconst_ret z1
  have cn2 := fconst_ret z2
  rw [q0] at cn0
  rw [q1] at cn1
  rw [q2] at cn2
  have hV := vCheck_ret z0.val
  by_cases hv : z0.val.valid
  ·
    rw [checkV_0 hv] at hV
    by_cases hk : z0.val.kind = 2
    ·
      rw [show foldN tabs 6 o n s v sc p [z0, z1, z2] = c0 (evalE (env0 tabs) (.mk 6 o n s v sc p [z0, z1, z2])) by simp [foldN, argsN, *]]
      have hE := feval_ret true true (env0 tabs) (env0_ok ht) (.mk 6 o n s v sc p [z0, z1, z2])
      replace hE := Ret.ex (g := growG [z0, z1, z2] 3) hE (fun i hi => (growG_at _ _ i hi).trans (rows_at _ i hi).symm)
      generalize evalE (env0 tabs) (.mk 6 o n s v sc p [z0, z1, z2]) = w at *
      refine nil_x ?_
      rw [cE_mk]
      refine ret_of_body atCalls tok mixed Tryz.func19 (by kernel_rfl) rfl (k := 106) (rs := [.cell 4 31]) (by kernel_rfl) (by kernel_rfl) ?_
      (conv => whnf) <;> repeat' (first | (intro I hw hs; apply hs; conv => whnf) | (apply hs; conv => whnf) | (rw [w1]; conv => whnf) | (rw [w2]; conv => whnf) | (rw [w3]; conv => whnf) | ((conv => arg 1; whnf); rw [r0]; conv => whnf) | ((conv => arg 1; whnf); rw [r1]; conv => whnf) | ((conv => arg 1; whnf); rw [r2]; conv => whnf) | ((first | refine wN ?_ | refine wA ?_ | refine wB ?_ | refine wC ?_ | refine wD ?_ | refine Called.mk _ _ (hA) ?_ | refine Called.mk _ _ (h0) ?_ | refine Called.mk _ _ (h1) ?_ | refine Called.mk _ _ (h2) ?_ | refine Called.mk _ _ (cn0) ?_ | refine Called.mk _ _ (cn1) ?_ | refine Called.mk _ _ (cn2) ?_ | refine Called.mk _ _ (hE) ?_ | refine Called.mk _ _ (hV) ?_ | refine vA ?_ | refine vB ?_ | refine vC ?_ | refine vD ?_ | refine uA ?_ | refine uB ?_ | refine uC ?_ | refine uD ?_); conv => whnf) | ((first | apply Pick.dec | apply Pick.beq | apply Cond.dec | apply Cond.beq | apply Cond.nd | apply Pick.nd | apply Pick.mk | apply Cond.mk) <;> intro h <;> conv => whnf))
      exact End.mk rfl rfl
    ·
      rw [show foldN tabs 6 o n s v sc p [z0, z1, z2] = c0 (evalE (env0 tabs) (.mk 6 o n s v sc p [z0, z1, z2])) by simp [foldN, argsN, *]]
      have hE := feval_ret true true (env0 tabs) (env0_ok ht) (.mk 6 o n s v sc p [z0, z1, z2])
      replace hE := Ret.ex (g := growG [z0, z1, z2] 3) hE (fun i hi => (growG_at _ _ i hi).trans (rows_at _ i hi).symm)
      generalize evalE (env0 tabs) (.mk 6 o n s v sc p [z0, z1, z2]) = w at *
      refine nil_x ?_
      rw [cE_mk]
      refine ret_of_body atCalls tok mixed Tryz.func19 (by kernel_rfl) rfl (k := 106) (rs := [.cell 4 31]) (by kernel_rfl) (by kernel_rfl) ?_
      (conv => whnf) <;> repeat' (first | (intro I hw hs; apply hs; conv => whnf) | (apply hs; conv => whnf) | (rw [w1]; conv => whnf) | (rw [w2]; conv => whnf) | (rw [w3]; conv => whnf) | ((conv => arg 1; whnf); rw [r0]; conv => whnf) | ((conv => arg 1; whnf); rw [r1]; conv => whnf) | ((conv => arg 1; whnf); rw [r2]; conv => whnf) | ((first | refine wN ?_ | refine wA ?_ | refine wB ?_ | refine wC ?_ | refine wD ?_ | refine Called.mk _ _ (hA) ?_ | refine Called.mk _ _ (h0) ?_ | refine Called.mk _ _ (h1) ?_ | refine Called.mk _ _ (h2) ?_ | refine Called.mk _ _ (cn0) ?_ | refine Called.mk _ _ (cn1) ?_ | refine Called.mk _ _ (cn2) ?_ | refine Called.mk _ _ (hE) ?_ | refine Called.mk _ _ (hV) ?_ | refine vA ?_ | refine vB ?_ | refine vC ?_ | refine vD ?_ | refine uA ?_ | refine uB ?_ | refine uC ?_ | refine uD ?_); conv => whnf) | ((first | apply Pick.dec | apply Pick.beq | apply Cond.dec | apply Cond.beq | apply Cond.nd | apply Pick.nd | apply Pick.mk | apply Cond.mk) <;> intro h <;> conv => whnf))
      exact End.mk rfl rfl
  ·
    rw [checkV_1 hv] at hV
    rw [show foldN tabs 6 o n s v sc p [z0, z1, z2] = c0 (evalE (env0 tabs) (.mk 6 o n s v sc p [z0, z1, z2])) by simp [foldN, argsN, *]]
    have hE := feval_ret true true (env0 tabs) (env0_ok ht) (.mk 6 o n s v sc p [z0, z1, z2])
    replace hE := Ret.ex (g := growG [z0, z1, z2] 3) hE (fun i hi => (growG_at _ _ i hi).trans (rows_at _ i hi).symm)
    generalize evalE (env0 tabs) (.mk 6 o n s v sc p [z0, z1, z2]) = w at *
    refine nil_x ?_
    rw [cE_mk]
    refine ret_of_body atCalls tok mixed Tryz.func19 (by kernel_rfl) rfl (k := 106) (rs := [.cell 4 31]) (by kernel_rfl) (by kernel_rfl) ?_
    (conv => whnf) <;> repeat' (first | (intro I hw hs; apply hs; conv => whnf) | (apply hs; conv => whnf) | (rw [w1]; conv => whnf) | (rw [w2]; conv => whnf) | (rw [w3]; conv => whnf) | ((conv => arg 1; whnf); rw [r0]; conv => whnf) | ((conv => arg 1; whnf); rw [r1]; conv => whnf) | ((conv => arg 1; whnf); rw [r2]; conv => whnf) | ((first | refine wN ?_ | refine wA ?_ | refine wB ?_ | refine wC ?_ | refine wD ?_ | refine Called.mk _ _ (hA) ?_ | refine Called.mk _ _ (h0) ?_ | refine Called.mk _ _ (h1) ?_ | refine Called.mk _ _ (h2) ?_ | refine Called.mk _ _ (cn0) ?_ | refine Called.mk _ _ (cn1) ?_ | refine Called.mk _ _ (cn2) ?_ | refine Called.mk _ _ (hE) ?_ | refine Called.mk _ _ (hV) ?_ | refine vA ?_ | refine vB ?_ | refine vC ?_ | refine vD ?_ | refine uA ?_ | refine uB ?_ | refine uC ?_ | refine uD ?_); conv => whnf) | ((first | apply Pick.dec | apply Pick.beq | apply Cond.dec | apply Cond.beq | apply Cond.nd | apply Pick.nd | apply Pick.mk | apply Cond.mk) <;> intro h <;> conv => whnf))
    exact End.mk rfl rfl
set_option maxHeartbeats 4000000 in
theorem ffold_3 (tabs : List Tb) (ht : tabs.length ≤ 9223372036854775807) (o : Int) (n s : ByteArray) (v : Vl) (sc p : Int) (a b c : Xp) (z0 z1 z2 : Xp) (h0 : Ret Tryz.prog 19 [eE a, eL 2 cTb tabs] [] (eE z0) []) (h1 : Ret Tryz.prog 19 [eE b, eL 2 cTb tabs] [] (eE z1) []) (h2 : Ret Tryz.prog 19 [eE c, eL 2 cTb tabs] [] (eE z2) []) :
    Ret Tryz.prog 19 [eE (.mk 6 o n s v sc p [a, b, c]), eL 2 cTb tabs] [] (eE (foldN tabs 6 o n s v sc p [z0, z1, z2])) [] := by
  cases q0 : constX z0
  · exact ffold_3a tabs ht o n s v sc p a b c z0 z1 z2 q0 h0 h1 h2
  cases q1 : constX z1
  · exact ffold_3b tabs ht o n s v sc p a b c z0 z1 z2 q0 q1 h0 h1 h2
  cases q2 : constX z2
  · exact ffold_3c tabs ht o n s v sc p a b c z0 z1 z2 q0 q1 q2 h0 h1 h2
  · exact ffold_3d tabs ht o n s v sc p a b c z0 z1 z2 q0 q1 q2 h0 h1 h2
end Go.Proofs.YtlbocjcponegcaaGreat

set_option linter.unusedVariables false
set_option linter.unusedSimpArgs false
set_option maxRecDepth 100000
namespace Go.Proofs.YtlbocjcponegcaaGreat
open Go.AM
set_option maxHeartbeats 8000000 in
theorem ffold_w (tabs : List Tb) (ht : tabs.length ≤ 9223372036854775807) (k : Int) (o : Int) (n s : ByteArray) (v : Vl) (sc p : Int) (l : List Xp) (hlen : l.length ≤ maxLen) (hbig : l.length * 176 ≤ 140737488355328) (h1 : (l.length : Int) ≠ argsN k)
    (ih : ∀ y ∈ l, Ret Tryz.prog 19 [eE y, eL 2 cTb tabs] [] (eE (foldE tabs y)) []) : Ret Tryz.prog 19 [eE (.mk k o n s v sc p l), eL 2 cTb tabs] [] (eE (.mk k o n s v sc p (l.map (foldE tabs)))) [] := by
  have hA := fargs_ret k
  have hm : maxLen ≤ 9223372036854775807 := by decide
  have ke : ((l.length : Int) != argsN k) = true := by simp only [bne_iff_ne, ne_eq]; omega
  have hml : (l.map (foldE tabs)).length = l.length := List.length_map ..
  have hat : ∀ i (h : i < l.length), (l.map (foldE tabs)).getD i xp0 = foldE tabs l[i] := fun i h => by
    rw [List.getD_eq_getElem?_getD, List.getElem?_map, List.getElem?_eq_getElem h]; rfl
  cases hl : l with
  | nil =>
    subst hl
    refine nil_x ?_
    rw [cE_mk]
    refine ret_of_body atCalls tok mixed Tryz.func19 (by kernel_rfl) rfl (k := 106) (rs := [.cell 4 31]) (by kernel_rfl) (by kernel_rfl) ?_
    (conv => whnf) <;> repeat' (first | (intro I hw hs; apply hs; conv => whnf) | (apply hs; conv => whnf) | ((first | refine wN ?_ | refine wA ?_ | refine wB ?_ | refine wC ?_ | refine wD ?_ | refine Called.mk _ _ (hA) ?_ | refine vA ?_ | refine vB ?_ | refine vC ?_ | refine vD ?_ | refine uA ?_ | refine uB ?_ | refine uC ?_ | refine uD ?_); conv => whnf) | ((first | apply Pick.dec | apply Pick.beq | apply Cond.dec | apply Cond.beq | apply Cond.nd | apply Pick.nd | apply Pick.mk | apply Cond.mk) <;> intro h <;> conv => whnf))
    exact End.mk rfl rfl
  | cons y0 l0 =>
    rw [← hl]
    have hpos : 1 ≤ l.length := by rw [hl]; simp
    clear hl y0 l0
    refine lend_x (e := 31) _ ?_
    rw [hml]
    generalize l.map (foldE tabs) = m at *
    rw [cE_mk]
    refine ret_of_body atCalls tok mixed Tryz.func19 (by kernel_rfl) rfl (k := 106) (rs := [.cell 4 31]) (by kernel_rfl) (by kernel_rfl) ?_
    (conv => whnf) <;> repeat' (first | ((first | refine wN ?_ | refine wA ?_ | refine wB ?_ | refine wC ?_ | refine wD ?_ | refine vA ?_ | refine vB ?_ | refine vC ?_ | refine vD ?_ | refine uA ?_ | refine uB ?_ | refine uC ?_ | refine uD ?_); conv => whnf) | ((first | apply Pick.dec | apply Pick.beq | apply Cond.dec | apply Cond.beq | apply Cond.nd | apply Pick.nd | apply Pick.mk | apply Cond.mk) <;> intro h <;> conv => whnf))
    intro I hw hs
    have turn : ∀ (d i : Nat) (q : Bool), i + d = l.length → 1 ≤ i → I [.und, eL 2 cTb tabs, .ptr 0 0, .und, .ptr 1 0, .ptr 2 0, .bool q, .und, .und, .und, .und, .und, .und, .ext 17 l.length (Xp.rows l), .int .i64 (l.length : Int), .int .i64 (i : Int), .und, .und, .und, .und, .und, .und, .und, .und, .und, .und, .und, .und, .und, .und, .und, .und, .und, .und, .und, .und, .und, .und, .und, .und, .und, .und, .und, .und, .und, .und, .und, .und, .und, .und, .und, .und, .und, .und, .und, .und, .und, .und, .und, .und, .und, .und, .und, .und, .und, .und, .und, .und, .und, .und, .und, .und, .und, .und, .und, .und, .und, .und, .und, .und, .und, .und, .und, .und, .und, .und, .und, .und, .und, .und, .und, .und, .und, .und, .und, .und, .und, .und, .und, .und, .und, .und, .und, .und, .und, .und] [.cells (hdX k o n s v sc p ++ [.ext 17 l.length (Xp.rows l)]), .cells (tab 31).zero, .cells (hdX k o n s v sc p ++ [.row 3 i]), .row 31 17 i (growG m i) i] := by
      intro d
      induction d with
      | zero =>
        intro i q hi h1i
        obtain rfl : i = l.length := by omega
        apply hs
        conv => whnf
        refine Cond.ff (decF (by omega)) ?_
        (conv => whnf) <;> repeat' (first | ((first | refine wN ?_ | refine wA ?_ | refine wB ?_ | refine wC ?_ | refine wD ?_ | refine Called.mk _ _ (hA) ?_ | refine vA ?_ | refine vB ?_ | refine vC ?_ | refine vD ?_ | refine uA ?_ | refine uB ?_ | refine uC ?_ | refine uD ?_); conv => whnf) | ((first | apply Pick.dec | apply Pick.beq | apply Cond.dec | apply Cond.beq | apply Cond.nd | apply Pick.nd | apply Pick.mk | apply Cond.mk) <;> intro h <;> conv => whnf))
        exact EndH.mk [3] rfl rfl rfl
      | succ d im =>
        intro i q hi h1i
        have hil : i < l.length := by omega
        have gk : Xp.rows l (Int.toNat (i : Int)) = cE l[i] := by rw [Int.toNat_natCast]; exact (Xp.rows_ext l).2 i hil
        have e1 : IntKind.i64.wrap ((i : Int) + 1) = ((i + 1 : Nat) : Int) := by rw [wi64_id (by omega) (by omega)]; omega
        have hc := ih l[i] (List.getElem_mem hil)
        have hz := hat i hil
        obtain ⟨i, rfl⟩ : ∃ j, i = j + 1 := ⟨i - 1, by omega⟩
        rw [← hz] at hc
        have hcc := fconst_ret (m.getD (i + 1) xp0)
        generalize l[i + 1] = y at *
        apply hs
        conv => whnf
        refine Cond.tt (decT (by omega)) ?_
        (conv => whnf) <;> repeat' (first | ((conv => arg 1; whnf); rw [gk]; conv => whnf) | ((first | refine wN ?_ | refine wA ?_ | refine wB ?_ | refine wC ?_ | refine wD ?_ | refine Called.mk _ _ (hc) ?_ | refine Called.mk _ _ (hcc) ?_ | refine vA ?_ | refine vB ?_ | refine vC ?_ | refine vD ?_ | refine uA ?_ | refine uB ?_ | refine uC ?_ | refine uD ?_); conv => whnf) | ((first | apply Pick.dec | apply Pick.beq | apply Cond.dec | apply Cond.beq | apply Cond.nd | apply Pick.nd | apply Pick.mk | apply Cond.mk) <;> intro h <;> conv => whnf))
        all_goals
          rw [e1]
          apply hw [0, 1, 2, 7] [false, true, true, false, true, true, true, false, false, false, false, false, false, true, true, true] _ _ rfl
          exact im (i + 1 + 1) _ (by omega) (by omega)
    apply hs
    conv => whnf
    have gk : Xp.rows l (Int.toNat (0 : Int)) = cE l[0] := (Xp.rows_ext l).2 0 (by omega)
    have hc := ih l[0] (List.getElem_mem (by omega))
    rw [← hat 0 (by omega)] at hc
    have hcc := fconst_ret (m.getD 0 xp0)
    generalize l[0] = y at *
    refine Cond.tt (decT (by omega)) ?_
    (conv => whnf) <;> repeat' (first | ((conv => arg 1; whnf); rw [gk]; conv => whnf) | ((first | refine wN ?_ | refine wA ?_ | refine wB ?_ | refine wC ?_ | refine wD ?_ | refine Called.mk _ _ (hc) ?_ | refine Called.mk _ _ (hcc) ?_ | refine vA ?_ | refine vB ?_ | refine vC ?_ | refine vD ?_ | refine uA ?_ | refine uB ?_ | refine uC ?_ | refine uD ?_); conv => whnf) | ((first | apply Pick.dec | apply Pick.beq | apply Cond.dec | apply Cond.beq | apply Cond.nd | apply Pick.nd | apply Pick.mk | apply Cond.mk) <;> intro h <;> conv => whnf))
    all_goals
      apply hw [0, 1, 2, 6] [false, true, true, false, true, true, true, false, false, false, false, false, false, true, true, true] _ _ rfl
      exact turn (l.length - 1) 1 _ (by omega) (by omega)
theorem ffold_ret (tabs : List Tb) (ht : tabs.length ≤ 9223372036854775807) (x : Xp) : x.Wf → x.Lens → Ret Tryz.prog 19 [eE x, eL 2 cTb tabs] [] (eE (foldE tabs x)) [] := by
  refine Xp.ind (Q := fun x => x.Wf → x.Lens → Ret Tryz.prog 19 [eE x, eL 2 cTb tabs] [] (eE (foldE tabs x)) []) ?_ x
  clear x
  intro x ih hx hL
  obtain ⟨k, o, n, s, v, sc, p, l⟩ := x
  have ih : ∀ y ∈ l, Ret Tryz.prog 19 [eE y, eL 2 cTb tabs] [] (eE (foldE tabs y)) [] := fun y hy => ih y hy (hx.arg hy) (hL.arg hy)
  rw [foldE_mk]
  have hcv : ∀ z ∈ l.map (foldE tabs), constX z = true → z.val.valid := fun z hz hc => by
    obtain ⟨y, _, rfl⟩ := List.mem_map.1 hz
    exact foldE_const tabs y hc
  by_cases h1 : (l.length : Int) = argsN k
  · have h3 := argsN_le k
    skip
    match l, h1, ih with
    | [], h1, ih =>
      rcases args0 h1.symm with rfl | rfl | rfl
      · exact ffold_0k1 tabs ht o n s v sc p
      · exact ffold_0k2 tabs ht o n s v sc p
      · exact ffold_0k10 tabs ht o n s v sc p
    | [a], h1, ih => exact ffold_1 tabs ht o n s v sc p a _ k h1.symm (ih a (by simp))
    | [a, b], h1, ih =>
      obtain rfl := args2 h1.symm
      exact ffold_2 tabs ht o n s v sc p a b _ _ (ih a (by simp)) (ih b (by simp))
    | [a, b, c], h1, ih =>
      obtain rfl := args3 h1.symm
      exact ffold_3 tabs ht o n s v sc p a b c _ _ _ (ih a (by simp)) (ih b (by simp)) (ih c (by simp))
    | _ :: _ :: _ :: _ :: _, h1, _ => simp only [List.length_cons] at h1; omega
  · have e : foldN tabs k o n s v sc p (l.map (foldE tabs)) = .mk k o n s v sc p (l.map (foldE tabs)) := if_pos (by rw [List.length_map]; exact h1)
    rw [e]
    exact ffold_w tabs ht k o n s v sc p l hx.one.len hL.one h1 ih
end Go.Proofs.YtlbocjcponegcaaGreat

