/- exciseref17.Fold: up to two arguments -/
import Derived.Test.YtlbocjcponegcaaGreatAmHs
set_option linter.unusedVariables false
set_option linter.unusedSimpArgs false
set_option maxRecDepth 100000
namespace Go.Proofs.YtlbocjcponegcaaGreat
open Go.AM
set_option maxHeartbeats 4000000 in
theorem rfold_0k2 (tabs : List Tb) (ht : tabs.length ≤ 9223372036854775807) (o : Int) (n s : ByteArray) (v : Vl) (sc p : Int) :
    Ret Tryz.prog 20 [eE (.mk 2 o n s v sc p []), eL 2 cTb tabs] [] (eE (foldR tabs 2 o n s v sc p [])) [] := by
  have hA := rfargs_ret (.mk 2 o n s v sc p [])
  rw [show Xp.kind (.mk 2 o n s v sc p []) = 2 from rfl] at hA
  rw [show argsN 2 = 0 by decide] at hA
  rw [cE_mk] at hA
  rw [show foldR tabs 2 o n s v sc p [] = .mk 2 o n s v sc p [] by simp [foldR, argsN]]
  refine nil_x ?_
  rw [cE_mk]
  refine ret_of_body atCalls tok mixed Tryz.func20 (by kernel_rfl) rfl (k := 110) (rs := [.cell 4 31]) (by kernel_rfl) (by kernel_rfl) ?_
  (conv => whnf) <;> repeat' (first | (intro I hw hs; apply hs; conv => whnf) | (apply hs; conv => whnf) | ((first | refine wN ?_ | refine wA ?_ | refine wB ?_ | refine wC ?_ | refine wD ?_ | refine Called.mk _ _ (hA) ?_ | refine vA ?_ | refine vB ?_ | refine vC ?_ | refine vD ?_ | refine uA ?_ | refine uB ?_ | refine uC ?_ | refine uD ?_); conv => whnf) | ((first | apply Pick.dec | apply Pick.beq | apply Cond.dec | apply Cond.beq | apply Cond.nd | apply Pick.nd | apply Pick.mk | apply Cond.mk) <;> intro h <;> conv => whnf))
  exact End.mk rfl rfl
set_option maxHeartbeats 4000000 in
theorem rfold_0k10 (tabs : List Tb) (ht : tabs.length ≤ 9223372036854775807) (o : Int) (n s : ByteArray) (v : Vl) (sc p : Int) :
    Ret Tryz.prog 20 [eE (.mk 10 o n s v sc p []), eL 2 cTb tabs] [] (eE (foldR tabs 10 o n s v sc p [])) [] := by
  have hA := rfargs_ret (.mk 10 o n s v sc p [])
  rw [show Xp.kind (.mk 10 o n s v sc p []) = 10 from rfl] at hA
  rw [show argsN 10 = 0 by decide] at hA
  rw [cE_mk] at hA
  rw [show foldR tabs 10 o n s v sc p [] = .mk 10 o n s v sc p [] by simp [foldR, argsN]]
  refine nil_x ?_
  rw [cE_mk]
  refine ret_of_body atCalls tok mixed Tryz.func20 (by kernel_rfl) rfl (k := 110) (rs := [.cell 4 31]) (by kernel_rfl) (by kernel_rfl) ?_
  (conv => whnf) <;> repeat' (first | (intro I hw hs; apply hs; conv => whnf) | (apply hs; conv => whnf) | ((first | refine wN ?_ | refine wA ?_ | refine wB ?_ | refine wC ?_ | refine wD ?_ | refine Called.mk _ _ (hA) ?_ | refine vA ?_ | refine vB ?_ | refine vC ?_ | refine vD ?_ | refine uA ?_ | refine uB ?_ | refine uC ?_ | refine uD ?_); conv => whnf) | ((first | apply Pick.dec | apply Pick.beq | apply Cond.dec | apply Cond.beq | apply Cond.nd | apply Pick.nd | apply Pick.mk | apply Cond.mk) <;> intro h <;> conv => whnf))
  exact End.mk rfl rfl
set_option maxHeartbeats 4000000 in
theorem rfold_0k1 (tabs : List Tb) (ht : tabs.length ≤ 9223372036854775807) (o : Int) (n s : ByteArray) (v : Vl) (sc p : Int) :
    Ret Tryz.prog 20 [eE (.mk 1 o n s v sc p []), eL 2 cTb tabs] [] (eE (foldR tabs 1 o n s v sc p [])) [] := by
  have hA := rfargs_ret (.mk 1 o n s v sc p [])
  rw [show Xp.kind (.mk 1 o n s v sc p []) = 1 from rfl] at hA
  rw [show argsN 1 = 0 by decide] at hA
  rw [cE_mk] at hA
  rw [show foldR tabs 1 o n s v sc p [] = c0 (evalE (env0 tabs) (.mk 1 o n s v sc p [])) by simp [foldR, argsN]]
  have hE := freval_ret true true (env0 tabs) (env0_ok ht) (.mk 1 o n s v sc p [])
  replace hE := Ret.exn hE
  generalize evalE (env0 tabs) (.mk 1 o n s v sc p []) = w at *
  refine nil_x ?_
  rw [cE_mk]
  refine ret_of_body atCalls tok mixed Tryz.func20 (by kernel_rfl) rfl (k := 110) (rs := [.cell 4 31]) (by kernel_rfl) (by kernel_rfl) ?_
  (conv => whnf) <;> repeat' (first | (intro I hw hs; apply hs; conv => whnf) | (apply hs; conv => whnf) | ((first | refine wN ?_ | refine wA ?_ | refine wB ?_ | refine wC ?_ | refine wD ?_ | refine Called.mk _ _ (hA) ?_ | refine Called.mk _ _ (hE) ?_ | refine vA ?_ | refine vB ?_ | refine vC ?_ | refine vD ?_ | refine uA ?_ | refine uB ?_ | refine uC ?_ | refine uD ?_); conv => whnf) | ((first | apply Pick.dec | apply Pick.beq | apply Cond.dec | apply Cond.beq | apply Cond.nd | apply Pick.nd | apply Pick.mk | apply Cond.mk) <;> intro h <;> conv => whnf))
  exact End.mk rfl rfl
set_option maxHeartbeats 4000000 in
theorem rfold_1 (tabs : List Tb) (ht : tabs.length ≤ 9223372036854775807) (o : Int) (n s : ByteArray) (v : Vl) (sc p : Int) (a : Xp) (z0 : Xp) (k : Int) (hk : argsN k = 1) (h0 : Ret Tryz.prog 20 [eE a, eL 2 cTb tabs] [] (eE z0) []) :
    Ret Tryz.prog 20 [eE (.mk k o n s v sc p [a]), eL 2 cTb tabs] [] (eE (foldR tabs k o n s v sc p [z0])) [] := by
  have hA := rfargs_ret (.mk k o n s v sc p [a])
  rw [show Xp.kind (.mk k o n s v sc p [a]) = k from rfl] at hA
  have hkk := args1 hk
  have k2 : k ≠ 2 := by omega
  have k6 : k ≠ 6 := by omega
  have k10 : k ≠ 10 := by omega
  rw [hk] at hA
  rw [cE_mk] at hA
  have r0 : Xp.rows [a] (Int.toNat 0) = cE a := rows1 a
  rcases constX_ways z0 with ⟨q0, u0, v0⟩ | ⟨q0, u0⟩ | ⟨q0, u0, v0⟩
  ·
    rw [show foldR tabs k o n s v sc p [z0] = c0 (evalE (env0 tabs) (.mk k o n s v sc p [z0])) by simp [foldR, *]]
    have hE := freval_ret true true (env0 tabs) (env0_ok ht) (.mk k o n s v sc p [z0])
    replace hE := Ret.ex (g := growG [z0] 1) hE (fun i hi => (growG_at _ _ i hi).trans (rows_at _ i hi).symm)
    generalize evalE (env0 tabs) (.mk k o n s v sc p [z0]) = w at *
    refine nil_x ?_
    rw [cE_mk]
    refine ret_of_body atCalls tok mixed Tryz.func20 (by kernel_rfl) rfl (k := 110) (rs := [.cell 4 31]) (by kernel_rfl) (by kernel_rfl) ?_
    (conv => whnf) <;> repeat' (first | (intro I hw hs; apply hs; conv => whnf) | (apply hs; conv => whnf) | ((conv => arg 1; whnf); rw [r0]; conv => whnf) | ((first | refine wN ?_ | refine wA ?_ | refine wB ?_ | refine wC ?_ | refine wD ?_ | refine Called.mk _ _ (hA) ?_ | refine Called.mk _ _ (h0) ?_ | refine Called.mk _ _ (hE) ?_ | refine vA ?_ | refine vB ?_ | refine vC ?_ | refine vD ?_ | refine uA ?_ | refine uB ?_ | refine uC ?_ | refine uD ?_); conv => whnf) | ((first | apply Pick.dec | apply Pick.beq | apply Cond.dec | apply Cond.beq | apply Cond.nd | apply Pick.nd | apply Pick.mk | apply Cond.mk) <;> intro h <;> conv => whnf))
    exact End.mk rfl rfl
  ·
    rw [show foldR tabs k o n s v sc p [z0] = .mk k o n s v sc p [z0] by simp [foldR, *]]
    refine lend_x (e := 31) [z0] ?_
    rw [cE_mk]
    refine ret_of_body atCalls tok mixed Tryz.func20 (by kernel_rfl) rfl (k := 110) (rs := [.cell 4 31]) (by kernel_rfl) (by kernel_rfl) ?_
    (conv => whnf) <;> repeat' (first | (intro I hw hs; apply hs; conv => whnf) | (apply hs; conv => whnf) | ((conv => arg 1; whnf); rw [r0]; conv => whnf) | ((first | refine wN ?_ | refine wA ?_ | refine wB ?_ | refine wC ?_ | refine wD ?_ | refine Called.mk _ _ (hA) ?_ | refine Called.mk _ _ (h0) ?_ | refine vA ?_ | refine vB ?_ | refine vC ?_ | refine vD ?_ | refine uA ?_ | refine uB ?_ | refine uC ?_ | refine uD ?_); conv => whnf) | ((first | apply Pick.dec | apply Pick.beq | apply Cond.dec | apply Cond.beq | apply Cond.nd | apply Pick.nd | apply Pick.mk | apply Cond.mk) <;> intro h <;> conv => whnf))
    exact EndH.mk [5] rfl rfl rfl
  ·
    rw [show foldR tabs k o n s v sc p [z0] = .mk k o n s v sc p [z0] by simp [foldR, *]]
    refine lend_x (e := 31) [z0] ?_
    rw [cE_mk]
    refine ret_of_body atCalls tok mixed Tryz.func20 (by kernel_rfl) rfl (k := 110) (rs := [.cell 4 31]) (by kernel_rfl) (by kernel_rfl) ?_
    (conv => whnf) <;> repeat' (first | (intro I hw hs; apply hs; conv => whnf) | (apply hs; conv => whnf) | ((conv => arg 1; whnf); rw [r0]; conv => whnf) | ((first | refine wN ?_ | refine wA ?_ | refine wB ?_ | refine wC ?_ | refine wD ?_ | refine Called.mk _ _ (hA) ?_ | refine Called.mk _ _ (h0) ?_ | refine vA ?_ | refine vB ?_ | refine vC ?_ | refine vD ?_ | refine uA ?_ | refine uB ?_ | refine uC ?_ | refine uD ?_); conv => whnf) | ((first | apply Pick.dec | apply Pick.beq | apply Cond.dec | apply Cond.beq | apply Cond.nd | apply Pick.nd | apply Pick.mk | apply Cond.mk) <;> intro h <;> conv => whnf))
    exact EndH.mk [5] rfl rfl rfl
set_option maxHeartbeats 4000000 in
theorem rfold_2 (tabs : List Tb) (ht : tabs.length ≤ 9223372036854775807) (o : Int) (n s : ByteArray) (v : Vl) (sc p : Int) (a b : Xp) (z0 z1 : Xp) (h0 : Ret Tryz.prog 20 [eE a, eL 2 cTb tabs] [] (eE z0) []) (h1 : Ret Tryz.prog 20 [eE b, eL 2 cTb tabs] [] (eE z1) []) :
    Ret Tryz.prog 20 [eE (.mk 5 o n s v sc p [a, b]), eL 2 cTb tabs] [] (eE (foldR tabs 5 o n s v sc p [z0, z1])) [] := by
  have hA := rfargs_ret (.mk 5 o n s v sc p [a, b])
  rw [show Xp.kind (.mk 5 o n s v sc p [a, b]) = 5 from rfl] at hA
  rw [show argsN 5 = 2 by decide] at hA
  rw [cE_mk] at hA
  have r0 : Xp.rows [a, b] (Int.toNat 0) = cE a := (rows2 a b).1
  have r1 : Xp.rows [a, b] (Int.toNat 1) = cE b := (rows2 a b).2
  have w1 : IntKind.i64.wrap (0 + 1) = 1 := rfl
  have w2 : IntKind.i64.wrap (1 + 1) = 2 := rfl
  have w3 : IntKind.i64.wrap (2 + 1) = 3 := rfl
  rcases constX_ways z0 with ⟨q0, u0, v0⟩ | ⟨q0, u0⟩ | ⟨q0, u0, v0⟩
  ·
    rcases constX_ways z1 with ⟨q1, u1, v1⟩ | ⟨q1, u1⟩ | ⟨q1, u1, v1⟩
    ·
      rw [show foldR tabs 5 o n s v sc p [z0, z1] = c0 (evalE (env0 tabs) (.mk 5 o n s v sc p [z0, z1])) by simp [foldR, argsN, *]]
      have hE := freval_ret true true (env0 tabs) (env0_ok ht) (.mk 5 o n s v sc p [z0, z1])
      replace hE := Ret.ex (g := growG [z0, z1] 2) hE (fun i hi => (growG_at _ _ i hi).trans (rows_at _ i hi).symm)
      generalize evalE (env0 tabs) (.mk 5 o n s v sc p [z0, z1]) = w at *
      refine nil_x ?_
      rw [cE_mk]
      refine ret_of_body atCalls tok mixed Tryz.func20 (by kernel_rfl) rfl (k := 110) (rs := [.cell 4 31]) (by kernel_rfl) (by kernel_rfl) ?_
      (conv => whnf) <;> repeat' (first | (intro I hw hs; apply hs; conv => whnf) | (apply hs; conv => whnf) | (rw [w1]; conv => whnf) | (rw [w2]; conv => whnf) | (rw [w3]; conv => whnf) | ((conv => arg 1; whnf); rw [r0]; conv => whnf) | ((conv => arg 1; whnf); rw [r1]; conv => whnf) | ((first | refine wN ?_ | refine wA ?_ | refine wB ?_ | refine wC ?_ | refine wD ?_ | refine Called.mk _ _ (hA) ?_ | refine Called.mk _ _ (h0) ?_ | refine Called.mk _ _ (h1) ?_ | refine Called.mk _ _ (hE) ?_ | refine vA ?_ | refine vB ?_ | refine vC ?_ | refine vD ?_ | refine uA ?_ | refine uB ?_ | refine uC ?_ | refine uD ?_); conv => whnf) | ((first | apply Pick.dec | apply Pick.beq | apply Cond.dec | apply Cond.beq | apply Cond.nd | apply Pick.nd | apply Pick.mk | apply Cond.mk) <;> intro h <;> conv => whnf))
      exact End.mk rfl rfl
    ·
      rw [show foldR tabs 5 o n s v sc p [z0, z1] = .mk 5 o n s v sc p [z0, z1] by simp [foldR, argsN, *]]
      refine lend_x (e := 31) [z0, z1] ?_
      rw [cE_mk]
      refine ret_of_body atCalls tok mixed Tryz.func20 (by kernel_rfl) rfl (k := 110) (rs := [.cell 4 31]) (by kernel_rfl) (by kernel_rfl) ?_
      (conv => whnf) <;> repeat' (first | (intro I hw hs; apply hs; conv => whnf) | (apply hs; conv => whnf) | (rw [w1]; conv => whnf) | (rw [w2]; conv => whnf) | (rw [w3]; conv => whnf) | ((conv => arg 1; whnf); rw [r0]; conv => whnf) | ((conv => arg 1; whnf); rw [r1]; conv => whnf) | ((first | refine wN ?_ | refine wA ?_ | refine wB ?_ | refine wC ?_ | refine wD ?_ | refine Called.mk _ _ (hA) ?_ | refine Called.mk _ _ (h0) ?_ | refine Called.mk _ _ (h1) ?_ | refine vA ?_ | refine vB ?_ | refine vC ?_ | refine vD ?_ | refine uA ?_ | refine uB ?_ | refine uC ?_ | refine uD ?_); conv => whnf) | ((first | apply Pick.dec | apply Pick.beq | apply Cond.dec | apply Cond.beq | apply Cond.nd | apply Pick.nd | apply Pick.mk | apply Cond.mk) <;> intro h <;> conv => whnf))
      exact EndH.mk [8] rfl rfl rfl
    ·
      rw [show foldR tabs 5 o n s v sc p [z0, z1] = .mk 5 o n s v sc p [z0, z1] by simp [foldR, argsN, *]]
      refine lend_x (e := 31) [z0, z1] ?_
      rw [cE_mk]
      refine ret_of_body atCalls tok mixed Tryz.func20 (by kernel_rfl) rfl (k := 110) (rs := [.cell 4 31]) (by kernel_rfl) (by kernel_rfl) ?_
      (conv => whnf) <;> repeat' (first | (intro I hw hs; apply hs; conv => whnf) | (apply hs; conv => whnf) | (rw [w1]; conv => whnf) | (rw [w2]; conv => whnf) | (rw [w3]; conv => whnf) | ((conv => arg 1; whnf); rw [r0]; conv => whnf) | ((conv => arg 1; whnf); rw [r1]; conv => whnf) | ((first | refine wN ?_ | refine wA ?_ | refine wB ?_ | refine wC ?_ | refine wD ?_ | refine Called.mk _ _ (hA) ?_ | refine Called.mk _ _ (h0) ?_ | refine Called.mk _ _ (h1) ?_ | refine vA ?_ | refine vB ?_ | refine vC ?_ | refine vD ?_ | refine uA ?_ | refine uB ?_ | refine uC ?_ | refine uD ?_); conv => whnf) | ((first | apply Pick.dec | apply Pick.beq | apply Cond.dec | apply Cond.beq | apply Cond.nd | apply Pick.nd | apply Pick.mk | apply Cond.mk) <;> intro h <;> conv => whnf))
      exact EndH.mk [8] rfl rfl rfl
  ·
    rw [show foldR tabs 5 o n s v sc p [z0, z1] = .mk 5 o n s v sc p [z0, z1] by simp [foldR, argsN, *]]
    refine lend_x (e := 31) [z0, z1] ?_
    rw [cE_mk]
    refine ret_of_body atCalls tok mixed Tryz.func20 (by kernel_rfl) rfl (k := 110) (rs := [.cell 4 31]) (by kernel_rfl) (by kernel_rfl) ?_
    (conv => whnf) <;> repeat' (first | (intro I hw hs; apply hs; conv => whnf) | (apply hs; conv => whnf) | (rw [w1]; conv => whnf) | (rw [w2]; conv => whnf) | (rw [w3]; conv => whnf) | ((conv => arg 1; whnf); rw [r0]; conv => whnf) | ((conv => arg 1; whnf); rw [r1]; conv => whnf) | ((first | refine wN ?_ | refine wA ?_ | refine wB ?_ | refine wC ?_ | refine wD ?_ | refine Called.mk _ _ (hA) ?_ | refine Called.mk _ _ (h0) ?_ | refine Called.mk _ _ (h1) ?_ | refine vA ?_ | refine vB ?_ | refine vC ?_ | refine vD ?_ | refine uA ?_ | refine uB ?_ | refine uC ?_ | refine uD ?_); conv => whnf) | ((first | apply Pick.dec | apply Pick.beq | apply Cond.dec | apply Cond.beq | apply Cond.nd | apply Pick.nd | apply Pick.mk | apply Cond.mk) <;> intro h <;> conv => whnf))
    exact EndH.mk [8] rfl rfl rfl
  ·
    rw [show foldR tabs 5 o n s v sc p [z0, z1] = .mk 5 o n s v sc p [z0, z1] by simp [foldR, argsN, *]]
    refine lend_x (e := 31) [z0, z1] ?_
    rw [cE_mk]
    refine ret_of_body atCalls tok mixed Tryz.func20 (by kernel_rfl) rfl (k := 110) (rs := [.cell 4 31]) (by kernel_rfl) (by kernel_rfl) ?_
    (conv => whnf) <;> repeat' (first | (intro I hw hs; apply hs; conv => whnf) | (apply hs; conv => whnf) | (rw [w1]; conv => whnf) | (rw [w2]; conv => whnf) | (rw [w3]; conv => whnf) | ((conv => arg 1; whnf); rw [r0]; conv => whnf) | ((conv => arg 1; whnf); rw [r1]; conv => whnf) | ((first | refine wN ?_ | refine wA ?_ | refine wB ?_ | refine wC ?_ | refine wD ?_ | refine Called.mk _ _ (hA) ?_ | refine Called.mk _ _ (h0) ?_ | refine Called.mk _ _ (h1) ?_ | refine vA ?_ | refine vB ?_ | refine vC ?_ | refine vD ?_ | refine uA ?_ | refine uB ?_ | refine uC ?_ | refine uD ?_); conv => whnf) | ((first | apply Pick.dec | apply Pick.beq | apply Cond.dec | apply Cond.beq | apply Cond.nd | apply Pick.nd | apply Pick.mk | apply Cond.mk) <;> intro h <;> conv => whnf))
    exact EndH.mk [8] rfl rfl rfl
end Go.Proofs.YtlbocjcponegcaaGreat

set_option linter.unusedVariables false
set_option linter.unusedSimpArgs false
set_option maxRecDepth 100000
namespace Go.Proofs.YtlbocjcponegcaaGreat
open Go.AM
set_option maxHeartbeats 4000000 in
theorem rfold_3a (tabs : List Tb) (ht : tabs.length ≤ 9223372036854775807) (o : Int) (n s : ByteArray) (v : Vl) (sc p : Int) (a b c : Xp) (z0 z1 z2 : Xp) (q0 : constX z0 = false) (u0 : z0.kind ≠ 1) (h0 : Ret Tryz.prog 20 [eE a, eL 2 cTb tabs] [] (eE z0) []) (h1 : Ret Tryz.prog 20 [eE b, eL 2 cTb tabs] [] (eE z1) []) (h2 : Ret Tryz.prog 20 [eE c, eL 2 cTb tabs] [] (eE z2) []) :
    Ret Tryz.prog 20 [eE (.mk 6 o n s v sc p [a, b, c]), eL 2 cTb tabs] [] (eE (foldR tabs 6 o n s v sc p [z0, z1, z2])) [] := by
  have hA := rfargs_ret (.mk 6 o n s v sc p [a, b, c])
  rw [show Xp.kind (.mk 6 o n s v sc p [a, b, c]) = 6 from rfl] at hA
  rw [show argsN 6 = 3 by decide] at hA
  rw [cE_mk] at hA
  have r0 : Xp.rows [a, b, c] (Int.toNat 0) = cE a := (rows3 a b c).1
  have r1 : Xp.rows [a, b, c] (Int.toNat 1) = cE b := (rows3 a b c).2.1
  have r2 : Xp.rows [a, b, c] (Int.toNat 2) = cE c := (rows3 a b c).2.2
  have w1 : IntKind.i64.wrap (0 + 1) = 1 := rfl
  have w2 : IntKind.i64.wrap (1 + 1) = 2 := rfl
  have w3 : IntKind.i64.wrap (2 + 1) = 3 := rfl
  rw [show foldR tabs 6 o n s v sc p [z0, z1, z2] = .mk 6 o n s v sc p [z0, z1, z2] by simp [foldR, argsN, *]]
  refine lend_x (e := 31) [z0, z1, z2] ?_
  rw [cE_mk]
  refine ret_of_body atCalls tok mixed Tryz.func20 (by kernel_rfl) rfl (k := 110) (rs := [.cell 4 31]) (by kernel_rfl) (by kernel_rfl) ?_
  (conv => whnf) <;> repeat' (first | (intro I hw hs; apply hs; conv => whnf) | (apply hs; conv => whnf) | (rw [w1]; conv => whnf) | (rw [w2]; conv => whnf) | (rw [w3]; conv => whnf) | ((conv => arg 1; whnf); rw [r0]; conv => whnf) | ((conv => arg 1; whnf); rw [r1]; conv => whnf) | ((conv => arg 1; whnf); rw [r2]; conv => whnf) | ((first | refine wN ?_ | refine wA ?_ | refine wB ?_ | refine wC ?_ | refine wD ?_ | refine Called.mk _ _ (hA) ?_ | refine Called.mk _ _ (h0) ?_ | refine Called.mk _ _ (h1) ?_ | refine Called.mk _ _ (h2) ?_ | refine vA ?_ | refine vB ?_ | refine vC ?_ | refine vD ?_ | refine uA ?_ | refine uB ?_ | refine uC ?_ | refine uD ?_); conv => whnf) | ((first | apply Pick.dec | apply Pick.beq | apply Cond.dec | apply Cond.beq | apply Cond.nd | apply Pick.nd | apply Pick.mk | apply Cond.mk) <;> intro h <;> conv => whnf))
  exact EndH.mk [11] rfl rfl rfl
set_option maxHeartbeats 4000000 in
theorem rfold_3b (tabs : List Tb) (ht : tabs.length ≤ 9223372036854775807) (o : Int) (n s : ByteArray) (v : Vl) (sc p : Int) (a b c : Xp) (z0 z1 z2 : Xp) (q0 : constX z0 = false) (u0 : z0.kind = 1) (v0 : (z0.args.length : Int) ≠ 0) (h0 : Ret Tryz.prog 20 [eE a, eL 2 cTb tabs] [] (eE z0) []) (h1 : Ret Tryz.prog 20 [eE b, eL 2 cTb tabs] [] (eE z1) []) (h2 : Ret Tryz.prog 20 [eE c, eL 2 cTb tabs] [] (eE z2) []) :
    Ret Tryz.prog 20 [eE (.mk 6 o n s v sc p [a, b, c]), eL 2 cTb tabs] [] (eE (foldR tabs 6 o n s v sc p [z0, z1, z2])) [] := by
  have hA := rfargs_ret (.mk 6 o n s v sc p [a, b, c])
  rw [show Xp.kind (.mk 6 o n s v sc p [a, b, c]) = 6 from rfl] at hA
  rw [show argsN 6 = 3 by decide] at hA
  rw [cE_mk] at hA
  have r0 : Xp.rows [a, b, c] (Int.toNat 0) = cE a := (rows3 a b c).1
  have r1 : Xp.rows [a, b, c] (Int.toNat 1) = cE b := (rows3 a b c).2.1
  have r2 : Xp.rows [a, b, c] (Int.toNat 2) = cE c := (rows3 a b c).2.2
  have w1 : IntKind.i64.wrap (0 + 1) = 1 := rfl
  have w2 : IntKind.i64.wrap (1 + 1) = 2 := rfl
  have w3 : IntKind.i64.wrap (2 + 1) = 3 := rfl
  rw [show foldR tabs 6 o n s v sc p [z0, z1, z2] = .mk 6 o n s v sc p [z0, z1, z2] by simp [foldR, argsN, *]]
  refine lend_x (e := 31) [z0, z1, z2] ?_
  rw [cE_mk]
  refine ret_of_body atCalls tok mixed Tryz.func20 (by kernel_rfl) rfl (k := 110) (rs := [.cell 4 31]) (by kernel_rfl) (by kernel_rfl) ?_
  (conv => whnf) <;> repeat' (first | (intro I hw hs; apply hs; conv => whnf) | (apply hs; conv => whnf) | (rw [w1]; conv => whnf) | (rw [w2]; conv => whnf) | (rw [w3]; conv => whnf) | ((conv => arg 1; whnf); rw [r0]; conv => whnf) | ((conv => arg 1; whnf); rw [r1]; conv => whnf) | ((conv => arg 1; whnf); rw [r2]; conv => whnf) | ((first | refine wN ?_ | refine wA ?_ | refine wB ?_ | refine wC ?_ | refine wD ?_ | refine Called.mk _ _ (hA) ?_ | refine Called.mk _ _ (h0) ?_ | refine Called.mk _ _ (h1) ?_ | refine Called.mk _ _ (h2) ?_ | refine vA ?_ | refine vB ?_ | refine vC ?_ | refine vD ?_ | refine uA ?_ | refine uB ?_ | refine uC ?_ | refine uD ?_); conv => whnf) | ((first | apply Pick.dec | apply Pick.beq | apply Cond.dec | apply Cond.beq | apply Cond.nd | apply Pick.nd | apply Pick.mk | apply Cond.mk) <;> intro h <;> conv => whnf))
  exact EndH.mk [11] rfl rfl rfl
set_option maxHeartbeats 4000000 in
theorem rfold_3c (tabs : List Tb) (ht : tabs.length ≤ 9223372036854775807) (o : Int) (n s : ByteArray) (v : Vl) (sc p : Int) (a b c : Xp) (z0 z1 z2 : Xp) (q0 : constX z0 = true) (u0 : z0.kind = 1) (v0 : (z0.args.length : Int) = 0) (q1 : constX z1 = false) (u1 : z1.kind ≠ 1) (h0 : Ret Tryz.prog 20 [eE a, eL 2 cTb tabs] [] (eE z0) []) (h1 : Ret Tryz.prog 20 [eE b, eL 2 cTb tabs] [] (eE z1) []) (h2 : Ret Tryz.prog 20 [eE c, eL 2 cTb tabs] [] (eE z2) []) :
    Ret Tryz.prog 20 [eE (.mk 6 o n s v sc p [a, b, c]), eL 2 cTb tabs] [] (eE (foldR tabs 6 o n s v sc p [z0, z1, z2])) [] := by
  have hA := rfargs_ret (.mk 6 o n s v sc p [a, b, c])
  rw [show Xp.kind (.mk 6 o n s v sc p [a, b, c]) = 6 from rfl] at hA
  rw [show argsN 6 = 3 by decide] at hA
  rw [cE_mk] at hA
  have r0 : Xp.rows [a, b, c] (Int.toNat 0) = cE a := (rows3 a b c).1
  have r1 : Xp.rows [a, b, c] (Int.toNat 1) = cE b := (rows3 a b c).2.1
  have r2 : Xp.rows [a, b, c] (Int.toNat 2) = cE c := (rows3 a b c).2.2
  have w1 : IntKind.i64.wrap (0 + 1) = 1 := rfl
  have w2 : IntKind.i64.wrap (1 + 1) = 2 := rfl
  have w3 : IntKind.i64.wrap (2 + 1) = 3 := rfl
  by_cases hk : z0.val.kind = 2
  ·
    cases hf : z0.val.flag
    ·
      rw [show foldR tabs 6 o n s v sc p [z0, z1, z2] = z2 by simp [foldR, argsN, *]]
      rw [cE_mk]
      refine ret_of_body atCalls tok mixed Tryz.func20 (by kernel_rfl) rfl (k := 110) (rs := [.cell 4 31]) (by kernel_rfl) (by kernel_rfl) ?_
      (conv => whnf) <;> repeat' (first | (intro I hw hs; apply hs; conv => whnf) | (apply hs; conv => whnf) | (rw [w1]; conv => whnf) | (rw [w2]; conv => whnf) | (rw [w3]; conv => whnf) | ((conv => arg 1; whnf); rw [r0]; conv => whnf) | ((conv => arg 1; whnf); rw [r1]; conv => whnf) | ((conv => arg 1; whnf); rw [r2]; conv => whnf) | ((first | refine wN ?_ | refine wA ?_ | refine wB ?_ | refine wC ?_ | refine wD ?_ | refine Called.mk _ _ (hA) ?_ | refine Called.mk _ _ (h0) ?_ | refine Called.mk _ _ (h1) ?_ | refine Called.mk _ _ (h2) ?_ | refine vA ?_ | refine vB ?_ | refine vC ?_ | refine vD ?_ | refine uA ?_ | refine uB ?_ | refine uC ?_ | refine uD ?_); conv => whnf) | ((first | apply Pick.dec | apply Pick.beq | apply Cond.dec | apply Cond.beq | apply Cond.nd | apply Pick.nd | apply Pick.mk | apply Cond.mk) <;> intro h <;> conv => whnf))
      exact End.mk rfl rfl
    ·
      rw [show foldR tabs 6 o n s v sc p [z0, z1, z2] = z1 by simp [foldR, argsN, *]]
      rw [cE_mk]
      refine ret_of_body atCalls tok mixed Tryz.func20 (by kernel_rfl) rfl (k := 110) (rs := [.cell 4 31]) (by kernel_rfl) (by kernel_rfl) ?_
      (conv => whnf) <;> repeat' (first | (intro I hw hs; apply hs; conv => whnf) | (apply hs; conv => whnf) | (rw [w1]; conv => whnf) | (rw [w2]; conv => whnf) | (rw [w3]; conv => whnf) | ((conv => arg 1; whnf); rw [r0]; conv => whnf) | ((conv => arg 1; whnf); rw [r1]; conv => whnf) | ((conv => arg 1; whnf); rw [r2]; conv => whnf) | ((first | refine wN ?_ | refine wA ?_ | refine wB ?_ | refine wC ?_ | refine wD ?_ | refine Called.mk _ _ (hA) ?_ | refine Called.mk _ _ (h0) ?_ | refine Called.mk _ _ (h1) ?_ | refine Called.mk _ _ (h2) ?_ | refine vA ?_ | refine vB ?_ | refine vC ?_ | refine vD ?_ | refine uA ?_ | refine uB ?_ | refine uC ?_ | refine uD ?_); conv => whnf) | ((first | apply Pick.dec | apply Pick.beq | apply Cond.dec | apply Cond.beq | apply Cond.nd | apply Pick.nd | apply Pick.mk | apply Cond.mk) <;> intro h <;> conv => whnf))
      exact End.mk rfl rfl
  ·
    rw [show foldR tabs 6 o n s v sc p [z0, z1, z2] = .mk 6 o n s v sc p [z0, z1, z2] by simp [foldR, argsN, *]]
    refine lend_x (e := 31) [z0, z1, z2] ?_
    rw [cE_mk]
    refine ret_of_body atCalls tok mixed Tryz.func20 (by kernel_rfl) rfl (k := 110) (rs := [.cell 4 31]) (by kernel_rfl) (by kernel_rfl) ?_
    (conv => whnf) <;> repeat' (first | (intro I hw hs; apply hs; conv => whnf) | (apply hs; conv => whnf) | (rw [w1]; conv => whnf) | (rw [w2]; conv => whnf) | (rw [w3]; conv => whnf) | ((conv => arg 1; whnf); rw [r0]; conv => whnf) | ((conv => arg 1; whnf); rw [r1]; conv => whnf) | ((conv => arg 1; whnf); rw [r2]; conv => whnf) | ((first | refine wN ?_ | refine wA ?_ | refine wB ?_ | refine wC ?_ | refine wD ?_ | refine Called.mk _ _ (hA) ?_ | refine Called.mk _ _ (h0) ?_ | refine Called.mk _ _ (h1) ?_ | refine Called.mk _ _ (h2) ?_ | refine vA ?_ | refine vB ?_ | refine vC ?_ | refine vD ?_ | refine uA ?_ | refine uB ?_ | refine uC ?_ | refine uD ?_); conv => whnf) | ((first | apply Pick.dec | apply Pick.beq | apply Cond.dec | apply Cond.beq | apply Cond.nd | apply Pick.nd | apply Pick.mk | apply Cond.mk) <;> intro h <;> conv => whnf))
    exact EndH.mk [11] rfl rfl rfl
set_option maxHeartbeats 4000000 in
theorem rfold_3d (tabs : List Tb) (ht : tabs.length ≤ 9223372036854775807) (o : Int) (n s : ByteArray) (v : Vl) (sc p : Int) (a b c : Xp) (z0 z1 z2 : Xp) (q0 : constX z0 = true) (u0 : z0.kind = 1) (v0 : (z0.args.length : Int) = 0) (q1 : constX z1 = false) (u1 : z1.kind = 1) (v1 : (z1.args.length : Int) ≠ 0) (h0 : Ret Tryz.prog 20 [eE a, eL 2 cTb tabs] [] (eE z0) []) (h1 : Ret Tryz.prog 20 [eE b, eL 2 cTb tabs] [] (eE z1) []) (h2 : Ret Tryz.prog 20 [eE c, eL 2 cTb tabs] [] (eE z2) []) :
    Ret Tryz.prog 20 [eE (.mk 6 o n s v sc p [a, b, c]), eL 2 cTb tabs] [] (eE (foldR tabs 6 o n s v sc p [z0, z1, z2])) [] := by
  have hA := rfargs_ret (.mk 6 o n s v sc p [a, b, c])
  rw [show Xp.kind (.mk 6 o n s v sc p [a, b, c]) = 6 from rfl] at hA
  rw [show argsN 6 = 3 by decide] at hA
  rw [cE_mk] at hA
  have r0 : Xp.rows [a, b, c] (Int.toNat 0) = cE a := (rows3 a b c).1
  have r1 : Xp.rows [a, b, c] (Int.toNat 1) = cE b := (rows3 a b c).2.1
  have r2 : Xp.rows [a, b, c] (Int.toNat 2) = cE c := (rows3 a b c).2.2
  have w1 : IntKind.i64.wrap (0 + 1) = 1 := rfl
  have w2 : IntKind.i64.wrap (1 + 1) = 2 := rfl
  have w3 : IntKind.i64.wrap (2 + 1) = 3 := rfl
  by_cases hk : z0.val.kind = 2
  ·
    cases hf : z0.val.flag
    ·
      rw [show foldR tabs 6 o n s v sc p [z0, z1, z2] = z2 by simp [foldR, argsN, *]]
      rw [cE_mk]
      refine ret_of_body atCalls tok mixed Tryz.func20 (by kernel_rfl) rfl (k := 110) (rs := [.cell 4 31]) (by kernel_rfl) (by kernel_rfl) ?_
      (conv => whnf) <;> repeat' (first | (intro I hw hs; apply hs; conv => whnf) | (apply hs; conv => whnf) | (rw [w1]; conv => whnf) | (rw [w2]; conv => whnf) | (rw [w3]; conv => whnf) | ((conv => arg 1; whnf); rw [r0]; conv => whnf) | ((conv => arg 1; whnf); rw [r1]; conv => whnf) | ((conv => arg 1; whnf); rw [r2]; conv => whnf) | ((first | refine wN ?_ | refine wA ?_ | refine wB ?_ | refine wC ?_ | refine wD ?_ | refine Called.mk _ _ (hA) ?_ | refine Called.mk _ _ (h0) ?_ | refine Called.mk _ _ (h1) ?_ | refine Called.mk _ _ (h2) ?_ | refine vA ?_ | refine vB ?_ | refine vC ?_ | refine vD ?_ | refine uA ?_ | refine uB ?_ | refine uC ?_ | refine uD ?_); conv => whnf) | ((first | apply Pick.dec | apply Pick.beq | apply Cond.dec | apply Cond.beq | apply Cond.nd | apply Pick.nd | apply Pick.mk | apply Cond.mk) <;> intro h <;> conv => whnf))
      exact End.mk rfl rfl
    ·
      rw [show foldR tabs 6 o n s v sc p [z0, z1, z2] = z1 by simp [foldR, argsN, *]]
      rw [cE_mk]
      refine ret_of_body atCalls tok mixed Tryz.func20 (by kernel_rfl) rfl (k := 110) (rs := [.cell 4 31]) (by kernel_rfl) (by kernel_rfl) ?_
      (conv => whnf) <;> repeat' (first | (intro I hw hs; apply hs; conv => whnf) | (apply hs; conv => whnf) | (rw [w1]; conv => whnf) | (rw [w2]; conv => whnf) | (rw [w3]; conv => whnf) | ((conv => arg 1; whnf); rw [r0]; conv => whnf) | ((conv => arg 1; whnf); rw [r1]; conv => whnf) | ((conv => arg 1; whnf); rw [r2]; conv => whnf) | ((first | refine wN ?_ | refine wA ?_ | refine wB ?_ | refine wC ?_ | refine wD ?_ | refine Called.mk _ _ (hA) ?_ | refine Called.mk _ _ (h0) ?_ | refine Called.mk _ _ (h1) ?_ | refine Called.mk _ _ (h2) ?_ | refine vA ?_ | refine vB ?_ | refine vC ?_ | refine vD ?_ | refine uA ?_ | refine uB ?_ | refine uC ?_ | refine uD ?_); conv => whnf) | ((first | apply Pick.dec | apply Pick.beq | apply Cond.dec | apply Cond.beq | apply Cond.nd | apply Pick.nd | apply Pick.mk | apply Cond.mk) <;> intro h <;> conv => whnf))
      exact End.mk rfl rfl
  ·
    rw [show foldR tabs 6 o n s v sc p [z0, z1, z2] = .mk 6 o n s v sc p [z0, z1, z2] by simp [foldR, argsN, *]]
    refine lend_x (e := 31) [z0, z1, z2] ?_
    rw [cE_mk]
    refine ret_of_body atCalls tok mixed Tryz.func20 (by kernel_rfl) rfl (k := 110) (rs := [.cell 4 31]) (by kernel_rfl) (by kernel_rfl) ?_
    (conv => whnf) <;> repeat' (first | (intro I hw hs; apply hs; conv => whnf) | (apply hs; conv => whnf) | (rw [w1]; conv => whnf) | (rw [w2]; conv => whnf) | (rw [w3]; conv => whnf) | ((conv => arg 1; whnf); rw [r0]; conv => whnf) | ((conv => arg 1; whnf); rw [r1]; conv => whnf) | ((conv => arg 1; whnf); rw [r2]; conv => whnf) | ((first | refine wN ?_ | refine wA ?_ | refine wB ?_ | refine wC ?_ | refine wD ?_ | refine Called.mk _ _ (hA) ?_ | refine Called.mk _ _ (h0) ?_ | refine Called.mk _ _ (h1) ?_ | refine Called.mk _ _ (h2) ?_ | refine vA ?_ | refine vB ?_ | refine vC ?_ | refine vD ?_ | refine uA ?_ | refine uB ?_ | refine uC ?_ | refine uD ?_); conv => whnf) | ((first | apply Pick.dec | apply Pick.beq | apply Cond.dec | apply Cond.beq | apply Cond.nd | apply Pick.nd | apply Pick.mk | apply Cond.mk) <;> intro h <;> conv => whnf))
    exact EndH.mk [11] rfl rfl rfl
set_option maxHeartbeats 4000000 in
theorem rfold_3e (tabs : List Tb) (ht : tabs.length ≤ 9223372036854775807) (o : Int) (n s : ByteArray) (v : Vl) (sc p : Int) (a b c : Xp) (z0 z1 z2 : Xp) (q0 : constX z0 = true) (u0 : z0.kind = 1) (v0 : (z0.args.length : Int) = 0) (q1 : constX z1 = true) (u1 : z1.kind = 1) (v1 : (z1.args.length : Int) = 0) (q2 : constX z2 = false) (u2 : z2.kind ≠ 1) (h0 : Ret Tryz.prog 20 [eE a, eL 2 cTb tabs] [] (eE z0) []) (h1 : Ret Tryz.prog 20 [eE b, eL 2 cTb tabs] [] (eE z1) []) (h2 : Ret Tryz.prog 20 [eE c, eL 2 cTb tabs] [] (eE z2) []) :
    Ret Tryz.prog 20 [eE (.mk 6 o n s v sc p [a, b, c]), eL 2 cTb tabs] [] (eE (foldR tabs 6 o n s v sc p [z0, z1, z2])) [] := by
  have hA := rfargs_ret (.mk 6 o n s v sc p [a, b, c])
  rw [show Xp.kind (.mk 6 o n s v sc p [a, b, c]) = 6 from rfl] at hA
  rw [show argsN 6 = 3 by decide] at hA
  rw [cE_mk] at hA
  have r0 : Xp.rows [a, b, c] (Int.toNat 0) = cE a := (rows3 a b c).1
  have r1 : Xp.rows [a, b, c] (Int.toNat 1) = cE b := (rows3 a b c).2.1
  have r2 : Xp.rows [a, b, c] (Int.toNat 2) = cE c := (rows3 a b c).2.2
  have w1 : IntKind.i64.wrap (0 + 1) = 1 := rfl
  have w2 : IntKind.i64.wrap (1 + 1) = 2 := rfl
  have w3 : IntKind.i64.wrap (2 + 1) = 3 := rfl
  by_cases hk : z0.val.kind = 2
  ·
    cases hf : z0.val.flag
    ·
      rw [show foldR tabs 6 o n s v sc p [z0, z1, z2] = z2 by simp [foldR, argsN, *]]
      rw [cE_mk]
      refine ret_of_body atCalls tok mixed Tryz.func20 (by kernel_rfl) rfl (k := 110) (rs := [.cell 4 31]) (by kernel_rfl) (by kernel_rfl) ?_
      (conv => whnf) <;> repeat' (first | (intro I hw hs; apply hs; conv => whnf) | (apply hs; conv => whnf) | (rw [w1]; conv => whnf) | (rw [w2]; conv => whnf) | (rw [w3]; conv => whnf) | ((conv => arg 1; whnf); rw [r0]; conv => whnf) | ((conv => arg 1; whnf); rw [r1]; conv => whnf) | ((conv => arg 1; whnf); rw [r2]; conv => whnf) | ((first | refine wN ?_ | refine wA ?_ | refine wB ?_ | refine wC ?_ | refine wD ?_ | refine Called.mk _ _ (hA) ?_ | refine Called.mk _ _ (h0) ?_ | refine Called.mk _ _ (h1) ?_ | refine Called.mk _ _ (h2) ?_ | refine vA ?_ | refine vB ?_ | refine vC ?_ | refine vD ?_ | refine uA ?_ | refine uB ?_ | refine uC ?_ | refine uD ?_); conv => whnf) | ((first | apply Pick.dec | apply Pick.beq | apply Cond.dec | apply Cond.beq | apply Cond.nd | apply Pick.nd | apply Pick.mk | apply Cond.mk) <;> intro h <;> conv => whnf))
      exact End.mk rfl rfl
    ·
      rw [show foldR tabs 6 o n s v sc p [z0, z1, z2] = z1 by simp [foldR, argsN, *]]
      rw [cE_mk]
      refine ret_of_body atCalls tok mixed Tryz.func20 (by kernel_rfl) rfl (k := 110) (rs := [.cell 4 31]) (by kernel_rfl) (by kernel_rfl) ?_
      (conv => whnf) <;> repeat' (first | (intro I hw hs; apply hs; conv => whnf) | (apply hs; conv => whnf) | (rw [w1]; conv => whnf) | (rw [w2]; conv => whnf) | (rw [w3]; conv => whnf) | ((conv => arg 1; whnf); rw [r0]; conv => whnf) | ((conv => arg 1; whnf); rw [r1]; conv => whnf) | ((conv => arg 1; whnf); rw [r2]; conv => whnf) | ((first | refine wN ?_ | refine wA ?_ | refine wB ?_ | refine wC ?_ | refine wD ?_ | refine Called.mk _ _ (hA) ?_ | refine Called.mk _ _ (h0) ?_ | refine Called.mk _ _ (h1) ?_ | refine Called.mk _ _ (h2) ?_ | refine vA ?_ | refine vB ?_ | refine vC ?_ | refine vD ?_ | refine uA ?_ | refine uB ?_ | refine uC ?_ | refine uD ?_); conv => whnf) | ((first | apply Pick.dec | apply Pick.beq | apply Cond.dec | apply Cond.beq | apply Cond.nd | apply Pick.nd | apply Pick.mk | apply Cond.mk) <;> intro h <;> conv => whnf))
      exact End.mk rfl rfl
  ·
    rw [show foldR tabs 6 o n s v sc p [z0, z1, z2] = .mk 6 o n s v sc p [z0, z1, z2] by simp [foldR, argsN, *]]
    refine lend_x (e := 31) [z0, z1, z2] ?_
    rw [cE_mk]
    refine ret_of_body atCalls tok mixed Tryz.func20 (by kernel_rfl) rfl (k := 110) (rs := [.cell 4 31]) (by kernel_rfl) (by kernel_rfl) ?_
    (conv => whnf) <;> repeat' (first | (intro I hw hs; apply hs; conv => whnf) | (apply hs; conv => whnf) | (rw [w1]; conv => whnf) | (rw [w2]; conv => whnf) | (rw [w3]; conv => whnf) | ((conv => arg 1; whnf); rw [r0]; conv => whnf) | ((conv => arg 1; whnf); rw [r1]; conv => whnf) | ((conv => arg 1; whnf); rw [r2]; conv => whnf) | ((first | refine wN ?_ | refine wA ?_ | refine wB ?_ | refine wC ?_ | refine wD ?_ | refine Called.mk _ _ (hA) ?_ | refine Called.mk _ _ (h0) ?_ | refine Called.mk _ _ (h1) ?_ | refine Called.mk _ _ (h2) ?_ | refine vA ?_ | refine vB ?_ | refine vC ?_ | refine vD ?_ | refine uA ?_ | refine uB ?_ | refine uC ?_ | refine uD ?_); conv => whnf) | ((first | apply Pick.dec | apply Pick.beq | apply Cond.dec | apply Cond.beq | apply Cond.nd | apply Pick.nd | apply Pick.mk | apply Cond.mk) <;> intro h <;> conv => whnf))
    exact EndH.mk [11] rfl rfl rfl
set_option maxHeartbeats 4000000 in
theorem rfold_3f (tabs : List Tb) (ht : tabs.length ≤ 9223372036854775807) (o : Int) (n s : ByteArray) (v : Vl) (sc p : Int) (a b c : Xp) (z0 z1 z2 : Xp) (q0 : constX z0 = true) (u0 : z0.kind = 1) (v0 : (z0.args.length : Int) = 0) (q1 : constX z1 = true) (u1 : z1.kind = 1) (v1 : (z1.args.length : Int) = 0) (q2 : constX z2 = false) (u2 : z2.kind = 1) (v2 : (z2.args.length : Int) ≠ 0) (h0 : Ret Tryz.prog 20 [eE a, eL 2 cTb tabs] [] (eE z0) []) (h1 : Ret Tryz.prog 20 [eE b, eL 2 cTb tabs] [] (eE z1) []) (h2 : Ret Tryz.prog 20 [eE c, eL 2 cTb tabs] [] (eE z2) []) :
    Ret Tryz.prog 20 [eE (.mk 6 o n s v sc p [a, b, c]), eL 2 cTb tabs] [] (eE (foldR tabs 6 o n s v sc p [z0, z1, z2])) [] := by
  have hA := rfargs_ret (.mk 6 o n s v sc p [a, b, c])
  rw [show Xp.kind (.mk 6 o n s v sc p [a, b, c]) = 6 from rfl] at hA
  rw [show argsN 6 = 3 by decide] at hA
  rw [cE_mk] at hA
  have r0 : Xp.rows [a, b, c] (Int.toNat 0) = cE a := (rows3 a b c).1
  have r1 : Xp.rows [a, b, c] (Int.toNat 1) = cE b := (rows3 a b c).2.1
  have r2 : Xp.rows [a, b, c] (Int.toNat 2) = cE c := (rows3 a b c).2.2
  have w1 : IntKind.i64.wrap (0 + 1) = 1 := rfl
  have w2 : IntKind.i64.wrap (1 + 1) = 2 := rfl
  have w3 : IntKind.i64.wrap (2 + 1) = 3 := rfl
  by_cases hk : z0.val.kind = 2
  ·
    cases hf : z0.val.flag
    ·
      rw [show foldR tabs 6 o n s v sc p [z0, z1, z2] = z2 by simp [foldR, argsN, *]]
      rw [cE_mk]
      refine ret_of_body atCalls tok mixed Tryz.func20 (by kernel_rfl) rfl (k := 110) (rs := [.cell 4 31]) (by kernel_rfl) (by kernel_rfl) ?_
      (conv => whnf) <;> repeat' (first | (intro I hw hs; apply hs; conv => whnf) | (apply hs; conv => whnf) | (rw [w1]; conv => whnf) | (rw [w2]; conv => whnf) | (rw [w3]; conv => whnf) | ((conv => arg 1; whnf); rw [r0]; conv => whnf) | ((conv => arg 1; whnf); rw [r1]; conv => whnf) | ((conv => arg 1; whnf); rw [r2]; conv => whnf) | ((first | refine wN ?_ | refine wA ?_ | refine wB ?_ | refine wC ?_ | refine wD ?_ | refine Called.mk _ _ (hA) ?_ | refine Called.mk _ _ (h0) ?_ | refine Called.mk _ _ (h1) ?_ | refine Called.mk _ _ (h2) ?_ | refine vA ?_ | refine vB ?_ | refine vC ?_ | refine vD ?_ | refine uA ?_ | refine uB ?_ | refine uC ?_ | refine uD ?_); conv => whnf) | ((first | apply Pick.dec | apply Pick.beq | apply Cond.dec | apply Cond.beq | apply Cond.nd | apply Pick.nd | apply Pick.mk | apply Cond.mk) <;> intro h <;> conv => whnf))
      exact End.mk rfl rfl
    ·
      rw [show foldR tabs 6 o n s v sc p [z0, z1, z2] = z1 by simp [foldR, argsN, *]]
      rw [cE_mk]
      refine ret_of_body atCalls tok mixed Tryz.func20 (by kernel_rfl) rfl (k := 110) (rs := [.cell 4 31]) (by kernel_rfl) (by kernel_rfl) ?_
      (conv => whnf) <;> repeat' (first | (intro I hw hs; apply hs; conv => whnf) | (apply hs; conv => whnf) | (rw [w1]; conv => whnf) | (rw [w2]; conv => whnf) | (rw [w3]; conv => whnf) | ((conv => arg 1; whnf); rw [r0]; conv => whnf) | ((conv => arg 1; whnf); rw [r1]; conv => whnf) | ((conv => arg 1; whnf); rw [r2]; conv => whnf) | ((first | refine wN ?_ | refine wA ?_ | refine wB ?_ | refine wC ?_ | refine wD ?_ | refine Called.mk _ _ (hA) ?_ | refine Called.mk _ _ (h0) ?_ | refine Called.mk _ _ (h1) ?_ | refine Called.mk _ _ (h2) ?_ | refine vA ?_ | refine vB ?_ | refine vC ?_ | refine vD ?_ | refine uA ?_ | refine uB ?_ | refine uC ?_ | refine uD ?_); conv => whnf) | ((first | apply Pick.dec | apply Pick.beq | apply Cond.dec | apply Cond.beq | apply Cond.nd | apply Pick.nd | apply Pick.mk | apply Cond.mk) <;> intro h <;> conv => whnf))
      exact End.mk rfl rfl
  ·
    rw [show foldR tabs 6 o n s v sc p [z0, z1, z2] = .mk 6 o n s v sc p [z0, z1, z2] by simp [foldR, argsN, *]]
    refine lend_x (e := 31) [z0, z1, z2] ?_
    rw [cE_mk]
    refine ret_of_body atCalls tok mixed Tryz.func20 (by kernel_rfl) rfl (k := 110) (rs := [.cell 4 31]) (by kernel_rfl) (by kernel_rfl) ?_
    (conv => whnf) <;> repeat' (first | (intro I hw hs; apply hs; conv => whnf) | (apply hs; conv => whnf) | (rw [w1]; conv => whnf) | (rw [w2]; conv => whnf) | (rw [w3]; conv => whnf) | ((conv => arg 1; whnf); rw [r0]; conv => whnf) | ((conv => arg 1; whnf); rw [r1]; conv => whnf) | ((conv => arg 1; whnf); rw [r2]; conv => whnf) | ((first | refine wN ?_ | refine wA ?_ | refine wB ?_ | refine wC ?_ | refine wD ?_ | refine Called.mk _ _ (hA) ?_ | refine Called.mk _ _ (h0) ?_ | refine Called.mk _ _ (h1) ?_ | refine Called.mk _ _ (h2) ?_ | refine vA ?_ | refine vB ?_ | refine vC ?_ | refine vD ?_ | refine uA ?_ | refine uB ?_ | refine uC ?_ | refine uD ?_); conv => whnf) | ((first | apply Pick.dec | apply Pick.beq | apply Cond.dec | apply Cond.beq | apply Cond.nd | apply Pick.nd | apply Pick.mk | apply Cond.mk) <;> intro h <;> conv => whnf))
    exact EndH.mk [11] rfl rfl rfl
set_option maxHeartbeats 4000000 in
theorem rfold_3g (tabs : List Tb) (ht : tabs.length ≤ 9223372036854775807) (o : Int) (n s : ByteArray) (v : Vl) (sc p : Int) (a b c : Xp) (z0 z1 z2 : Xp) (q0 : constX z0 = true) (u0 : z0.kind = 1) (v0 : (z0.args.length : Int) = 0) (q1 : constX z1 = true) (u1 : z1.kind = 1) (v1 : (z1.args.length : Int) = 0) (q2 : constX z2 = true) (u2 : z2.kind = 1) (v2 : (z2.args.length : Int) = 0) (h0 : Ret Tryz.prog 20 [eE a, eL 2 cTb tabs] [] (eE z0) []) (h1 : Ret Tryz.prog 20 [eE b, eL 2 cTb tabs] [] (eE z1) []) (h2 : Ret Tryz.prog 20 [eE c, eL 2 cTb tabs] [] (eE z2) []) :
    Ret Tryz.prog 20 [eE (.mk 6 o n s v sc p [a, b, c]), eL 2 cTb tabs] [] (eE (foldR tabs 6 o n s v sc p [z0, z1, z2])) [] := by
  have hA := rfargs_ret (.mk 6 o n s v sc p [a, b, c])
  rw [show Xp.kind (.mk 6 o n s v sc p [a, b, c]) = 6 from rfl] at hA
  rw [show argsN 6 = 3 by decide] at hA
  rw [cE_mk] at hA
  have r0 : Xp.rows [a, b, c] (Int.toNat 0) = cE a := (rows3 a b c).1
  have r1 : Xp.rows [a, b, c] (Int.toNat 1) = cE b := (rows3 a b c).2.1
  have r2 : Xp.rows [a, b, c] (Int.toNat 2) = cE c := (rows3 a b c).2.2
  have w1 : IntKind.i64.wrap (0 + 1) = 1 := rfl
  have w2 : IntKind.i64.wrap (1 + 1) = 2 := rfl
  have w3 : IntKind.i64.wrap (2 + 1) = 3 := rfl
  rw [show foldR tabs 6 o n s v sc p [z0, z1, z2] = c0 (evalE (env0 tabs) (.mk 6 o n s v sc p [z0, z1, z2])) by simp [foldR, argsN, *]]
  have hE := freval_ret true true (env0 tabs) (env0_ok ht) (.mk 6 o n s v sc p [z0, z1, z2])
  replace hE := Ret.ex (g := growG [z0, z1, z2] 3) hE (fun i hi => (growG_at _ _ i hi).trans (rows_at _ i hi).symm)
  generalize evalE (env0 tabs) (.mk 6 o n s v sc p [z0, z1, z2]) = w at *
  refine nil_x ?_
  rw [cE_mk]
  refine ret_of_body atCalls tok mixed Tryz.func20 (by kernel_rfl) rfl (k := 110) (rs := [.cell 4 31]) (by kernel_rfl) (by kernel_rfl) ?_
  (conv => whnf) <;> repeat' (first | (intro I hw hs; apply hs; conv => whnf) | (apply hs; conv => whnf) | (rw [w1]; conv => whnf) | (rw [w2]; conv => whnf) | (rw [w3]; conv => whnf) | ((conv => arg 1; whnf); rw [r0]; conv => whnf) | ((conv => arg 1; whnf); rw [r1]; conv => whnf) | ((conv => arg 1; whnf); rw [r2]; conv => whnf) | ((first | refine wN ?_ | refine wA ?_ | refine wB ?_ | refine wC ?_ | refine wD ?_ | refine Called.mk _ _ (hA) ?_ | refine Called.mk _ _ (h0) ?_ | refine Called.mk _ _ (h1) ?_ | refine Called.mk _ _ (h2) ?_ | refine Called.mk _ _ (hE) ?_ | refine vA ?_ | refine vB ?_ | refine vC ?_ | refine vD ?_ | refine uA ?_ | refine uB ?_ | refine uC ?_ | refine uD ?_); conv => whnf) | ((first | apply Pick.dec | apply Pick.beq | apply Cond.dec | apply Cond.beq | apply Cond.nd | apply Pick.nd | apply Pick.mk | apply Cond.mk) <;> intro h <;> conv => whnf))
  exact End.mk rfl rfl
set_option maxHeartbeats 4000000 in
theorem rfold_3 (tabs : List Tb) (ht : tabs.length ≤ 9223372036854775807) (o : Int) (n s : ByteArray) (v : Vl) (sc p : Int) (a b c : Xp) (z0 z1 z2 : Xp) (h0 : Ret Tryz.prog 20 [eE a, eL 2 cTb tabs] [] (eE z0) []) (h1 : Ret Tryz.prog 20 [eE b, eL 2 cTb tabs] [] (eE z1) []) (h2 : Ret Tryz.prog 20 [eE c, eL 2 cTb tabs] [] (eE z2) []) :
    Ret Tryz.prog 20 [eE (.mk 6 o n s v sc p [a, b, c]), eL 2 cTb tabs] [] (eE (foldR tabs 6 o n s v sc p [z0, z1, z2])) [] := by
  rcases constX_ways z0 with ⟨q0, u0, v0⟩ | ⟨q0, u0⟩ | ⟨q0, u0, v0⟩
  · rcases constX_ways z1 with ⟨q1, u1, v1⟩ | ⟨q1, u1⟩ | ⟨q1, u1, v1⟩
    · rcases constX_ways z2 with ⟨q2, u2, v2⟩ | ⟨q2, u2⟩ | ⟨q2, u2, v2⟩
      · exact rfold_3g tabs ht o n s v sc p a b c z0 z1 z2 q0 u0 v0 q1 u1 v1 q2 u2 v2 h0 h1 h2
      · exact rfold_3e tabs ht o n s v sc p a b c z0 z1 z2 q0 u0 v0 q1 u1 v1 q2 u2 h0 h1 h2
      · exact rfold_3f tabs ht o n s v sc p a b c z0 z1 z2 q0 u0 v0 q1 u1 v1 q2 u2 v2 h0 h1 h2
    · exact rfold_3c tabs ht o n s v sc p a b c z0 z1 z2 q0 u0 v0 q1 u1 h0 h1 h2
    · exact rfold_3d tabs ht o n s v sc p a b c z0 z1 z2 q0 u0 v0 q1 u1 v1 h0 h1 h2
  · exact rfold_3a tabs ht o n s v sc p a b c z0 z1 z2 q0 u0 h0 h1 h2
  · exact rfold_3b tabs ht o n s v sc p a b c z0 z1 z2 q0 u0 v0 h0 h1 h2
end Go.Proofs.YtlbocjcponegcaaGreat

set_option linter.unusedVariables false
set_option linter.unusedSimpArgs false
set_option maxRecDepth 100000
namespace Go.Proofs.YtlbocjcponegcaaGreat
open Go.AM
set_option maxHeartbeats 8000000 in
theorem rfold_w (tabs : List Tb) (ht : tabs.length ≤ 9223372036854775807) (k : Int) (o : Int) (n s : ByteArray) (v : Vl) (sc p : Int) (l : List Xp) (hlen : l.length ≤ maxLen) (hbig : l.length * 176 ≤ 140737488355328) (h1 : (l.length : Int) ≠ argsN k)
    (ih : ∀ y ∈ l, Ret Tryz.prog 20 [eE y, eL 2 cTb tabs] [] (eE (foldE tabs y)) []) : Ret Tryz.prog 20 [eE (.mk k o n s v sc p l), eL 2 cTb tabs] [] (eE (.mk k o n s v sc p (l.map (foldE tabs)))) [] := by
  have hA := rfargs_ret (.mk k o n s v sc p l)
  rw [show Xp.kind (.mk k o n s v sc p l) = k from rfl] at hA
  have hm : maxLen ≤ 9223372036854775807 := by decide
  have ke : (argsN k != (l.length : Int)) = true := by simp only [bne_iff_ne, ne_eq]; omega
  have hml : (l.map (foldE tabs)).length = l.length := List.length_map ..
  have hat : ∀ i (h : i < l.length), (l.map (foldE tabs)).getD i xp0 = foldE tabs l[i] := fun i h => by
    rw [List.getD_eq_getElem?_getD, List.getElem?_map, List.getElem?_eq_getElem h]; rfl
  cases hl : l with
  | nil =>
    subst hl
    refine nil_x ?_
    rw [cE_mk] at hA ⊢
    refine ret_of_body atCalls tok mixed Tryz.func20 (by kernel_rfl) rfl (k := 110) (rs := [.cell 4 31]) (by kernel_rfl) (by kernel_rfl) ?_
    (conv => whnf) <;> repeat' (first | (intro I hw hs; apply hs; conv => whnf) | (apply hs; conv => whnf) | ((first | refine wN ?_ | refine wA ?_ | refine wB ?_ | refine wC ?_ | refine wD ?_ | refine Called.mk _ _ (hA) ?_ | refine vA ?_ | refine vB ?_ | refine vC ?_ | refine vD ?_ | refine uA ?_ | refine uB ?_ | refine uC ?_ | refine uD ?_); conv => whnf) | ((first | apply Pick.dec | apply Pick.beq | apply Cond.dec | apply Cond.beq | apply Cond.nd | apply Pick.nd | apply Pick.mk | apply Cond.mk) <;> intro h <;> conv => whnf))
    exact End.mk rfl rfl
  | cons y0 l0 =>
    rw [← hl]
    have hpos : 1 ≤ l.length := by rw [hl]; simp
    clear hl y0 l0
    refine lend_x (e := 31) _ ?_
    rw [hml]
    generalize l.map (foldE tabs) = m at *
    rw [cE_mk] at hA ⊢
    refine ret_of_body atCalls tok mixed Tryz.func20 (by kernel_rfl) rfl (k := 110) (rs := [.cell 4 31]) (by kernel_rfl) (by kernel_rfl) ?_
    (conv => whnf) <;> repeat' (first | ((first | refine wN ?_ | refine wA ?_ | refine wB ?_ | refine wC ?_ | refine wD ?_ | refine vA ?_ | refine vB ?_ | refine vC ?_ | refine vD ?_ | refine uA ?_ | refine uB ?_ | refine uC ?_ | refine uD ?_); conv => whnf) | ((first | apply Pick.dec | apply Pick.beq | apply Cond.dec | apply Cond.beq | apply Cond.nd | apply Pick.nd | apply Pick.mk | apply Cond.mk) <;> intro h <;> conv => whnf))
    intro I hw hs
    have turn : ∀ (d i : Nat) (q : Bool), i + d = l.length → 1 ≤ i → I [.und, eL 2 cTb tabs, .ptr 0 0, .und, .ptr 1 0, .ptr 2 0, .bool q, .int .i64 (i : Int), .und, .und, .und, .und, .und, .und, .und, .und, .und, .und, .und, .und, .und, .und, .und, .und, .und, .und, .und, .und, .und, .und, .und, .und, .und, .und, .und, .und, .und, .und, .und, .und, .und, .und, .und, .und, .und, .und, .und, .und, .und, .und, .und, .und, .und, .und, .und, .und, .und, .und, .und, .und, .und, .und, .und, .und, .und, .und, .und, .und, .und, .und, .und, .und, .und, .und, .und, .und, .und, .und, .und, .und, .und, .und, .und, .und, .und, .und, .und, .und, .und, .und, .und, .und, .und, .und, .und, .und, .und, .und, .und, .und, .und, .und, .und, .und, .und, .und, .und, .und, .und, .und] [.cells (hdX k o n s v sc p ++ [.ext 17 l.length (Xp.rows l)]), .cells (tab 31).zero, .cells (hdX k o n s v sc p ++ [.row 3 i]), .row 31 17 i (growG m i) (i - 1)] := by
      intro d
      induction d with
      | zero =>
        intro i q hi h1i
        obtain rfl : i = l.length := by omega
        apply hs
        conv => whnf
        refine Cond.ff (decF (by omega)) ?_
        (conv => whnf) <;> repeat' (first | ((first | refine wN ?_ | refine wA ?_ | refine wB ?_ | refine wC ?_ | refine wD ?_ | refine Called.mk _ _ (hA) ?_ | refine vA ?_ | refine vB ?_ | refine vC ?_ | refine vD ?_ | refine uA ?_ | refine uB ?_ | refine uC ?_ | refine uD ?_); conv => whnf) | ((first | apply Pick.dec | apply Pick.beq | apply Cond.dec | apply Cond.beq | apply Cond.nd | apply Pick.nd | apply Pick.mk | apply Cond.mk) <;> intro h <;> conv => whnf))
        exact EndH.mk [3] rfl rfl rfl
      | succ d im =>
        intro i q hi h1i
        have hil : i < l.length := by omega
        have gk : Xp.rows l (Int.toNat (i : Int)) = cE l[i] := by rw [Int.toNat_natCast]; exact (Xp.rows_ext l).2 i hil
        have e1 : IntKind.i64.wrap ((i : Int) + 1) = ((i + 1 : Nat) : Int) := by rw [wi64_id (by omega) (by omega)]; omega
        have hc := ih l[i] (List.getElem_mem hil)
        have hz := hat i hil
        obtain ⟨i, rfl⟩ : ∃ j, i = j + 1 := ⟨i - 1, by omega⟩
        rw [← hz] at hc
        generalize l[i + 1] = y at *
        apply hs
        conv => whnf
        refine Cond.tt (decT (by omega)) ?_
        (conv => whnf) <;> repeat' (first | ((conv => arg 1; whnf); rw [gk]; conv => whnf) | ((first | refine wN ?_ | refine wA ?_ | refine wB ?_ | refine wC ?_ | refine wD ?_ | refine Called.mk _ _ (hc) ?_ | refine vA ?_ | refine vB ?_ | refine vC ?_ | refine vD ?_ | refine uA ?_ | refine uB ?_ | refine uC ?_ | refine uD ?_); conv => whnf) | ((first | apply Pick.dec | apply Pick.beq | apply Cond.dec | apply Cond.beq | apply Cond.nd | apply Pick.nd | apply Pick.mk | apply Cond.mk) <;> intro h <;> conv => whnf))
        all_goals
          rw [e1]
          apply hw [0, 1, 2, 6] [false, true, true, false, true, true, true, true] _ _ rfl
          exact im (i + 1 + 1) _ (by omega) (by omega)
    apply hs
    conv => whnf
    have gk : Xp.rows l (Int.toNat (0 : Int)) = cE l[0] := (Xp.rows_ext l).2 0 (by omega)
    have hc := ih l[0] (List.getElem_mem (by omega))
    rw [← hat 0 (by omega)] at hc
    generalize l[0] = y at *
    refine Cond.tt (decT (by omega)) ?_
    (conv => whnf) <;> repeat' (first | ((conv => arg 1; whnf); rw [gk]; conv => whnf) | ((first | refine wN ?_ | refine wA ?_ | refine wB ?_ | refine wC ?_ | refine wD ?_ | refine Called.mk _ _ (hc) ?_ | refine vA ?_ | refine vB ?_ | refine vC ?_ | refine vD ?_ | refine uA ?_ | refine uB ?_ | refine uC ?_ | refine uD ?_); conv => whnf) | ((first | apply Pick.dec | apply Pick.beq | apply Cond.dec | apply Cond.beq | apply Cond.nd | apply Pick.nd | apply Pick.mk | apply Cond.mk) <;> intro h <;> conv => whnf))
    all_goals
      apply hw [0, 1, 2, 5] [false, true, true, false, true, true, true, true] _ _ rfl
      exact turn (l.length - 1) 1 _ (by omega) (by omega)
theorem rfold_ret (tabs : List Tb) (ht : tabs.length ≤ 9223372036854775807) (x : Xp) : x.Wf → x.Lens → Ret Tryz.prog 20 [eE x, eL 2 cTb tabs] [] (eE (foldE tabs x)) [] := by
  refine Xp.ind (Q := fun x => x.Wf → x.Lens → Ret Tryz.prog 20 [eE x, eL 2 cTb tabs] [] (eE (foldE tabs x)) []) ?_ x
  clear x
  intro x ih hx hL
  obtain ⟨k, o, n, s, v, sc, p, l⟩ := x
  have ih : ∀ y ∈ l, Ret Tryz.prog 20 [eE y, eL 2 cTb tabs] [] (eE (foldE tabs y)) [] := fun y hy => ih y hy (hx.arg hy) (hL.arg hy)
  rw [foldE_mk]
  have hcv : ∀ z ∈ l.map (foldE tabs), constX z = true → z.val.valid := fun z hz hc => by
    obtain ⟨y, _, rfl⟩ := List.mem_map.1 hz
    exact foldE_const tabs y hc
  by_cases h1 : (l.length : Int) = argsN k
  · have h3 := argsN_le k
    rw [← foldR_eq hcv]
    match l, h1, ih with
    | [], h1, ih =>
      rcases args0 h1.symm with rfl | rfl | rfl
      · exact rfold_0k1 tabs ht o n s v sc p
      · exact rfold_0k2 tabs ht o n s v sc p
      · exact rfold_0k10 tabs ht o n s v sc p
    | [a], h1, ih => exact rfold_1 tabs ht o n s v sc p a _ k h1.symm (ih a (by simp))
    | [a, b], h1, ih =>
      obtain rfl := args2 h1.symm
      exact rfold_2 tabs ht o n s v sc p a b _ _ (ih a (by simp)) (ih b (by simp))
    | [a, b, c], h1, ih =>
      obtain rfl := args3 h1.symm
      exact rfold_3 tabs ht o n s v sc p a b c _ _ _ (ih a (by simp)) (ih b (by simp)) (ih c (by simp))
    | _ :: _ :: _ :: _ :: _, h1, _ => simp only [List.length_cons] at h1; omega
  · have e : foldN tabs k o n s v sc p (l.map (foldE tabs)) = .mk k o n s v sc p (l.map (foldE tabs)) := if_pos (by rw [List.length_map]; exact h1)
    rw [e]
    exact rfold_w tabs ht k o n s v sc p l hx.one.len hL.one h1 ih
end Go.Proofs.YtlbocjcponegcaaGreat

set_option linter.unusedVariables false
set_option linter.unusedSimpArgs false
set_option maxRecDepth 100000
namespace Go.Proofs.YtlbocjcponegcaaGreat
open Go.AM
set_option maxHeartbeats 8000000 in
theorem same_ret (x : Xp) : x.Lens → Ret Tryz.prog 18 [eE x, eE x] [] (.bool true) [] := by
  refine Xp.ind (Q := fun x => x.Lens → Ret Tryz.prog 18 [eE x, eE x] [] (.bool true) []) ?_ x
  clear x
  intro x ih hL
  obtain ⟨k, o, n, s, v, sc, p, l⟩ := x
  have hlen : l.length * 176 ≤ 140737488355328 := hL.one
  have ih : ∀ y ∈ l, Ret Tryz.prog 18 [eE y, eE y] [] (.bool true) [] := fun y hy => ih y hy (hL.arg hy)
  have f1 : (k != k) = false := by simp
  have f2 : (o != o) = false := by simp
  have f3 : (!(n.toList == n.toList)) = false := by simp
  have f4 : (!(s.toList == s.toList)) = false := by simp
  have f5 : (!decide (v = v)) = false := by simp
  have f6 : (sc != sc) = false := by simp
  have f7 : (p != p) = false := by simp
  have f8 : ((l.length : Int) != (l.length : Int)) = false := by simp
  rw [cE_mk]
  refine ret_of_body atCalls tok mixed Tryz.func18 (by kernel_rfl) rfl (k := 81) (rs := [.tmp 4]) (by kernel_rfl) (by kernel_rfl) ?_
  (conv => whnf) <;> repeat' (first | (rw [eqV]; conv => whnf) | ((first | refine wN ?_ | refine wA ?_ | refine wB ?_ | refine wC ?_ | refine wD ?_ | refine vA ?_ | refine vB ?_ | refine vC ?_ | refine vD ?_ | refine uA ?_ | refine uB ?_ | refine uC ?_ | refine uD ?_); conv => whnf) | ((first | apply Pick.dec | apply Pick.beq | apply Cond.dec | apply Cond.beq | apply Cond.nd | apply Pick.nd | apply Pick.mk | apply Cond.mk) <;> intro h <;> conv => whnf))
  intro I hw hs
  have turn : ∀ (d i : Nat), i + d = l.length → I [.und, .und, .ptr 0 0, .ptr 1 0, .und, .int .i64 (i : Int), .und, .und, .und, .und, .und, .und, .und, .und, .und, .und, .und, .und, .und, .und, .und, .und, .und, .und, .und, .und, .und, .und, .und, .und, .und, .und, .und, .und, .und, .und, .und, .und, .und, .und, .und, .und, .und, .und, .und, .und, .und, .und, .und, .und, .und, .und, .und, .und, .und, .und, .und, .und, .und, .und, .und, .und, .und, .und, .und, .und, .und, .und, .und, .und, .und, .und, .und, .und, .und, .und, .und, .und, .und, .und, .und] [.cells (hdX k o n s v sc p ++ [.ext 17 l.length (Xp.rows l)]), .cells (hdX k o n s v sc p ++ [.ext 17 l.length (Xp.rows l)])] := by
    intro d
    induction d with
    | zero =>
      intro i hi
      apply hs
      conv => whnf
      refine Cond.ff (decF (by omega)) ?_
      (conv => whnf) <;> repeat' (first | ((first | refine wN ?_ | refine wA ?_ | refine wB ?_ | refine wC ?_ | refine wD ?_ | refine vA ?_ | refine vB ?_ | refine vC ?_ | refine vD ?_ | refine uA ?_ | refine uB ?_ | refine uC ?_ | refine uD ?_); conv => whnf) | ((first | apply Pick.dec | apply Pick.beq | apply Cond.dec | apply Cond.beq | apply Cond.nd | apply Pick.nd | apply Pick.mk | apply Cond.mk) <;> intro h <;> conv => whnf))
      exact End.mk rfl rfl
    | succ d im =>
      intro i hi
      have hil : i < l.length := by omega
      have gk : Xp.rows l (Int.toNat (i : Int)) = cE l[i] := by rw [Int.toNat_natCast]; exact (Xp.rows_ext l).2 i hil
      have e1 : IntKind.i64.wrap ((i : Int) + 1) = ((i + 1 : Nat) : Int) := by rw [wi64_id (by omega) (by omega)]; omega
      have hc := ih l[i] (List.getElem_mem hil)
      generalize l[i] = y at *
      apply hs
      conv => whnf
      refine Cond.tt (decT (by omega)) ?_
      (conv => whnf) <;> repeat' (first | ((conv => arg 1; whnf); rw [gk]; conv => whnf) | ((first | refine wN ?_ | refine wA ?_ | refine wB ?_ | refine wC ?_ | refine wD ?_ | refine Called.mk _ _ (hc) ?_ | refine vA ?_ | refine vB ?_ | refine vC ?_ | refine vD ?_ | refine uA ?_ | refine uB ?_ | refine uC ?_ | refine uD ?_); conv => whnf) | ((first | apply Pick.dec | apply Pick.beq | apply Cond.dec | apply Cond.beq | apply Cond.nd | apply Pick.nd | apply Pick.mk | apply Cond.mk) <;> intro h <;> conv => whnf))
      rw [e1]
      apply hw [0, 1] [false, false, true, true, false, true] _ _ rfl
      exact im (i + 1) (by omega)
  apply hw [0, 1] [false, false, true, true, false, true] _ _ rfl
  exact turn l.length 0 (by omega)
end Go.Proofs.YtlbocjcponegcaaGreat

