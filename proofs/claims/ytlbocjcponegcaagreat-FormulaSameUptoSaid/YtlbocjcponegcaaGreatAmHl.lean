/- exciseref17.Eval: the nodes with arguments, kind by kind. -/
import Derived.Test.YtlbocjcponegcaaGreatAmHk
import Derived.Test.YtlbocjcponegcaaGreatAmV4
set_option linter.unusedVariables false
set_option linter.unusedSimpArgs false
set_option maxRecDepth 100000
namespace Go.Proofs.YtlbocjcponegcaaGreat
open Go.AM
set_option maxHeartbeats 4000000 in
theorem freval_neg (b1 b2 : Bool) (e : EnvS) (ok : EnvOk b1 b2 e) (o : Int) (n s : ByteArray) (v : Vl) (sc p : Int) (a : Xp) (w0 : Vl) (hy0 : Ret Tryz.prog 14 [eE a, envV b1 b2 e] (envH b1 b2 e) (eV w0) (envH b1 b2 e)) :
    Ret Tryz.prog 14 [eE (.mk 3 o n s v sc p [a]), envV b1 b2 e] (envH b1 b2 e) (eV (negV w0)) (envH b1 b2 e) := by
  have hA : Ret Tryz.prog 43 [eE (.mk 3 o n s v sc p [a])] [] (.int .i64 (1)) [] := rfargs_ret (.mk 3 o n s v sc p [a])
  have r0 : Xp.rows [a] (Int.toNat 0) = cE a := rows1 a
  rw [cE_mk] at hA ⊢
  cases b1 <;> cases b2
  · refine ret_of_body atCalls tok mixed Tryz.func14 (by kernel_rfl) rfl (k := 121) (rs := [.cell 4 28]) (by kernel_rfl) (by kernel_rfl) ?_
    (conv => whnf) <;> repeat' (first | (intro I hw hs; apply hs; conv => whnf) | (apply hs; conv => whnf) | ((conv => arg 1; whnf); rw [r0]; conv => whnf) | (refine CalledH.mk [0, 1] _ _ rfl (Nat.le_refl _) hy0 ?_; conv => whnf) | ((first | refine wN ?_ | refine wA ?_ | refine wB ?_ | refine wC ?_ | refine wD ?_ | refine Called.mk _ _ (hA) ?_ | refine Called.mk _ _ (rvNeg_ret w0) ?_ | refine vA ?_ | refine vB ?_ | refine vC ?_ | refine vD ?_ | refine uA ?_ | refine uB ?_ | refine uC ?_ | refine uD ?_); conv => whnf) | ((first | apply Pick.dec | apply Pick.beq | apply Cond.dec | apply Cond.beq | apply Cond.nd | apply Pick.nd | apply Pick.mk | apply Cond.mk) <;> intro h <;> conv => whnf))
    exact EndH.mk [0, 1] rfl rfl rfl
  · refine ret_of_body atCalls tok mixed Tryz.func14 (by kernel_rfl) rfl (k := 121) (rs := [.cell 4 28]) (by kernel_rfl) (by kernel_rfl) ?_
    (conv => whnf) <;> repeat' (first | (intro I hw hs; apply hs; conv => whnf) | (apply hs; conv => whnf) | ((conv => arg 1; whnf); rw [r0]; conv => whnf) | (refine CalledH.mk [0] _ _ rfl (Nat.le_refl _) hy0 ?_; conv => whnf) | ((first | refine wN ?_ | refine wA ?_ | refine wB ?_ | refine wC ?_ | refine wD ?_ | refine Called.mk _ _ (hA) ?_ | refine Called.mk _ _ (rvNeg_ret w0) ?_ | refine vA ?_ | refine vB ?_ | refine vC ?_ | refine vD ?_ | refine uA ?_ | refine uB ?_ | refine uC ?_ | refine uD ?_); conv => whnf) | ((first | apply Pick.dec | apply Pick.beq | apply Cond.dec | apply Cond.beq | apply Cond.nd | apply Pick.nd | apply Pick.mk | apply Cond.mk) <;> intro h <;> conv => whnf))
    exact EndH.mk [0] rfl rfl rfl
  · refine ret_of_body atCalls tok mixed Tryz.func14 (by kernel_rfl) rfl (k := 121) (rs := [.cell 4 28]) (by kernel_rfl) (by kernel_rfl) ?_
    (conv => whnf) <;> repeat' (first | (intro I hw hs; apply hs; conv => whnf) | (apply hs; conv => whnf) | ((conv => arg 1; whnf); rw [r0]; conv => whnf) | (refine CalledH.mk [0] _ _ rfl (Nat.le_refl _) hy0 ?_; conv => whnf) | ((first | refine wN ?_ | refine wA ?_ | refine wB ?_ | refine wC ?_ | refine wD ?_ | refine Called.mk _ _ (hA) ?_ | refine Called.mk _ _ (rvNeg_ret w0) ?_ | refine vA ?_ | refine vB ?_ | refine vC ?_ | refine vD ?_ | refine uA ?_ | refine uB ?_ | refine uC ?_ | refine uD ?_); conv => whnf) | ((first | apply Pick.dec | apply Pick.beq | apply Cond.dec | apply Cond.beq | apply Cond.nd | apply Pick.nd | apply Pick.mk | apply Cond.mk) <;> intro h <;> conv => whnf))
    exact EndH.mk [0] rfl rfl rfl
  · refine ret_of_body atCalls tok mixed Tryz.func14 (by kernel_rfl) rfl (k := 121) (rs := [.cell 4 28]) (by kernel_rfl) (by kernel_rfl) ?_
    (conv => whnf) <;> repeat' (first | (intro I hw hs; apply hs; conv => whnf) | (apply hs; conv => whnf) | ((conv => arg 1; whnf); rw [r0]; conv => whnf) | ((first | refine wN ?_ | refine wA ?_ | refine wB ?_ | refine wC ?_ | refine wD ?_ | refine Called.mk _ _ (hA) ?_ | refine Called.mk _ _ (hy0) ?_ | refine Called.mk _ _ (rvNeg_ret w0) ?_ | refine vA ?_ | refine vB ?_ | refine vC ?_ | refine vD ?_ | refine uA ?_ | refine uB ?_ | refine uC ?_ | refine uD ?_); conv => whnf) | ((first | apply Pick.dec | apply Pick.beq | apply Cond.dec | apply Cond.beq | apply Cond.nd | apply Pick.nd | apply Pick.mk | apply Cond.mk) <;> intro h <;> conv => whnf))
    exact End.mk rfl rfl
set_option maxHeartbeats 4000000 in
theorem freval_not (b1 b2 : Bool) (e : EnvS) (ok : EnvOk b1 b2 e) (o : Int) (n s : ByteArray) (v : Vl) (sc p : Int) (a : Xp) (w0 : Vl) (hy0 : Ret Tryz.prog 14 [eE a, envV b1 b2 e] (envH b1 b2 e) (eV w0) (envH b1 b2 e)) :
    Ret Tryz.prog 14 [eE (.mk 4 o n s v sc p [a]), envV b1 b2 e] (envH b1 b2 e) (eV (notV w0)) (envH b1 b2 e) := by
  have hA : Ret Tryz.prog 43 [eE (.mk 4 o n s v sc p [a])] [] (.int .i64 (1)) [] := rfargs_ret (.mk 4 o n s v sc p [a])
  have r0 : Xp.rows [a] (Int.toNat 0) = cE a := rows1 a
  rw [cE_mk] at hA ⊢
  cases b1 <;> cases b2
  · refine ret_of_body atCalls tok mixed Tryz.func14 (by kernel_rfl) rfl (k := 121) (rs := [.cell 4 28]) (by kernel_rfl) (by kernel_rfl) ?_
    (conv => whnf) <;> repeat' (first | (intro I hw hs; apply hs; conv => whnf) | (apply hs; conv => whnf) | ((conv => arg 1; whnf); rw [r0]; conv => whnf) | (refine CalledH.mk [0, 1] _ _ rfl (Nat.le_refl _) hy0 ?_; conv => whnf) | ((first | refine wN ?_ | refine wA ?_ | refine wB ?_ | refine wC ?_ | refine wD ?_ | refine Called.mk _ _ (hA) ?_ | refine Called.mk _ _ (rvNot_ret w0) ?_ | refine vA ?_ | refine vB ?_ | refine vC ?_ | refine vD ?_ | refine uA ?_ | refine uB ?_ | refine uC ?_ | refine uD ?_); conv => whnf) | ((first | apply Pick.dec | apply Pick.beq | apply Cond.dec | apply Cond.beq | apply Cond.nd | apply Pick.nd | apply Pick.mk | apply Cond.mk) <;> intro h <;> conv => whnf))
    exact EndH.mk [0, 1] rfl rfl rfl
  · refine ret_of_body atCalls tok mixed Tryz.func14 (by kernel_rfl) rfl (k := 121) (rs := [.cell 4 28]) (by kernel_rfl) (by kernel_rfl) ?_
    (conv => whnf) <;> repeat' (first | (intro I hw hs; apply hs; conv => whnf) | (apply hs; conv => whnf) | ((conv => arg 1; whnf); rw [r0]; conv => whnf) | (refine CalledH.mk [0] _ _ rfl (Nat.le_refl _) hy0 ?_; conv => whnf) | ((first | refine wN ?_ | refine wA ?_ | refine wB ?_ | refine wC ?_ | refine wD ?_ | refine Called.mk _ _ (hA) ?_ | refine Called.mk _ _ (rvNot_ret w0) ?_ | refine vA ?_ | refine vB ?_ | refine vC ?_ | refine vD ?_ | refine uA ?_ | refine uB ?_ | refine uC ?_ | refine uD ?_); conv => whnf) | ((first | apply Pick.dec | apply Pick.beq | apply Cond.dec | apply Cond.beq | apply Cond.nd | apply Pick.nd | apply Pick.mk | apply Cond.mk) <;> intro h <;> conv => whnf))
    exact EndH.mk [0] rfl rfl rfl
  · refine ret_of_body atCalls tok mixed Tryz.func14 (by kernel_rfl) rfl (k := 121) (rs := [.cell 4 28]) (by kernel_rfl) (by kernel_rfl) ?_
    (conv => whnf) <;> repeat' (first | (intro I hw hs; apply hs; conv => whnf) | (apply hs; conv => whnf) | ((conv => arg 1; whnf); rw [r0]; conv => whnf) | (refine CalledH.mk [0] _ _ rfl (Nat.le_refl _) hy0 ?_; conv => whnf) | ((first | refine wN ?_ | refine wA ?_ | refine wB ?_ | refine wC ?_ | refine wD ?_ | refine Called.mk _ _ (hA) ?_ | refine Called.mk _ _ (rvNot_ret w0) ?_ | refine vA ?_ | refine vB ?_ | refine vC ?_ | refine vD ?_ | refine uA ?_ | refine uB ?_ | refine uC ?_ | refine uD ?_); conv => whnf) | ((first | apply Pick.dec | apply Pick.beq | apply Cond.dec | apply Cond.beq | apply Cond.nd | apply Pick.nd | apply Pick.mk | apply Cond.mk) <;> intro h <;> conv => whnf))
    exact EndH.mk [0] rfl rfl rfl
  · refine ret_of_body atCalls tok mixed Tryz.func14 (by kernel_rfl) rfl (k := 121) (rs := [.cell 4 28]) (by kernel_rfl) (by kernel_rfl) ?_
    (conv => whnf) <;> repeat' (first | (intro I hw hs; apply hs; conv => whnf) | (apply hs; conv => whnf) | ((conv => arg 1; whnf); rw [r0]; conv => whnf) | ((first | refine wN ?_ | refine wA ?_ | refine wB ?_ | refine wC ?_ | refine wD ?_ | refine Called.mk _ _ (hA) ?_ | refine Called.mk _ _ (hy0) ?_ | refine Called.mk _ _ (rvNot_ret w0) ?_ | refine vA ?_ | refine vB ?_ | refine vC ?_ | refine vD ?_ | refine uA ?_ | refine uB ?_ | refine uC ?_ | refine uD ?_); conv => whnf) | ((first | apply Pick.dec | apply Pick.beq | apply Cond.dec | apply Cond.beq | apply Cond.nd | apply Pick.nd | apply Pick.mk | apply Cond.mk) <;> intro h <;> conv => whnf))
    exact End.mk rfl rfl
set_option maxHeartbeats 4000000 in
theorem freval_blank (b1 b2 : Bool) (e : EnvS) (ok : EnvOk b1 b2 e) (o : Int) (n s : ByteArray) (v : Vl) (sc p : Int) (a : Xp) (w0 : Vl) (hy0 : Ret Tryz.prog 14 [eE a, envV b1 b2 e] (envH b1 b2 e) (eV w0) (envH b1 b2 e)) :
    Ret Tryz.prog 14 [eE (.mk 9 o n s v sc p [a]), envV b1 b2 e] (envH b1 b2 e) (eV (blankV w0)) (envH b1 b2 e) := by
  have hA : Ret Tryz.prog 43 [eE (.mk 9 o n s v sc p [a])] [] (.int .i64 (1)) [] := rfargs_ret (.mk 9 o n s v sc p [a])
  have r0 : Xp.rows [a] (Int.toNat 0) = cE a := rows1 a
  rw [cE_mk] at hA ⊢
  cases b1 <;> cases b2
  · refine ret_of_body atCalls tok mixed Tryz.func14 (by kernel_rfl) rfl (k := 121) (rs := [.cell 4 28]) (by kernel_rfl) (by kernel_rfl) ?_
    (conv => whnf) <;> repeat' (first | (intro I hw hs; apply hs; conv => whnf) | (apply hs; conv => whnf) | ((conv => arg 1; whnf); rw [r0]; conv => whnf) | (refine CalledH.mk [0, 1] _ _ rfl (Nat.le_refl _) hy0 ?_; conv => whnf) | ((first | refine wN ?_ | refine wA ?_ | refine wB ?_ | refine wC ?_ | refine wD ?_ | refine Called.mk _ _ (hA) ?_ | refine Called.mk _ _ (rvBlank_ret w0) ?_ | refine vA ?_ | refine vB ?_ | refine vC ?_ | refine vD ?_ | refine uA ?_ | refine uB ?_ | refine uC ?_ | refine uD ?_); conv => whnf) | ((first | apply Pick.dec | apply Pick.beq | apply Cond.dec | apply Cond.beq | apply Cond.nd | apply Pick.nd | apply Pick.mk | apply Cond.mk) <;> intro h <;> conv => whnf))
    exact EndH.mk [0, 1] rfl rfl rfl
  · refine ret_of_body atCalls tok mixed Tryz.func14 (by kernel_rfl) rfl (k := 121) (rs := [.cell 4 28]) (by kernel_rfl) (by kernel_rfl) ?_
    (conv => whnf) <;> repeat' (first | (intro I hw hs; apply hs; conv => whnf) | (apply hs; conv => whnf) | ((conv => arg 1; whnf); rw [r0]; conv => whnf) | (refine CalledH.mk [0] _ _ rfl (Nat.le_refl _) hy0 ?_; conv => whnf) | ((first | refine wN ?_ | refine wA ?_ | refine wB ?_ | refine wC ?_ | refine wD ?_ | refine Called.mk _ _ (hA) ?_ | refine Called.mk _ _ (rvBlank_ret w0) ?_ | refine vA ?_ | refine vB ?_ | refine vC ?_ | refine vD ?_ | refine uA ?_ | refine uB ?_ | refine uC ?_ | refine uD ?_); conv => whnf) | ((first | apply Pick.dec | apply Pick.beq | apply Cond.dec | apply Cond.beq | apply Cond.nd | apply Pick.nd | apply Pick.mk | apply Cond.mk) <;> intro h <;> conv => whnf))
    exact EndH.mk [0] rfl rfl rfl
  · refine ret_of_body atCalls tok mixed Tryz.func14 (by kernel_rfl) rfl (k := 121) (rs := [.cell 4 28]) (by kernel_rfl) (by kernel_rfl) ?_
    (conv => whnf) <;> repeat' (first | (intro I hw hs; apply hs; conv => whnf) | (apply hs; conv => whnf) | ((conv => arg 1; whnf); rw [r0]; conv => whnf) | (refine CalledH.mk [0] _ _ rfl (Nat.le_refl _) hy0 ?_; conv => whnf) | ((first | refine wN ?_ | refine wA ?_ | refine wB ?_ | refine wC ?_ | refine wD ?_ | refine Called.mk _ _ (hA) ?_ | refine Called.mk _ _ (rvBlank_ret w0) ?_ | refine vA ?_ | refine vB ?_ | refine vC ?_ | refine vD ?_ | refine uA ?_ | refine uB ?_ | refine uC ?_ | refine uD ?_); conv => whnf) | ((first | apply Pick.dec | apply Pick.beq | apply Cond.dec | apply Cond.beq | apply Cond.nd | apply Pick.nd | apply Pick.mk | apply Cond.mk) <;> intro h <;> conv => whnf))
    exact EndH.mk [0] rfl rfl rfl
  · refine ret_of_body atCalls tok mixed Tryz.func14 (by kernel_rfl) rfl (k := 121) (rs := [.cell 4 28]) (by kernel_rfl) (by kernel_rfl) ?_
    (conv => whnf) <;> repeat' (first | (intro I hw hs; apply hs; conv => whnf) | (apply hs; conv => whnf) | ((conv => arg 1; whnf); rw [r0]; conv => whnf) | ((first | refine wN ?_ | refine wA ?_ | refine wB ?_ | refine wC ?_ | refine wD ?_ | refine Called.mk _ _ (hA) ?_ | refine Called.mk _ _ (hy0) ?_ | refine Called.mk _ _ (rvBlank_ret w0) ?_ | refine vA ?_ | refine vB ?_ | refine vC ?_ | refine vD ?_ | refine uA ?_ | refine uB ?_ | refine uC ?_ | refine uD ?_); conv => whnf) | ((first | apply Pick.dec | apply Pick.beq | apply Cond.dec | apply Cond.beq | apply Cond.nd | apply Pick.nd | apply Pick.mk | apply Cond.mk) <;> intro h <;> conv => whnf))
    exact End.mk rfl rfl
set_option maxHeartbeats 4000000 in
theorem freval_round (b1 b2 : Bool) (e : EnvS) (ok : EnvOk b1 b2 e) (o : Int) (n s : ByteArray) (v : Vl) (sc p : Int) (a : Xp) (w0 : Vl) (hy0 : Ret Tryz.prog 14 [eE a, envV b1 b2 e] (envH b1 b2 e) (eV w0) (envH b1 b2 e)) :
    Ret Tryz.prog 14 [eE (.mk 7 o n s v sc p [a]), envV b1 b2 e] (envH b1 b2 e) (eV (roundV w0 sc p)) (envH b1 b2 e) := by
  have hA : Ret Tryz.prog 43 [eE (.mk 7 o n s v sc p [a])] [] (.int .i64 (1)) [] := rfargs_ret (.mk 7 o n s v sc p [a])
  have r0 : Xp.rows [a] (Int.toNat 0) = cE a := rows1 a
  rw [cE_mk] at hA ⊢
  cases b1 <;> cases b2
  · refine ret_of_body atCalls tok mixed Tryz.func14 (by kernel_rfl) rfl (k := 121) (rs := [.cell 4 28]) (by kernel_rfl) (by kernel_rfl) ?_
    (conv => whnf) <;> repeat' (first | (intro I hw hs; apply hs; conv => whnf) | (apply hs; conv => whnf) | ((conv => arg 1; whnf); rw [r0]; conv => whnf) | (refine CalledH.mk [0, 1] _ _ rfl (Nat.le_refl _) hy0 ?_; conv => whnf) | ((first | refine wN ?_ | refine wA ?_ | refine wB ?_ | refine wC ?_ | refine wD ?_ | refine Called.mk _ _ (hA) ?_ | refine Called.mk _ _ (rvRound_ret w0 sc p) ?_ | refine vA ?_ | refine vB ?_ | refine vC ?_ | refine vD ?_ | refine uA ?_ | refine uB ?_ | refine uC ?_ | refine uD ?_); conv => whnf) | ((first | apply Pick.dec | apply Pick.beq | apply Cond.dec | apply Cond.beq | apply Cond.nd | apply Pick.nd | apply Pick.mk | apply Cond.mk) <;> intro h <;> conv => whnf))
    exact EndH.mk [0, 1] rfl rfl rfl
  · refine ret_of_body atCalls tok mixed Tryz.func14 (by kernel_rfl) rfl (k := 121) (rs := [.cell 4 28]) (by kernel_rfl) (by kernel_rfl) ?_
    (conv => whnf) <;> repeat' (first | (intro I hw hs; apply hs; conv => whnf) | (apply hs; conv => whnf) | ((conv => arg 1; whnf); rw [r0]; conv => whnf) | (refine CalledH.mk [0] _ _ rfl (Nat.le_refl _) hy0 ?_; conv => whnf) | ((first | refine wN ?_ | refine wA ?_ | refine wB ?_ | refine wC ?_ | refine wD ?_ | refine Called.mk _ _ (hA) ?_ | refine Called.mk _ _ (rvRound_ret w0 sc p) ?_ | refine vA ?_ | refine vB ?_ | refine vC ?_ | refine vD ?_ | refine uA ?_ | refine uB ?_ | refine uC ?_ | refine uD ?_); conv => whnf) | ((first | apply Pick.dec | apply Pick.beq | apply Cond.dec | apply Cond.beq | apply Cond.nd | apply Pick.nd | apply Pick.mk | apply Cond.mk) <;> intro h <;> conv => whnf))
    exact EndH.mk [0] rfl rfl rfl
  · refine ret_of_body atCalls tok mixed Tryz.func14 (by kernel_rfl) rfl (k := 121) (rs := [.cell 4 28]) (by kernel_rfl) (by kernel_rfl) ?_
    (conv => whnf) <;> repeat' (first | (intro I hw hs; apply hs; conv => whnf) | (apply hs; conv => whnf) | ((conv => arg 1; whnf); rw [r0]; conv => whnf) | (refine CalledH.mk [0] _ _ rfl (Nat.le_refl _) hy0 ?_; conv => whnf) | ((first | refine wN ?_ | refine wA ?_ | refine wB ?_ | refine wC ?_ | refine wD ?_ | refine Called.mk _ _ (hA) ?_ | refine Called.mk _ _ (rvRound_ret w0 sc p) ?_ | refine vA ?_ | refine vB ?_ | refine vC ?_ | refine vD ?_ | refine uA ?_ | refine uB ?_ | refine uC ?_ | refine uD ?_); conv => whnf) | ((first | apply Pick.dec | apply Pick.beq | apply Cond.dec | apply Cond.beq | apply Cond.nd | apply Pick.nd | apply Pick.mk | apply Cond.mk) <;> intro h <;> conv => whnf))
    exact EndH.mk [0] rfl rfl rfl
  · refine ret_of_body atCalls tok mixed Tryz.func14 (by kernel_rfl) rfl (k := 121) (rs := [.cell 4 28]) (by kernel_rfl) (by kernel_rfl) ?_
    (conv => whnf) <;> repeat' (first | (intro I hw hs; apply hs; conv => whnf) | (apply hs; conv => whnf) | ((conv => arg 1; whnf); rw [r0]; conv => whnf) | ((first | refine wN ?_ | refine wA ?_ | refine wB ?_ | refine wC ?_ | refine wD ?_ | refine Called.mk _ _ (hA) ?_ | refine Called.mk _ _ (hy0) ?_ | refine Called.mk _ _ (rvRound_ret w0 sc p) ?_ | refine vA ?_ | refine vB ?_ | refine vC ?_ | refine vD ?_ | refine uA ?_ | refine uB ?_ | refine uC ?_ | refine uD ?_); conv => whnf) | ((first | apply Pick.dec | apply Pick.beq | apply Cond.dec | apply Cond.beq | apply Cond.nd | apply Pick.nd | apply Pick.mk | apply Cond.mk) <;> intro h <;> conv => whnf))
    exact End.mk rfl rfl
set_option maxHeartbeats 4000000 in
theorem freval_says (b1 b2 : Bool) (e : EnvS) (ok : EnvOk b1 b2 e) (o : Int) (n s : ByteArray) (v : Vl) (sc p : Int) (a : Xp) (w0 : Vl) (hy0 : Ret Tryz.prog 14 [eE a, envV b1 b2 e] (envH b1 b2 e) (eV w0) (envH b1 b2 e)) :
    Ret Tryz.prog 14 [eE (.mk 8 o n s v sc p [a]), envV b1 b2 e] (envH b1 b2 e) (eV (tableV n w0 e.tabs)) (envH b1 b2 e) := by
  have hA : Ret Tryz.prog 43 [eE (.mk 8 o n s v sc p [a])] [] (.int .i64 (1)) [] := rfargs_ret (.mk 8 o n s v sc p [a])
  have r0 : Xp.rows [a] (Int.toNat 0) = cE a := rows1 a
  rw [cE_mk] at hA ⊢
  cases b1 <;> cases b2
  · refine ret_of_body atCalls tok mixed Tryz.func14 (by kernel_rfl) rfl (k := 121) (rs := [.cell 4 28]) (by kernel_rfl) (by kernel_rfl) ?_
    (conv => whnf) <;> repeat' (first | (intro I hw hs; apply hs; conv => whnf) | (apply hs; conv => whnf) | ((conv => arg 1; whnf); rw [r0]; conv => whnf) | (refine CalledH.mk [0, 1] _ _ rfl (Nat.le_refl _) hy0 ?_; conv => whnf) | ((first | refine wN ?_ | refine wA ?_ | refine wB ?_ | refine wC ?_ | refine wD ?_ | refine Called.mk _ _ (hA) ?_ | refine Called.mk _ _ (ftable_ret n w0 e.tabs ok.tabs) ?_ | refine vA ?_ | refine vB ?_ | refine vC ?_ | refine vD ?_ | refine uA ?_ | refine uB ?_ | refine uC ?_ | refine uD ?_); conv => whnf) | ((first | apply Pick.dec | apply Pick.beq | apply Cond.dec | apply Cond.beq | apply Cond.nd | apply Pick.nd | apply Pick.mk | apply Cond.mk) <;> intro h <;> conv => whnf))
    exact EndH.mk [0, 1] rfl rfl rfl
  · refine ret_of_body atCalls tok mixed Tryz.func14 (by kernel_rfl) rfl (k := 121) (rs := [.cell 4 28]) (by kernel_rfl) (by kernel_rfl) ?_
    (conv => whnf) <;> repeat' (first | (intro I hw hs; apply hs; conv => whnf) | (apply hs; conv => whnf) | ((conv => arg 1; whnf); rw [r0]; conv => whnf) | (refine CalledH.mk [0] _ _ rfl (Nat.le_refl _) hy0 ?_; conv => whnf) | ((first | refine wN ?_ | refine wA ?_ | refine wB ?_ | refine wC ?_ | refine wD ?_ | refine Called.mk _ _ (hA) ?_ | refine Called.mk _ _ (ftable_ret n w0 e.tabs ok.tabs) ?_ | refine vA ?_ | refine vB ?_ | refine vC ?_ | refine vD ?_ | refine uA ?_ | refine uB ?_ | refine uC ?_ | refine uD ?_); conv => whnf) | ((first | apply Pick.dec | apply Pick.beq | apply Cond.dec | apply Cond.beq | apply Cond.nd | apply Pick.nd | apply Pick.mk | apply Cond.mk) <;> intro h <;> conv => whnf))
    exact EndH.mk [0] rfl rfl rfl
  · refine ret_of_body atCalls tok mixed Tryz.func14 (by kernel_rfl) rfl (k := 121) (rs := [.cell 4 28]) (by kernel_rfl) (by kernel_rfl) ?_
    (conv => whnf) <;> repeat' (first | (intro I hw hs; apply hs; conv => whnf) | (apply hs; conv => whnf) | ((conv => arg 1; whnf); rw [r0]; conv => whnf) | (refine CalledH.mk [0] _ _ rfl (Nat.le_refl _) hy0 ?_; conv => whnf) | ((first | refine wN ?_ | refine wA ?_ | refine wB ?_ | refine wC ?_ | refine wD ?_ | refine Called.mk _ _ (hA) ?_ | refine Called.mk _ _ (ftable_ret n w0 e.tabs ok.tabs) ?_ | refine vA ?_ | refine vB ?_ | refine vC ?_ | refine vD ?_ | refine uA ?_ | refine uB ?_ | refine uC ?_ | refine uD ?_); conv => whnf) | ((first | apply Pick.dec | apply Pick.beq | apply Cond.dec | apply Cond.beq | apply Cond.nd | apply Pick.nd | apply Pick.mk | apply Cond.mk) <;> intro h <;> conv => whnf))
    exact EndH.mk [0] rfl rfl rfl
  · refine ret_of_body atCalls tok mixed Tryz.func14 (by kernel_rfl) rfl (k := 121) (rs := [.cell 4 28]) (by kernel_rfl) (by kernel_rfl) ?_
    (conv => whnf) <;> repeat' (first | (intro I hw hs; apply hs; conv => whnf) | (apply hs; conv => whnf) | ((conv => arg 1; whnf); rw [r0]; conv => whnf) | ((first | refine wN ?_ | refine wA ?_ | refine wB ?_ | refine wC ?_ | refine wD ?_ | refine Called.mk _ _ (hA) ?_ | refine Called.mk _ _ (hy0) ?_ | refine Called.mk _ _ (ftable_ret n w0 e.tabs ok.tabs) ?_ | refine vA ?_ | refine vB ?_ | refine vC ?_ | refine vD ?_ | refine uA ?_ | refine uB ?_ | refine uC ?_ | refine uD ?_); conv => whnf) | ((first | apply Pick.dec | apply Pick.beq | apply Cond.dec | apply Cond.beq | apply Cond.nd | apply Pick.nd | apply Pick.mk | apply Cond.mk) <;> intro h <;> conv => whnf))
    exact End.mk rfl rfl
set_option maxHeartbeats 4000000 in
theorem freval_op (b1 b2 : Bool) (e : EnvS) (ok : EnvOk b1 b2 e) (o : Int) (n s : ByteArray) (v : Vl) (sc p : Int) (a b : Xp) (w0 w1 : Vl) (hy0 : Ret Tryz.prog 14 [eE a, envV b1 b2 e] (envH b1 b2 e) (eV w0) (envH b1 b2 e)) (hy1 : Ret Tryz.prog 14 [eE b, envV b1 b2 e] (envH b1 b2 e) (eV w1) (envH b1 b2 e)) :
    Ret Tryz.prog 14 [eE (.mk 5 o n s v sc p [a, b]), envV b1 b2 e] (envH b1 b2 e) (eV (opV o w0 w1)) (envH b1 b2 e) := by
  have hA : Ret Tryz.prog 43 [eE (.mk 5 o n s v sc p [a, b])] [] (.int .i64 (2)) [] := rfargs_ret (.mk 5 o n s v sc p [a, b])
  have r0 : Xp.rows [a, b] (Int.toNat 0) = cE a := (rows2 a b).1
  have r1 : Xp.rows [a, b] (Int.toNat 1) = cE b := (rows2 a b).2
  have e1 : IntKind.i64.wrap (0 + 1) = 1 := rfl
  have e2 : IntKind.i64.wrap (1 + 1) = 2 := rfl
  have e3 : IntKind.i64.wrap (2 + 1) = 3 := rfl
  rw [cE_mk] at hA ⊢
  cases b1 <;> cases b2
  · refine ret_of_body atCalls tok mixed Tryz.func14 (by kernel_rfl) rfl (k := 121) (rs := [.cell 4 28]) (by kernel_rfl) (by kernel_rfl) ?_
    (conv => whnf) <;> repeat' (first | (intro I hw hs; apply hs; conv => whnf) | (apply hs; conv => whnf) | (rw [e1]; conv => whnf) | (rw [e2]; conv => whnf) | (rw [e3]; conv => whnf) | ((conv => arg 1; whnf); rw [r0]; conv => whnf) | ((conv => arg 1; whnf); rw [r1]; conv => whnf) | (refine CalledH.mk [0, 1] _ _ rfl (Nat.le_refl _) hy0 ?_; conv => whnf) | (refine CalledH.mk [0, 1] _ _ rfl (Nat.le_refl _) hy1 ?_; conv => whnf) | ((first | refine wN ?_ | refine wA ?_ | refine wB ?_ | refine wC ?_ | refine wD ?_ | refine Called.mk _ _ (hA) ?_ | refine Called.mk _ _ (rvOp_ret o w0 w1) ?_ | refine vA ?_ | refine vB ?_ | refine vC ?_ | refine vD ?_ | refine uA ?_ | refine uB ?_ | refine uC ?_ | refine uD ?_); conv => whnf) | ((first | apply Pick.dec | apply Pick.beq | apply Cond.dec | apply Cond.beq | apply Cond.nd | apply Pick.nd | apply Pick.mk | apply Cond.mk) <;> intro h <;> conv => whnf))
    exact EndH.mk [0, 1] rfl rfl rfl
  · refine ret_of_body atCalls tok mixed Tryz.func14 (by kernel_rfl) rfl (k := 121) (rs := [.cell 4 28]) (by kernel_rfl) (by kernel_rfl) ?_
    (conv => whnf) <;> repeat' (first | (intro I hw hs; apply hs; conv => whnf) | (apply hs; conv => whnf) | (rw [e1]; conv => whnf) | (rw [e2]; conv => whnf) | (rw [e3]; conv => whnf) | ((conv => arg 1; whnf); rw [r0]; conv => whnf) | ((conv => arg 1; whnf); rw [r1]; conv => whnf) | (refine CalledH.mk [0] _ _ rfl (Nat.le_refl _) hy0 ?_; conv => whnf) | (refine CalledH.mk [0] _ _ rfl (Nat.le_refl _) hy1 ?_; conv => whnf) | ((first | refine wN ?_ | refine wA ?_ | refine wB ?_ | refine wC ?_ | refine wD ?_ | refine Called.mk _ _ (hA) ?_ | refine Called.mk _ _ (rvOp_ret o w0 w1) ?_ | refine vA ?_ | refine vB ?_ | refine vC ?_ | refine vD ?_ | refine uA ?_ | refine uB ?_ | refine uC ?_ | refine uD ?_); conv => whnf) | ((first | apply Pick.dec | apply Pick.beq | apply Cond.dec | apply Cond.beq | apply Cond.nd | apply Pick.nd | apply Pick.mk | apply Cond.mk) <;> intro h <;> conv => whnf))
    exact EndH.mk [0] rfl rfl rfl
  · refine ret_of_body atCalls tok mixed Tryz.func14 (by kernel_rfl) rfl (k := 121) (rs := [.cell 4 28]) (by kernel_rfl) (by kernel_rfl) ?_
    (conv => whnf) <;> repeat' (first | (intro I hw hs; apply hs; conv => whnf) | (apply hs; conv => whnf) | (rw [e1]; conv => whnf) | (rw [e2]; conv => whnf) | (rw [e3]; conv => whnf) | ((conv => arg 1; whnf); rw [r0]; conv => whnf) | ((conv => arg 1; whnf); rw [r1]; conv => whnf) | (refine CalledH.mk [0] _ _ rfl (Nat.le_refl _) hy0 ?_; conv => whnf) | (refine CalledH.mk [0] _ _ rfl (Nat.le_refl _) hy1 ?_; conv => whnf) | ((first | refine wN ?_ | refine wA ?_ | refine wB ?_ | refine wC ?_ | refine wD ?_ | refine Called.mk _ _ (hA) ?_ | refine Called.mk _ _ (rvOp_ret o w0 w1) ?_ | refine vA ?_ | refine vB ?_ | refine vC ?_ | refine vD ?_ | refine uA ?_ | refine uB ?_ | refine uC ?_ | refine uD ?_); conv => whnf) | ((first | apply Pick.dec | apply Pick.beq | apply Cond.dec | apply Cond.beq | apply Cond.nd | apply Pick.nd | apply Pick.mk | apply Cond.mk) <;> intro h <;> conv => whnf))
    exact EndH.mk [0] rfl rfl rfl
  · refine ret_of_body atCalls tok mixed Tryz.func14 (by kernel_rfl) rfl (k := 121) (rs := [.cell 4 28]) (by kernel_rfl) (by kernel_rfl) ?_
    (conv => whnf) <;> repeat' (first | (intro I hw hs; apply hs; conv => whnf) | (apply hs; conv => whnf) | (rw [e1]; conv => whnf) | (rw [e2]; conv => whnf) | (rw [e3]; conv => whnf) | ((conv => arg 1; whnf); rw [r0]; conv => whnf) | ((conv => arg 1; whnf); rw [r1]; conv => whnf) | ((first | refine wN ?_ | refine wA ?_ | refine wB ?_ | refine wC ?_ | refine wD ?_ | refine Called.mk _ _ (hA) ?_ | refine Called.mk _ _ (hy0) ?_ | refine Called.mk _ _ (hy1) ?_ | refine Called.mk _ _ (rvOp_ret o w0 w1) ?_ | refine vA ?_ | refine vB ?_ | refine vC ?_ | refine vD ?_ | refine uA ?_ | refine uB ?_ | refine uC ?_ | refine uD ?_); conv => whnf) | ((first | apply Pick.dec | apply Pick.beq | apply Cond.dec | apply Cond.beq | apply Cond.nd | apply Pick.nd | apply Pick.mk | apply Cond.mk) <;> intro h <;> conv => whnf))
    exact End.mk rfl rfl
set_option maxHeartbeats 4000000 in
theorem freval_if (b1 b2 : Bool) (e : EnvS) (ok : EnvOk b1 b2 e) (o : Int) (n s : ByteArray) (v : Vl) (sc p : Int) (a b c : Xp) (w0 w1 w2 : Vl) (hy0 : Ret Tryz.prog 14 [eE a, envV b1 b2 e] (envH b1 b2 e) (eV w0) (envH b1 b2 e)) (hy1 : Ret Tryz.prog 14 [eE b, envV b1 b2 e] (envH b1 b2 e) (eV w1) (envH b1 b2 e)) (hy2 : Ret Tryz.prog 14 [eE c, envV b1 b2 e] (envH b1 b2 e) (eV w2) (envH b1 b2 e)) :
    Ret Tryz.prog 14 [eE (.mk 6 o n s v sc p [a, b, c]), envV b1 b2 e] (envH b1 b2 e) (eV (ifV w0 w1 w2)) (envH b1 b2 e) := by
  have hA : Ret Tryz.prog 43 [eE (.mk 6 o n s v sc p [a, b, c])] [] (.int .i64 (3)) [] := rfargs_ret (.mk 6 o n s v sc p [a, b, c])
  have r0 : Xp.rows [a, b, c] (Int.toNat 0) = cE a := (rows3 a b c).1
  have r1 : Xp.rows [a, b, c] (Int.toNat 1) = cE b := (rows3 a b c).2.1
  have r2 : Xp.rows [a, b, c] (Int.toNat 2) = cE c := (rows3 a b c).2.2
  have e1 : IntKind.i64.wrap (0 + 1) = 1 := rfl
  have e2 : IntKind.i64.wrap (1 + 1) = 2 := rfl
  have e3 : IntKind.i64.wrap (2 + 1) = 3 := rfl
  rw [cE_mk] at hA ⊢
  cases b1 <;> cases b2
  · refine ret_of_body atCalls tok mixed Tryz.func14 (by kernel_rfl) rfl (k := 121) (rs := [.cell 4 28]) (by kernel_rfl) (by kernel_rfl) ?_
    (conv => whnf) <;> repeat' (first | (intro I hw hs; apply hs; conv => whnf) | (apply hs; conv => whnf) | (rw [e1]; conv => whnf) | (rw [e2]; conv => whnf) | (rw [e3]; conv => whnf) | ((conv => arg 1; whnf); rw [r0]; conv => whnf) | ((conv => arg 1; whnf); rw [r1]; conv => whnf) | ((conv => arg 1; whnf); rw [r2]; conv => whnf) | (refine CalledH.mk [0, 1] _ _ rfl (Nat.le_refl _) hy0 ?_; conv => whnf) | (refine CalledH.mk [0, 1] _ _ rfl (Nat.le_refl _) hy1 ?_; conv => whnf) | (refine CalledH.mk [0, 1] _ _ rfl (Nat.le_refl _) hy2 ?_; conv => whnf) | ((first | refine wN ?_ | refine wA ?_ | refine wB ?_ | refine wC ?_ | refine wD ?_ | refine Called.mk _ _ (hA) ?_ | refine Called.mk _ _ (rvIf_ret w0 w1 w2) ?_ | refine vA ?_ | refine vB ?_ | refine vC ?_ | refine vD ?_ | refine uA ?_ | refine uB ?_ | refine uC ?_ | refine uD ?_); conv => whnf) | ((first | apply Pick.dec | apply Pick.beq | apply Cond.dec | apply Cond.beq | apply Cond.nd | apply Pick.nd | apply Pick.mk | apply Cond.mk) <;> intro h <;> conv => whnf))
    exact EndH.mk [0, 1] rfl rfl rfl
  · refine ret_of_body atCalls tok mixed Tryz.func14 (by kernel_rfl) rfl (k := 121) (rs := [.cell 4 28]) (by kernel_rfl) (by kernel_rfl) ?_
    (conv => whnf) <;> repeat' (first | (intro I hw hs; apply hs; conv => whnf) | (apply hs; conv => whnf) | (rw [e1]; conv => whnf) | (rw [e2]; conv => whnf) | (rw [e3]; conv => whnf) | ((conv => arg 1; whnf); rw [r0]; conv => whnf) | ((conv => arg 1; whnf); rw [r1]; conv => whnf) | ((conv => arg 1; whnf); rw [r2]; conv => whnf) | (refine CalledH.mk [0] _ _ rfl (Nat.le_refl _) hy0 ?_; conv => whnf) | (refine CalledH.mk [0] _ _ rfl (Nat.le_refl _) hy1 ?_; conv => whnf) | (refine CalledH.mk [0] _ _ rfl (Nat.le_refl _) hy2 ?_; conv => whnf) | ((first | refine wN ?_ | refine wA ?_ | refine wB ?_ | refine wC ?_ | refine wD ?_ | refine Called.mk _ _ (hA) ?_ | refine Called.mk _ _ (rvIf_ret w0 w1 w2) ?_ | refine vA ?_ | refine vB ?_ | refine vC ?_ | refine vD ?_ | refine uA ?_ | refine uB ?_ | refine uC ?_ | refine uD ?_); conv => whnf) | ((first | apply Pick.dec | apply Pick.beq | apply Cond.dec | apply Cond.beq | apply Cond.nd | apply Pick.nd | apply Pick.mk | apply Cond.mk) <;> intro h <;> conv => whnf))
    exact EndH.mk [0] rfl rfl rfl
  · refine ret_of_body atCalls tok mixed Tryz.func14 (by kernel_rfl) rfl (k := 121) (rs := [.cell 4 28]) (by kernel_rfl) (by kernel_rfl) ?_
    (conv => whnf) <;> repeat' (first | (intro I hw hs; apply hs; conv => whnf) | (apply hs; conv => whnf) | (rw [e1]; conv => whnf) | (rw [e2]; conv => whnf) | (rw [e3]; conv => whnf) | ((conv => arg 1; whnf); rw [r0]; conv => whnf) | ((conv => arg 1; whnf); rw [r1]; conv => whnf) | ((conv => arg 1; whnf); rw [r2]; conv => whnf) | (refine CalledH.mk [0] _ _ rfl (Nat.le_refl _) hy0 ?_; conv => whnf) | (refine CalledH.mk [0] _ _ rfl (Nat.le_refl _) hy1 ?_; conv => whnf) | (refine CalledH.mk [0] _ _ rfl (Nat.le_refl _) hy2 ?_; conv => whnf) | ((first | refine wN ?_ | refine wA ?_ | refine wB ?_ | refine wC ?_ | refine wD ?_ | refine Called.mk _ _ (hA) ?_ | refine Called.mk _ _ (rvIf_ret w0 w1 w2) ?_ | refine vA ?_ | refine vB ?_ | refine vC ?_ | refine vD ?_ | refine uA ?_ | refine uB ?_ | refine uC ?_ | refine uD ?_); conv => whnf) | ((first | apply Pick.dec | apply Pick.beq | apply Cond.dec | apply Cond.beq | apply Cond.nd | apply Pick.nd | apply Pick.mk | apply Cond.mk) <;> intro h <;> conv => whnf))
    exact EndH.mk [0] rfl rfl rfl
  · refine ret_of_body atCalls tok mixed Tryz.func14 (by kernel_rfl) rfl (k := 121) (rs := [.cell 4 28]) (by kernel_rfl) (by kernel_rfl) ?_
    (conv => whnf) <;> repeat' (first | (intro I hw hs; apply hs; conv => whnf) | (apply hs; conv => whnf) | (rw [e1]; conv => whnf) | (rw [e2]; conv => whnf) | (rw [e3]; conv => whnf) | ((conv => arg 1; whnf); rw [r0]; conv => whnf) | ((conv => arg 1; whnf); rw [r1]; conv => whnf) | ((conv => arg 1; whnf); rw [r2]; conv => whnf) | ((first | refine wN ?_ | refine wA ?_ | refine wB ?_ | refine wC ?_ | refine wD ?_ | refine Called.mk _ _ (hA) ?_ | refine Called.mk _ _ (hy0) ?_ | refine Called.mk _ _ (hy1) ?_ | refine Called.mk _ _ (hy2) ?_ | refine Called.mk _ _ (rvIf_ret w0 w1 w2) ?_ | refine vA ?_ | refine vB ?_ | refine vC ?_ | refine vD ?_ | refine uA ?_ | refine uB ?_ | refine uC ?_ | refine uD ?_); conv => whnf) | ((first | apply Pick.dec | apply Pick.beq | apply Cond.dec | apply Cond.beq | apply Cond.nd | apply Pick.nd | apply Pick.mk | apply Cond.mk) <;> intro h <;> conv => whnf))
    exact End.mk rfl rfl
end Go.Proofs.YtlbocjcponegcaaGreat

set_option linter.unusedVariables false
set_option linter.unusedSimpArgs false
set_option maxRecDepth 100000
namespace Go.Proofs.YtlbocjcponegcaaGreat
open Go.AM
set_option maxHeartbeats 4000000 in
theorem feval_const (b1 b2 : Bool) (e : EnvS) (ok : EnvOk b1 b2 e) (o : Int) (n s : ByteArray) (v : Vl) (sc p : Int) :
    Ret Tryz.prog 13 [eE (.mk 1 o n s v sc p []), envV b1 b2 e] (envH b1 b2 e) (eV (mayV v)) (envH b1 b2 e) := by
  have hA : Ret Tryz.prog 31 [.int .i64 1] [] (.int .i64 0) [] := fargs_ret 1
  have hM := fmay_ret v
  rw [cE_mk]
  cases b1 <;> cases b2
  · refine ret_of_body atCalls tok mixed Tryz.func13 (by kernel_rfl) rfl (k := 110) (rs := [.cell 4 28]) (by kernel_rfl) (by kernel_rfl) ?_
    (conv => whnf) <;> repeat' (first | (intro I hw hs; apply hs; conv => whnf) | (apply hs; conv => whnf) | ((first | refine wN ?_ | refine wA ?_ | refine wB ?_ | refine wC ?_ | refine wD ?_ | refine Called.mk _ _ (hA) ?_ | refine Called.mk _ _ (hM) ?_ | refine vA ?_ | refine vB ?_ | refine vC ?_ | refine vD ?_ | refine uA ?_ | refine uB ?_ | refine uC ?_ | refine uD ?_); conv => whnf) | ((first | apply Pick.dec | apply Pick.beq | apply Cond.dec | apply Cond.beq | apply Cond.nd | apply Pick.nd | apply Pick.mk | apply Cond.mk) <;> intro h <;> conv => whnf))
    exact EndH.mk [0, 1] rfl rfl rfl
  · refine ret_of_body atCalls tok mixed Tryz.func13 (by kernel_rfl) rfl (k := 110) (rs := [.cell 4 28]) (by kernel_rfl) (by kernel_rfl) ?_
    (conv => whnf) <;> repeat' (first | (intro I hw hs; apply hs; conv => whnf) | (apply hs; conv => whnf) | ((first | refine wN ?_ | refine wA ?_ | refine wB ?_ | refine wC ?_ | refine wD ?_ | refine Called.mk _ _ (hA) ?_ | refine Called.mk _ _ (hM) ?_ | refine vA ?_ | refine vB ?_ | refine vC ?_ | refine vD ?_ | refine uA ?_ | refine uB ?_ | refine uC ?_ | refine uD ?_); conv => whnf) | ((first | apply Pick.dec | apply Pick.beq | apply Cond.dec | apply Cond.beq | apply Cond.nd | apply Pick.nd | apply Pick.mk | apply Cond.mk) <;> intro h <;> conv => whnf))
    exact EndH.mk [0] rfl rfl rfl
  · refine ret_of_body atCalls tok mixed Tryz.func13 (by kernel_rfl) rfl (k := 110) (rs := [.cell 4 28]) (by kernel_rfl) (by kernel_rfl) ?_
    (conv => whnf) <;> repeat' (first | (intro I hw hs; apply hs; conv => whnf) | (apply hs; conv => whnf) | ((first | refine wN ?_ | refine wA ?_ | refine wB ?_ | refine wC ?_ | refine wD ?_ | refine Called.mk _ _ (hA) ?_ | refine Called.mk _ _ (hM) ?_ | refine vA ?_ | refine vB ?_ | refine vC ?_ | refine vD ?_ | refine uA ?_ | refine uB ?_ | refine uC ?_ | refine uD ?_); conv => whnf) | ((first | apply Pick.dec | apply Pick.beq | apply Cond.dec | apply Cond.beq | apply Cond.nd | apply Pick.nd | apply Pick.mk | apply Cond.mk) <;> intro h <;> conv => whnf))
    exact EndH.mk [0] rfl rfl rfl
  · refine ret_of_body atCalls tok mixed Tryz.func13 (by kernel_rfl) rfl (k := 110) (rs := [.cell 4 28]) (by kernel_rfl) (by kernel_rfl) ?_
    (conv => whnf) <;> repeat' (first | (intro I hw hs; apply hs; conv => whnf) | (apply hs; conv => whnf) | ((first | refine wN ?_ | refine wA ?_ | refine wB ?_ | refine wC ?_ | refine wD ?_ | refine Called.mk _ _ (hA) ?_ | refine Called.mk _ _ (hM) ?_ | refine vA ?_ | refine vB ?_ | refine vC ?_ | refine vD ?_ | refine uA ?_ | refine uB ?_ | refine uC ?_ | refine uD ?_); conv => whnf) | ((first | apply Pick.dec | apply Pick.beq | apply Cond.dec | apply Cond.beq | apply Cond.nd | apply Pick.nd | apply Pick.mk | apply Cond.mk) <;> intro h <;> conv => whnf))
    exact End.mk rfl rfl
set_option maxHeartbeats 4000000 in
theorem feval_name (b1 b2 : Bool) (e : EnvS) (ok : EnvOk b1 b2 e) (o : Int) (n s : ByteArray) (v : Vl) (sc p : Int) :
    Ret Tryz.prog 13 [eE (.mk 2 o n s v sc p []), envV b1 b2 e] (envH b1 b2 e) (eV (mayV (e.name n))) (envH b1 b2 e) := by
  have hA : Ret Tryz.prog 31 [.int .i64 2] [] (.int .i64 0) [] := fargs_ret 2
  have hM := fmay_ret (e.name n)
  rw [cE_mk]
  have hf := mfind_enc (ek := kN) (ev := cV) kN_inj n e.names
  cases b1 <;> cases b2
  · rcases hg : aget n e.names with _ | w
    · have en : e.name n = Vl0 := by unfold EnvS.name; rw [hg]; rfl
      have hF : mfind [.s n] (encM kN cV e.names) = none := by rw [hg] at hf; exact hf
      rw [en] at hM ⊢
      refine ret_of_body atCalls tok mixed Tryz.func13 (by kernel_rfl) rfl (k := 110) (rs := [.cell 4 28]) (by kernel_rfl) (by kernel_rfl) ?_
      (conv => whnf) <;> repeat' (first | (intro I hw hs; apply hs; conv => whnf) | (apply hs; conv => whnf) | ((conv => arg 1; whnf); rw [hF]; conv => whnf) | ((first | refine wN ?_ | refine wA ?_ | refine wB ?_ | refine wC ?_ | refine wD ?_ | refine Called.mk _ _ (hA) ?_ | refine Called.mk _ _ (hM) ?_ | refine vA ?_ | refine vB ?_ | refine vC ?_ | refine vD ?_ | refine uA ?_ | refine uB ?_ | refine uC ?_ | refine uD ?_); conv => whnf) | ((first | apply Pick.dec | apply Pick.beq | apply Cond.dec | apply Cond.beq | apply Cond.nd | apply Pick.nd | apply Pick.mk | apply Cond.mk) <;> intro h <;> conv => whnf))
      exact EndH.mk [0, 1] rfl rfl rfl
    · have en : e.name n = w := by unfold EnvS.name; rw [hg]; rfl
      have hF : mfind [.s n] (encM kN cV e.names) = some (cV w) := by rw [hg] at hf; exact hf
      rw [en] at hM ⊢
      refine ret_of_body atCalls tok mixed Tryz.func13 (by kernel_rfl) rfl (k := 110) (rs := [.cell 4 28]) (by kernel_rfl) (by kernel_rfl) ?_
      (conv => whnf) <;> repeat' (first | (intro I hw hs; apply hs; conv => whnf) | (apply hs; conv => whnf) | ((conv => arg 1; whnf); rw [hF]; conv => whnf) | ((first | refine wN ?_ | refine wA ?_ | refine wB ?_ | refine wC ?_ | refine wD ?_ | refine Called.mk _ _ (hA) ?_ | refine Called.mk _ _ (hM) ?_ | refine vA ?_ | refine vB ?_ | refine vC ?_ | refine vD ?_ | refine uA ?_ | refine uB ?_ | refine uC ?_ | refine uD ?_); conv => whnf) | ((first | apply Pick.dec | apply Pick.beq | apply Cond.dec | apply Cond.beq | apply Cond.nd | apply Pick.nd | apply Pick.mk | apply Cond.mk) <;> intro h <;> conv => whnf))
      exact EndH.mk [0, 1] rfl rfl rfl
  · rcases hg : aget n e.names with _ | w
    · have en : e.name n = Vl0 := by unfold EnvS.name; rw [hg]; rfl
      have hF : mfind [.s n] (encM kN cV e.names) = none := by rw [hg] at hf; exact hf
      rw [en] at hM ⊢
      refine ret_of_body atCalls tok mixed Tryz.func13 (by kernel_rfl) rfl (k := 110) (rs := [.cell 4 28]) (by kernel_rfl) (by kernel_rfl) ?_
      (conv => whnf) <;> repeat' (first | (intro I hw hs; apply hs; conv => whnf) | (apply hs; conv => whnf) | ((conv => arg 1; whnf); rw [hF]; conv => whnf) | ((first | refine wN ?_ | refine wA ?_ | refine wB ?_ | refine wC ?_ | refine wD ?_ | refine Called.mk _ _ (hA) ?_ | refine Called.mk _ _ (hM) ?_ | refine vA ?_ | refine vB ?_ | refine vC ?_ | refine vD ?_ | refine uA ?_ | refine uB ?_ | refine uC ?_ | refine uD ?_); conv => whnf) | ((first | apply Pick.dec | apply Pick.beq | apply Cond.dec | apply Cond.beq | apply Cond.nd | apply Pick.nd | apply Pick.mk | apply Cond.mk) <;> intro h <;> conv => whnf))
      exact EndH.mk [0] rfl rfl rfl
    · have en : e.name n = w := by unfold EnvS.name; rw [hg]; rfl
      have hF : mfind [.s n] (encM kN cV e.names) = some (cV w) := by rw [hg] at hf; exact hf
      rw [en] at hM ⊢
      refine ret_of_body atCalls tok mixed Tryz.func13 (by kernel_rfl) rfl (k := 110) (rs := [.cell 4 28]) (by kernel_rfl) (by kernel_rfl) ?_
      (conv => whnf) <;> repeat' (first | (intro I hw hs; apply hs; conv => whnf) | (apply hs; conv => whnf) | ((conv => arg 1; whnf); rw [hF]; conv => whnf) | ((first | refine wN ?_ | refine wA ?_ | refine wB ?_ | refine wC ?_ | refine wD ?_ | refine Called.mk _ _ (hA) ?_ | refine Called.mk _ _ (hM) ?_ | refine vA ?_ | refine vB ?_ | refine vC ?_ | refine vD ?_ | refine uA ?_ | refine uB ?_ | refine uC ?_ | refine uD ?_); conv => whnf) | ((first | apply Pick.dec | apply Pick.beq | apply Cond.dec | apply Cond.beq | apply Cond.nd | apply Pick.nd | apply Pick.mk | apply Cond.mk) <;> intro h <;> conv => whnf))
      exact EndH.mk [0] rfl rfl rfl
  · have en : e.name n = Vl0 := by unfold EnvS.name; rw [ok.names rfl]; rfl
    rw [en] at hM ⊢
    refine ret_of_body atCalls tok mixed Tryz.func13 (by kernel_rfl) rfl (k := 110) (rs := [.cell 4 28]) (by kernel_rfl) (by kernel_rfl) ?_
    (conv => whnf) <;> repeat' (first | (intro I hw hs; apply hs; conv => whnf) | (apply hs; conv => whnf) | ((first | refine wN ?_ | refine wA ?_ | refine wB ?_ | refine wC ?_ | refine wD ?_ | refine Called.mk _ _ (hA) ?_ | refine Called.mk _ _ (hM) ?_ | refine vA ?_ | refine vB ?_ | refine vC ?_ | refine vD ?_ | refine uA ?_ | refine uB ?_ | refine uC ?_ | refine uD ?_); conv => whnf) | ((first | apply Pick.dec | apply Pick.beq | apply Cond.dec | apply Cond.beq | apply Cond.nd | apply Pick.nd | apply Pick.mk | apply Cond.mk) <;> intro h <;> conv => whnf))
    exact EndH.mk [0] rfl rfl rfl
  · have en : e.name n = Vl0 := by unfold EnvS.name; rw [ok.names rfl]; rfl
    rw [en] at hM ⊢
    refine ret_of_body atCalls tok mixed Tryz.func13 (by kernel_rfl) rfl (k := 110) (rs := [.cell 4 28]) (by kernel_rfl) (by kernel_rfl) ?_
    (conv => whnf) <;> repeat' (first | (intro I hw hs; apply hs; conv => whnf) | (apply hs; conv => whnf) | ((first | refine wN ?_ | refine wA ?_ | refine wB ?_ | refine wC ?_ | refine wD ?_ | refine Called.mk _ _ (hA) ?_ | refine Called.mk _ _ (hM) ?_ | refine vA ?_ | refine vB ?_ | refine vC ?_ | refine vD ?_ | refine uA ?_ | refine uB ?_ | refine uC ?_ | refine uD ?_); conv => whnf) | ((first | apply Pick.dec | apply Pick.beq | apply Cond.dec | apply Cond.beq | apply Cond.nd | apply Pick.nd | apply Pick.mk | apply Cond.mk) <;> intro h <;> conv => whnf))
    exact End.mk rfl rfl
set_option maxHeartbeats 4000000 in
theorem feval_agg (b1 b2 : Bool) (e : EnvS) (ok : EnvOk b1 b2 e) (o : Int) (n s : ByteArray) (v : Vl) (sc p : Int) :
    Ret Tryz.prog 13 [eE (.mk 10 o n s v sc p []), envV b1 b2 e] (envH b1 b2 e) (eV (mayV (aggV o (e.col (colK o s n)).1 (e.col (colK o s n)).2))) (envH b1 b2 e) := by
  have hA : Ret Tryz.prog 31 [.int .i64 10] [] (.int .i64 0) [] := fargs_ret 10
  have hK := fcolumn_ret (.mk 10 o n s v sc p [])
  replace hK : Ret Tryz.prog _ _ [] (eCK (colK o s n)) [] := hK
  generalize colK o s n = ck at *
  have hS := Value_ret o (e.col ck).1 (e.col ck).2 (ok.sums ck).1 (ok.sums ck).2
  have hM := fmay_ret (aggV o (e.col ck).1 (e.col ck).2)
  generalize aggV o (e.col ck).1 (e.col ck).2 = r at *
  rw [cE_mk]
  rw [cE_mk] at hK
  have hf := mfind_enc (ek := kC) (ev := cCl) kC_inj ck e.cols
  cases b1 <;> cases b2
  · rcases hg : aget ck e.cols with _ | w
    · have en : e.col ck = (Sm0, 0) := by unfold EnvS.col; rw [hg]; rfl
      have hF : mfind [.s ck.1, .s ck.2] (encM kC cCl e.cols) = none := by rw [hg] at hf; exact hf
      rw [en] at hS
      refine ret_of_body atCalls tok mixed Tryz.func13 (by kernel_rfl) rfl (k := 110) (rs := [.cell 4 28]) (by kernel_rfl) (by kernel_rfl) ?_
      (conv => whnf) <;> repeat' (first | (intro I hw hs; apply hs; conv => whnf) | (apply hs; conv => whnf) | ((conv => arg 1; whnf); rw [hF]; conv => whnf) | ((first | refine wN ?_ | refine wA ?_ | refine wB ?_ | refine wC ?_ | refine wD ?_ | refine Called.mk _ _ (hA) ?_ | refine Called.mk _ _ (hK) ?_ | refine Called.mk _ _ (hS) ?_ | refine Called.mk _ _ (hM) ?_ | refine vA ?_ | refine vB ?_ | refine vC ?_ | refine vD ?_ | refine uA ?_ | refine uB ?_ | refine uC ?_ | refine uD ?_); conv => whnf) | ((first | apply Pick.dec | apply Pick.beq | apply Cond.dec | apply Cond.beq | apply Cond.nd | apply Pick.nd | apply Pick.mk | apply Cond.mk) <;> intro h <;> conv => whnf))
      exact EndH.mk [0, 1] rfl rfl rfl
    · have en : e.col ck = w := by unfold EnvS.col; rw [hg]; rfl
      have hF : mfind [.s ck.1, .s ck.2] (encM kC cCl e.cols) = some (cCl w) := by rw [hg] at hf; exact hf
      rw [en] at hS
      refine ret_of_body atCalls tok mixed Tryz.func13 (by kernel_rfl) rfl (k := 110) (rs := [.cell 4 28]) (by kernel_rfl) (by kernel_rfl) ?_
      (conv => whnf) <;> repeat' (first | (intro I hw hs; apply hs; conv => whnf) | (apply hs; conv => whnf) | ((conv => arg 1; whnf); rw [hF]; conv => whnf) | ((first | refine wN ?_ | refine wA ?_ | refine wB ?_ | refine wC ?_ | refine wD ?_ | refine Called.mk _ _ (hA) ?_ | refine Called.mk _ _ (hK) ?_ | refine Called.mk _ _ (hS) ?_ | refine Called.mk _ _ (hM) ?_ | refine vA ?_ | refine vB ?_ | refine vC ?_ | refine vD ?_ | refine uA ?_ | refine uB ?_ | refine uC ?_ | refine uD ?_); conv => whnf) | ((first | apply Pick.dec | apply Pick.beq | apply Cond.dec | apply Cond.beq | apply Cond.nd | apply Pick.nd | apply Pick.mk | apply Cond.mk) <;> intro h <;> conv => whnf))
      exact EndH.mk [0, 1] rfl rfl rfl
  · have en : e.col ck = (Sm0, 0) := by unfold EnvS.col; rw [ok.cols rfl]; rfl
    rw [en] at hS
    refine ret_of_body atCalls tok mixed Tryz.func13 (by kernel_rfl) rfl (k := 110) (rs := [.cell 4 28]) (by kernel_rfl) (by kernel_rfl) ?_
    (conv => whnf) <;> repeat' (first | (intro I hw hs; apply hs; conv => whnf) | (apply hs; conv => whnf) | ((first | refine wN ?_ | refine wA ?_ | refine wB ?_ | refine wC ?_ | refine wD ?_ | refine Called.mk _ _ (hA) ?_ | refine Called.mk _ _ (hK) ?_ | refine Called.mk _ _ (hS) ?_ | refine Called.mk _ _ (hM) ?_ | refine vA ?_ | refine vB ?_ | refine vC ?_ | refine vD ?_ | refine uA ?_ | refine uB ?_ | refine uC ?_ | refine uD ?_); conv => whnf) | ((first | apply Pick.dec | apply Pick.beq | apply Cond.dec | apply Cond.beq | apply Cond.nd | apply Pick.nd | apply Pick.mk | apply Cond.mk) <;> intro h <;> conv => whnf))
    exact EndH.mk [0] rfl rfl rfl
  · rcases hg : aget ck e.cols with _ | w
    · have en : e.col ck = (Sm0, 0) := by unfold EnvS.col; rw [hg]; rfl
      have hF : mfind [.s ck.1, .s ck.2] (encM kC cCl e.cols) = none := by rw [hg] at hf; exact hf
      rw [en] at hS
      refine ret_of_body atCalls tok mixed Tryz.func13 (by kernel_rfl) rfl (k := 110) (rs := [.cell 4 28]) (by kernel_rfl) (by kernel_rfl) ?_
      (conv => whnf) <;> repeat' (first | (intro I hw hs; apply hs; conv => whnf) | (apply hs; conv => whnf) | ((conv => arg 1; whnf); rw [hF]; conv => whnf) | ((first | refine wN ?_ | refine wA ?_ | refine wB ?_ | refine wC ?_ | refine wD ?_ | refine Called.mk _ _ (hA) ?_ | refine Called.mk _ _ (hK) ?_ | refine Called.mk _ _ (hS) ?_ | refine Called.mk _ _ (hM) ?_ | refine vA ?_ | refine vB ?_ | refine vC ?_ | refine vD ?_ | refine uA ?_ | refine uB ?_ | refine uC ?_ | refine uD ?_); conv => whnf) | ((first | apply Pick.dec | apply Pick.beq | apply Cond.dec | apply Cond.beq | apply Cond.nd | apply Pick.nd | apply Pick.mk | apply Cond.mk) <;> intro h <;> conv => whnf))
      exact EndH.mk [0] rfl rfl rfl
    · have en : e.col ck = w := by unfold EnvS.col; rw [hg]; rfl
      have hF : mfind [.s ck.1, .s ck.2] (encM kC cCl e.cols) = some (cCl w) := by rw [hg] at hf; exact hf
      rw [en] at hS
      refine ret_of_body atCalls tok mixed Tryz.func13 (by kernel_rfl) rfl (k := 110) (rs := [.cell 4 28]) (by kernel_rfl) (by kernel_rfl) ?_
      (conv => whnf) <;> repeat' (first | (intro I hw hs; apply hs; conv => whnf) | (apply hs; conv => whnf) | ((conv => arg 1; whnf); rw [hF]; conv => whnf) | ((first | refine wN ?_ | refine wA ?_ | refine wB ?_ | refine wC ?_ | refine wD ?_ | refine Called.mk _ _ (hA) ?_ | refine Called.mk _ _ (hK) ?_ | refine Called.mk _ _ (hS) ?_ | refine Called.mk _ _ (hM) ?_ | refine vA ?_ | refine vB ?_ | refine vC ?_ | refine vD ?_ | refine uA ?_ | refine uB ?_ | refine uC ?_ | refine uD ?_); conv => whnf) | ((first | apply Pick.dec | apply Pick.beq | apply Cond.dec | apply Cond.beq | apply Cond.nd | apply Pick.nd | apply Pick.mk | apply Cond.mk) <;> intro h <;> conv => whnf))
      exact EndH.mk [0] rfl rfl rfl
  · have en : e.col ck = (Sm0, 0) := by unfold EnvS.col; rw [ok.cols rfl]; rfl
    rw [en] at hS
    refine ret_of_body atCalls tok mixed Tryz.func13 (by kernel_rfl) rfl (k := 110) (rs := [.cell 4 28]) (by kernel_rfl) (by kernel_rfl) ?_
    (conv => whnf) <;> repeat' (first | (intro I hw hs; apply hs; conv => whnf) | (apply hs; conv => whnf) | ((first | refine wN ?_ | refine wA ?_ | refine wB ?_ | refine wC ?_ | refine wD ?_ | refine Called.mk _ _ (hA) ?_ | refine Called.mk _ _ (hK) ?_ | refine Called.mk _ _ (hS) ?_ | refine Called.mk _ _ (hM) ?_ | refine vA ?_ | refine vB ?_ | refine vC ?_ | refine vD ?_ | refine uA ?_ | refine uB ?_ | refine uC ?_ | refine uD ?_); conv => whnf) | ((first | apply Pick.dec | apply Pick.beq | apply Cond.dec | apply Cond.beq | apply Cond.nd | apply Pick.nd | apply Pick.mk | apply Cond.mk) <;> intro h <;> conv => whnf))
    exact End.mk rfl rfl
set_option maxHeartbeats 4000000 in
theorem freval_const (b1 b2 : Bool) (e : EnvS) (ok : EnvOk b1 b2 e) (o : Int) (n s : ByteArray) (v : Vl) (sc p : Int) :
    Ret Tryz.prog 14 [eE (.mk 1 o n s v sc p []), envV b1 b2 e] (envH b1 b2 e) (eV (mayV v)) (envH b1 b2 e) := by
  have hA : Ret Tryz.prog 43 [eE (.mk 1 o n s v sc p [])] [] (.int .i64 0) [] := rfargs_ret (.mk 1 o n s v sc p [])
  have hM := rfmay_ret v
  rw [cE_mk] at hA ⊢
  cases b1 <;> cases b2
  · refine ret_of_body atCalls tok mixed Tryz.func14 (by kernel_rfl) rfl (k := 121) (rs := [.cell 4 28]) (by kernel_rfl) (by kernel_rfl) ?_
    (conv => whnf) <;> repeat' (first | (intro I hw hs; apply hs; conv => whnf) | (apply hs; conv => whnf) | ((first | refine wN ?_ | refine wA ?_ | refine wB ?_ | refine wC ?_ | refine wD ?_ | refine Called.mk _ _ (hA) ?_ | refine Called.mk _ _ (hM) ?_ | refine vA ?_ | refine vB ?_ | refine vC ?_ | refine vD ?_ | refine uA ?_ | refine uB ?_ | refine uC ?_ | refine uD ?_); conv => whnf) | ((first | apply Pick.dec | apply Pick.beq | apply Cond.dec | apply Cond.beq | apply Cond.nd | apply Pick.nd | apply Pick.mk | apply Cond.mk) <;> intro h <;> conv => whnf))
    exact EndH.mk [0, 1] rfl rfl rfl
  · refine ret_of_body atCalls tok mixed Tryz.func14 (by kernel_rfl) rfl (k := 121) (rs := [.cell 4 28]) (by kernel_rfl) (by kernel_rfl) ?_
    (conv => whnf) <;> repeat' (first | (intro I hw hs; apply hs; conv => whnf) | (apply hs; conv => whnf) | ((first | refine wN ?_ | refine wA ?_ | refine wB ?_ | refine wC ?_ | refine wD ?_ | refine Called.mk _ _ (hA) ?_ | refine Called.mk _ _ (hM) ?_ | refine vA ?_ | refine vB ?_ | refine vC ?_ | refine vD ?_ | refine uA ?_ | refine uB ?_ | refine uC ?_ | refine uD ?_); conv => whnf) | ((first | apply Pick.dec | apply Pick.beq | apply Cond.dec | apply Cond.beq | apply Cond.nd | apply Pick.nd | apply Pick.mk | apply Cond.mk) <;> intro h <;> conv => whnf))
    exact EndH.mk [0] rfl rfl rfl
  · refine ret_of_body atCalls tok mixed Tryz.func14 (by kernel_rfl) rfl (k := 121) (rs := [.cell 4 28]) (by kernel_rfl) (by kernel_rfl) ?_
    (conv => whnf) <;> repeat' (first | (intro I hw hs; apply hs; conv => whnf) | (apply hs; conv => whnf) | ((first | refine wN ?_ | refine wA ?_ | refine wB ?_ | refine wC ?_ | refine wD ?_ | refine Called.mk _ _ (hA) ?_ | refine Called.mk _ _ (hM) ?_ | refine vA ?_ | refine vB ?_ | refine vC ?_ | refine vD ?_ | refine uA ?_ | refine uB ?_ | refine uC ?_ | refine uD ?_); conv => whnf) | ((first | apply Pick.dec | apply Pick.beq | apply Cond.dec | apply Cond.beq | apply Cond.nd | apply Pick.nd | apply Pick.mk | apply Cond.mk) <;> intro h <;> conv => whnf))
    exact EndH.mk [0] rfl rfl rfl
  · refine ret_of_body atCalls tok mixed Tryz.func14 (by kernel_rfl) rfl (k := 121) (rs := [.cell 4 28]) (by kernel_rfl) (by kernel_rfl) ?_
    (conv => whnf) <;> repeat' (first | (intro I hw hs; apply hs; conv => whnf) | (apply hs; conv => whnf) | ((first | refine wN ?_ | refine wA ?_ | refine wB ?_ | refine wC ?_ | refine wD ?_ | refine Called.mk _ _ (hA) ?_ | refine Called.mk _ _ (hM) ?_ | refine vA ?_ | refine vB ?_ | refine vC ?_ | refine vD ?_ | refine uA ?_ | refine uB ?_ | refine uC ?_ | refine uD ?_); conv => whnf) | ((first | apply Pick.dec | apply Pick.beq | apply Cond.dec | apply Cond.beq | apply Cond.nd | apply Pick.nd | apply Pick.mk | apply Cond.mk) <;> intro h <;> conv => whnf))
    exact End.mk rfl rfl
set_option maxHeartbeats 4000000 in
theorem freval_name (b1 b2 : Bool) (e : EnvS) (ok : EnvOk b1 b2 e) (o : Int) (n s : ByteArray) (v : Vl) (sc p : Int) :
    Ret Tryz.prog 14 [eE (.mk 2 o n s v sc p []), envV b1 b2 e] (envH b1 b2 e) (eV (mayV (e.name n))) (envH b1 b2 e) := by
  have hA : Ret Tryz.prog 43 [eE (.mk 2 o n s v sc p [])] [] (.int .i64 0) [] := rfargs_ret (.mk 2 o n s v sc p [])
  have hM := rfmay_ret (e.name n)
  rw [cE_mk] at hA ⊢
  have hf := mfind_enc (ek := kN) (ev := cV) kN_inj n e.names
  cases b1 <;> cases b2
  · rcases hg : aget n e.names with _ | w
    · have en : e.name n = Vl0 := by unfold EnvS.name; rw [hg]; rfl
      have hF : mfind [.s n] (encM kN cV e.names) = none := by rw [hg] at hf; exact hf
      rw [en] at hM ⊢
      refine ret_of_body atCalls tok mixed Tryz.func14 (by kernel_rfl) rfl (k := 121) (rs := [.cell 4 28]) (by kernel_rfl) (by kernel_rfl) ?_
      (conv => whnf) <;> repeat' (first | (intro I hw hs; apply hs; conv => whnf) | (apply hs; conv => whnf) | ((conv => arg 1; whnf); rw [hF]; conv => whnf) | ((first | refine wN ?_ | refine wA ?_ | refine wB ?_ | refine wC ?_ | refine wD ?_ | refine Called.mk _ _ (hA) ?_ | refine Called.mk _ _ (hM) ?_ | refine vA ?_ | refine vB ?_ | refine vC ?_ | refine vD ?_ | refine uA ?_ | refine uB ?_ | refine uC ?_ | refine uD ?_); conv => whnf) | ((first | apply Pick.dec | apply Pick.beq | apply Cond.dec | apply Cond.beq | apply Cond.nd | apply Pick.nd | apply Pick.mk | apply Cond.mk) <;> intro h <;> conv => whnf))
      exact EndH.mk [0, 1] rfl rfl rfl
    · have en : e.name n = w := by unfold EnvS.name; rw [hg]; rfl
      have hF : mfind [.s n] (encM kN cV e.names) = some (cV w) := by rw [hg] at hf; exact hf
      rw [en] at hM ⊢
      refine ret_of_body atCalls tok mixed Tryz.func14 (by kernel_rfl) rfl (k := 121) (rs := [.cell 4 28]) (by kernel_rfl) (by kernel_rfl) ?_
      (conv => whnf) <;> repeat' (first | (intro I hw hs; apply hs; conv => whnf) | (apply hs; conv => whnf) | ((conv => arg 1; whnf); rw [hF]; conv => whnf) | ((first | refine wN ?_ | refine wA ?_ | refine wB ?_ | refine wC ?_ | refine wD ?_ | refine Called.mk _ _ (hA) ?_ | refine Called.mk _ _ (hM) ?_ | refine vA ?_ | refine vB ?_ | refine vC ?_ | refine vD ?_ | refine uA ?_ | refine uB ?_ | refine uC ?_ | refine uD ?_); conv => whnf) | ((first | apply Pick.dec | apply Pick.beq | apply Cond.dec | apply Cond.beq | apply Cond.nd | apply Pick.nd | apply Pick.mk | apply Cond.mk) <;> intro h <;> conv => whnf))
      exact EndH.mk [0, 1] rfl rfl rfl
  · rcases hg : aget n e.names with _ | w
    · have en : e.name n = Vl0 := by unfold EnvS.name; rw [hg]; rfl
      have hF : mfind [.s n] (encM kN cV e.names) = none := by rw [hg] at hf; exact hf
      rw [en] at hM ⊢
      refine ret_of_body atCalls tok mixed Tryz.func14 (by kernel_rfl) rfl (k := 121) (rs := [.cell 4 28]) (by kernel_rfl) (by kernel_rfl) ?_
      (conv => whnf) <;> repeat' (first | (intro I hw hs; apply hs; conv => whnf) | (apply hs; conv => whnf) | ((conv => arg 1; whnf); rw [hF]; conv => whnf) | ((first | refine wN ?_ | refine wA ?_ | refine wB ?_ | refine wC ?_ | refine wD ?_ | refine Called.mk _ _ (hA) ?_ | refine Called.mk _ _ (hM) ?_ | refine vA ?_ | refine vB ?_ | refine vC ?_ | refine vD ?_ | refine uA ?_ | refine uB ?_ | refine uC ?_ | refine uD ?_); conv => whnf) | ((first | apply Pick.dec | apply Pick.beq | apply Cond.dec | apply Cond.beq | apply Cond.nd | apply Pick.nd | apply Pick.mk | apply Cond.mk) <;> intro h <;> conv => whnf))
      exact EndH.mk [0] rfl rfl rfl
    · have en : e.name n = w := by unfold EnvS.name; rw [hg]; rfl
      have hF : mfind [.s n] (encM kN cV e.names) = some (cV w) := by rw [hg] at hf; exact hf
      rw [en] at hM ⊢
      refine ret_of_body atCalls tok mixed Tryz.func14 (by kernel_rfl) rfl (k := 121) (rs := [.cell 4 28]) (by kernel_rfl) (by kernel_rfl) ?_
      (conv => whnf) <;> repeat' (first | (intro I hw hs; apply hs; conv => whnf) | (apply hs; conv => whnf) | ((conv => arg 1; whnf); rw [hF]; conv => whnf) | ((first | refine wN ?_ | refine wA ?_ | refine wB ?_ | refine wC ?_ | refine wD ?_ | refine Called.mk _ _ (hA) ?_ | refine Called.mk _ _ (hM) ?_ | refine vA ?_ | refine vB ?_ | refine vC ?_ | refine vD ?_ | refine uA ?_ | refine uB ?_ | refine uC ?_ | refine uD ?_); conv => whnf) | ((first | apply Pick.dec | apply Pick.beq | apply Cond.dec | apply Cond.beq | apply Cond.nd | apply Pick.nd | apply Pick.mk | apply Cond.mk) <;> intro h <;> conv => whnf))
      exact EndH.mk [0] rfl rfl rfl
  · have en : e.name n = Vl0 := by unfold EnvS.name; rw [ok.names rfl]; rfl
    rw [en] at hM ⊢
    refine ret_of_body atCalls tok mixed Tryz.func14 (by kernel_rfl) rfl (k := 121) (rs := [.cell 4 28]) (by kernel_rfl) (by kernel_rfl) ?_
    (conv => whnf) <;> repeat' (first | (intro I hw hs; apply hs; conv => whnf) | (apply hs; conv => whnf) | ((first | refine wN ?_ | refine wA ?_ | refine wB ?_ | refine wC ?_ | refine wD ?_ | refine Called.mk _ _ (hA) ?_ | refine Called.mk _ _ (hM) ?_ | refine vA ?_ | refine vB ?_ | refine vC ?_ | refine vD ?_ | refine uA ?_ | refine uB ?_ | refine uC ?_ | refine uD ?_); conv => whnf) | ((first | apply Pick.dec | apply Pick.beq | apply Cond.dec | apply Cond.beq | apply Cond.nd | apply Pick.nd | apply Pick.mk | apply Cond.mk) <;> intro h <;> conv => whnf))
    exact EndH.mk [0] rfl rfl rfl
  · have en : e.name n = Vl0 := by unfold EnvS.name; rw [ok.names rfl]; rfl
    rw [en] at hM ⊢
    refine ret_of_body atCalls tok mixed Tryz.func14 (by kernel_rfl) rfl (k := 121) (rs := [.cell 4 28]) (by kernel_rfl) (by kernel_rfl) ?_
    (conv => whnf) <;> repeat' (first | (intro I hw hs; apply hs; conv => whnf) | (apply hs; conv => whnf) | ((first | refine wN ?_ | refine wA ?_ | refine wB ?_ | refine wC ?_ | refine wD ?_ | refine Called.mk _ _ (hA) ?_ | refine Called.mk _ _ (hM) ?_ | refine vA ?_ | refine vB ?_ | refine vC ?_ | refine vD ?_ | refine uA ?_ | refine uB ?_ | refine uC ?_ | refine uD ?_); conv => whnf) | ((first | apply Pick.dec | apply Pick.beq | apply Cond.dec | apply Cond.beq | apply Cond.nd | apply Pick.nd | apply Pick.mk | apply Cond.mk) <;> intro h <;> conv => whnf))
    exact End.mk rfl rfl
set_option maxHeartbeats 4000000 in
theorem freval_agg (b1 b2 : Bool) (e : EnvS) (ok : EnvOk b1 b2 e) (o : Int) (n s : ByteArray) (v : Vl) (sc p : Int) :
    Ret Tryz.prog 14 [eE (.mk 10 o n s v sc p []), envV b1 b2 e] (envH b1 b2 e) (eV (mayV (aggV o (e.col (colK o s n)).1 (e.col (colK o s n)).2))) (envH b1 b2 e) := by
  have hA : Ret Tryz.prog 43 [eE (.mk 10 o n s v sc p [])] [] (.int .i64 0) [] := rfargs_ret (.mk 10 o n s v sc p [])
  have hK := fkey_ret (.mk 10 o n s v sc p [])
  replace hK : Ret Tryz.prog _ _ [] (eCK (colK o s n)) [] := hK
  generalize colK o s n = ck at *
  have hS := rValue_ret o (e.col ck).1 (e.col ck).2 (ok.sums ck).1 (ok.sums ck).2
  have hM := rfmay_ret (aggV o (e.col ck).1 (e.col ck).2)
  generalize aggV o (e.col ck).1 (e.col ck).2 = r at *
  rw [cE_mk] at hA ⊢
  rw [cE_mk] at hK
  have hf := mfind_enc (ek := kC) (ev := cCl) kC_inj ck e.cols
  cases b1 <;> cases b2
  · rcases hg : aget ck e.cols with _ | w
    · have en : e.col ck = (Sm0, 0) := by unfold EnvS.col; rw [hg]; rfl
      have hF : mfind [.s ck.1, .s ck.2] (encM kC cCl e.cols) = none := by rw [hg] at hf; exact hf
      rw [en] at hS
      refine ret_of_body atCalls tok mixed Tryz.func14 (by kernel_rfl) rfl (k := 121) (rs := [.cell 4 28]) (by kernel_rfl) (by kernel_rfl) ?_
      (conv => whnf) <;> repeat' (first | (intro I hw hs; apply hs; conv => whnf) | (apply hs; conv => whnf) | ((conv => arg 1; whnf); rw [hF]; conv => whnf) | ((first | refine wN ?_ | refine wA ?_ | refine wB ?_ | refine wC ?_ | refine wD ?_ | refine Called.mk _ _ (hA) ?_ | refine Called.mk _ _ (hK) ?_ | refine Called.mk _ _ (hS) ?_ | refine Called.mk _ _ (hM) ?_ | refine vA ?_ | refine vB ?_ | refine vC ?_ | refine vD ?_ | refine uA ?_ | refine uB ?_ | refine uC ?_ | refine uD ?_); conv => whnf) | ((first | apply Pick.dec | apply Pick.beq | apply Cond.dec | apply Cond.beq | apply Cond.nd | apply Pick.nd | apply Pick.mk | apply Cond.mk) <;> intro h <;> conv => whnf))
      exact EndH.mk [0, 1] rfl rfl rfl
    · have en : e.col ck = w := by unfold EnvS.col; rw [hg]; rfl
      have hF : mfind [.s ck.1, .s ck.2] (encM kC cCl e.cols) = some (cCl w) := by rw [hg] at hf; exact hf
      rw [en] at hS
      refine ret_of_body atCalls tok mixed Tryz.func14 (by kernel_rfl) rfl (k := 121) (rs := [.cell 4 28]) (by kernel_rfl) (by kernel_rfl) ?_
      (conv => whnf) <;> repeat' (first | (intro I hw hs; apply hs; conv => whnf) | (apply hs; conv => whnf) | ((conv => arg 1; whnf); rw [hF]; conv => whnf) | ((first | refine wN ?_ | refine wA ?_ | refine wB ?_ | refine wC ?_ | refine wD ?_ | refine Called.mk _ _ (hA) ?_ | refine Called.mk _ _ (hK) ?_ | refine Called.mk _ _ (hS) ?_ | refine Called.mk _ _ (hM) ?_ | refine vA ?_ | refine vB ?_ | refine vC ?_ | refine vD ?_ | refine uA ?_ | refine uB ?_ | refine uC ?_ | refine uD ?_); conv => whnf) | ((first | apply Pick.dec | apply Pick.beq | apply Cond.dec | apply Cond.beq | apply Cond.nd | apply Pick.nd | apply Pick.mk | apply Cond.mk) <;> intro h <;> conv => whnf))
      exact EndH.mk [0, 1] rfl rfl rfl
  · have en : e.col ck = (Sm0, 0) := by unfold EnvS.col; rw [ok.cols rfl]; rfl
    rw [en] at hS
    refine ret_of_body atCalls tok mixed Tryz.func14 (by kernel_rfl) rfl (k := 121) (rs := [.cell 4 28]) (by kernel_rfl) (by kernel_rfl) ?_
    (conv => whnf) <;> repeat' (first | (intro I hw hs; apply hs; conv => whnf) | (apply hs; conv => whnf) | ((first | refine wN ?_ | refine wA ?_ | refine wB ?_ | refine wC ?_ | refine wD ?_ | refine Called.mk _ _ (hA) ?_ | refine Called.mk _ _ (hK) ?_ | refine Called.mk _ _ (hS) ?_ | refine Called.mk _ _ (hM) ?_ | refine vA ?_ | refine vB ?_ | refine vC ?_ | refine vD ?_ | refine uA ?_ | refine uB ?_ | refine uC ?_ | refine uD ?_); conv => whnf) | ((first | apply Pick.dec | apply Pick.beq | apply Cond.dec | apply Cond.beq | apply Cond.nd | apply Pick.nd | apply Pick.mk | apply Cond.mk) <;> intro h <;> conv => whnf))
    exact EndH.mk [0] rfl rfl rfl
  · rcases hg : aget ck e.cols with _ | w
    · have en : e.col ck = (Sm0, 0) := by unfold EnvS.col; rw [hg]; rfl
      have hF : mfind [.s ck.1, .s ck.2] (encM kC cCl e.cols) = none := by rw [hg] at hf; exact hf
      rw [en] at hS
      refine ret_of_body atCalls tok mixed Tryz.func14 (by kernel_rfl) rfl (k := 121) (rs := [.cell 4 28]) (by kernel_rfl) (by kernel_rfl) ?_
      (conv => whnf) <;> repeat' (first | (intro I hw hs; apply hs; conv => whnf) | (apply hs; conv => whnf) | ((conv => arg 1; whnf); rw [hF]; conv => whnf) | ((first | refine wN ?_ | refine wA ?_ | refine wB ?_ | refine wC ?_ | refine wD ?_ | refine Called.mk _ _ (hA) ?_ | refine Called.mk _ _ (hK) ?_ | refine Called.mk _ _ (hS) ?_ | refine Called.mk _ _ (hM) ?_ | refine vA ?_ | refine vB ?_ | refine vC ?_ | refine vD ?_ | refine uA ?_ | refine uB ?_ | refine uC ?_ | refine uD ?_); conv => whnf) | ((first | apply Pick.dec | apply Pick.beq | apply Cond.dec | apply Cond.beq | apply Cond.nd | apply Pick.nd | apply Pick.mk | apply Cond.mk) <;> intro h <;> conv => whnf))
      exact EndH.mk [0] rfl rfl rfl
    · have en : e.col ck = w := by unfold EnvS.col; rw [hg]; rfl
      have hF : mfind [.s ck.1, .s ck.2] (encM kC cCl e.cols) = some (cCl w) := by rw [hg] at hf; exact hf
      rw [en] at hS
      refine ret_of_body atCalls tok mixed Tryz.func14 (by kernel_rfl) rfl (k := 121) (rs := [.cell 4 28]) (by kernel_rfl) (by kernel_rfl) ?_
      (conv => whnf) <;> repeat' (first | (intro I hw hs; apply hs; conv => whnf) | (apply hs; conv => whnf) | ((conv => arg 1; whnf); rw [hF]; conv => whnf) | ((first | refine wN ?_ | refine wA ?_ | refine wB ?_ | refine wC ?_ | refine wD ?_ | refine Called.mk _ _ (hA) ?_ | refine Called.mk _ _ (hK) ?_ | refine Called.mk _ _ (hS) ?_ | refine Called.mk _ _ (hM) ?_ | refine vA ?_ | refine vB ?_ | refine vC ?_ | refine vD ?_ | refine uA ?_ | refine uB ?_ | refine uC ?_ | refine uD ?_); conv => whnf) | ((first | apply Pick.dec | apply Pick.beq | apply Cond.dec | apply Cond.beq | apply Cond.nd | apply Pick.nd | apply Pick.mk | apply Cond.mk) <;> intro h <;> conv => whnf))
      exact EndH.mk [0] rfl rfl rfl
  · have en : e.col ck = (Sm0, 0) := by unfold EnvS.col; rw [ok.cols rfl]; rfl
    rw [en] at hS
    refine ret_of_body atCalls tok mixed Tryz.func14 (by kernel_rfl) rfl (k := 121) (rs := [.cell 4 28]) (by kernel_rfl) (by kernel_rfl) ?_
    (conv => whnf) <;> repeat' (first | (intro I hw hs; apply hs; conv => whnf) | (apply hs; conv => whnf) | ((first | refine wN ?_ | refine wA ?_ | refine wB ?_ | refine wC ?_ | refine wD ?_ | refine Called.mk _ _ (hA) ?_ | refine Called.mk _ _ (hK) ?_ | refine Called.mk _ _ (hS) ?_ | refine Called.mk _ _ (hM) ?_ | refine vA ?_ | refine vB ?_ | refine vC ?_ | refine vD ?_ | refine uA ?_ | refine uB ?_ | refine uC ?_ | refine uD ?_); conv => whnf) | ((first | apply Pick.dec | apply Pick.beq | apply Cond.dec | apply Cond.beq | apply Cond.nd | apply Pick.nd | apply Pick.mk | apply Cond.mk) <;> intro h <;> conv => whnf))
    exact End.mk rfl rfl
end Go.Proofs.YtlbocjcponegcaaGreat

set_option linter.unusedVariables false
set_option linter.unusedSimpArgs false
set_option maxRecDepth 100000
namespace Go.Proofs.YtlbocjcponegcaaGreat
open Go.AM
set_option maxHeartbeats 4000000 in
theorem freval_bad (b1 b2 : Bool) (e : EnvS) (x : Xp) (h : (x.args.length : Int) ≠ argsN x.kind) : Ret Tryz.prog 14 [eE x, envV b1 b2 e] (envH b1 b2 e) (eV (evalE e x)) (envH b1 b2 e) := by
  have hA := rfargs_ret x
  rw [evalE_eq, nodeV_bad (by rw [List.length_map]; exact h)]
  have h' : ¬ argsN x.kind = (x.args.length : Int) := fun k => h k.symm
  generalize argsN x.kind = m at *
  cases b1 <;> cases b2
  · refine ret_of_body atCalls tok mixed Tryz.func14 (by kernel_rfl) rfl (k := 121) (rs := [.cell 4 28]) (by kernel_rfl) (by kernel_rfl) ?_
    (conv => whnf) <;> repeat' (first | ((first | refine wN ?_ | refine wA ?_ | refine wB ?_ | refine wC ?_ | refine wD ?_ | refine Called.mk _ _ (hA) ?_ | refine Called.mk _ _ (fbad2) ?_ | refine vA ?_ | refine vB ?_ | refine vC ?_ | refine vD ?_ | refine uA ?_ | refine uB ?_ | refine uC ?_ | refine uD ?_); conv => whnf) | ((first | apply Pick.dec | apply Pick.beq | apply Cond.dec | apply Cond.beq | apply Cond.nd | apply Pick.nd | apply Pick.mk | apply Cond.mk) <;> intro h <;> conv => whnf))
    exact EndH.mk [0, 1] rfl rfl rfl
  · refine ret_of_body atCalls tok mixed Tryz.func14 (by kernel_rfl) rfl (k := 121) (rs := [.cell 4 28]) (by kernel_rfl) (by kernel_rfl) ?_
    (conv => whnf) <;> repeat' (first | ((first | refine wN ?_ | refine wA ?_ | refine wB ?_ | refine wC ?_ | refine wD ?_ | refine Called.mk _ _ (hA) ?_ | refine Called.mk _ _ (fbad2) ?_ | refine vA ?_ | refine vB ?_ | refine vC ?_ | refine vD ?_ | refine uA ?_ | refine uB ?_ | refine uC ?_ | refine uD ?_); conv => whnf) | ((first | apply Pick.dec | apply Pick.beq | apply Cond.dec | apply Cond.beq | apply Cond.nd | apply Pick.nd | apply Pick.mk | apply Cond.mk) <;> intro h <;> conv => whnf))
    exact EndH.mk [0] rfl rfl rfl
  · refine ret_of_body atCalls tok mixed Tryz.func14 (by kernel_rfl) rfl (k := 121) (rs := [.cell 4 28]) (by kernel_rfl) (by kernel_rfl) ?_
    (conv => whnf) <;> repeat' (first | ((first | refine wN ?_ | refine wA ?_ | refine wB ?_ | refine wC ?_ | refine wD ?_ | refine Called.mk _ _ (hA) ?_ | refine Called.mk _ _ (fbad2) ?_ | refine vA ?_ | refine vB ?_ | refine vC ?_ | refine vD ?_ | refine uA ?_ | refine uB ?_ | refine uC ?_ | refine uD ?_); conv => whnf) | ((first | apply Pick.dec | apply Pick.beq | apply Cond.dec | apply Cond.beq | apply Cond.nd | apply Pick.nd | apply Pick.mk | apply Cond.mk) <;> intro h <;> conv => whnf))
    exact EndH.mk [0] rfl rfl rfl
  · refine ret_of_body atCalls tok mixed Tryz.func14 (by kernel_rfl) rfl (k := 121) (rs := [.cell 4 28]) (by kernel_rfl) (by kernel_rfl) ?_
    (conv => whnf) <;> repeat' (first | ((first | refine wN ?_ | refine wA ?_ | refine wB ?_ | refine wC ?_ | refine wD ?_ | refine Called.mk _ _ (hA) ?_ | refine Called.mk _ _ (fbad2) ?_ | refine vA ?_ | refine vB ?_ | refine vC ?_ | refine vD ?_ | refine uA ?_ | refine uB ?_ | refine uC ?_ | refine uD ?_); conv => whnf) | ((first | apply Pick.dec | apply Pick.beq | apply Cond.dec | apply Cond.beq | apply Cond.nd | apply Pick.nd | apply Pick.mk | apply Cond.mk) <;> intro h <;> conv => whnf))
    exact End.mk rfl rfl
theorem kids {Q : Xp → Prop} {k o : Int} {n s : ByteArray} {v : Vl} {sc p : Int} {l : List Xp} (ih : ∀ y, y ∈ (Xp.mk k o n s v sc p l).args → Q y) : ∀ y, y ∈ l → Q y := ih
theorem eval_mk (e : EnvS) (k o : Int) (n s : ByteArray) (v : Vl) (sc p : Int) (l : List Xp) : evalE e (.mk k o n s v sc p l) = nodeV e k o n s v sc p (l.map (evalE e)) := evalE_eq e _

theorem feval_ret (b1 b2 : Bool) (e : EnvS) (ok : EnvOk b1 b2 e) (x : Xp) : Ret Tryz.prog 13 [eE x, envV b1 b2 e] (envH b1 b2 e) (eV (evalE e x)) (envH b1 b2 e) := by
  refine Xp.ind (Q := fun x => Ret Tryz.prog 13 [eE x, envV b1 b2 e] (envH b1 b2 e) (eV (evalE e x)) (envH b1 b2 e)) (fun x ih => ?_) x
  by_cases h : (x.args.length : Int) = argsN x.kind
  · cases x with
    | mk k o n s v sc p l =>
      have h : (l.length : Int) = argsN k := h
      have ih := kids ih
      rw [eval_mk]
      match l, h, ih with
      | [], h, ih =>
        rcases args0 h.symm with rfl | rfl | rfl
        · exact feval_const b1 b2 e ok o n s v sc p
        · exact feval_name b1 b2 e ok o n s v sc p
        · exact feval_agg b1 b2 e ok o n s v sc p
      | [a], h, ih =>
        have ha := ih a (by simp)
        rcases args1 h.symm with rfl | rfl | rfl | rfl | rfl
        · exact feval_neg b1 b2 e ok o n s v sc p a _ ha
        · exact feval_not b1 b2 e ok o n s v sc p a _ ha
        · exact feval_round b1 b2 e ok o n s v sc p a _ ha
        · exact feval_says b1 b2 e ok o n s v sc p a _ ha
        · exact feval_blank b1 b2 e ok o n s v sc p a _ ha
      | [a, b], h, ih =>
        obtain rfl := args2 h.symm
        exact feval_op b1 b2 e ok o n s v sc p a b _ _ (ih a (by simp)) (ih b (by simp))
      | [a, b, c], h, ih =>
        obtain rfl := args3 h.symm
        exact feval_if b1 b2 e ok o n s v sc p a b c _ _ _ (ih a (by simp)) (ih b (by simp)) (ih c (by simp))
      | a :: b :: c :: d :: l, h, ih =>
        have := argsN_le k
        simp only [List.length_cons] at h
        omega
  · exact feval_bad b1 b2 e x h
theorem freval_ret (b1 b2 : Bool) (e : EnvS) (ok : EnvOk b1 b2 e) (x : Xp) : Ret Tryz.prog 14 [eE x, envV b1 b2 e] (envH b1 b2 e) (eV (evalE e x)) (envH b1 b2 e) := by
  refine Xp.ind (Q := fun x => Ret Tryz.prog 14 [eE x, envV b1 b2 e] (envH b1 b2 e) (eV (evalE e x)) (envH b1 b2 e)) (fun x ih => ?_) x
  by_cases h : (x.args.length : Int) = argsN x.kind
  · cases x with
    | mk k o n s v sc p l =>
      have h : (l.length : Int) = argsN k := h
      have ih := kids ih
      rw [eval_mk]
      match l, h, ih with
      | [], h, ih =>
        rcases args0 h.symm with rfl | rfl | rfl
        · exact freval_const b1 b2 e ok o n s v sc p
        · exact freval_name b1 b2 e ok o n s v sc p
        · exact freval_agg b1 b2 e ok o n s v sc p
      | [a], h, ih =>
        have ha := ih a (by simp)
        rcases args1 h.symm with rfl | rfl | rfl | rfl | rfl
        · exact freval_neg b1 b2 e ok o n s v sc p a _ ha
        · exact freval_not b1 b2 e ok o n s v sc p a _ ha
        · exact freval_round b1 b2 e ok o n s v sc p a _ ha
        · exact freval_says b1 b2 e ok o n s v sc p a _ ha
        · exact freval_blank b1 b2 e ok o n s v sc p a _ ha
      | [a, b], h, ih =>
        obtain rfl := args2 h.symm
        exact freval_op b1 b2 e ok o n s v sc p a b _ _ (ih a (by simp)) (ih b (by simp))
      | [a, b, c], h, ih =>
        obtain rfl := args3 h.symm
        exact freval_if b1 b2 e ok o n s v sc p a b c _ _ _ (ih a (by simp)) (ih b (by simp)) (ih c (by simp))
      | a :: b :: c :: d :: l, h, ih =>
        have := argsN_le k
        simp only [List.length_cons] at h
        omega
  · exact freval_bad b1 b2 e x h
end Go.Proofs.YtlbocjcponegcaaGreat

set_option linter.unusedVariables false
set_option linter.unusedSimpArgs false
set_option maxRecDepth 100000
namespace Go.Proofs.YtlbocjcponegcaaGreat
open Go.AM
end Go.Proofs.YtlbocjcponegcaaGreat

