/- exciseref17.Eval: the nodes with arguments, kind by kind. -/
import Derived.Test.YtlbocjcponegcaaGreatAmHk
import Derived.Test.YtlbocjcponegcaaGreatAmV4
set_option linter.unusedVariables false
set_option linter.unusedSimpArgs false
set_option maxRecDepth 100000
namespace Go.Proofs.YtlbocjcponegcaaGreat
open Go.AM
end Go.Proofs.YtlbocjcponegcaaGreat

set_option linter.unusedVariables false
set_option linter.unusedSimpArgs false
set_option maxRecDepth 100000
namespace Go.Proofs.YtlbocjcponegcaaGreat
open Go.AM
set_option maxHeartbeats 4000000 in
theorem feval_const (b1 b2 : Bool) (e : EnvS) (ok : EnvOk b1 b2 e) (o : Int) (n s : ByteArray) (v : Vl) (sc p : Int) :
    Ret Tryz.prog 13 [eE (.mk 1 o n s v sc p []), envV b1 b2 e] (envH b1 b2 e) (eV (mayV v)) (envH b1 b2 e) := by
  have hA : Ret Tryz.prog 31 [.int .i64 1] [] (.int .i64 0) [] := fargs_ret 1
  have hM := fmay_ret v
  rw [cE_mk]
  cases b1 <;> cases b2
  · refine ret_of_body atCalls tok mixed Tryz.func13 (by kernel_rfl) rfl (k := 110) (rs := [.cell 4 28]) (by kernel_rfl) (by kernel_rfl) ?_
    (conv => whnf) <;> repeat' (first | (intro I hw hs; apply hs; conv => whnf) | (apply hs; conv => whnf) | ((first | refine wN ?_ | refine wNc ?_ | refine wA ?_ | refine wB ?_ | refine wC ?_ | refine wD ?_ | refine Called.mk _ _ (hA) ?_ | refine Called.mk _ _ (hM) ?_ | refine vA ?_ | refine vB ?_ | refine vC ?_ | refine vD ?_ | refine uA ?_ | refine uB ?_ | refine uC ?_ | refine uD ?_); conv => whnf) | ((first | apply Pick.dec | apply Pick.beq | apply Cond.dec | apply Cond.beq | apply Cond.nd | apply Pick.nd | apply Pick.mk | apply Cond.mk) <;> intro h <;> conv => whnf))
    exact EndH.mk [0, 1] rfl rfl rfl
  · refine ret_of_body atCalls tok mixed Tryz.func13 (by kernel_rfl) rfl (k := 110) (rs := [.cell 4 28]) (by kernel_rfl) (by kernel_rfl) ?_
    (conv => whnf) <;> repeat' (first | (intro I hw hs; apply hs; conv => whnf) | (apply hs; conv => whnf) | ((first | refine wN ?_ | refine wNc ?_ | refine wA ?_ | refine wB ?_ | refine wC ?_ | refine wD ?_ | refine Called.mk _ _ (hA) ?_ | refine Called.mk _ _ (hM) ?_ | refine vA ?_ | refine vB ?_ | refine vC ?_ | refine vD ?_ | refine uA ?_ | refine uB ?_ | refine uC ?_ | refine uD ?_); conv => whnf) | ((first | apply Pick.dec | apply Pick.beq | apply Cond.dec | apply Cond.beq | apply Cond.nd | apply Pick.nd | apply Pick.mk | apply Cond.mk) <;> intro h <;> conv => whnf))
    exact EndH.mk [0] rfl rfl rfl
  · refine ret_of_body atCalls tok mixed Tryz.func13 (by kernel_rfl) rfl (k := 110) (rs := [.cell 4 28]) (by kernel_rfl) (by kernel_rfl) ?_
    (conv => whnf) <;> repeat' (first | (intro I hw hs; apply hs; conv => whnf) | (apply hs; conv => whnf) | ((first | refine wN ?_ | refine wNc ?_ | refine wA ?_ | refine wB ?_ | refine wC ?_ | refine wD ?_ | refine Called.mk _ _ (hA) ?_ | refine Called.mk _ _ (hM) ?_ | refine vA ?_ | refine vB ?_ | refine vC ?_ | refine vD ?_ | refine uA ?_ | refine uB ?_ | refine uC ?_ | refine uD ?_); conv => whnf) | ((first | apply Pick.dec | apply Pick.beq | apply Cond.dec | apply Cond.beq | apply Cond.nd | apply Pick.nd | apply Pick.mk | apply Cond.mk) <;> intro h <;> conv => whnf))
    exact EndH.mk [0] rfl rfl rfl
  · refine ret_of_body atCalls tok mixed Tryz.func13 (by kernel_rfl) rfl (k := 110) (rs := [.cell 4 28]) (by kernel_rfl) (by kernel_rfl) ?_
    (conv => whnf) <;> repeat' (first | (intro I hw hs; apply hs; conv => whnf) | (apply hs; conv => whnf) | ((first | refine wN ?_ | refine wNc ?_ | refine wA ?_ | refine wB ?_ | refine wC ?_ | refine wD ?_ | refine Called.mk _ _ (hA) ?_ | refine Called.mk _ _ (hM) ?_ | refine vA ?_ | refine vB ?_ | refine vC ?_ | refine vD ?_ | refine uA ?_ | refine uB ?_ | refine uC ?_ | refine uD ?_); conv => whnf) | ((first | apply Pick.dec | apply Pick.beq | apply Cond.dec | apply Cond.beq | apply Cond.nd | apply Pick.nd | apply Pick.mk | apply Cond.mk) <;> intro h <;> conv => whnf))
    exact End.mk rfl rfl
set_option maxHeartbeats 4000000 in
theorem feval_name (b1 b2 : Bool) (e : EnvS) (ok : EnvOk b1 b2 e) (o : Int) (n s : ByteArray) (v : Vl) (sc p : Int) :
    Ret Tryz.prog 13 [eE (.mk 2 o n s v sc p []), envV b1 b2 e] (envH b1 b2 e) (eV (mayV (e.name n))) (envH b1 b2 e) := by
  have hA : Ret Tryz.prog 31 [.int .i64 2] [] (.int .i64 0) [] := fargs_ret 2
  have hM := fmay_ret (e.name n)
  rw [cE_mk]
  have hf := mfind_enc (ek := kN) (ev := cV) kN_inj n e.names
  cases b1 <;> cases b2
  · rcases hg : aget n e.names with _ | w
    · have en : e.name n = Vl0 := by unfold EnvS.name; rw [hg]; rfl
      have hF : mfind [.s n] (encM kN cV e.names) = none := by rw [hg] at hf; exact hf
      rw [en] at hM ⊢
      refine ret_of_body atCalls tok mixed Tryz.func13 (by kernel_rfl) rfl (k := 110) (rs := [.cell 4 28]) (by kernel_rfl) (by kernel_rfl) ?_
      (conv => whnf) <;> repeat' (first | (intro I hw hs; apply hs; conv => whnf) | (apply hs; conv => whnf) | ((conv => arg 1; whnf); rw [hF]; conv => whnf) | ((first | refine wN ?_ | refine wNc ?_ | refine wA ?_ | refine wB ?_ | refine wC ?_ | refine wD ?_ | refine Called.mk _ _ (hA) ?_ | refine Called.mk _ _ (hM) ?_ | refine vA ?_ | refine vB ?_ | refine vC ?_ | refine vD ?_ | refine uA ?_ | refine uB ?_ | refine uC ?_ | refine uD ?_); conv => whnf) | ((first | apply Pick.dec | apply Pick.beq | apply Cond.dec | apply Cond.beq | apply Cond.nd | apply Pick.nd | apply Pick.mk | apply Cond.mk) <;> intro h <;> conv => whnf))
      exact EndH.mk [0, 1] rfl rfl rfl
    · have en : e.name n = w := by unfold EnvS.name; rw [hg]; rfl
      have hF : mfind [.s n] (encM kN cV e.names) = some (cV w) := by rw [hg] at hf; exact hf
      rw [en] at hM ⊢
      refine ret_of_body atCalls tok mixed Tryz.func13 (by kernel_rfl) rfl (k := 110) (rs := [.cell 4 28]) (by kernel_rfl) (by kernel_rfl) ?_
      (conv => whnf) <;> repeat' (first | (intro I hw hs; apply hs; conv => whnf) | (apply hs; conv => whnf) | ((conv => arg 1; whnf); rw [hF]; conv => whnf) | ((first | refine wN ?_ | refine wNc ?_ | refine wA ?_ | refine wB ?_ | refine wC ?_ | refine wD ?_ | refine Called.mk _ _ (hA) ?_ | refine Called.mk _ _ (hM) ?_ | refine vA ?_ | refine vB ?_ | refine vC ?_ | refine vD ?_ | refine uA ?_ | refine uB ?_ | refine uC ?_ | refine uD ?_); conv => whnf) | ((first | apply Pick.dec | apply Pick.beq | apply Cond.dec | apply Cond.beq | apply Cond.nd | apply Pick.nd | apply Pick.mk | apply Cond.mk) <;> intro h <;> conv => whnf))
      exact EndH.mk [0, 1] rfl rfl rfl
  · rcases hg : aget n e.names with _ | w
    · have en : e.name n = Vl0 := by unfold EnvS.name; rw [hg]; rfl
      have hF : mfind [.s n] (encM kN cV e.names) = none := by rw [hg] at hf; exact hf
      rw [en] at hM ⊢
      refine ret_of_body atCalls tok mixed Tryz.func13 (by kernel_rfl) rfl (k := 110) (rs := [.cell 4 28]) (by kernel_rfl) (by kernel_rfl) ?_
      (conv => whnf) <;> repeat' (first | (intro I hw hs; apply hs; conv => whnf) | (apply hs; conv => whnf) | ((conv => arg 1; whnf); rw [hF]; conv => whnf) | ((first | refine wN ?_ | refine wNc ?_ | refine wA ?_ | refine wB ?_ | refine wC ?_ | refine wD ?_ | refine Called.mk _ _ (hA) ?_ | refine Called.mk _ _ (hM) ?_ | refine vA ?_ | refine vB ?_ | refine vC ?_ | refine vD ?_ | refine uA ?_ | refine uB ?_ | refine uC ?_ | refine uD ?_); conv => whnf) | ((first | apply Pick.dec | apply Pick.beq | apply Cond.dec | apply Cond.beq | apply Cond.nd | apply Pick.nd | apply Pick.mk | apply Cond.mk) <;> intro h <;> conv => whnf))
      exact EndH.mk [0] rfl rfl rfl
    · have en : e.name n = w := by unfold EnvS.name; rw [hg]; rfl
      have hF : mfind [.s n] (encM kN cV e.names) = some (cV w) := by rw [hg] at hf; exact hf
      rw [en] at hM ⊢
      refine ret_of_body atCalls tok mixed Tryz.func13 (by kernel_rfl) rfl (k := 110) (rs := [.cell 4 28]) (by kernel_rfl) (by kernel_rfl) ?_
      (conv => whnf) <;> repeat' (first | (intro I hw hs; apply hs; conv => whnf) | (apply hs; conv => whnf) | ((conv => arg 1; whnf); rw [hF]; conv => whnf) | ((first | refine wN ?_ | refine wNc ?_ | refine wA ?_ | refine wB ?_ | refine wC ?_ | refine wD ?_ | refine Called.mk _ _ (hA) ?_ | refine Called.mk _ _ (hM) ?_ | refine vA ?_ | refine vB ?_ | refine vC ?_ | refine vD ?_ | refine uA ?_ | refine uB ?_ | refine uC ?_ | refine uD ?_); conv => whnf) | ((first | apply Pick.dec | apply Pick.beq | apply Cond.dec | apply Cond.beq | apply Cond.nd | apply Pick.nd | apply Pick.mk | apply Cond.mk) <;> intro h <;> conv => whnf))
      exact EndH.mk [0] rfl rfl rfl
  · have en : e.name n = Vl0 := by unfold EnvS.name; rw [ok.names rfl]; rfl
    rw [en] at hM ⊢
    refine ret_of_body atCalls tok mixed Tryz.func13 (by kernel_rfl) rfl (k := 110) (rs := [.cell 4 28]) (by kernel_rfl) (by kernel_rfl) ?_
    (conv => whnf) <;> repeat' (first | (intro I hw hs; apply hs; conv => whnf) | (apply hs; conv => whnf) | ((first | refine wN ?_ | refine wNc ?_ | refine wA ?_ | refine wB ?_ | refine wC ?_ | refine wD ?_ | refine Called.mk _ _ (hA) ?_ | refine Called.mk _ _ (hM) ?_ | refine vA ?_ | refine vB ?_ | refine vC ?_ | refine vD ?_ | refine uA ?_ | refine uB ?_ | refine uC ?_ | refine uD ?_); conv => whnf) | ((first | apply Pick.dec | apply Pick.beq | apply Cond.dec | apply Cond.beq | apply Cond.nd | apply Pick.nd | apply Pick.mk | apply Cond.mk) <;> intro h <;> conv => whnf))
    exact EndH.mk [0] rfl rfl rfl
  · have en : e.name n = Vl0 := by unfold EnvS.name; rw [ok.names rfl]; rfl
    rw [en] at hM ⊢
    refine ret_of_body atCalls tok mixed Tryz.func13 (by kernel_rfl) rfl (k := 110) (rs := [.cell 4 28]) (by kernel_rfl) (by kernel_rfl) ?_
    (conv => whnf) <;> repeat' (first | (intro I hw hs; apply hs; conv => whnf) | (apply hs; conv => whnf) | ((first | refine wN ?_ | refine wNc ?_ | refine wA ?_ | refine wB ?_ | refine wC ?_ | refine wD ?_ | refine Called.mk _ _ (hA) ?_ | refine Called.mk _ _ (hM) ?_ | refine vA ?_ | refine vB ?_ | refine vC ?_ | refine vD ?_ | refine uA ?_ | refine uB ?_ | refine uC ?_ | refine uD ?_); conv => whnf) | ((first | apply Pick.dec | apply Pick.beq | apply Cond.dec | apply Cond.beq | apply Cond.nd | apply Pick.nd | apply Pick.mk | apply Cond.mk) <;> intro h <;> conv => whnf))
    exact End.mk rfl rfl
set_option maxHeartbeats 4000000 in
theorem feval_agg (b1 b2 : Bool) (e : EnvS) (ok : EnvOk b1 b2 e) (o : Int) (n s : ByteArray) (v : Vl) (sc p : Int) :
    Ret Tryz.prog 13 [eE (.mk 10 o n s v sc p []), envV b1 b2 e] (envH b1 b2 e) (eV (mayV (aggV o (e.col (colK o s n)).1 (e.col (colK o s n)).2))) (envH b1 b2 e) := by
  have hA : Ret Tryz.prog 31 [.int .i64 10] [] (.int .i64 0) [] := fargs_ret 10
  have hK := fcolumn_ret (.mk 10 o n s v sc p [])
  replace hK : Ret Tryz.prog _ _ [] (eCK (colK o s n)) [] := hK
  generalize colK o s n = ck at *
  have hS := Value_ret o (e.col ck).1 (e.col ck).2 (ok.sums ck).1 (ok.sums ck).2
  have hM := fmay_ret (aggV o (e.col ck).1 (e.col ck).2)
  generalize aggV o (e.col ck).1 (e.col ck).2 = r at *
  rw [cE_mk]
  rw [cE_mk] at hK
  have hf := mfind_enc (ek := kC) (ev := cCl) kC_inj ck e.cols
  cases b1 <;> cases b2
  · rcases hg : aget ck e.cols with _ | w
    · have en : e.col ck = (Sm0, 0) := by unfold EnvS.col; rw [hg]; rfl
      have hF : mfind [.s ck.1, .s ck.2] (encM kC cCl e.cols) = none := by rw [hg] at hf; exact hf
      rw [en] at hS
      refine ret_of_body atCalls tok mixed Tryz.func13 (by kernel_rfl) rfl (k := 110) (rs := [.cell 4 28]) (by kernel_rfl) (by kernel_rfl) ?_
      (conv => whnf) <;> repeat' (first | (intro I hw hs; apply hs; conv => whnf) | (apply hs; conv => whnf) | ((conv => arg 1; whnf); rw [hF]; conv => whnf) | ((first | refine wN ?_ | refine wNc ?_ | refine wA ?_ | refine wB ?_ | refine wC ?_ | refine wD ?_ | refine Called.mk _ _ (hA) ?_ | refine Called.mk _ _ (hK) ?_ | refine Called.mk _ _ (hS) ?_ | refine Called.mk _ _ (hM) ?_ | refine vA ?_ | refine vB ?_ | refine vC ?_ | refine vD ?_ | refine uA ?_ | refine uB ?_ | refine uC ?_ | refine uD ?_); conv => whnf) | ((first | apply Pick.dec | apply Pick.beq | apply Cond.dec | apply Cond.beq | apply Cond.nd | apply Pick.nd | apply Pick.mk | apply Cond.mk) <;> intro h <;> conv => whnf))
      exact EndH.mk [0, 1] rfl rfl rfl
    · have en : e.col ck = w := by unfold EnvS.col; rw [hg]; rfl
      have hF : mfind [.s ck.1, .s ck.2] (encM kC cCl e.cols) = some (cCl w) := by rw [hg] at hf; exact hf
      rw [en] at hS
      refine ret_of_body atCalls tok mixed Tryz.func13 (by kernel_rfl) rfl (k := 110) (rs := [.cell 4 28]) (by kernel_rfl) (by kernel_rfl) ?_
      (conv => whnf) <;> repeat' (first | (intro I hw hs; apply hs; conv => whnf) | (apply hs; conv => whnf) | ((conv => arg 1; whnf); rw [hF]; conv => whnf) | ((first | refine wN ?_ | refine wNc ?_ | refine wA ?_ | refine wB ?_ | refine wC ?_ | refine wD ?_ | refine Called.mk _ _ (hA) ?_ | refine Called.mk _ _ (hK) ?_ | refine Called.mk _ _ (hS) ?_ | refine Called.mk _ _ (hM) ?_ | refine vA ?_ | refine vB ?_ | refine vC ?_ | refine vD ?_ | refine uA ?_ | refine uB ?_ | refine uC ?_ | refine uD ?_); conv => whnf) | ((first | apply Pick.dec | apply Pick.beq | apply Cond.dec | apply Cond.beq | apply Cond.nd | apply Pick.nd | apply Pick.mk | apply Cond.mk) <;> intro h <;> conv => whnf))
      exact EndH.mk [0, 1] rfl rfl rfl
  · have en : e.col ck = (Sm0, 0) := by unfold EnvS.col; rw [ok.cols rfl]; rfl
    rw [en] at hS
    refine ret_of_body atCalls tok mixed Tryz.func13 (by kernel_rfl) rfl (k := 110) (rs := [.cell 4 28]) (by kernel_rfl) (by kernel_rfl) ?_
    (conv => whnf) <;> repeat' (first | (intro I hw hs; apply hs; conv => whnf) | (apply hs; conv => whnf) | ((first | refine wN ?_ | refine wNc ?_ | refine wA ?_ | refine wB ?_ | refine wC ?_ | refine wD ?_ | refine Called.mk _ _ (hA) ?_ | refine Called.mk _ _ (hK) ?_ | refine Called.mk _ _ (hS) ?_ | refine Called.mk _ _ (hM) ?_ | refine vA ?_ | refine vB ?_ | refine vC ?_ | refine vD ?_ | refine uA ?_ | refine uB ?_ | refine uC ?_ | refine uD ?_); conv => whnf) | ((first | apply Pick.dec | apply Pick.beq | apply Cond.dec | apply Cond.beq | apply Cond.nd | apply Pick.nd | apply Pick.mk | apply Cond.mk) <;> intro h <;> conv => whnf))
    exact EndH.mk [0] rfl rfl rfl
  · rcases hg : aget ck e.cols with _ | w
    · have en : e.col ck = (Sm0, 0) := by unfold EnvS.col; rw [hg]; rfl
      have hF : mfind [.s ck.1, .s ck.2] (encM kC cCl e.cols) = none := by rw [hg] at hf; exact hf
      rw [en] at hS
      refine ret_of_body atCalls tok mixed Tryz.func13 (by kernel_rfl) rfl (k := 110) (rs := [.cell 4 28]) (by kernel_rfl) (by kernel_rfl) ?_
      (conv => whnf) <;> repeat' (first | (intro I hw hs; apply hs; conv => whnf) | (apply hs; conv => whnf) | ((conv => arg 1; whnf); rw [hF]; conv => whnf) | ((first | refine wN ?_ | refine wNc ?_ | refine wA ?_ | refine wB ?_ | refine wC ?_ | refine wD ?_ | refine Called.mk _ _ (hA) ?_ | refine Called.mk _ _ (hK) ?_ | refine Called.mk _ _ (hS) ?_ | refine Called.mk _ _ (hM) ?_ | refine vA ?_ | refine vB ?_ | refine vC ?_ | refine vD ?_ | refine uA ?_ | refine uB ?_ | refine uC ?_ | refine uD ?_); conv => whnf) | ((first | apply Pick.dec | apply Pick.beq | apply Cond.dec | apply Cond.beq | apply Cond.nd | apply Pick.nd | apply Pick.mk | apply Cond.mk) <;> intro h <;> conv => whnf))
      exact EndH.mk [0] rfl rfl rfl
    · have en : e.col ck = w := by unfold EnvS.col; rw [hg]; rfl
      have hF : mfind [.s ck.1, .s ck.2] (encM kC cCl e.cols) = some (cCl w) := by rw [hg] at hf; exact hf
      rw [en] at hS
      refine ret_of_body atCalls tok mixed Tryz.func13 (by kernel_rfl) rfl (k := 110) (rs := [.cell 4 28]) (by kernel_rfl) (by kernel_rfl) ?_
      (conv => whnf) <;> repeat' (first | (intro I hw hs; apply hs; conv => whnf) | (apply hs; conv => whnf) | ((conv => arg 1; whnf); rw [hF]; conv => whnf) | ((first | refine wN ?_ | refine wNc ?_ | refine wA ?_ | refine wB ?_ | refine wC ?_ | refine wD ?_ | refine Called.mk _ _ (hA) ?_ | refine Called.mk _ _ (hK) ?_ | refine Called.mk _ _ (hS) ?_ | refine Called.mk _ _ (hM) ?_ | refine vA ?_ | refine vB ?_ | refine vC ?_ | refine vD ?_ | refine uA ?_ | refine uB ?_ | refine uC ?_ | refine uD ?_); conv => whnf) | ((first | apply Pick.dec | apply Pick.beq | apply Cond.dec | apply Cond.beq | apply Cond.nd | apply Pick.nd | apply Pick.mk | apply Cond.mk) <;> intro h <;> conv => whnf))
      exact EndH.mk [0] rfl rfl rfl
  · have en : e.col ck = (Sm0, 0) := by unfold EnvS.col; rw [ok.cols rfl]; rfl
    rw [en] at hS
    refine ret_of_body atCalls tok mixed Tryz.func13 (by kernel_rfl) rfl (k := 110) (rs := [.cell 4 28]) (by kernel_rfl) (by kernel_rfl) ?_
    (conv => whnf) <;> repeat' (first | (intro I hw hs; apply hs; conv => whnf) | (apply hs; conv => whnf) | ((first | refine wN ?_ | refine wNc ?_ | refine wA ?_ | refine wB ?_ | refine wC ?_ | refine wD ?_ | refine Called.mk _ _ (hA) ?_ | refine Called.mk _ _ (hK) ?_ | refine Called.mk _ _ (hS) ?_ | refine Called.mk _ _ (hM) ?_ | refine vA ?_ | refine vB ?_ | refine vC ?_ | refine vD ?_ | refine uA ?_ | refine uB ?_ | refine uC ?_ | refine uD ?_); conv => whnf) | ((first | apply Pick.dec | apply Pick.beq | apply Cond.dec | apply Cond.beq | apply Cond.nd | apply Pick.nd | apply Pick.mk | apply Cond.mk) <;> intro h <;> conv => whnf))
    exact End.mk rfl rfl
end Go.Proofs.YtlbocjcponegcaaGreat

set_option linter.unusedVariables false
set_option linter.unusedSimpArgs false
set_option maxRecDepth 100000
namespace Go.Proofs.YtlbocjcponegcaaGreat
open Go.AM
theorem kids {Q : Xp → Prop} {k o : Int} {n s : ByteArray} {v : Vl} {sc p : Int} {l : List Xp} (ih : ∀ y, y ∈ (Xp.mk k o n s v sc p l).args → Q y) : ∀ y, y ∈ l → Q y := ih
theorem eval_mk (e : EnvS) (k o : Int) (n s : ByteArray) (v : Vl) (sc p : Int) (l : List Xp) : evalE e (.mk k o n s v sc p l) = nodeV e k o n s v sc p (l.map (evalE e)) := evalE_eq e _

theorem feval_ret (b1 b2 : Bool) (e : EnvS) (ok : EnvOk b1 b2 e) (x : Xp) : Ret Tryz.prog 13 [eE x, envV b1 b2 e] (envH b1 b2 e) (eV (evalE e x)) (envH b1 b2 e) := by
  refine Xp.ind (Q := fun x => Ret Tryz.prog 13 [eE x, envV b1 b2 e] (envH b1 b2 e) (eV (evalE e x)) (envH b1 b2 e)) (fun x ih => ?_) x
  by_cases h : (x.args.length : Int) = argsN x.kind
  · cases x with
    | mk k o n s v sc p l =>
      have h : (l.length : Int) = argsN k := h
      have ih := kids ih
      rw [eval_mk]
      match l, h, ih with
      | [], h, ih =>
        rcases args0 h.symm with rfl | rfl | rfl
        · exact feval_const b1 b2 e ok o n s v sc p
        · exact feval_name b1 b2 e ok o n s v sc p
        · exact feval_agg b1 b2 e ok o n s v sc p
      | [a], h, ih =>
        have ha := ih a (by simp)
        rcases args1 h.symm with rfl | rfl | rfl | rfl | rfl
        · exact feval_neg b1 b2 e ok o n s v sc p a _ ha
        · exact feval_not b1 b2 e ok o n s v sc p a _ ha
        · exact feval_round b1 b2 e ok o n s v sc p a _ ha
        · exact feval_says b1 b2 e ok o n s v sc p a _ ha
        · exact feval_blank b1 b2 e ok o n s v sc p a _ ha
      | [a, b], h, ih =>
        obtain rfl := args2 h.symm
        exact feval_op b1 b2 e ok o n s v sc p a b _ _ (ih a (by simp)) (ih b (by simp))
      | [a, b, c], h, ih =>
        obtain rfl := args3 h.symm
        exact feval_if b1 b2 e ok o n s v sc p a b c _ _ _ (ih a (by simp)) (ih b (by simp)) (ih c (by simp))
      | a :: b :: c :: d :: l, h, ih =>
        have := argsN_le k
        simp only [List.length_cons] at h
        omega
  · exact feval_bad b1 b2 e x h
end Go.Proofs.YtlbocjcponegcaaGreat

set_option linter.unusedVariables false
set_option linter.unusedSimpArgs false
set_option maxRecDepth 100000
namespace Go.Proofs.YtlbocjcponegcaaGreat
open Go.AM
end Go.Proofs.YtlbocjcponegcaaGreat

