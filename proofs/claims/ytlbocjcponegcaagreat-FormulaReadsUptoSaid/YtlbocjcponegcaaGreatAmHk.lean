/- formula: args, may, column, says; exciseref17's. -/
import Derived.Test.YtlbocjcponegcaaGreatAmGY
import Derived.Test.YtlbocjcponegcaaGreatAmGS
import Derived.Test.YtlbocjcponegcaaGreatAmGI
import Derived.Test.YtlbocjcponegcaaGreatAmHj
set_option linter.unusedVariables false
set_option linter.unusedSimpArgs false
set_option maxRecDepth 100000
namespace Go.Proofs.YtlbocjcponegcaaGreat
open Go.AM
def eCK (k : CK) : Val := .agg [.str k.1, .str k.2]
theorem fcolumn_ret (x : Xp) : Ret Tryz.prog 41 [eE x] [] (eCK (colK x.op x.sect x.name)) [] := by
  refine ret_of_body atNone tok mixed Tryz.func41 (by kernel_rfl) rfl (k := 14) (rs := [.cell 2 64]) (by kernel_rfl) (by kernel_rfl) ?_
  (conv => whnf) <;> repeat' (first | ((first | refine wN ?_ | refine wNc ?_ | refine wA ?_ | refine wB ?_ | refine wC ?_ | refine wD ?_ | refine vA ?_ | refine vB ?_ | refine vC ?_ | refine vD ?_ | refine uA ?_ | refine uB ?_ | refine uC ?_ | refine uD ?_); conv => whnf) | ((first | apply Pick.dec | apply Pick.beq | apply Cond.dec | apply Cond.beq | apply Cond.nd | apply Pick.nd | apply Pick.mk | apply Cond.mk) <;> intro h <;> conv => whnf))
  · rw [show colK x.op x.sect x.name = (x.sect, ByteArray.empty) from if_pos h]; exact End.mk rfl rfl
  · rw [show colK x.op x.sect x.name = (x.sect, x.name) from if_neg h]; exact End.mk rfl rfl
theorem fkey_ret (x : Xp) : Ret Tryz.prog 46 [eE x] [] (eCK (colK x.op x.sect x.name)) [] := by
  refine ret_of_body atNone tok mixed Tryz.func46 (by kernel_rfl) rfl (k := 14) (rs := [.cell 2 64]) (by kernel_rfl) (by kernel_rfl) ?_
  (conv => whnf) <;> repeat' (first | ((first | refine wN ?_ | refine wNc ?_ | refine wA ?_ | refine wB ?_ | refine wC ?_ | refine wD ?_ | refine vA ?_ | refine vB ?_ | refine vC ?_ | refine vD ?_ | refine uA ?_ | refine uB ?_ | refine uC ?_ | refine uD ?_); conv => whnf) | ((first | apply Pick.dec | apply Pick.beq | apply Cond.dec | apply Cond.beq | apply Cond.nd | apply Pick.nd | apply Pick.mk | apply Cond.mk) <;> intro h <;> conv => whnf))
  · rw [show colK x.op x.sect x.name = (x.sect, ByteArray.empty) from if_pos h]; exact End.mk rfl rfl
  · rw [show colK x.op x.sect x.name = (x.sect, x.name) from if_neg h]; exact End.mk rfl rfl
end Go.Proofs.YtlbocjcponegcaaGreat

set_option linter.unusedVariables false
set_option linter.unusedSimpArgs false
set_option maxRecDepth 100000
namespace Go.Proofs.YtlbocjcponegcaaGreat
open Go.AM
end Go.Proofs.YtlbocjcponegcaaGreat

set_option linter.unusedVariables false
set_option linter.unusedSimpArgs false
set_option maxRecDepth 100000
namespace Go.Proofs.YtlbocjcponegcaaGreat
open Go.AM
end Go.Proofs.YtlbocjcponegcaaGreat

set_option linter.unusedVariables false
set_option linter.unusedSimpArgs false
set_option maxRecDepth 100000
namespace Go.Proofs.YtlbocjcponegcaaGreat
open Go.AM
theorem cE_mk (k o : Int) (n s : ByteArray) (v : Vl) (sc p : Int) (l : List Xp) : eE (.mk k o n s v sc p l) = .agg [.int .i64 k, .int .i64 o, .str n, .str s, .int .i64 v.kind, .bool v.num.neg, .int .u64 (l0 v.num.n), .int .u64 (l1 v.num.n), .int .u64 (l2 v.num.n), .int .u64 (l3 v.num.n), .int .i64 v.num.scale,
    .bool v.flag, .str v.text, .int .i64 v.err, .int .i64 sc, .int .i64 p, .ext 17 l.length (Xp.rows l)] := rfl
end Go.Proofs.YtlbocjcponegcaaGreat

