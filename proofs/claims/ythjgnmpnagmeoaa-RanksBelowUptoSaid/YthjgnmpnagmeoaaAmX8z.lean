/- An expression's cells, written out. -/
import Derived.Test.YthjgnmpnagmeoaaAmA0
import Derived.Test.YthjgnmpnagmeoaaAmHi
import Derived.Test.YthjgnmpnagmeoaaAmGL
set_option linter.unusedVariables false
set_option linter.unusedSimpArgs false
set_option maxRecDepth 100000
namespace Go.Proofs.Ythjgnmpnagmeoaa
open Go.AM
theorem cE_mk (k o : Int) (n s : ByteArray) (v : Vl) (sc p : Int) (l : List Xp) : eE (.mk k o n s v sc p l) = .agg [.int .i64 k, .int .i64 o, .str n, .str s, .int .i64 v.kind, .bool v.num.neg, .int .u64 (l0 v.num.n), .int .u64 (l1 v.num.n), .int .u64 (l2 v.num.n), .int .u64 (l3 v.num.n), .int .i64 v.num.scale,
    .bool v.flag, .str v.text, .int .i64 v.err, .int .i64 sc, .int .i64 p, .ext 17 l.length (Xp.rows l)] := rfl
end Go.Proofs.Ythjgnmpnagmeoaa

