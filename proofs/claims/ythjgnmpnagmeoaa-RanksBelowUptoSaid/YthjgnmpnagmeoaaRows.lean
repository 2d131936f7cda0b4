/-
  NARROWER THAN 'FOR EVERY INPUT', by the rows' own cells (each row's printed sentence says how): RanksOrder: loops · RanksRanks: loops · RanksReads: loops · RanksBelow: loops · RanksCycles: loops.
  DERIVED. THE GIVEN ROWS OF THIS SEAT. 5 by the template 'for every input the law returns true; each argument reads behind the call as it read before'; 0 by the template 'total and deterministic' (their statements: YthjgnmpnagmeoaaTotals.lean).
  GIVEN WITH THE SEED: the statements are not yours to turn. If you find one false, say at which input.
  Laid BY PROGRAM, IN A SANDBOX (cutbox-rows.mjs): the forced cells as the released guide's own fill.sh prints them over the translation e011764cada3acfa… (all of the seat's roots in one cut). By AI agents, Wed Nov 11 2026. No macro, syntax, notation, axiom, sorry.
-/
import Derived.Test.YthjgnmpnagmeoaaChecked
import GoSem.Claim
import GoSem.ClaimJoined
import GoSem.ClaimMapViews
import Derived.JoinedTies
import Derived.KernelRfl
namespace Go.Proofs.Ythjgnmpnagmeoaa
/- THE CELL 'sum', in the pinned program and in every row, IS THE sha256 OF THE DUMP (.gsa) THAT YthjgnmpnagmeoaaProg.lean LOADS. Nothing in Lean hashes anything: it is a label: what it is worth is what the hold of that sum in a sandbox is worth. -/
noncomputable def Try.pinned : Pinned := { name := "ythjgnmpnagmeoaa", sum := "e011764cada3acfa681dd511e4807c7d887b2ec0526f34fc8b1cfd9722ea2ad9", checked := Try.checked }
namespace Rows
def none {H : Type} : Left H := { results := [], args := [] }

/-- 'exciselaw11.RanksOrder': WHATEVER THE INPUT: true; the input reads as it did. -/
def ranksOrderSpec : ChangeSpec := { name := "ranksOrder", fn := fun _ => fun
  | [d] => { results := [.lit (.bool true)], args := [d] }
  | _ => none }
def ranksOrderRow : OpenClaim := { program := "ythjgnmpnagmeoaa", sum := "e011764cada3acfa681dd511e4807c7d887b2ec0526f34fc8b1cfd9722ea2ad9", func := "excise/exciselaw11.RanksOrder", spec := "ranksOrder", unfollowed := true, recurses := true, loops := true, apart := false }
def RanksOrderSaid : Prop := ranksOrderRow.holds Try.pinned (OpenSpec.ofChange ranksOrderSpec)

/-- ITS FALSE NEIGHBOUR: 'it returns false'. Refute it at one input. -/
def ranksOrderWrong : ChangeSpec := { name := "ranksOrder", fn := fun _ => fun
  | [d] => { results := [.lit (.bool false)], args := [d] }
  | _ => none }
def RanksOrderWrongFalsely : Prop := ranksOrderRow.holds Try.pinned (OpenSpec.ofChange ranksOrderWrong)

/-- 'exciselaw11.RanksRanks': WHATEVER THE INPUT: true; the input reads as it did. -/
def ranksRanksSpec : ChangeSpec := { name := "ranksRanks", fn := fun _ => fun
  | [d] => { results := [.lit (.bool true)], args := [d] }
  | _ => none }
def ranksRanksRow : OpenClaim := { program := "ythjgnmpnagmeoaa", sum := "e011764cada3acfa681dd511e4807c7d887b2ec0526f34fc8b1cfd9722ea2ad9", func := "excise/exciselaw11.RanksRanks", spec := "ranksRanks", unfollowed := true, recurses := true, loops := true, apart := false }
def RanksRanksSaid : Prop := ranksRanksRow.holds Try.pinned (OpenSpec.ofChange ranksRanksSpec)

/-- ITS FALSE NEIGHBOUR: 'it returns false'. Refute it at one input. -/
def ranksRanksWrong : ChangeSpec := { name := "ranksRanks", fn := fun _ => fun
  | [d] => { results := [.lit (.bool false)], args := [d] }
  | _ => none }
def RanksRanksWrongFalsely : Prop := ranksRanksRow.holds Try.pinned (OpenSpec.ofChange ranksRanksWrong)

/-- 'exciselaw11.RanksReads': WHATEVER THE INPUT: true; the input reads as it did. -/
def ranksReadsSpec : ChangeSpec := { name := "ranksReads", fn := fun _ => fun
  | [d] => { results := [.lit (.bool true)], args := [d] }
  | _ => none }
def ranksReadsRow : OpenClaim := { program := "ythjgnmpnagmeoaa", sum := "e011764cada3acfa681dd511e4807c7d887b2ec0526f34fc8b1cfd9722ea2ad9", func := "excise/exciselaw11.RanksReads", spec := "ranksReads", unfollowed := true, recurses := true, loops := true, apart := false }
def RanksReadsSaid : Prop := ranksReadsRow.holds Try.pinned (OpenSpec.ofChange ranksReadsSpec)

/-- ITS FALSE NEIGHBOUR: 'it returns false'. Refute it at one input. -/
def ranksReadsWrong : ChangeSpec := { name := "ranksReads", fn := fun _ => fun
  | [d] => { results := [.lit (.bool false)], args := [d] }
  | _ => none }
def RanksReadsWrongFalsely : Prop := ranksReadsRow.holds Try.pinned (OpenSpec.ofChange ranksReadsWrong)

/-- 'exciselaw11.RanksBelow': WHATEVER THE INPUT: true; the input reads as it did. -/
def ranksBelowSpec : ChangeSpec := { name := "ranksBelow", fn := fun _ => fun
  | [d1, d2] => { results := [.lit (.bool true)], args := [d1, d2] }
  | _ => none }
def ranksBelowRow : OpenClaim := { program := "ythjgnmpnagmeoaa", sum := "e011764cada3acfa681dd511e4807c7d887b2ec0526f34fc8b1cfd9722ea2ad9", func := "excise/exciselaw11.RanksBelow", spec := "ranksBelow", unfollowed := true, recurses := true, loops := true, apart := false }
def RanksBelowSaid : Prop := ranksBelowRow.holds Try.pinned (OpenSpec.ofChange ranksBelowSpec)

/-- ITS FALSE NEIGHBOUR: 'it returns false'. Refute it at one input. -/
def ranksBelowWrong : ChangeSpec := { name := "ranksBelow", fn := fun _ => fun
  | [d1, d2] => { results := [.lit (.bool false)], args := [d1, d2] }
  | _ => none }
def RanksBelowWrongFalsely : Prop := ranksBelowRow.holds Try.pinned (OpenSpec.ofChange ranksBelowWrong)

/-- 'exciselaw11.RanksCycles': WHATEVER THE INPUT: true; the input reads as it did. -/
def ranksCyclesSpec : ChangeSpec := { name := "ranksCycles", fn := fun _ => fun
  | [d] => { results := [.lit (.bool true)], args := [d] }
  | _ => none }
def ranksCyclesRow : OpenClaim := { program := "ythjgnmpnagmeoaa", sum := "e011764cada3acfa681dd511e4807c7d887b2ec0526f34fc8b1cfd9722ea2ad9", func := "excise/exciselaw11.RanksCycles", spec := "ranksCycles", unfollowed := true, recurses := true, loops := true, apart := false }
def RanksCyclesSaid : Prop := ranksCyclesRow.holds Try.pinned (OpenSpec.ofChange ranksCyclesSpec)

/-- ITS FALSE NEIGHBOUR: 'it returns false'. Refute it at one input. -/
def ranksCyclesWrong : ChangeSpec := { name := "ranksCycles", fn := fun _ => fun
  | [d] => { results := [.lit (.bool false)], args := [d] }
  | _ => none }
def RanksCyclesWrongFalsely : Prop := ranksCyclesRow.holds Try.pinned (OpenSpec.ofChange ranksCyclesWrong)

/- THE SECOND FORM. 'bulk': how many values and letters a reading holds, each counted each time it is reached (what is shared counts as often as it is met; a slice's spare places count too). A statement '..UptoSaid' is the law's where the arguments, and the package variables that the reading takes, are together of bulk at most 1048576: NARROWER than '..Said'. Prove '..Said' where nothing that the law and all that it calls make is longer than what came in: it says more and counts as full. Else prove '..UptoSaid'. A law counts once. -/
mutual
def uptoBulk {H : Type} : DataW H → Nat
  | .lit (.string bytes) => bytes.length + 1
  | .lit _ => 1
  | .nil => 1
  | .ptr d => uptoBulk d + 1
  | .slice elems spare => uptoBulkAll elems + uptoBulkAll spare + 1
  | .agg parts => uptoBulkAll parts + 1
  | .iface _ d => uptoBulk d + 1
  | .map entries => uptoBulkEntries entries + 1
  | .held _ => 1
def uptoBulkAll {H : Type} : List (DataW H) → Nat
  | [] => 0
  | d :: r => uptoBulk d + uptoBulkAll r
def uptoBulkEntries {H : Type} : List (Lit × DataW H) → Nat
  | [] => 0
  | x :: r => uptoBulkEntry x + uptoBulkEntries r
def uptoBulkEntry {H : Type} : Lit × DataW H → Nat
  | (.string bytes, d) => bytes.length + uptoBulk d + 1
  | (_, d) => uptoBulk d + 1
 end
def uptoSmall : (H : Type) → List (DataW H) → Bool := fun _ ds => decide (uptoBulkAll ds ≤ 1048576)
def OpenSpec.upto (s : _root_.Go.ChangeSpec) : _root_.Go.OpenSpec := { _root_.Go.OpenSpec.ofChange s with cond := some uptoSmall }

/-- 'exciselaw11.RanksOrder', WHERE WHAT IT READS IS OF BULK AT MOST 1048576: true; the input reads as it did. -/
def ranksOrderUptoRow : OpenClaim := { program := "ythjgnmpnagmeoaa", sum := "e011764cada3acfa681dd511e4807c7d887b2ec0526f34fc8b1cfd9722ea2ad9", func := "excise/exciselaw11.RanksOrder", spec := "ranksOrder", unfollowed := true, recurses := true, loops := true, apart := false, narrowed := true }
def RanksOrderUptoSaid : Prop := ranksOrderUptoRow.holds Try.pinned (OpenSpec.upto ranksOrderSpec)

/-- 'exciselaw11.RanksRanks', WHERE WHAT IT READS IS OF BULK AT MOST 1048576: true; the input reads as it did. -/
def ranksRanksUptoRow : OpenClaim := { program := "ythjgnmpnagmeoaa", sum := "e011764cada3acfa681dd511e4807c7d887b2ec0526f34fc8b1cfd9722ea2ad9", func := "excise/exciselaw11.RanksRanks", spec := "ranksRanks", unfollowed := true, recurses := true, loops := true, apart := false, narrowed := true }
def RanksRanksUptoSaid : Prop := ranksRanksUptoRow.holds Try.pinned (OpenSpec.upto ranksRanksSpec)

/-- 'exciselaw11.RanksReads', WHERE WHAT IT READS IS OF BULK AT MOST 1048576: true; the input reads as it did. -/
def ranksReadsUptoRow : OpenClaim := { program := "ythjgnmpnagmeoaa", sum := "e011764cada3acfa681dd511e4807c7d887b2ec0526f34fc8b1cfd9722ea2ad9", func := "excise/exciselaw11.RanksReads", spec := "ranksReads", unfollowed := true, recurses := true, loops := true, apart := false, narrowed := true }
def RanksReadsUptoSaid : Prop := ranksReadsUptoRow.holds Try.pinned (OpenSpec.upto ranksReadsSpec)

/-- 'exciselaw11.RanksBelow', WHERE WHAT IT READS IS OF BULK AT MOST 1048576: true; the input reads as it did. -/
def ranksBelowUptoRow : OpenClaim := { program := "ythjgnmpnagmeoaa", sum := "e011764cada3acfa681dd511e4807c7d887b2ec0526f34fc8b1cfd9722ea2ad9", func := "excise/exciselaw11.RanksBelow", spec := "ranksBelow", unfollowed := true, recurses := true, loops := true, apart := false, narrowed := true }
def RanksBelowUptoSaid : Prop := ranksBelowUptoRow.holds Try.pinned (OpenSpec.upto ranksBelowSpec)

/-- 'exciselaw11.RanksCycles', WHERE WHAT IT READS IS OF BULK AT MOST 1048576: true; the input reads as it did. -/
def ranksCyclesUptoRow : OpenClaim := { program := "ythjgnmpnagmeoaa", sum := "e011764cada3acfa681dd511e4807c7d887b2ec0526f34fc8b1cfd9722ea2ad9", func := "excise/exciselaw11.RanksCycles", spec := "ranksCycles", unfollowed := true, recurses := true, loops := true, apart := false, narrowed := true }
def RanksCyclesUptoSaid : Prop := ranksCyclesUptoRow.holds Try.pinned (OpenSpec.upto ranksCyclesSpec)

end Rows
end Go.Proofs.Ythjgnmpnagmeoaa
