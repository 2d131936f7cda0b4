/-
  No cell of these rows narrows 'for every input' (looked for: loops, veiled, ifaces, maps, wideKeys, modest, calm, conditions, laid).
  DERIVED. THE GIVEN ROWS OF THIS SEAT. 9 by the template 'for every input the law returns true; each argument reads behind the call as it read before'; 0 by the template 'total and deterministic' (their statements: YtgjkpegkjhpfiaaTotals.lean).
  GIVEN WITH THE SEED: the statements are not yours to turn. If you find one false, say at which input.
  Laid BY PROGRAM, IN A SANDBOX (cutbox-rows.mjs): the forced cells as the released guide's own fill.sh prints them over the translation e6744180f2a19ca8… (all of the seat's roots in one cut). By AI agents, Wed Nov 11 2026. No macro, syntax, notation, axiom, sorry.
-/
import Derived.Test.YtgjkpegkjhpfiaaChecked
import GoSem.Claim
import GoSem.ClaimJoined
import GoSem.ClaimMapViews
import Derived.JoinedTies
import Derived.KernelRfl
namespace Go.Proofs.Ytgjkpegkjhpfiaa
/- THE CELL 'sum', in the pinned program and in every row, IS THE sha256 OF THE DUMP (.gsa) THAT YtgjkpegkjhpfiaaProg.lean LOADS. Nothing in Lean hashes anything: it is a label: what it is worth is what the hold of that sum in a sandbox is worth. -/
noncomputable def Try.pinned : Pinned := { name := "ytgjkpegkjhpfiaa", sum := "e6744180f2a19ca8ee1a0257f24a6ebf84422b304e1722a561b8c6c5466b94e8", checked := Try.checked }
namespace Rows
def none {H : Type} : Left H := { results := [], args := [] }

/-- 'exciselaw02.DecimalSums': WHATEVER THE INPUT: true; the input reads as it did. -/
def decimalSumsSpec : ChangeSpec := { name := "decimalSums", fn := fun _ => fun
  | [d1, d2] => { results := [.lit (.bool true)], args := [d1, d2] }
  | _ => none }
def decimalSumsRow : OpenClaim := { program := "ytgjkpegkjhpfiaa", sum := "e6744180f2a19ca8ee1a0257f24a6ebf84422b304e1722a561b8c6c5466b94e8", func := "excise/exciselaw02.DecimalSums", spec := "decimalSums", apart := false }
def DecimalSumsSaid : Prop := decimalSumsRow.holds Try.pinned (OpenSpec.ofChange decimalSumsSpec)

/-- ITS FALSE NEIGHBOUR: 'it returns false'. Refute it at one input. -/
def decimalSumsWrong : ChangeSpec := { name := "decimalSums", fn := fun _ => fun
  | [d1, d2] => { results := [.lit (.bool false)], args := [d1, d2] }
  | _ => none }
def DecimalSumsWrongFalsely : Prop := decimalSumsRow.holds Try.pinned (OpenSpec.ofChange decimalSumsWrong)

/-- 'exciselaw02.DecimalProducts': WHATEVER THE INPUT: true; the input reads as it did. -/
def decimalProductsSpec : ChangeSpec := { name := "decimalProducts", fn := fun _ => fun
  | [d1, d2, d3, d4] => { results := [.lit (.bool true)], args := [d1, d2, d3, d4] }
  | _ => none }
def decimalProductsRow : OpenClaim := { program := "ytgjkpegkjhpfiaa", sum := "e6744180f2a19ca8ee1a0257f24a6ebf84422b304e1722a561b8c6c5466b94e8", func := "excise/exciselaw02.DecimalProducts", spec := "decimalProducts", apart := false }
def DecimalProductsSaid : Prop := decimalProductsRow.holds Try.pinned (OpenSpec.ofChange decimalProductsSpec)

/-- ITS FALSE NEIGHBOUR: 'it returns false'. Refute it at one input. -/
def decimalProductsWrong : ChangeSpec := { name := "decimalProducts", fn := fun _ => fun
  | [d1, d2, d3, d4] => { results := [.lit (.bool false)], args := [d1, d2, d3, d4] }
  | _ => none }
def DecimalProductsWrongFalsely : Prop := decimalProductsRow.holds Try.pinned (OpenSpec.ofChange decimalProductsWrong)

/-- 'exciselaw02.DecimalCompares': WHATEVER THE INPUT: true; the input reads as it did. -/
def decimalComparesSpec : ChangeSpec := { name := "decimalCompares", fn := fun _ => fun
  | [d1, d2] => { results := [.lit (.bool true)], args := [d1, d2] }
  | _ => none }
def decimalComparesRow : OpenClaim := { program := "ytgjkpegkjhpfiaa", sum := "e6744180f2a19ca8ee1a0257f24a6ebf84422b304e1722a561b8c6c5466b94e8", func := "excise/exciselaw02.DecimalCompares", spec := "decimalCompares", apart := false }
def DecimalComparesSaid : Prop := decimalComparesRow.holds Try.pinned (OpenSpec.ofChange decimalComparesSpec)

/-- ITS FALSE NEIGHBOUR: 'it returns false'. Refute it at one input. -/
def decimalComparesWrong : ChangeSpec := { name := "decimalCompares", fn := fun _ => fun
  | [d1, d2] => { results := [.lit (.bool false)], args := [d1, d2] }
  | _ => none }
def DecimalComparesWrongFalsely : Prop := decimalComparesRow.holds Try.pinned (OpenSpec.ofChange decimalComparesWrong)

/-- 'exciselaw02.DecimalChecks': WHATEVER THE INPUT: true; the input reads as it did. -/
def decimalChecksSpec : ChangeSpec := { name := "decimalChecks", fn := fun _ => fun
  | [d1, d2, d3] => { results := [.lit (.bool true)], args := [d1, d2, d3] }
  | _ => none }
def decimalChecksRow : OpenClaim := { program := "ytgjkpegkjhpfiaa", sum := "e6744180f2a19ca8ee1a0257f24a6ebf84422b304e1722a561b8c6c5466b94e8", func := "excise/exciselaw02.DecimalChecks", spec := "decimalChecks", apart := false }
def DecimalChecksSaid : Prop := decimalChecksRow.holds Try.pinned (OpenSpec.ofChange decimalChecksSpec)

/-- ITS FALSE NEIGHBOUR: 'it returns false'. Refute it at one input. -/
def decimalChecksWrong : ChangeSpec := { name := "decimalChecks", fn := fun _ => fun
  | [d1, d2, d3] => { results := [.lit (.bool false)], args := [d1, d2, d3] }
  | _ => none }
def DecimalChecksWrongFalsely : Prop := decimalChecksRow.holds Try.pinned (OpenSpec.ofChange decimalChecksWrong)

/-- 'exciselaw02.DecimalScales': WHATEVER THE INPUT: true; the input reads as it did. -/
def decimalScalesSpec : ChangeSpec := { name := "decimalScales", fn := fun _ => fun
  | [d1, d2, d3] => { results := [.lit (.bool true)], args := [d1, d2, d3] }
  | _ => none }
def decimalScalesRow : OpenClaim := { program := "ytgjkpegkjhpfiaa", sum := "e6744180f2a19ca8ee1a0257f24a6ebf84422b304e1722a561b8c6c5466b94e8", func := "excise/exciselaw02.DecimalScales", spec := "decimalScales", apart := false }
def DecimalScalesSaid : Prop := decimalScalesRow.holds Try.pinned (OpenSpec.ofChange decimalScalesSpec)

/-- ITS FALSE NEIGHBOUR: 'it returns false'. Refute it at one input. -/
def decimalScalesWrong : ChangeSpec := { name := "decimalScales", fn := fun _ => fun
  | [d1, d2, d3] => { results := [.lit (.bool false)], args := [d1, d2, d3] }
  | _ => none }
def DecimalScalesWrongFalsely : Prop := decimalScalesRow.holds Try.pinned (OpenSpec.ofChange decimalScalesWrong)

/-- 'exciselaw02.DecimalHalves': WHATEVER THE INPUT: true; the input reads as it did. -/
def decimalHalvesSpec : ChangeSpec := { name := "decimalHalves", fn := fun _ => fun
  | [d1, d2] => { results := [.lit (.bool true)], args := [d1, d2] }
  | _ => none }
def decimalHalvesRow : OpenClaim := { program := "ytgjkpegkjhpfiaa", sum := "e6744180f2a19ca8ee1a0257f24a6ebf84422b304e1722a561b8c6c5466b94e8", func := "excise/exciselaw02.DecimalHalves", spec := "decimalHalves", apart := false }
def DecimalHalvesSaid : Prop := decimalHalvesRow.holds Try.pinned (OpenSpec.ofChange decimalHalvesSpec)

/-- ITS FALSE NEIGHBOUR: 'it returns false'. Refute it at one input. -/
def decimalHalvesWrong : ChangeSpec := { name := "decimalHalves", fn := fun _ => fun
  | [d1, d2] => { results := [.lit (.bool false)], args := [d1, d2] }
  | _ => none }
def DecimalHalvesWrongFalsely : Prop := decimalHalvesRow.holds Try.pinned (OpenSpec.ofChange decimalHalvesWrong)

/-- 'exciselaw02.DecimalOrder': WHATEVER THE INPUT: true; the input reads as it did. -/
def decimalOrderSpec : ChangeSpec := { name := "decimalOrder", fn := fun _ => fun
  | [d1, d2, d3] => { results := [.lit (.bool true)], args := [d1, d2, d3] }
  | _ => none }
def decimalOrderRow : OpenClaim := { program := "ytgjkpegkjhpfiaa", sum := "e6744180f2a19ca8ee1a0257f24a6ebf84422b304e1722a561b8c6c5466b94e8", func := "excise/exciselaw02.DecimalOrder", spec := "decimalOrder", apart := false }
def DecimalOrderSaid : Prop := decimalOrderRow.holds Try.pinned (OpenSpec.ofChange decimalOrderSpec)

/-- ITS FALSE NEIGHBOUR: 'it returns false'. Refute it at one input. -/
def decimalOrderWrong : ChangeSpec := { name := "decimalOrder", fn := fun _ => fun
  | [d1, d2, d3] => { results := [.lit (.bool false)], args := [d1, d2, d3] }
  | _ => none }
def DecimalOrderWrongFalsely : Prop := decimalOrderRow.holds Try.pinned (OpenSpec.ofChange decimalOrderWrong)

/-- 'exciselaw02.DecimalRounds': WHATEVER THE INPUT: true; the input reads as it did. -/
def decimalRoundsSpec : ChangeSpec := { name := "decimalRounds", fn := fun _ => fun
  | [d1, d2, d3] => { results := [.lit (.bool true)], args := [d1, d2, d3] }
  | _ => none }
def decimalRoundsRow : OpenClaim := { program := "ytgjkpegkjhpfiaa", sum := "e6744180f2a19ca8ee1a0257f24a6ebf84422b304e1722a561b8c6c5466b94e8", func := "excise/exciselaw02.DecimalRounds", spec := "decimalRounds", apart := false }
def DecimalRoundsSaid : Prop := decimalRoundsRow.holds Try.pinned (OpenSpec.ofChange decimalRoundsSpec)

/-- ITS FALSE NEIGHBOUR: 'it returns false'. Refute it at one input. -/
def decimalRoundsWrong : ChangeSpec := { name := "decimalRounds", fn := fun _ => fun
  | [d1, d2, d3] => { results := [.lit (.bool false)], args := [d1, d2, d3] }
  | _ => none }
def DecimalRoundsWrongFalsely : Prop := decimalRoundsRow.holds Try.pinned (OpenSpec.ofChange decimalRoundsWrong)

/-- 'exciselaw02.DecimalUndoes': WHATEVER THE INPUT: true; the input reads as it did. -/
def decimalUndoesSpec : ChangeSpec := { name := "decimalUndoes", fn := fun _ => fun
  | [d1, d2] => { results := [.lit (.bool true)], args := [d1, d2] }
  | _ => none }
def decimalUndoesRow : OpenClaim := { program := "ytgjkpegkjhpfiaa", sum := "e6744180f2a19ca8ee1a0257f24a6ebf84422b304e1722a561b8c6c5466b94e8", func := "excise/exciselaw02.DecimalUndoes", spec := "decimalUndoes", apart := false }
def DecimalUndoesSaid : Prop := decimalUndoesRow.holds Try.pinned (OpenSpec.ofChange decimalUndoesSpec)

/-- ITS FALSE NEIGHBOUR: 'it returns false'. Refute it at one input. -/
def decimalUndoesWrong : ChangeSpec := { name := "decimalUndoes", fn := fun _ => fun
  | [d1, d2] => { results := [.lit (.bool false)], args := [d1, d2] }
  | _ => none }
def DecimalUndoesWrongFalsely : Prop := decimalUndoesRow.holds Try.pinned (OpenSpec.ofChange decimalUndoesWrong)

/- THE SECOND FORM. 'bulk': how many values and letters a reading holds, each counted each time it is reached (what is shared counts as often as it is met; a slice's spare places count too). A statement '..UptoSaid' is the law's where the arguments, and the package variables that the reading takes, are together of bulk at most 1048576: NARROWER than '..Said'. Prove '..Said' where nothing that the law and all that it calls make is longer than what came in: it says more and counts as full. Else prove '..UptoSaid'. A law counts once. -/
mutual
def uptoBulk {H : Type} : DataW H → Nat
  | .lit (.string bytes) => bytes.length + 1
  | .lit _ => 1
  | .nil => 1
  | .ptr d => uptoBulk d + 1
  | .slice elems spare => uptoBulkAll elems + uptoBulkAll spare + 1
  | .agg parts => uptoBulkAll parts + 1
  | .iface _ d => uptoBulk d + 1
  | .map entries => uptoBulkEntries entries + 1
  | .held _ => 1
def uptoBulkAll {H : Type} : List (DataW H) → Nat
  | [] => 0
  | d :: r => uptoBulk d + uptoBulkAll r
def uptoBulkEntries {H : Type} : List (Lit × DataW H) → Nat
  | [] => 0
  | x :: r => uptoBulkEntry x + uptoBulkEntries r
def uptoBulkEntry {H : Type} : Lit × DataW H → Nat
  | (.string bytes, d) => bytes.length + uptoBulk d + 1
  | (_, d) => uptoBulk d + 1
 end
def uptoSmall : (H : Type) → List (DataW H) → Bool := fun _ ds => decide (uptoBulkAll ds ≤ 1048576)
def OpenSpec.upto (s : _root_.Go.ChangeSpec) : _root_.Go.OpenSpec := { _root_.Go.OpenSpec.ofChange s with cond := some uptoSmall }

/-- 'exciselaw02.DecimalSums', WHERE WHAT IT READS IS OF BULK AT MOST 1048576: true; the input reads as it did. -/
def decimalSumsUptoRow : OpenClaim := { program := "ytgjkpegkjhpfiaa", sum := "e6744180f2a19ca8ee1a0257f24a6ebf84422b304e1722a561b8c6c5466b94e8", func := "excise/exciselaw02.DecimalSums", spec := "decimalSums", apart := false, narrowed := true }
def DecimalSumsUptoSaid : Prop := decimalSumsUptoRow.holds Try.pinned (OpenSpec.upto decimalSumsSpec)

/-- 'exciselaw02.DecimalProducts', WHERE WHAT IT READS IS OF BULK AT MOST 1048576: true; the input reads as it did. -/
def decimalProductsUptoRow : OpenClaim := { program := "ytgjkpegkjhpfiaa", sum := "e6744180f2a19ca8ee1a0257f24a6ebf84422b304e1722a561b8c6c5466b94e8", func := "excise/exciselaw02.DecimalProducts", spec := "decimalProducts", apart := false, narrowed := true }
def DecimalProductsUptoSaid : Prop := decimalProductsUptoRow.holds Try.pinned (OpenSpec.upto decimalProductsSpec)

/-- 'exciselaw02.DecimalCompares', WHERE WHAT IT READS IS OF BULK AT MOST 1048576: true; the input reads as it did. -/
def decimalComparesUptoRow : OpenClaim := { program := "ytgjkpegkjhpfiaa", sum := "e6744180f2a19ca8ee1a0257f24a6ebf84422b304e1722a561b8c6c5466b94e8", func := "excise/exciselaw02.DecimalCompares", spec := "decimalCompares", apart := false, narrowed := true }
def DecimalComparesUptoSaid : Prop := decimalComparesUptoRow.holds Try.pinned (OpenSpec.upto decimalComparesSpec)

/-- 'exciselaw02.DecimalChecks', WHERE WHAT IT READS IS OF BULK AT MOST 1048576: true; the input reads as it did. -/
def decimalChecksUptoRow : OpenClaim := { program := "ytgjkpegkjhpfiaa", sum := "e6744180f2a19ca8ee1a0257f24a6ebf84422b304e1722a561b8c6c5466b94e8", func := "excise/exciselaw02.DecimalChecks", spec := "decimalChecks", apart := false, narrowed := true }
def DecimalChecksUptoSaid : Prop := decimalChecksUptoRow.holds Try.pinned (OpenSpec.upto decimalChecksSpec)

/-- 'exciselaw02.DecimalScales', WHERE WHAT IT READS IS OF BULK AT MOST 1048576: true; the input reads as it did. -/
def decimalScalesUptoRow : OpenClaim := { program := "ytgjkpegkjhpfiaa", sum := "e6744180f2a19ca8ee1a0257f24a6ebf84422b304e1722a561b8c6c5466b94e8", func := "excise/exciselaw02.DecimalScales", spec := "decimalScales", apart := false, narrowed := true }
def DecimalScalesUptoSaid : Prop := decimalScalesUptoRow.holds Try.pinned (OpenSpec.upto decimalScalesSpec)

/-- 'exciselaw02.DecimalHalves', WHERE WHAT IT READS IS OF BULK AT MOST 1048576: true; the input reads as it did. -/
def decimalHalvesUptoRow : OpenClaim := { program := "ytgjkpegkjhpfiaa", sum := "e6744180f2a19ca8ee1a0257f24a6ebf84422b304e1722a561b8c6c5466b94e8", func := "excise/exciselaw02.DecimalHalves", spec := "decimalHalves", apart := false, narrowed := true }
def DecimalHalvesUptoSaid : Prop := decimalHalvesUptoRow.holds Try.pinned (OpenSpec.upto decimalHalvesSpec)

/-- 'exciselaw02.DecimalOrder', WHERE WHAT IT READS IS OF BULK AT MOST 1048576: true; the input reads as it did. -/
def decimalOrderUptoRow : OpenClaim := { program := "ytgjkpegkjhpfiaa", sum := "e6744180f2a19ca8ee1a0257f24a6ebf84422b304e1722a561b8c6c5466b94e8", func := "excise/exciselaw02.DecimalOrder", spec := "decimalOrder", apart := false, narrowed := true }
def DecimalOrderUptoSaid : Prop := decimalOrderUptoRow.holds Try.pinned (OpenSpec.upto decimalOrderSpec)

/-- 'exciselaw02.DecimalRounds', WHERE WHAT IT READS IS OF BULK AT MOST 1048576: true; the input reads as it did. -/
def decimalRoundsUptoRow : OpenClaim := { program := "ytgjkpegkjhpfiaa", sum := "e6744180f2a19ca8ee1a0257f24a6ebf84422b304e1722a561b8c6c5466b94e8", func := "excise/exciselaw02.DecimalRounds", spec := "decimalRounds", apart := false, narrowed := true }
def DecimalRoundsUptoSaid : Prop := decimalRoundsUptoRow.holds Try.pinned (OpenSpec.upto decimalRoundsSpec)

/-- 'exciselaw02.DecimalUndoes', WHERE WHAT IT READS IS OF BULK AT MOST 1048576: true; the input reads as it did. -/
def decimalUndoesUptoRow : OpenClaim := { program := "ytgjkpegkjhpfiaa", sum := "e6744180f2a19ca8ee1a0257f24a6ebf84422b304e1722a561b8c6c5466b94e8", func := "excise/exciselaw02.DecimalUndoes", spec := "decimalUndoes", apart := false, narrowed := true }
def DecimalUndoesUptoSaid : Prop := decimalUndoesUptoRow.holds Try.pinned (OpenSpec.upto decimalUndoesSpec)

end Rows
end Go.Proofs.Ytgjkpegkjhpfiaa
