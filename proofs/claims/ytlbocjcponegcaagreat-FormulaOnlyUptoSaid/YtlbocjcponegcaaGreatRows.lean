/-
  NARROWER THAN 'FOR EVERY INPUT', by the rows' own cells (each row's printed sentence says how): FormulaEvals: loops · FormulaItems: loops · FormulaStays: loops · FormulaFolds: loops · FormulaSame: loops · FormulaReads: loops · FormulaOnly: loops.
  DERIVED. THE GIVEN ROWS OF THIS SEAT. 7 by the template 'for every input the law returns true; each argument reads behind the call as it read before'; 0 by the template 'total and deterministic' (their statements: YtlbocjcponegcaaGreatTotals.lean).
  GIVEN WITH THE SEED: the statements are not yours to turn. If you find one false, say at which input.
  Laid BY PROGRAM, IN A SANDBOX (cutbox-rows.mjs): the forced cells as the released guide's own fill.sh prints them over the translation b92adbb6b85efea0… (all of the seat's roots in one cut). By AI agents, Wed Nov 11 2026. No macro, syntax, notation, axiom, sorry.
-/
import Derived.Test.YtlbocjcponegcaaGreatChecked
import GoSem.Claim
import GoSem.ClaimJoined
import GoSem.ClaimMapViews
import Derived.JoinedTies
import Derived.KernelRfl
namespace Go.Proofs.YtlbocjcponegcaaGreat
/- THE CELL 'sum', in the pinned program and in every row, IS THE sha256 OF THE DUMP (.gsa) THAT YtlbocjcponegcaaGreatProg.lean LOADS. Nothing in Lean hashes anything: it is a label: what it is worth is what the hold of that sum in a sandbox is worth. -/
noncomputable def Tryz.pinned : Pinned := { name := "ytlbocjcponegcaagreat", sum := "b92adbb6b85efea0f485fc99af739f7638d5fba19ea00dcf32dda8909b0b00a1", checked := Tryz.checked }
namespace Rows
def none {H : Type} : Left H := { results := [], args := [] }

/-- 'exciselaw17.FormulaEvals': WHATEVER THE INPUT: true; the input reads as it did. -/
def formulaEvalsSpec : ChangeSpec := { name := "formulaEvals", fn := fun _ => fun
  | [d1, d2] => { results := [.lit (.bool true)], args := [d1, d2] }
  | _ => none }
def formulaEvalsRow : OpenClaim := { program := "ytlbocjcponegcaagreat", sum := "b92adbb6b85efea0f485fc99af739f7638d5fba19ea00dcf32dda8909b0b00a1", func := "excise/exciselaw17.FormulaEvals", spec := "formulaEvals", unfollowed := true, recurses := true, loops := true, plainKeys := false, apart := false }
def FormulaEvalsSaid : Prop := formulaEvalsRow.holds Tryz.pinned (OpenSpec.ofChange formulaEvalsSpec)

/-- ITS FALSE NEIGHBOUR: 'it returns false'. Refute it at one input. -/
def formulaEvalsWrong : ChangeSpec := { name := "formulaEvals", fn := fun _ => fun
  | [d1, d2] => { results := [.lit (.bool false)], args := [d1, d2] }
  | _ => none }
def FormulaEvalsWrongFalsely : Prop := formulaEvalsRow.holds Tryz.pinned (OpenSpec.ofChange formulaEvalsWrong)

/-- 'exciselaw17.FormulaItems': WHATEVER THE INPUT: true; the input reads as it did. -/
def formulaItemsSpec : ChangeSpec := { name := "formulaItems", fn := fun _ => fun
  | [d1, d2] => { results := [.lit (.bool true)], args := [d1, d2] }
  | _ => none }
def formulaItemsRow : OpenClaim := { program := "ytlbocjcponegcaagreat", sum := "b92adbb6b85efea0f485fc99af739f7638d5fba19ea00dcf32dda8909b0b00a1", func := "excise/exciselaw17.FormulaItems", spec := "formulaItems", unfollowed := true, recurses := true, loops := true, plainKeys := false, apart := false }
def FormulaItemsSaid : Prop := formulaItemsRow.holds Tryz.pinned (OpenSpec.ofChange formulaItemsSpec)

/-- ITS FALSE NEIGHBOUR: 'it returns false'. Refute it at one input. -/
def formulaItemsWrong : ChangeSpec := { name := "formulaItems", fn := fun _ => fun
  | [d1, d2] => { results := [.lit (.bool false)], args := [d1, d2] }
  | _ => none }
def FormulaItemsWrongFalsely : Prop := formulaItemsRow.holds Tryz.pinned (OpenSpec.ofChange formulaItemsWrong)

/-- 'exciselaw17.FormulaStays': WHATEVER THE INPUT: true; the input reads as it did. -/
def formulaStaysSpec : ChangeSpec := { name := "formulaStays", fn := fun _ => fun
  | [d1, d2] => { results := [.lit (.bool true)], args := [d1, d2] }
  | _ => none }
def formulaStaysRow : OpenClaim := { program := "ytlbocjcponegcaagreat", sum := "b92adbb6b85efea0f485fc99af739f7638d5fba19ea00dcf32dda8909b0b00a1", func := "excise/exciselaw17.FormulaStays", spec := "formulaStays", unfollowed := true, recurses := true, loops := true, plainKeys := false, apart := false }
def FormulaStaysSaid : Prop := formulaStaysRow.holds Tryz.pinned (OpenSpec.ofChange formulaStaysSpec)

/-- ITS FALSE NEIGHBOUR: 'it returns false'. Refute it at one input. -/
def formulaStaysWrong : ChangeSpec := { name := "formulaStays", fn := fun _ => fun
  | [d1, d2] => { results := [.lit (.bool false)], args := [d1, d2] }
  | _ => none }
def FormulaStaysWrongFalsely : Prop := formulaStaysRow.holds Tryz.pinned (OpenSpec.ofChange formulaStaysWrong)

/-- 'exciselaw17.FormulaFolds': WHATEVER THE INPUT: true; the input reads as it did. -/
def formulaFoldsSpec : ChangeSpec := { name := "formulaFolds", fn := fun _ => fun
  | [d1, d2] => { results := [.lit (.bool true)], args := [d1, d2] }
  | _ => none }
def formulaFoldsRow : OpenClaim := { program := "ytlbocjcponegcaagreat", sum := "b92adbb6b85efea0f485fc99af739f7638d5fba19ea00dcf32dda8909b0b00a1", func := "excise/exciselaw17.FormulaFolds", spec := "formulaFolds", unfollowed := true, recurses := true, loops := true, plainKeys := false, apart := false }
def FormulaFoldsSaid : Prop := formulaFoldsRow.holds Tryz.pinned (OpenSpec.ofChange formulaFoldsSpec)

/-- ITS FALSE NEIGHBOUR: 'it returns false'. Refute it at one input. -/
def formulaFoldsWrong : ChangeSpec := { name := "formulaFolds", fn := fun _ => fun
  | [d1, d2] => { results := [.lit (.bool false)], args := [d1, d2] }
  | _ => none }
def FormulaFoldsWrongFalsely : Prop := formulaFoldsRow.holds Tryz.pinned (OpenSpec.ofChange formulaFoldsWrong)

/-- 'exciselaw17.FormulaSame': WHATEVER THE INPUT: true; the input reads as it did. -/
def formulaSameSpec : ChangeSpec := { name := "formulaSame", fn := fun _ => fun
  | [d1, d2] => { results := [.lit (.bool true)], args := [d1, d2] }
  | _ => none }
def formulaSameRow : OpenClaim := { program := "ytlbocjcponegcaagreat", sum := "b92adbb6b85efea0f485fc99af739f7638d5fba19ea00dcf32dda8909b0b00a1", func := "excise/exciselaw17.FormulaSame", spec := "formulaSame", unfollowed := true, recurses := true, loops := true, plainKeys := false, apart := false }
def FormulaSameSaid : Prop := formulaSameRow.holds Tryz.pinned (OpenSpec.ofChange formulaSameSpec)

/-- ITS FALSE NEIGHBOUR: 'it returns false'. Refute it at one input. -/
def formulaSameWrong : ChangeSpec := { name := "formulaSame", fn := fun _ => fun
  | [d1, d2] => { results := [.lit (.bool false)], args := [d1, d2] }
  | _ => none }
def FormulaSameWrongFalsely : Prop := formulaSameRow.holds Tryz.pinned (OpenSpec.ofChange formulaSameWrong)

/-- 'exciselaw17.FormulaReads': WHATEVER THE INPUT: true; the input reads as it did. -/
def formulaReadsSpec : ChangeSpec := { name := "formulaReads", fn := fun _ => fun
  | [d] => { results := [.lit (.bool true)], args := [d] }
  | _ => none }
def formulaReadsRow : OpenClaim := { program := "ytlbocjcponegcaagreat", sum := "b92adbb6b85efea0f485fc99af739f7638d5fba19ea00dcf32dda8909b0b00a1", func := "excise/exciselaw17.FormulaReads", spec := "formulaReads", inPlace := ["internal/bytealg.abigen_runtime_cmpstring"], unfollowed := true, recurses := true, loops := true, plainKeys := false, apart := false }
def FormulaReadsSaid : Prop := formulaReadsRow.holds Tryz.pinned (OpenSpec.ofChange formulaReadsSpec)

/-- ITS FALSE NEIGHBOUR: 'it returns false'. Refute it at one input. -/
def formulaReadsWrong : ChangeSpec := { name := "formulaReads", fn := fun _ => fun
  | [d] => { results := [.lit (.bool false)], args := [d] }
  | _ => none }
def FormulaReadsWrongFalsely : Prop := formulaReadsRow.holds Tryz.pinned (OpenSpec.ofChange formulaReadsWrong)

/-- 'exciselaw17.FormulaOnly': WHATEVER THE INPUT: true; the input reads as it did. -/
def formulaOnlySpec : ChangeSpec := { name := "formulaOnly", fn := fun _ => fun
  | [d1, d2] => { results := [.lit (.bool true)], args := [d1, d2] }
  | _ => none }
def formulaOnlyRow : OpenClaim := { program := "ytlbocjcponegcaagreat", sum := "b92adbb6b85efea0f485fc99af739f7638d5fba19ea00dcf32dda8909b0b00a1", func := "excise/exciselaw17.FormulaOnly", spec := "formulaOnly", inPlace := ["internal/bytealg.abigen_runtime_cmpstring"], unfollowed := true, recurses := true, loops := true, plainKeys := false, apart := false }
def FormulaOnlySaid : Prop := formulaOnlyRow.holds Tryz.pinned (OpenSpec.ofChange formulaOnlySpec)

/-- ITS FALSE NEIGHBOUR: 'it returns false'. Refute it at one input. -/
def formulaOnlyWrong : ChangeSpec := { name := "formulaOnly", fn := fun _ => fun
  | [d1, d2] => { results := [.lit (.bool false)], args := [d1, d2] }
  | _ => none }
def FormulaOnlyWrongFalsely : Prop := formulaOnlyRow.holds Tryz.pinned (OpenSpec.ofChange formulaOnlyWrong)

/- THE SECOND FORM. 'bulk': how many values and letters a reading holds, each counted each time it is reached (what is shared counts as often as it is met; a slice's spare places count too). A statement '..UptoSaid' is the law's where the arguments, and the package variables that the reading takes, are together of bulk at most 1048576: NARROWER than '..Said'. Prove '..Said' where nothing that the law and all that it calls make is longer than what came in: it says more and counts as full. Else prove '..UptoSaid'. A law counts once. -/
mutual
def uptoBulk {H : Type} : DataW H → Nat
  | .lit (.string bytes) => bytes.length + 1
  | .lit _ => 1
  | .nil => 1
  | .ptr d => uptoBulk d + 1
  | .slice elems spare => uptoBulkAll elems + uptoBulkAll spare + 1
  | .agg parts => uptoBulkAll parts + 1
  | .iface _ d => uptoBulk d + 1
  | .map entries => uptoBulkEntries entries + 1
  | .held _ => 1
def uptoBulkAll {H : Type} : List (DataW H) → Nat
  | [] => 0
  | d :: r => uptoBulk d + uptoBulkAll r
def uptoBulkEntries {H : Type} : List (Lit × DataW H) → Nat
  | [] => 0
  | x :: r => uptoBulkEntry x + uptoBulkEntries r
def uptoBulkEntry {H : Type} : Lit × DataW H → Nat
  | (.string bytes, d) => bytes.length + uptoBulk d + 1
  | (_, d) => uptoBulk d + 1
 end
def uptoSmall : (H : Type) → List (DataW H) → Bool := fun _ ds => decide (uptoBulkAll ds ≤ 1048576)
def OpenSpec.upto (s : _root_.Go.ChangeSpec) : _root_.Go.OpenSpec := { _root_.Go.OpenSpec.ofChange s with cond := some uptoSmall }

/-- 'exciselaw17.FormulaEvals', WHERE WHAT IT READS IS OF BULK AT MOST 1048576: true; the input reads as it did. -/
def formulaEvalsUptoRow : OpenClaim := { program := "ytlbocjcponegcaagreat", sum := "b92adbb6b85efea0f485fc99af739f7638d5fba19ea00dcf32dda8909b0b00a1", func := "excise/exciselaw17.FormulaEvals", spec := "formulaEvals", unfollowed := true, recurses := true, loops := true, plainKeys := false, apart := false, narrowed := true }
def FormulaEvalsUptoSaid : Prop := formulaEvalsUptoRow.holds Tryz.pinned (OpenSpec.upto formulaEvalsSpec)

/-- 'exciselaw17.FormulaItems', WHERE WHAT IT READS IS OF BULK AT MOST 1048576: true; the input reads as it did. -/
def formulaItemsUptoRow : OpenClaim := { program := "ytlbocjcponegcaagreat", sum := "b92adbb6b85efea0f485fc99af739f7638d5fba19ea00dcf32dda8909b0b00a1", func := "excise/exciselaw17.FormulaItems", spec := "formulaItems", unfollowed := true, recurses := true, loops := true, plainKeys := false, apart := false, narrowed := true }
def FormulaItemsUptoSaid : Prop := formulaItemsUptoRow.holds Tryz.pinned (OpenSpec.upto formulaItemsSpec)

/-- 'exciselaw17.FormulaStays', WHERE WHAT IT READS IS OF BULK AT MOST 1048576: true; the input reads as it did. -/
def formulaStaysUptoRow : OpenClaim := { program := "ytlbocjcponegcaagreat", sum := "b92adbb6b85efea0f485fc99af739f7638d5fba19ea00dcf32dda8909b0b00a1", func := "excise/exciselaw17.FormulaStays", spec := "formulaStays", unfollowed := true, recurses := true, loops := true, plainKeys := false, apart := false, narrowed := true }
def FormulaStaysUptoSaid : Prop := formulaStaysUptoRow.holds Tryz.pinned (OpenSpec.upto formulaStaysSpec)

/-- 'exciselaw17.FormulaFolds', WHERE WHAT IT READS IS OF BULK AT MOST 1048576: true; the input reads as it did. -/
def formulaFoldsUptoRow : OpenClaim := { program := "ytlbocjcponegcaagreat", sum := "b92adbb6b85efea0f485fc99af739f7638d5fba19ea00dcf32dda8909b0b00a1", func := "excise/exciselaw17.FormulaFolds", spec := "formulaFolds", unfollowed := true, recurses := true, loops := true, plainKeys := false, apart := false, narrowed := true }
def FormulaFoldsUptoSaid : Prop := formulaFoldsUptoRow.holds Tryz.pinned (OpenSpec.upto formulaFoldsSpec)

/-- 'exciselaw17.FormulaSame', WHERE WHAT IT READS IS OF BULK AT MOST 1048576: true; the input reads as it did. -/
def formulaSameUptoRow : OpenClaim := { program := "ytlbocjcponegcaagreat", sum := "b92adbb6b85efea0f485fc99af739f7638d5fba19ea00dcf32dda8909b0b00a1", func := "excise/exciselaw17.FormulaSame", spec := "formulaSame", unfollowed := true, recurses := true, loops := true, plainKeys := false, apart := false, narrowed := true }
def FormulaSameUptoSaid : Prop := formulaSameUptoRow.holds Tryz.pinned (OpenSpec.upto formulaSameSpec)

/-- 'exciselaw17.FormulaReads', WHERE WHAT IT READS IS OF BULK AT MOST 1048576: true; the input reads as it did. -/
def formulaReadsUptoRow : OpenClaim := { program := "ytlbocjcponegcaagreat", sum := "b92adbb6b85efea0f485fc99af739f7638d5fba19ea00dcf32dda8909b0b00a1", func := "excise/exciselaw17.FormulaReads", spec := "formulaReads", inPlace := ["internal/bytealg.abigen_runtime_cmpstring"], unfollowed := true, recurses := true, loops := true, plainKeys := false, apart := false, narrowed := true }
def FormulaReadsUptoSaid : Prop := formulaReadsUptoRow.holds Tryz.pinned (OpenSpec.upto formulaReadsSpec)

/-- 'exciselaw17.FormulaOnly', WHERE WHAT IT READS IS OF BULK AT MOST 1048576: true; the input reads as it did. -/
def formulaOnlyUptoRow : OpenClaim := { program := "ytlbocjcponegcaagreat", sum := "b92adbb6b85efea0f485fc99af739f7638d5fba19ea00dcf32dda8909b0b00a1", func := "excise/exciselaw17.FormulaOnly", spec := "formulaOnly", inPlace := ["internal/bytealg.abigen_runtime_cmpstring"], unfollowed := true, recurses := true, loops := true, plainKeys := false, apart := false, narrowed := true }
def FormulaOnlyUptoSaid : Prop := formulaOnlyUptoRow.holds Tryz.pinned (OpenSpec.upto formulaOnlySpec)

end Rows
end Go.Proofs.YtlbocjcponegcaaGreat
