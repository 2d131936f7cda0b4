/-
  NARROWER THAN 'FOR EVERY INPUT', by the rows' own cells (each row's printed sentence says how): TypesStay: loops · TypesReads: loops · TypesLines: loops.
  DERIVED. THE GIVEN ROWS OF THIS SEAT. 4 by the template 'for every input the law returns true; each argument reads behind the call as it read before'; 0 by the template 'total and deterministic' (their statements: YtkglccolonpnlaaTotals.lean).
  GIVEN WITH THE SEED: the statements are not yours to turn. If you find one false, say at which input.
  Laid BY PROGRAM, IN A SANDBOX (cutbox-rows.mjs): the forced cells as the released guide's own fill.sh prints them over the translation 0576968adeed4a4d… (all of the seat's roots in one cut). By AI agents, Wed Nov 11 2026. No macro, syntax, notation, axiom, sorry.
-/
import Derived.Test.YtkglccolonpnlaaChecked
import GoSem.Claim
import GoSem.ClaimJoined
import GoSem.ClaimMapViews
import Derived.JoinedTies
import Derived.KernelRfl
namespace Go.Proofs.Ytkglccolonpnlaa
/- THE CELL 'sum', in the pinned program and in every row, IS THE sha256 OF THE DUMP (.gsa) THAT YtkglccolonpnlaaProg.lean LOADS. Nothing in Lean hashes anything: it is a label: what it is worth is what the hold of that sum in a sandbox is worth. -/
noncomputable def Try.pinned : Pinned := { name := "ytkglccolonpnlaa", sum := "0576968adeed4a4d42bedfca886c4885599c579567860d7b354e70fdc0e9da2e", checked := Try.checked }
namespace Rows
def none {H : Type} : Left H := { results := [], args := [] }

/-- 'exciselaw10.TypesValues': WHATEVER THE INPUT: true; the input reads as it did. -/
def typesValuesSpec : ChangeSpec := { name := "typesValues", fn := fun _ => fun
  | [d1, d2] => { results := [.lit (.bool true)], args := [d1, d2] }
  | _ => none }
def typesValuesRow : OpenClaim := { program := "ytkglccolonpnlaa", sum := "0576968adeed4a4d42bedfca886c4885599c579567860d7b354e70fdc0e9da2e", func := "excise/exciselaw10.TypesValues", spec := "typesValues", unfollowed := true, recurses := true, plainKeys := false, apart := false }
def TypesValuesSaid : Prop := typesValuesRow.holds Try.pinned (OpenSpec.ofChange typesValuesSpec)

/-- ITS FALSE NEIGHBOUR: 'it returns false'. Refute it at one input. -/
def typesValuesWrong : ChangeSpec := { name := "typesValues", fn := fun _ => fun
  | [d1, d2] => { results := [.lit (.bool false)], args := [d1, d2] }
  | _ => none }
def TypesValuesWrongFalsely : Prop := typesValuesRow.holds Try.pinned (OpenSpec.ofChange typesValuesWrong)

/-- 'exciselaw10.TypesStay': WHATEVER THE INPUT: true; the input reads as it did. -/
def typesStaySpec : ChangeSpec := { name := "typesStay", fn := fun _ => fun
  | [d1, d2, d3] => { results := [.lit (.bool true)], args := [d1, d2, d3] }
  | _ => none }
def typesStayRow : OpenClaim := { program := "ytkglccolonpnlaa", sum := "0576968adeed4a4d42bedfca886c4885599c579567860d7b354e70fdc0e9da2e", func := "excise/exciselaw10.TypesStay", spec := "typesStay", unfollowed := true, recurses := true, loops := true, plainKeys := false, apart := false }
def TypesStaySaid : Prop := typesStayRow.holds Try.pinned (OpenSpec.ofChange typesStaySpec)

/-- ITS FALSE NEIGHBOUR: 'it returns false'. Refute it at one input. -/
def typesStayWrong : ChangeSpec := { name := "typesStay", fn := fun _ => fun
  | [d1, d2, d3] => { results := [.lit (.bool false)], args := [d1, d2, d3] }
  | _ => none }
def TypesStayWrongFalsely : Prop := typesStayRow.holds Try.pinned (OpenSpec.ofChange typesStayWrong)

/-- 'exciselaw10.TypesReads': WHATEVER THE INPUT: true; the input reads as it did. -/
def typesReadsSpec : ChangeSpec := { name := "typesReads", fn := fun _ => fun
  | [d] => { results := [.lit (.bool true)], args := [d] }
  | _ => none }
def typesReadsRow : OpenClaim := { program := "ytkglccolonpnlaa", sum := "0576968adeed4a4d42bedfca886c4885599c579567860d7b354e70fdc0e9da2e", func := "excise/exciselaw10.TypesReads", spec := "typesReads", unfollowed := true, recurses := true, loops := true, plainKeys := false, apart := false }
def TypesReadsSaid : Prop := typesReadsRow.holds Try.pinned (OpenSpec.ofChange typesReadsSpec)

/-- ITS FALSE NEIGHBOUR: 'it returns false'. Refute it at one input. -/
def typesReadsWrong : ChangeSpec := { name := "typesReads", fn := fun _ => fun
  | [d] => { results := [.lit (.bool false)], args := [d] }
  | _ => none }
def TypesReadsWrongFalsely : Prop := typesReadsRow.holds Try.pinned (OpenSpec.ofChange typesReadsWrong)

/-- 'exciselaw10.TypesLines': WHATEVER THE INPUT: true; the input reads as it did. -/
def typesLinesSpec : ChangeSpec := { name := "typesLines", fn := fun _ => fun
  | [d] => { results := [.lit (.bool true)], args := [d] }
  | _ => none }
def typesLinesRow : OpenClaim := { program := "ytkglccolonpnlaa", sum := "0576968adeed4a4d42bedfca886c4885599c579567860d7b354e70fdc0e9da2e", func := "excise/exciselaw10.TypesLines", spec := "typesLines", unfollowed := true, recurses := true, loops := true, plainKeys := false, apart := false }
def TypesLinesSaid : Prop := typesLinesRow.holds Try.pinned (OpenSpec.ofChange typesLinesSpec)

/-- ITS FALSE NEIGHBOUR: 'it returns false'. Refute it at one input. -/
def typesLinesWrong : ChangeSpec := { name := "typesLines", fn := fun _ => fun
  | [d] => { results := [.lit (.bool false)], args := [d] }
  | _ => none }
def TypesLinesWrongFalsely : Prop := typesLinesRow.holds Try.pinned (OpenSpec.ofChange typesLinesWrong)

/- THE SECOND FORM. 'bulk': how many values and letters a reading holds, each counted each time it is reached (what is shared counts as often as it is met; a slice's spare places count too). A statement '..UptoSaid' is the law's where the arguments, and the package variables that the reading takes, are together of bulk at most 1048576: NARROWER than '..Said'. Prove '..Said' where nothing that the law and all that it calls make is longer than what came in: it says more and counts as full. Else prove '..UptoSaid'. A law counts once. -/
mutual
def uptoBulk {H : Type} : DataW H → Nat
  | .lit (.string bytes) => bytes.length + 1
  | .lit _ => 1
  | .nil => 1
  | .ptr d => uptoBulk d + 1
  | .slice elems spare => uptoBulkAll elems + uptoBulkAll spare + 1
  | .agg parts => uptoBulkAll parts + 1
  | .iface _ d => uptoBulk d + 1
  | .map entries => uptoBulkEntries entries + 1
  | .held _ => 1
def uptoBulkAll {H : Type} : List (DataW H) → Nat
  | [] => 0
  | d :: r => uptoBulk d + uptoBulkAll r
def uptoBulkEntries {H : Type} : List (Lit × DataW H) → Nat
  | [] => 0
  | x :: r => uptoBulkEntry x + uptoBulkEntries r
def uptoBulkEntry {H : Type} : Lit × DataW H → Nat
  | (.string bytes, d) => bytes.length + uptoBulk d + 1
  | (_, d) => uptoBulk d + 1
 end
def uptoSmall : (H : Type) → List (DataW H) → Bool := fun _ ds => decide (uptoBulkAll ds ≤ 1048576)
def OpenSpec.upto (s : _root_.Go.ChangeSpec) : _root_.Go.OpenSpec := { _root_.Go.OpenSpec.ofChange s with cond := some uptoSmall }

/-- 'exciselaw10.TypesValues', WHERE WHAT IT READS IS OF BULK AT MOST 1048576: true; the input reads as it did. -/
def typesValuesUptoRow : OpenClaim := { program := "ytkglccolonpnlaa", sum := "0576968adeed4a4d42bedfca886c4885599c579567860d7b354e70fdc0e9da2e", func := "excise/exciselaw10.TypesValues", spec := "typesValues", unfollowed := true, recurses := true, plainKeys := false, apart := false, narrowed := true }
def TypesValuesUptoSaid : Prop := typesValuesUptoRow.holds Try.pinned (OpenSpec.upto typesValuesSpec)

/-- 'exciselaw10.TypesStay', WHERE WHAT IT READS IS OF BULK AT MOST 1048576: true; the input reads as it did. -/
def typesStayUptoRow : OpenClaim := { program := "ytkglccolonpnlaa", sum := "0576968adeed4a4d42bedfca886c4885599c579567860d7b354e70fdc0e9da2e", func := "excise/exciselaw10.TypesStay", spec := "typesStay", unfollowed := true, recurses := true, loops := true, plainKeys := false, apart := false, narrowed := true }
def TypesStayUptoSaid : Prop := typesStayUptoRow.holds Try.pinned (OpenSpec.upto typesStaySpec)

/-- 'exciselaw10.TypesReads', WHERE WHAT IT READS IS OF BULK AT MOST 1048576: true; the input reads as it did. -/
def typesReadsUptoRow : OpenClaim := { program := "ytkglccolonpnlaa", sum := "0576968adeed4a4d42bedfca886c4885599c579567860d7b354e70fdc0e9da2e", func := "excise/exciselaw10.TypesReads", spec := "typesReads", unfollowed := true, recurses := true, loops := true, plainKeys := false, apart := false, narrowed := true }
def TypesReadsUptoSaid : Prop := typesReadsUptoRow.holds Try.pinned (OpenSpec.upto typesReadsSpec)

/-- 'exciselaw10.TypesLines', WHERE WHAT IT READS IS OF BULK AT MOST 1048576: true; the input reads as it did. -/
def typesLinesUptoRow : OpenClaim := { program := "ytkglccolonpnlaa", sum := "0576968adeed4a4d42bedfca886c4885599c579567860d7b354e70fdc0e9da2e", func := "excise/exciselaw10.TypesLines", spec := "typesLines", unfollowed := true, recurses := true, loops := true, plainKeys := false, apart := false, narrowed := true }
def TypesLinesUptoSaid : Prop := typesLinesUptoRow.holds Try.pinned (OpenSpec.upto typesLinesSpec)

end Rows
end Go.Proofs.Ytkglccolonpnlaa
