/-
  No cell of these rows narrows 'for every input' (looked for: loops, veiled, ifaces, maps, wideKeys, modest, calm, conditions, laid).
  DERIVED. THE GIVEN ROWS OF THIS SEAT. 12 by the template 'for every input the law returns true; each argument reads behind the call as it read before'; 0 by the template 'total and deterministic' (their statements: YtenlkhlkohnmkaaTotals.lean).
  GIVEN WITH THE SEED: the statements are not yours to turn. If you find one false, say at which input.
  Laid BY PROGRAM, IN A SANDBOX (cutbox-rows.mjs): the forced cells as the released guide's own fill.sh prints them over the translation 2d2fd5bab7075c4a… (all of the seat's roots in one cut). By AI agents, Wed Nov 11 2026. No macro, syntax, notation, axiom, sorry.
-/
import Derived.Test.YtenlkhlkohnmkaaChecked
import GoSem.Claim
import GoSem.ClaimJoined
import GoSem.ClaimMapViews
import Derived.JoinedTies
import Derived.KernelRfl
namespace Go.Proofs.Ytenlkhlkohnmkaa
/- THE CELL 'sum', in the pinned program and in every row, IS THE sha256 OF THE DUMP (.gsa) THAT YtenlkhlkohnmkaaProg.lean LOADS. Nothing in Lean hashes anything: it is a label: what it is worth is what the hold of that sum in a sandbox is worth. -/
noncomputable def Try.pinned : Pinned := { name := "ytenlkhlkohnmkaa", sum := "2d2fd5bab7075c4a250fc217df94cc4ce0a2872a979e1591d76807ec080a96dd", checked := Try.checked }
namespace Rows
def none {H : Type} : Left H := { results := [], args := [] }

/-- 'exciselaw01.LimbProducts': WHATEVER THE INPUT: true; the input reads as it did. -/
def limbProductsSpec : ChangeSpec := { name := "limbProducts", fn := fun _ => fun
  | [d1, d2] => { results := [.lit (.bool true)], args := [d1, d2] }
  | _ => none }
def limbProductsRow : OpenClaim := { program := "ytenlkhlkohnmkaa", sum := "2d2fd5bab7075c4a250fc217df94cc4ce0a2872a979e1591d76807ec080a96dd", func := "excise/exciselaw01.LimbProducts", spec := "limbProducts", apart := false }
def LimbProductsSaid : Prop := limbProductsRow.holds Try.pinned (OpenSpec.ofChange limbProductsSpec)

/-- ITS FALSE NEIGHBOUR: 'it returns false'. Refute it at one input. -/
def limbProductsWrong : ChangeSpec := { name := "limbProducts", fn := fun _ => fun
  | [d1, d2] => { results := [.lit (.bool false)], args := [d1, d2] }
  | _ => none }
def LimbProductsWrongFalsely : Prop := limbProductsRow.holds Try.pinned (OpenSpec.ofChange limbProductsWrong)

/-- 'exciselaw01.LimbOrder': WHATEVER THE INPUT: true; the input reads as it did. -/
def limbOrderSpec : ChangeSpec := { name := "limbOrder", fn := fun _ => fun
  | [d1, d2, d3] => { results := [.lit (.bool true)], args := [d1, d2, d3] }
  | _ => none }
def limbOrderRow : OpenClaim := { program := "ytenlkhlkohnmkaa", sum := "2d2fd5bab7075c4a250fc217df94cc4ce0a2872a979e1591d76807ec080a96dd", func := "excise/exciselaw01.LimbOrder", spec := "limbOrder", apart := false }
def LimbOrderSaid : Prop := limbOrderRow.holds Try.pinned (OpenSpec.ofChange limbOrderSpec)

/-- ITS FALSE NEIGHBOUR: 'it returns false'. Refute it at one input. -/
def limbOrderWrong : ChangeSpec := { name := "limbOrder", fn := fun _ => fun
  | [d1, d2, d3] => { results := [.lit (.bool false)], args := [d1, d2, d3] }
  | _ => none }
def LimbOrderWrongFalsely : Prop := limbOrderRow.holds Try.pinned (OpenSpec.ofChange limbOrderWrong)

/-- 'exciselaw01.LimbSums': WHATEVER THE INPUT: true; the input reads as it did. -/
def limbSumsSpec : ChangeSpec := { name := "limbSums", fn := fun _ => fun
  | [d1, d2] => { results := [.lit (.bool true)], args := [d1, d2] }
  | _ => none }
def limbSumsRow : OpenClaim := { program := "ytenlkhlkohnmkaa", sum := "2d2fd5bab7075c4a250fc217df94cc4ce0a2872a979e1591d76807ec080a96dd", func := "excise/exciselaw01.LimbSums", spec := "limbSums", apart := false }
def LimbSumsSaid : Prop := limbSumsRow.holds Try.pinned (OpenSpec.ofChange limbSumsSpec)

/-- ITS FALSE NEIGHBOUR: 'it returns false'. Refute it at one input. -/
def limbSumsWrong : ChangeSpec := { name := "limbSums", fn := fun _ => fun
  | [d1, d2] => { results := [.lit (.bool false)], args := [d1, d2] }
  | _ => none }
def LimbSumsWrongFalsely : Prop := limbSumsRow.holds Try.pinned (OpenSpec.ofChange limbSumsWrong)

/-- 'exciselaw01.LimbTexts': WHATEVER THE INPUT: true; the input reads as it did. -/
def limbTextsSpec : ChangeSpec := { name := "limbTexts", fn := fun _ => fun
  | [d1, d2, d3] => { results := [.lit (.bool true)], args := [d1, d2, d3] }
  | _ => none }
def limbTextsRow : OpenClaim := { program := "ytenlkhlkohnmkaa", sum := "2d2fd5bab7075c4a250fc217df94cc4ce0a2872a979e1591d76807ec080a96dd", func := "excise/exciselaw01.LimbTexts", spec := "limbTexts", apart := false }
def LimbTextsSaid : Prop := limbTextsRow.holds Try.pinned (OpenSpec.ofChange limbTextsSpec)

/-- ITS FALSE NEIGHBOUR: 'it returns false'. Refute it at one input. -/
def limbTextsWrong : ChangeSpec := { name := "limbTexts", fn := fun _ => fun
  | [d1, d2, d3] => { results := [.lit (.bool false)], args := [d1, d2, d3] }
  | _ => none }
def LimbTextsWrongFalsely : Prop := limbTextsRow.holds Try.pinned (OpenSpec.ofChange limbTextsWrong)

/-- 'exciselaw01.LimbDivides': WHATEVER THE INPUT: true; the input reads as it did. -/
def limbDividesSpec : ChangeSpec := { name := "limbDivides", fn := fun _ => fun
  | [d1, d2, d3] => { results := [.lit (.bool true)], args := [d1, d2, d3] }
  | _ => none }
def limbDividesRow : OpenClaim := { program := "ytenlkhlkohnmkaa", sum := "2d2fd5bab7075c4a250fc217df94cc4ce0a2872a979e1591d76807ec080a96dd", func := "excise/exciselaw01.LimbDivides", spec := "limbDivides", apart := false }
def LimbDividesSaid : Prop := limbDividesRow.holds Try.pinned (OpenSpec.ofChange limbDividesSpec)

/-- ITS FALSE NEIGHBOUR: 'it returns false'. Refute it at one input. -/
def limbDividesWrong : ChangeSpec := { name := "limbDivides", fn := fun _ => fun
  | [d1, d2, d3] => { results := [.lit (.bool false)], args := [d1, d2, d3] }
  | _ => none }
def LimbDividesWrongFalsely : Prop := limbDividesRow.holds Try.pinned (OpenSpec.ofChange limbDividesWrong)

/-- 'exciselaw01.LimbRests': WHATEVER THE INPUT: true; the input reads as it did. -/
def limbRestsSpec : ChangeSpec := { name := "limbRests", fn := fun _ => fun
  | [d1, d2, d3] => { results := [.lit (.bool true)], args := [d1, d2, d3] }
  | _ => none }
def limbRestsRow : OpenClaim := { program := "ytenlkhlkohnmkaa", sum := "2d2fd5bab7075c4a250fc217df94cc4ce0a2872a979e1591d76807ec080a96dd", func := "excise/exciselaw01.LimbRests", spec := "limbRests", apart := false }
def LimbRestsSaid : Prop := limbRestsRow.holds Try.pinned (OpenSpec.ofChange limbRestsSpec)

/-- ITS FALSE NEIGHBOUR: 'it returns false'. Refute it at one input. -/
def limbRestsWrong : ChangeSpec := { name := "limbRests", fn := fun _ => fun
  | [d1, d2, d3] => { results := [.lit (.bool false)], args := [d1, d2, d3] }
  | _ => none }
def LimbRestsWrongFalsely : Prop := limbRestsRow.holds Try.pinned (OpenSpec.ofChange limbRestsWrong)

/-- 'exciselaw01.LimbBack': WHATEVER THE INPUT: true; the input reads as it did. -/
def limbBackSpec : ChangeSpec := { name := "limbBack", fn := fun _ => fun
  | [d1, d2] => { results := [.lit (.bool true)], args := [d1, d2] }
  | _ => none }
def limbBackRow : OpenClaim := { program := "ytenlkhlkohnmkaa", sum := "2d2fd5bab7075c4a250fc217df94cc4ce0a2872a979e1591d76807ec080a96dd", func := "excise/exciselaw01.LimbBack", spec := "limbBack", apart := false }
def LimbBackSaid : Prop := limbBackRow.holds Try.pinned (OpenSpec.ofChange limbBackSpec)

/-- ITS FALSE NEIGHBOUR: 'it returns false'. Refute it at one input. -/
def limbBackWrong : ChangeSpec := { name := "limbBack", fn := fun _ => fun
  | [d1, d2] => { results := [.lit (.bool false)], args := [d1, d2] }
  | _ => none }
def LimbBackWrongFalsely : Prop := limbBackRow.holds Try.pinned (OpenSpec.ofChange limbBackWrong)

/-- 'exciselaw05.SummaryOf': WHATEVER THE INPUT: true; the input reads as it did. -/
def summaryOfSpec : ChangeSpec := { name := "summaryOf", fn := fun _ => fun
  | [d1, d2] => { results := [.lit (.bool true)], args := [d1, d2] }
  | _ => none }
def summaryOfRow : OpenClaim := { program := "ytenlkhlkohnmkaa", sum := "2d2fd5bab7075c4a250fc217df94cc4ce0a2872a979e1591d76807ec080a96dd", func := "excise/exciselaw05.SummaryOf", spec := "summaryOf", unfollowed := true, recurses := true, apart := false }
def SummaryOfSaid : Prop := summaryOfRow.holds Try.pinned (OpenSpec.ofChange summaryOfSpec)

/-- ITS FALSE NEIGHBOUR: 'it returns false'. Refute it at one input. -/
def summaryOfWrong : ChangeSpec := { name := "summaryOf", fn := fun _ => fun
  | [d1, d2] => { results := [.lit (.bool false)], args := [d1, d2] }
  | _ => none }
def SummaryOfWrongFalsely : Prop := summaryOfRow.holds Try.pinned (OpenSpec.ofChange summaryOfWrong)

/-- 'exciselaw05.SummaryValues': WHATEVER THE INPUT: true; the input reads as it did. -/
def summaryValuesSpec : ChangeSpec := { name := "summaryValues", fn := fun _ => fun
  | [d1, d2, d3] => { results := [.lit (.bool true)], args := [d1, d2, d3] }
  | _ => none }
def summaryValuesRow : OpenClaim := { program := "ytenlkhlkohnmkaa", sum := "2d2fd5bab7075c4a250fc217df94cc4ce0a2872a979e1591d76807ec080a96dd", func := "excise/exciselaw05.SummaryValues", spec := "summaryValues", unfollowed := true, recurses := true, apart := false }
def SummaryValuesSaid : Prop := summaryValuesRow.holds Try.pinned (OpenSpec.ofChange summaryValuesSpec)

/-- ITS FALSE NEIGHBOUR: 'it returns false'. Refute it at one input. -/
def summaryValuesWrong : ChangeSpec := { name := "summaryValues", fn := fun _ => fun
  | [d1, d2, d3] => { results := [.lit (.bool false)], args := [d1, d2, d3] }
  | _ => none }
def SummaryValuesWrongFalsely : Prop := summaryValuesRow.holds Try.pinned (OpenSpec.ofChange summaryValuesWrong)

/-- 'exciselaw05.SummaryWide': WHATEVER THE INPUT: true; the input reads as it did. -/
def summaryWideSpec : ChangeSpec := { name := "summaryWide", fn := fun _ => fun
  | [d1, d2, d3] => { results := [.lit (.bool true)], args := [d1, d2, d3] }
  | _ => none }
def summaryWideRow : OpenClaim := { program := "ytenlkhlkohnmkaa", sum := "2d2fd5bab7075c4a250fc217df94cc4ce0a2872a979e1591d76807ec080a96dd", func := "excise/exciselaw05.SummaryWide", spec := "summaryWide", unfollowed := true, recurses := true, apart := false }
def SummaryWideSaid : Prop := summaryWideRow.holds Try.pinned (OpenSpec.ofChange summaryWideSpec)

/-- ITS FALSE NEIGHBOUR: 'it returns false'. Refute it at one input. -/
def summaryWideWrong : ChangeSpec := { name := "summaryWide", fn := fun _ => fun
  | [d1, d2, d3] => { results := [.lit (.bool false)], args := [d1, d2, d3] }
  | _ => none }
def SummaryWideWrongFalsely : Prop := summaryWideRow.holds Try.pinned (OpenSpec.ofChange summaryWideWrong)

/-- 'exciselaw05.SummaryMonoid': WHATEVER THE INPUT: true; the input reads as it did. -/
def summaryMonoidSpec : ChangeSpec := { name := "summaryMonoid", fn := fun _ => fun
  | [d1, d2, d3] => { results := [.lit (.bool true)], args := [d1, d2, d3] }
  | _ => none }
def summaryMonoidRow : OpenClaim := { program := "ytenlkhlkohnmkaa", sum := "2d2fd5bab7075c4a250fc217df94cc4ce0a2872a979e1591d76807ec080a96dd", func := "excise/exciselaw05.SummaryMonoid", spec := "summaryMonoid", unfollowed := true, recurses := true, apart := false }
def SummaryMonoidSaid : Prop := summaryMonoidRow.holds Try.pinned (OpenSpec.ofChange summaryMonoidSpec)

/-- ITS FALSE NEIGHBOUR: 'it returns false'. Refute it at one input. -/
def summaryMonoidWrong : ChangeSpec := { name := "summaryMonoid", fn := fun _ => fun
  | [d1, d2, d3] => { results := [.lit (.bool false)], args := [d1, d2, d3] }
  | _ => none }
def SummaryMonoidWrongFalsely : Prop := summaryMonoidRow.holds Try.pinned (OpenSpec.ofChange summaryMonoidWrong)

/-- 'exciselaw05.SummaryExact': WHATEVER THE INPUT: true; the input reads as it did. -/
def summaryExactSpec : ChangeSpec := { name := "summaryExact", fn := fun _ => fun
  | [d1, d2] => { results := [.lit (.bool true)], args := [d1, d2] }
  | _ => none }
def summaryExactRow : OpenClaim := { program := "ytenlkhlkohnmkaa", sum := "2d2fd5bab7075c4a250fc217df94cc4ce0a2872a979e1591d76807ec080a96dd", func := "excise/exciselaw05.SummaryExact", spec := "summaryExact", unfollowed := true, recurses := true, apart := false }
def SummaryExactSaid : Prop := summaryExactRow.holds Try.pinned (OpenSpec.ofChange summaryExactSpec)

/-- ITS FALSE NEIGHBOUR: 'it returns false'. Refute it at one input. -/
def summaryExactWrong : ChangeSpec := { name := "summaryExact", fn := fun _ => fun
  | [d1, d2] => { results := [.lit (.bool false)], args := [d1, d2] }
  | _ => none }
def SummaryExactWrongFalsely : Prop := summaryExactRow.holds Try.pinned (OpenSpec.ofChange summaryExactWrong)

/- THE SECOND FORM. 'bulk': how many values and letters a reading holds, each counted each time it is reached (what is shared counts as often as it is met; a slice's spare places count too). A statement '..UptoSaid' is the law's where the arguments, and the package variables that the reading takes, are together of bulk at most 1048576: NARROWER than '..Said'. Prove '..Said' where nothing that the law and all that it calls make is longer than what came in: it says more and counts as full. Else prove '..UptoSaid'. A law counts once. -/
mutual
def uptoBulk {H : Type} : DataW H → Nat
  | .lit (.string bytes) => bytes.length + 1
  | .lit _ => 1
  | .nil => 1
  | .ptr d => uptoBulk d + 1
  | .slice elems spare => uptoBulkAll elems + uptoBulkAll spare + 1
  | .agg parts => uptoBulkAll parts + 1
  | .iface _ d => uptoBulk d + 1
  | .map entries => uptoBulkEntries entries + 1
  | .held _ => 1
def uptoBulkAll {H : Type} : List (DataW H) → Nat
  | [] => 0
  | d :: r => uptoBulk d + uptoBulkAll r
def uptoBulkEntries {H : Type} : List (Lit × DataW H) → Nat
  | [] => 0
  | x :: r => uptoBulkEntry x + uptoBulkEntries r
def uptoBulkEntry {H : Type} : Lit × DataW H → Nat
  | (.string bytes, d) => bytes.length + uptoBulk d + 1
  | (_, d) => uptoBulk d + 1
 end
def uptoSmall : (H : Type) → List (DataW H) → Bool := fun _ ds => decide (uptoBulkAll ds ≤ 1048576)
def OpenSpec.upto (s : _root_.Go.ChangeSpec) : _root_.Go.OpenSpec := { _root_.Go.OpenSpec.ofChange s with cond := some uptoSmall }

/-- 'exciselaw01.LimbProducts', WHERE WHAT IT READS IS OF BULK AT MOST 1048576: true; the input reads as it did. -/
def limbProductsUptoRow : OpenClaim := { program := "ytenlkhlkohnmkaa", sum := "2d2fd5bab7075c4a250fc217df94cc4ce0a2872a979e1591d76807ec080a96dd", func := "excise/exciselaw01.LimbProducts", spec := "limbProducts", apart := false, narrowed := true }
def LimbProductsUptoSaid : Prop := limbProductsUptoRow.holds Try.pinned (OpenSpec.upto limbProductsSpec)

/-- 'exciselaw01.LimbOrder', WHERE WHAT IT READS IS OF BULK AT MOST 1048576: true; the input reads as it did. -/
def limbOrderUptoRow : OpenClaim := { program := "ytenlkhlkohnmkaa", sum := "2d2fd5bab7075c4a250fc217df94cc4ce0a2872a979e1591d76807ec080a96dd", func := "excise/exciselaw01.LimbOrder", spec := "limbOrder", apart := false, narrowed := true }
def LimbOrderUptoSaid : Prop := limbOrderUptoRow.holds Try.pinned (OpenSpec.upto limbOrderSpec)

/-- 'exciselaw01.LimbSums', WHERE WHAT IT READS IS OF BULK AT MOST 1048576: true; the input reads as it did. -/
def limbSumsUptoRow : OpenClaim := { program := "ytenlkhlkohnmkaa", sum := "2d2fd5bab7075c4a250fc217df94cc4ce0a2872a979e1591d76807ec080a96dd", func := "excise/exciselaw01.LimbSums", spec := "limbSums", apart := false, narrowed := true }
def LimbSumsUptoSaid : Prop := limbSumsUptoRow.holds Try.pinned (OpenSpec.upto limbSumsSpec)

/-- 'exciselaw01.LimbTexts', WHERE WHAT IT READS IS OF BULK AT MOST 1048576: true; the input reads as it did. -/
def limbTextsUptoRow : OpenClaim := { program := "ytenlkhlkohnmkaa", sum := "2d2fd5bab7075c4a250fc217df94cc4ce0a2872a979e1591d76807ec080a96dd", func := "excise/exciselaw01.LimbTexts", spec := "limbTexts", apart := false, narrowed := true }
def LimbTextsUptoSaid : Prop := limbTextsUptoRow.holds Try.pinned (OpenSpec.upto limbTextsSpec)

/-- 'exciselaw01.LimbDivides', WHERE WHAT IT READS IS OF BULK AT MOST 1048576: true; the input reads as it did. -/
def limbDividesUptoRow : OpenClaim := { program := "ytenlkhlkohnmkaa", sum := "2d2fd5bab7075c4a250fc217df94cc4ce0a2872a979e1591d76807ec080a96dd", func := "excise/exciselaw01.LimbDivides", spec := "limbDivides", apart := false, narrowed := true }
def LimbDividesUptoSaid : Prop := limbDividesUptoRow.holds Try.pinned (OpenSpec.upto limbDividesSpec)

/-- 'exciselaw01.LimbRests', WHERE WHAT IT READS IS OF BULK AT MOST 1048576: true; the input reads as it did. -/
def limbRestsUptoRow : OpenClaim := { program := "ytenlkhlkohnmkaa", sum := "2d2fd5bab7075c4a250fc217df94cc4ce0a2872a979e1591d76807ec080a96dd", func := "excise/exciselaw01.LimbRests", spec := "limbRests", apart := false, narrowed := true }
def LimbRestsUptoSaid : Prop := limbRestsUptoRow.holds Try.pinned (OpenSpec.upto limbRestsSpec)

/-- 'exciselaw01.LimbBack', WHERE WHAT IT READS IS OF BULK AT MOST 1048576: true; the input reads as it did. -/
def limbBackUptoRow : OpenClaim := { program := "ytenlkhlkohnmkaa", sum := "2d2fd5bab7075c4a250fc217df94cc4ce0a2872a979e1591d76807ec080a96dd", func := "excise/exciselaw01.LimbBack", spec := "limbBack", apart := false, narrowed := true }
def LimbBackUptoSaid : Prop := limbBackUptoRow.holds Try.pinned (OpenSpec.upto limbBackSpec)

/-- 'exciselaw05.SummaryOf', WHERE WHAT IT READS IS OF BULK AT MOST 1048576: true; the input reads as it did. -/
def summaryOfUptoRow : OpenClaim := { program := "ytenlkhlkohnmkaa", sum := "2d2fd5bab7075c4a250fc217df94cc4ce0a2872a979e1591d76807ec080a96dd", func := "excise/exciselaw05.SummaryOf", spec := "summaryOf", unfollowed := true, recurses := true, apart := false, narrowed := true }
def SummaryOfUptoSaid : Prop := summaryOfUptoRow.holds Try.pinned (OpenSpec.upto summaryOfSpec)

/-- 'exciselaw05.SummaryValues', WHERE WHAT IT READS IS OF BULK AT MOST 1048576: true; the input reads as it did. -/
def summaryValuesUptoRow : OpenClaim := { program := "ytenlkhlkohnmkaa", sum := "2d2fd5bab7075c4a250fc217df94cc4ce0a2872a979e1591d76807ec080a96dd", func := "excise/exciselaw05.SummaryValues", spec := "summaryValues", unfollowed := true, recurses := true, apart := false, narrowed := true }
def SummaryValuesUptoSaid : Prop := summaryValuesUptoRow.holds Try.pinned (OpenSpec.upto summaryValuesSpec)

/-- 'exciselaw05.SummaryWide', WHERE WHAT IT READS IS OF BULK AT MOST 1048576: true; the input reads as it did. -/
def summaryWideUptoRow : OpenClaim := { program := "ytenlkhlkohnmkaa", sum := "2d2fd5bab7075c4a250fc217df94cc4ce0a2872a979e1591d76807ec080a96dd", func := "excise/exciselaw05.SummaryWide", spec := "summaryWide", unfollowed := true, recurses := true, apart := false, narrowed := true }
def SummaryWideUptoSaid : Prop := summaryWideUptoRow.holds Try.pinned (OpenSpec.upto summaryWideSpec)

/-- 'exciselaw05.SummaryMonoid', WHERE WHAT IT READS IS OF BULK AT MOST 1048576: true; the input reads as it did. -/
def summaryMonoidUptoRow : OpenClaim := { program := "ytenlkhlkohnmkaa", sum := "2d2fd5bab7075c4a250fc217df94cc4ce0a2872a979e1591d76807ec080a96dd", func := "excise/exciselaw05.SummaryMonoid", spec := "summaryMonoid", unfollowed := true, recurses := true, apart := false, narrowed := true }
def SummaryMonoidUptoSaid : Prop := summaryMonoidUptoRow.holds Try.pinned (OpenSpec.upto summaryMonoidSpec)

/-- 'exciselaw05.SummaryExact', WHERE WHAT IT READS IS OF BULK AT MOST 1048576: true; the input reads as it did. -/
def summaryExactUptoRow : OpenClaim := { program := "ytenlkhlkohnmkaa", sum := "2d2fd5bab7075c4a250fc217df94cc4ce0a2872a979e1591d76807ec080a96dd", func := "excise/exciselaw05.SummaryExact", spec := "summaryExact", unfollowed := true, recurses := true, apart := false, narrowed := true }
def SummaryExactUptoSaid : Prop := summaryExactUptoRow.holds Try.pinned (OpenSpec.upto summaryExactSpec)

end Rows
end Go.Proofs.Ytenlkhlkohnmkaa
