/-
  No cell of these rows narrows 'for every input' (looked for: loops, veiled, ifaces, maps, wideKeys, modest, calm, conditions, laid).
  DERIVED. THE GIVEN ROWS OF THIS SEAT. 4 by the template 'for every input the law returns true; each argument reads behind the call as it read before'; 0 by the template 'total and deterministic' (their statements: YtafiechoplbieaaTotals.lean).
  GIVEN WITH THE SEED: the statements are not yours to turn. If you find one false, say at which input.
  Laid BY PROGRAM, IN A SANDBOX (cutbox-rows.mjs): the forced cells as the released guide's own fill.sh prints them over the translation 63e7623134f2a59f… (all of the seat's roots in one cut). By AI agents, Wed Nov 11 2026. No macro, syntax, notation, axiom, sorry.
-/
import Derived.Test.YtafiechoplbieaaChecked
import GoSem.Claim
import GoSem.ClaimJoined
import GoSem.ClaimMapViews
import Derived.JoinedTies
import Derived.KernelRfl
namespace Go.Proofs.Ytafiechoplbieaa
/- THE CELL 'sum', in the pinned program and in every row, IS THE sha256 OF THE DUMP (.gsa) THAT YtafiechoplbieaaProg.lean LOADS. Nothing in Lean hashes anything: it is a label: what it is worth is what the hold of that sum in a sandbox is worth. -/
noncomputable def Try.pinned : Pinned := { name := "ytafiechoplbieaa", sum := "63e7623134f2a59f28d78ed7b213fbc9758d5976f846422da4010c9812425819", checked := Try.checked }
namespace Rows
def none {H : Type} : Left H := { results := [], args := [] }

/-- 'exciselaw06.AggtreeParts': WHATEVER THE INPUT: true; the input reads as it did. -/
def aggtreePartsSpec : ChangeSpec := { name := "aggtreeParts", fn := fun _ => fun
  | [d1, d2, d3, d4] => { results := [.lit (.bool true)], args := [d1, d2, d3, d4] }
  | _ => none }
def aggtreePartsRow : OpenClaim := { program := "ytafiechoplbieaa", sum := "63e7623134f2a59f28d78ed7b213fbc9758d5976f846422da4010c9812425819", func := "excise/exciselaw06.AggtreeParts", spec := "aggtreeParts", unfollowed := true, recurses := true, apart := false }
def AggtreePartsSaid : Prop := aggtreePartsRow.holds Try.pinned (OpenSpec.ofChange aggtreePartsSpec)

/-- ITS FALSE NEIGHBOUR: 'it returns false'. Refute it at one input. -/
def aggtreePartsWrong : ChangeSpec := { name := "aggtreeParts", fn := fun _ => fun
  | [d1, d2, d3, d4] => { results := [.lit (.bool false)], args := [d1, d2, d3, d4] }
  | _ => none }
def AggtreePartsWrongFalsely : Prop := aggtreePartsRow.holds Try.pinned (OpenSpec.ofChange aggtreePartsWrong)

/-- 'exciselaw06.AggtreeHistory': WHATEVER THE INPUT: true; the input reads as it did. -/
def aggtreeHistorySpec : ChangeSpec := { name := "aggtreeHistory", fn := fun _ => fun
  | [d1, d2] => { results := [.lit (.bool true)], args := [d1, d2] }
  | _ => none }
def aggtreeHistoryRow : OpenClaim := { program := "ytafiechoplbieaa", sum := "63e7623134f2a59f28d78ed7b213fbc9758d5976f846422da4010c9812425819", func := "excise/exciselaw06.AggtreeHistory", spec := "aggtreeHistory", unfollowed := true, recurses := true, apart := false }
def AggtreeHistorySaid : Prop := aggtreeHistoryRow.holds Try.pinned (OpenSpec.ofChange aggtreeHistorySpec)

/-- ITS FALSE NEIGHBOUR: 'it returns false'. Refute it at one input. -/
def aggtreeHistoryWrong : ChangeSpec := { name := "aggtreeHistory", fn := fun _ => fun
  | [d1, d2] => { results := [.lit (.bool false)], args := [d1, d2] }
  | _ => none }
def AggtreeHistoryWrongFalsely : Prop := aggtreeHistoryRow.holds Try.pinned (OpenSpec.ofChange aggtreeHistoryWrong)

/-- 'exciselaw06.AggtreeDoes': WHATEVER THE INPUT: true; the input reads as it did. -/
def aggtreeDoesSpec : ChangeSpec := { name := "aggtreeDoes", fn := fun _ => fun
  | [d1, d2] => { results := [.lit (.bool true)], args := [d1, d2] }
  | _ => none }
def aggtreeDoesRow : OpenClaim := { program := "ytafiechoplbieaa", sum := "63e7623134f2a59f28d78ed7b213fbc9758d5976f846422da4010c9812425819", func := "excise/exciselaw06.AggtreeDoes", spec := "aggtreeDoes", unfollowed := true, recurses := true, apart := false }
def AggtreeDoesSaid : Prop := aggtreeDoesRow.holds Try.pinned (OpenSpec.ofChange aggtreeDoesSpec)

/-- ITS FALSE NEIGHBOUR: 'it returns false'. Refute it at one input. -/
def aggtreeDoesWrong : ChangeSpec := { name := "aggtreeDoes", fn := fun _ => fun
  | [d1, d2] => { results := [.lit (.bool false)], args := [d1, d2] }
  | _ => none }
def AggtreeDoesWrongFalsely : Prop := aggtreeDoesRow.holds Try.pinned (OpenSpec.ofChange aggtreeDoesWrong)

/-- 'exciselaw06.AggtreeNone': WHATEVER THE INPUT: true; the input reads as it did. -/
def aggtreeNoneSpec : ChangeSpec := { name := "aggtreeNone", fn := fun _ => fun
  | [d] => { results := [.lit (.bool true)], args := [d] }
  | _ => none }
def aggtreeNoneRow : OpenClaim := { program := "ytafiechoplbieaa", sum := "63e7623134f2a59f28d78ed7b213fbc9758d5976f846422da4010c9812425819", func := "excise/exciselaw06.AggtreeNone", spec := "aggtreeNone", unfollowed := true, recurses := true, apart := false }
def AggtreeNoneSaid : Prop := aggtreeNoneRow.holds Try.pinned (OpenSpec.ofChange aggtreeNoneSpec)

/-- ITS FALSE NEIGHBOUR: 'it returns false'. Refute it at one input. -/
def aggtreeNoneWrong : ChangeSpec := { name := "aggtreeNone", fn := fun _ => fun
  | [d] => { results := [.lit (.bool false)], args := [d] }
  | _ => none }
def AggtreeNoneWrongFalsely : Prop := aggtreeNoneRow.holds Try.pinned (OpenSpec.ofChange aggtreeNoneWrong)

/- THE SECOND FORM. 'bulk': how many values and letters a reading holds, each counted each time it is reached (what is shared counts as often as it is met; a slice's spare places count too). A statement '..UptoSaid' is the law's where the arguments, and the package variables that the reading takes, are together of bulk at most 1048576: NARROWER than '..Said'. Prove '..Said' where nothing that the law and all that it calls make is longer than what came in: it says more and counts as full. Else prove '..UptoSaid'. A law counts once. -/
mutual
def uptoBulk {H : Type} : DataW H → Nat
  | .lit (.string bytes) => bytes.length + 1
  | .lit _ => 1
  | .nil => 1
  | .ptr d => uptoBulk d + 1
  | .slice elems spare => uptoBulkAll elems + uptoBulkAll spare + 1
  | .agg parts => uptoBulkAll parts + 1
  | .iface _ d => uptoBulk d + 1
  | .map entries => uptoBulkEntries entries + 1
  | .held _ => 1
def uptoBulkAll {H : Type} : List (DataW H) → Nat
  | [] => 0
  | d :: r => uptoBulk d + uptoBulkAll r
def uptoBulkEntries {H : Type} : List (Lit × DataW H) → Nat
  | [] => 0
  | x :: r => uptoBulkEntry x + uptoBulkEntries r
def uptoBulkEntry {H : Type} : Lit × DataW H → Nat
  | (.string bytes, d) => bytes.length + uptoBulk d + 1
  | (_, d) => uptoBulk d + 1
 end
def uptoSmall : (H : Type) → List (DataW H) → Bool := fun _ ds => decide (uptoBulkAll ds ≤ 1048576)
def OpenSpec.upto (s : _root_.Go.ChangeSpec) : _root_.Go.OpenSpec := { _root_.Go.OpenSpec.ofChange s with cond := some uptoSmall }

/-- 'exciselaw06.AggtreeParts', WHERE WHAT IT READS IS OF BULK AT MOST 1048576: true; the input reads as it did. -/
def aggtreePartsUptoRow : OpenClaim := { program := "ytafiechoplbieaa", sum := "63e7623134f2a59f28d78ed7b213fbc9758d5976f846422da4010c9812425819", func := "excise/exciselaw06.AggtreeParts", spec := "aggtreeParts", unfollowed := true, recurses := true, apart := false, narrowed := true }
def AggtreePartsUptoSaid : Prop := aggtreePartsUptoRow.holds Try.pinned (OpenSpec.upto aggtreePartsSpec)

/-- 'exciselaw06.AggtreeHistory', WHERE WHAT IT READS IS OF BULK AT MOST 1048576: true; the input reads as it did. -/
def aggtreeHistoryUptoRow : OpenClaim := { program := "ytafiechoplbieaa", sum := "63e7623134f2a59f28d78ed7b213fbc9758d5976f846422da4010c9812425819", func := "excise/exciselaw06.AggtreeHistory", spec := "aggtreeHistory", unfollowed := true, recurses := true, apart := false, narrowed := true }
def AggtreeHistoryUptoSaid : Prop := aggtreeHistoryUptoRow.holds Try.pinned (OpenSpec.upto aggtreeHistorySpec)

/-- 'exciselaw06.AggtreeDoes', WHERE WHAT IT READS IS OF BULK AT MOST 1048576: true; the input reads as it did. -/
def aggtreeDoesUptoRow : OpenClaim := { program := "ytafiechoplbieaa", sum := "63e7623134f2a59f28d78ed7b213fbc9758d5976f846422da4010c9812425819", func := "excise/exciselaw06.AggtreeDoes", spec := "aggtreeDoes", unfollowed := true, recurses := true, apart := false, narrowed := true }
def AggtreeDoesUptoSaid : Prop := aggtreeDoesUptoRow.holds Try.pinned (OpenSpec.upto aggtreeDoesSpec)

/-- 'exciselaw06.AggtreeNone', WHERE WHAT IT READS IS OF BULK AT MOST 1048576: true; the input reads as it did. -/
def aggtreeNoneUptoRow : OpenClaim := { program := "ytafiechoplbieaa", sum := "63e7623134f2a59f28d78ed7b213fbc9758d5976f846422da4010c9812425819", func := "excise/exciselaw06.AggtreeNone", spec := "aggtreeNone", unfollowed := true, recurses := true, apart := false, narrowed := true }
def AggtreeNoneUptoSaid : Prop := aggtreeNoneUptoRow.holds Try.pinned (OpenSpec.upto aggtreeNoneSpec)

end Rows
end Go.Proofs.Ytafiechoplbieaa
