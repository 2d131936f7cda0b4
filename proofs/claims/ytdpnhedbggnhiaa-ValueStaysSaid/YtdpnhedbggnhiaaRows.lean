/-
  No cell of these rows narrows 'for every input' (looked for: loops, veiled, ifaces, maps, wideKeys, modest, calm, conditions, laid).
  DERIVED. THE GIVEN ROWS OF THIS SEAT. 10 by the template 'for every input the law returns true; each argument reads behind the call as it read before'; 0 by the template 'total and deterministic' (their statements: YtdpnhedbggnhiaaTotals.lean).
  GIVEN WITH THE SEED: the statements are not yours to turn. If you find one false, say at which input.
  Laid BY PROGRAM, IN A SANDBOX (cutbox-rows.mjs): the forced cells as the released guide's own fill.sh prints them over the translation 59b3060e22c4d747… (all of the seat's roots in one cut). By AI agents, Wed Nov 11 2026. No macro, syntax, notation, axiom, sorry.
-/
import Derived.Test.YtdpnhedbggnhiaaChecked
import GoSem.Claim
import GoSem.ClaimJoined
import GoSem.ClaimMapViews
import Derived.JoinedTies
import Derived.KernelRfl
namespace Go.Proofs.Ytdpnhedbggnhiaa
/- THE CELL 'sum', in the pinned program and in every row, IS THE sha256 OF THE DUMP (.gsa) THAT YtdpnhedbggnhiaaProg.lean LOADS. Nothing in Lean hashes anything: it is a label: what it is worth is what the hold of that sum in a sandbox is worth. -/
noncomputable def Try.pinned : Pinned := { name := "ytdpnhedbggnhiaa", sum := "59b3060e22c4d747fc03314e2ee2bdb6760f288bfa5c502d7bcd1b404e5711b2", checked := Try.checked }
namespace Rows
def none {H : Type} : Left H := { results := [], args := [] }

/-- 'exciselaw13.ValueOps': WHATEVER THE INPUT: true; the input reads as it did. -/
def valueOpsSpec : ChangeSpec := { name := "valueOps", fn := fun _ => fun
  | [d1, d2, d3] => { results := [.lit (.bool true)], args := [d1, d2, d3] }
  | _ => none }
def valueOpsRow : OpenClaim := { program := "ytdpnhedbggnhiaa", sum := "59b3060e22c4d747fc03314e2ee2bdb6760f288bfa5c502d7bcd1b404e5711b2", func := "excise/exciselaw13.ValueOps", spec := "valueOps", inPlace := ["internal/abi.NoEscape", "internal/bytealg.MakeNoZero"], unfollowed := true, recurses := true, apart := false }
def ValueOpsSaid : Prop := valueOpsRow.holds Try.pinned (OpenSpec.ofChange valueOpsSpec)

/-- ITS FALSE NEIGHBOUR: 'it returns false'. Refute it at one input. -/
def valueOpsWrong : ChangeSpec := { name := "valueOps", fn := fun _ => fun
  | [d1, d2, d3] => { results := [.lit (.bool false)], args := [d1, d2, d3] }
  | _ => none }
def ValueOpsWrongFalsely : Prop := valueOpsRow.holds Try.pinned (OpenSpec.ofChange valueOpsWrong)

/-- 'exciselaw13.ValueTurns': WHATEVER THE INPUT: true; the input reads as it did. -/
def valueTurnsSpec : ChangeSpec := { name := "valueTurns", fn := fun _ => fun
  | [d1, d2] => { results := [.lit (.bool true)], args := [d1, d2] }
  | _ => none }
def valueTurnsRow : OpenClaim := { program := "ytdpnhedbggnhiaa", sum := "59b3060e22c4d747fc03314e2ee2bdb6760f288bfa5c502d7bcd1b404e5711b2", func := "excise/exciselaw13.ValueTurns", spec := "valueTurns", inPlace := ["internal/abi.NoEscape", "internal/bytealg.MakeNoZero"], unfollowed := true, recurses := true, apart := false }
def ValueTurnsSaid : Prop := valueTurnsRow.holds Try.pinned (OpenSpec.ofChange valueTurnsSpec)

/-- ITS FALSE NEIGHBOUR: 'it returns false'. Refute it at one input. -/
def valueTurnsWrong : ChangeSpec := { name := "valueTurns", fn := fun _ => fun
  | [d1, d2] => { results := [.lit (.bool false)], args := [d1, d2] }
  | _ => none }
def ValueTurnsWrongFalsely : Prop := valueTurnsRow.holds Try.pinned (OpenSpec.ofChange valueTurnsWrong)

/-- 'exciselaw13.ValueIf': WHATEVER THE INPUT: true; the input reads as it did. -/
def valueIfSpec : ChangeSpec := { name := "valueIf", fn := fun _ => fun
  | [d1, d2, d3] => { results := [.lit (.bool true)], args := [d1, d2, d3] }
  | _ => none }
def valueIfRow : OpenClaim := { program := "ytdpnhedbggnhiaa", sum := "59b3060e22c4d747fc03314e2ee2bdb6760f288bfa5c502d7bcd1b404e5711b2", func := "excise/exciselaw13.ValueIf", spec := "valueIf", inPlace := ["internal/abi.NoEscape", "internal/bytealg.MakeNoZero"], unfollowed := true, recurses := true, apart := false }
def ValueIfSaid : Prop := valueIfRow.holds Try.pinned (OpenSpec.ofChange valueIfSpec)

/-- ITS FALSE NEIGHBOUR: 'it returns false'. Refute it at one input. -/
def valueIfWrong : ChangeSpec := { name := "valueIf", fn := fun _ => fun
  | [d1, d2, d3] => { results := [.lit (.bool false)], args := [d1, d2, d3] }
  | _ => none }
def ValueIfWrongFalsely : Prop := valueIfRow.holds Try.pinned (OpenSpec.ofChange valueIfWrong)

/-- 'exciselaw13.ValueFits': WHATEVER THE INPUT: true; the input reads as it did. -/
def valueFitsSpec : ChangeSpec := { name := "valueFits", fn := fun _ => fun
  | [d1, d2, d3] => { results := [.lit (.bool true)], args := [d1, d2, d3] }
  | _ => none }
def valueFitsRow : OpenClaim := { program := "ytdpnhedbggnhiaa", sum := "59b3060e22c4d747fc03314e2ee2bdb6760f288bfa5c502d7bcd1b404e5711b2", func := "excise/exciselaw13.ValueFits", spec := "valueFits", inPlace := ["internal/abi.NoEscape", "internal/bytealg.MakeNoZero"], unfollowed := true, recurses := true, apart := false }
def ValueFitsSaid : Prop := valueFitsRow.holds Try.pinned (OpenSpec.ofChange valueFitsSpec)

/-- ITS FALSE NEIGHBOUR: 'it returns false'. Refute it at one input. -/
def valueFitsWrong : ChangeSpec := { name := "valueFits", fn := fun _ => fun
  | [d1, d2, d3] => { results := [.lit (.bool false)], args := [d1, d2, d3] }
  | _ => none }
def ValueFitsWrongFalsely : Prop := valueFitsRow.holds Try.pinned (OpenSpec.ofChange valueFitsWrong)

/-- 'exciselaw13.ValueErrors': WHATEVER THE INPUT: true; the input reads as it did. -/
def valueErrorsSpec : ChangeSpec := { name := "valueErrors", fn := fun _ => fun
  | [d1, d2, d3] => { results := [.lit (.bool true)], args := [d1, d2, d3] }
  | _ => none }
def valueErrorsRow : OpenClaim := { program := "ytdpnhedbggnhiaa", sum := "59b3060e22c4d747fc03314e2ee2bdb6760f288bfa5c502d7bcd1b404e5711b2", func := "excise/exciselaw13.ValueErrors", spec := "valueErrors", inPlace := ["internal/abi.NoEscape", "internal/bytealg.MakeNoZero"], unfollowed := true, recurses := true, apart := false }
def ValueErrorsSaid : Prop := valueErrorsRow.holds Try.pinned (OpenSpec.ofChange valueErrorsSpec)

/-- ITS FALSE NEIGHBOUR: 'it returns false'. Refute it at one input. -/
def valueErrorsWrong : ChangeSpec := { name := "valueErrors", fn := fun _ => fun
  | [d1, d2, d3] => { results := [.lit (.bool false)], args := [d1, d2, d3] }
  | _ => none }
def ValueErrorsWrongFalsely : Prop := valueErrorsRow.holds Try.pinned (OpenSpec.ofChange valueErrorsWrong)

/-- 'exciselaw13.ValueStays': WHATEVER THE INPUT: true; the input reads as it did. -/
def valueStaysSpec : ChangeSpec := { name := "valueStays", fn := fun _ => fun
  | [d1, d2, d3] => { results := [.lit (.bool true)], args := [d1, d2, d3] }
  | _ => none }
def valueStaysRow : OpenClaim := { program := "ytdpnhedbggnhiaa", sum := "59b3060e22c4d747fc03314e2ee2bdb6760f288bfa5c502d7bcd1b404e5711b2", func := "excise/exciselaw13.ValueStays", spec := "valueStays", inPlace := ["internal/abi.NoEscape", "internal/bytealg.MakeNoZero"], unfollowed := true, recurses := true, apart := false }
def ValueStaysSaid : Prop := valueStaysRow.holds Try.pinned (OpenSpec.ofChange valueStaysSpec)

/-- ITS FALSE NEIGHBOUR: 'it returns false'. Refute it at one input. -/
def valueStaysWrong : ChangeSpec := { name := "valueStays", fn := fun _ => fun
  | [d1, d2, d3] => { results := [.lit (.bool false)], args := [d1, d2, d3] }
  | _ => none }
def ValueStaysWrongFalsely : Prop := valueStaysRow.holds Try.pinned (OpenSpec.ofChange valueStaysWrong)

/-- 'exciselaw14.BracketSays': WHATEVER THE INPUT: true; the input reads as it did. -/
def bracketSaysSpec : ChangeSpec := { name := "bracketSays", fn := fun _ => fun
  | [d1, d2, d3] => { results := [.lit (.bool true)], args := [d1, d2, d3] }
  | _ => none }
def bracketSaysRow : OpenClaim := { program := "ytdpnhedbggnhiaa", sum := "59b3060e22c4d747fc03314e2ee2bdb6760f288bfa5c502d7bcd1b404e5711b2", func := "excise/exciselaw14.BracketSays", spec := "bracketSays", apart := false }
def BracketSaysSaid : Prop := bracketSaysRow.holds Try.pinned (OpenSpec.ofChange bracketSaysSpec)

/-- ITS FALSE NEIGHBOUR: 'it returns false'. Refute it at one input. -/
def bracketSaysWrong : ChangeSpec := { name := "bracketSays", fn := fun _ => fun
  | [d1, d2, d3] => { results := [.lit (.bool false)], args := [d1, d2, d3] }
  | _ => none }
def BracketSaysWrongFalsely : Prop := bracketSaysRow.holds Try.pinned (OpenSpec.ofChange bracketSaysWrong)

/-- 'exciselaw14.BracketChecks': WHATEVER THE INPUT: true; the input reads as it did. -/
def bracketChecksSpec : ChangeSpec := { name := "bracketChecks", fn := fun _ => fun
  | [d1, d2] => { results := [.lit (.bool true)], args := [d1, d2] }
  | _ => none }
def bracketChecksRow : OpenClaim := { program := "ytdpnhedbggnhiaa", sum := "59b3060e22c4d747fc03314e2ee2bdb6760f288bfa5c502d7bcd1b404e5711b2", func := "excise/exciselaw14.BracketChecks", spec := "bracketChecks", apart := false }
def BracketChecksSaid : Prop := bracketChecksRow.holds Try.pinned (OpenSpec.ofChange bracketChecksSpec)

/-- ITS FALSE NEIGHBOUR: 'it returns false'. Refute it at one input. -/
def bracketChecksWrong : ChangeSpec := { name := "bracketChecks", fn := fun _ => fun
  | [d1, d2] => { results := [.lit (.bool false)], args := [d1, d2] }
  | _ => none }
def BracketChecksWrongFalsely : Prop := bracketChecksRow.holds Try.pinned (OpenSpec.ofChange bracketChecksWrong)

/-- 'exciselaw14.BracketBases': WHATEVER THE INPUT: true; the input reads as it did. -/
def bracketBasesSpec : ChangeSpec := { name := "bracketBases", fn := fun _ => fun
  | [d] => { results := [.lit (.bool true)], args := [d] }
  | _ => none }
def bracketBasesRow : OpenClaim := { program := "ytdpnhedbggnhiaa", sum := "59b3060e22c4d747fc03314e2ee2bdb6760f288bfa5c502d7bcd1b404e5711b2", func := "excise/exciselaw14.BracketBases", spec := "bracketBases", unfollowed := true, recurses := true, apart := false }
def BracketBasesSaid : Prop := bracketBasesRow.holds Try.pinned (OpenSpec.ofChange bracketBasesSpec)

/-- ITS FALSE NEIGHBOUR: 'it returns false'. Refute it at one input. -/
def bracketBasesWrong : ChangeSpec := { name := "bracketBases", fn := fun _ => fun
  | [d] => { results := [.lit (.bool false)], args := [d] }
  | _ => none }
def BracketBasesWrongFalsely : Prop := bracketBasesRow.holds Try.pinned (OpenSpec.ofChange bracketBasesWrong)

/-- 'exciselaw14.BracketRises': WHATEVER THE INPUT: true; the input reads as it did. -/
def bracketRisesSpec : ChangeSpec := { name := "bracketRises", fn := fun _ => fun
  | [d1, d2, d3] => { results := [.lit (.bool true)], args := [d1, d2, d3] }
  | _ => none }
def bracketRisesRow : OpenClaim := { program := "ytdpnhedbggnhiaa", sum := "59b3060e22c4d747fc03314e2ee2bdb6760f288bfa5c502d7bcd1b404e5711b2", func := "excise/exciselaw14.BracketRises", spec := "bracketRises", unfollowed := true, recurses := true, apart := false }
def BracketRisesSaid : Prop := bracketRisesRow.holds Try.pinned (OpenSpec.ofChange bracketRisesSpec)

/-- ITS FALSE NEIGHBOUR: 'it returns false'. Refute it at one input. -/
def bracketRisesWrong : ChangeSpec := { name := "bracketRises", fn := fun _ => fun
  | [d1, d2, d3] => { results := [.lit (.bool false)], args := [d1, d2, d3] }
  | _ => none }
def BracketRisesWrongFalsely : Prop := bracketRisesRow.holds Try.pinned (OpenSpec.ofChange bracketRisesWrong)

/- THE SECOND FORM. 'bulk': how many values and letters a reading holds, each counted each time it is reached (what is shared counts as often as it is met; a slice's spare places count too). A statement '..UptoSaid' is the law's where the arguments, and the package variables that the reading takes, are together of bulk at most 1048576: NARROWER than '..Said'. Prove '..Said' where nothing that the law and all that it calls make is longer than what came in: it says more and counts as full. Else prove '..UptoSaid'. A law counts once. -/
mutual
def uptoBulk {H : Type} : DataW H → Nat
  | .lit (.string bytes) => bytes.length + 1
  | .lit _ => 1
  | .nil => 1
  | .ptr d => uptoBulk d + 1
  | .slice elems spare => uptoBulkAll elems + uptoBulkAll spare + 1
  | .agg parts => uptoBulkAll parts + 1
  | .iface _ d => uptoBulk d + 1
  | .map entries => uptoBulkEntries entries + 1
  | .held _ => 1
def uptoBulkAll {H : Type} : List (DataW H) → Nat
  | [] => 0
  | d :: r => uptoBulk d + uptoBulkAll r
def uptoBulkEntries {H : Type} : List (Lit × DataW H) → Nat
  | [] => 0
  | x :: r => uptoBulkEntry x + uptoBulkEntries r
def uptoBulkEntry {H : Type} : Lit × DataW H → Nat
  | (.string bytes, d) => bytes.length + uptoBulk d + 1
  | (_, d) => uptoBulk d + 1
 end
def uptoSmall : (H : Type) → List (DataW H) → Bool := fun _ ds => decide (uptoBulkAll ds ≤ 1048576)
def OpenSpec.upto (s : _root_.Go.ChangeSpec) : _root_.Go.OpenSpec := { _root_.Go.OpenSpec.ofChange s with cond := some uptoSmall }

/-- 'exciselaw13.ValueOps', WHERE WHAT IT READS IS OF BULK AT MOST 1048576: true; the input reads as it did. -/
def valueOpsUptoRow : OpenClaim := { program := "ytdpnhedbggnhiaa", sum := "59b3060e22c4d747fc03314e2ee2bdb6760f288bfa5c502d7bcd1b404e5711b2", func := "excise/exciselaw13.ValueOps", spec := "valueOps", inPlace := ["internal/abi.NoEscape", "internal/bytealg.MakeNoZero"], unfollowed := true, recurses := true, apart := false, narrowed := true }
def ValueOpsUptoSaid : Prop := valueOpsUptoRow.holds Try.pinned (OpenSpec.upto valueOpsSpec)

/-- 'exciselaw13.ValueTurns', WHERE WHAT IT READS IS OF BULK AT MOST 1048576: true; the input reads as it did. -/
def valueTurnsUptoRow : OpenClaim := { program := "ytdpnhedbggnhiaa", sum := "59b3060e22c4d747fc03314e2ee2bdb6760f288bfa5c502d7bcd1b404e5711b2", func := "excise/exciselaw13.ValueTurns", spec := "valueTurns", inPlace := ["internal/abi.NoEscape", "internal/bytealg.MakeNoZero"], unfollowed := true, recurses := true, apart := false, narrowed := true }
def ValueTurnsUptoSaid : Prop := valueTurnsUptoRow.holds Try.pinned (OpenSpec.upto valueTurnsSpec)

/-- 'exciselaw13.ValueIf', WHERE WHAT IT READS IS OF BULK AT MOST 1048576: true; the input reads as it did. -/
def valueIfUptoRow : OpenClaim := { program := "ytdpnhedbggnhiaa", sum := "59b3060e22c4d747fc03314e2ee2bdb6760f288bfa5c502d7bcd1b404e5711b2", func := "excise/exciselaw13.ValueIf", spec := "valueIf", inPlace := ["internal/abi.NoEscape", "internal/bytealg.MakeNoZero"], unfollowed := true, recurses := true, apart := false, narrowed := true }
def ValueIfUptoSaid : Prop := valueIfUptoRow.holds Try.pinned (OpenSpec.upto valueIfSpec)

/-- 'exciselaw13.ValueFits', WHERE WHAT IT READS IS OF BULK AT MOST 1048576: true; the input reads as it did. -/
def valueFitsUptoRow : OpenClaim := { program := "ytdpnhedbggnhiaa", sum := "59b3060e22c4d747fc03314e2ee2bdb6760f288bfa5c502d7bcd1b404e5711b2", func := "excise/exciselaw13.ValueFits", spec := "valueFits", inPlace := ["internal/abi.NoEscape", "internal/bytealg.MakeNoZero"], unfollowed := true, recurses := true, apart := false, narrowed := true }
def ValueFitsUptoSaid : Prop := valueFitsUptoRow.holds Try.pinned (OpenSpec.upto valueFitsSpec)

/-- 'exciselaw13.ValueErrors', WHERE WHAT IT READS IS OF BULK AT MOST 1048576: true; the input reads as it did. -/
def valueErrorsUptoRow : OpenClaim := { program := "ytdpnhedbggnhiaa", sum := "59b3060e22c4d747fc03314e2ee2bdb6760f288bfa5c502d7bcd1b404e5711b2", func := "excise/exciselaw13.ValueErrors", spec := "valueErrors", inPlace := ["internal/abi.NoEscape", "internal/bytealg.MakeNoZero"], unfollowed := true, recurses := true, apart := false, narrowed := true }
def ValueErrorsUptoSaid : Prop := valueErrorsUptoRow.holds Try.pinned (OpenSpec.upto valueErrorsSpec)

/-- 'exciselaw13.ValueStays', WHERE WHAT IT READS IS OF BULK AT MOST 1048576: true; the input reads as it did. -/
def valueStaysUptoRow : OpenClaim := { program := "ytdpnhedbggnhiaa", sum := "59b3060e22c4d747fc03314e2ee2bdb6760f288bfa5c502d7bcd1b404e5711b2", func := "excise/exciselaw13.ValueStays", spec := "valueStays", inPlace := ["internal/abi.NoEscape", "internal/bytealg.MakeNoZero"], unfollowed := true, recurses := true, apart := false, narrowed := true }
def ValueStaysUptoSaid : Prop := valueStaysUptoRow.holds Try.pinned (OpenSpec.upto valueStaysSpec)

/-- 'exciselaw14.BracketSays', WHERE WHAT IT READS IS OF BULK AT MOST 1048576: true; the input reads as it did. -/
def bracketSaysUptoRow : OpenClaim := { program := "ytdpnhedbggnhiaa", sum := "59b3060e22c4d747fc03314e2ee2bdb6760f288bfa5c502d7bcd1b404e5711b2", func := "excise/exciselaw14.BracketSays", spec := "bracketSays", apart := false, narrowed := true }
def BracketSaysUptoSaid : Prop := bracketSaysUptoRow.holds Try.pinned (OpenSpec.upto bracketSaysSpec)

/-- 'exciselaw14.BracketChecks', WHERE WHAT IT READS IS OF BULK AT MOST 1048576: true; the input reads as it did. -/
def bracketChecksUptoRow : OpenClaim := { program := "ytdpnhedbggnhiaa", sum := "59b3060e22c4d747fc03314e2ee2bdb6760f288bfa5c502d7bcd1b404e5711b2", func := "excise/exciselaw14.BracketChecks", spec := "bracketChecks", apart := false, narrowed := true }
def BracketChecksUptoSaid : Prop := bracketChecksUptoRow.holds Try.pinned (OpenSpec.upto bracketChecksSpec)

/-- 'exciselaw14.BracketBases', WHERE WHAT IT READS IS OF BULK AT MOST 1048576: true; the input reads as it did. -/
def bracketBasesUptoRow : OpenClaim := { program := "ytdpnhedbggnhiaa", sum := "59b3060e22c4d747fc03314e2ee2bdb6760f288bfa5c502d7bcd1b404e5711b2", func := "excise/exciselaw14.BracketBases", spec := "bracketBases", unfollowed := true, recurses := true, apart := false, narrowed := true }
def BracketBasesUptoSaid : Prop := bracketBasesUptoRow.holds Try.pinned (OpenSpec.upto bracketBasesSpec)

/-- 'exciselaw14.BracketRises', WHERE WHAT IT READS IS OF BULK AT MOST 1048576: true; the input reads as it did. -/
def bracketRisesUptoRow : OpenClaim := { program := "ytdpnhedbggnhiaa", sum := "59b3060e22c4d747fc03314e2ee2bdb6760f288bfa5c502d7bcd1b404e5711b2", func := "excise/exciselaw14.BracketRises", spec := "bracketRises", unfollowed := true, recurses := true, apart := false, narrowed := true }
def BracketRisesUptoSaid : Prop := bracketRisesUptoRow.holds Try.pinned (OpenSpec.upto bracketRisesSpec)

end Rows
end Go.Proofs.Ytdpnhedbggnhiaa
