/-
  NARROWER THAN 'FOR EVERY INPUT', by the rows' own cells (each row's printed sentence says how): TreeChecks: loops · TreeSames: loops · NamesChecks: loops · NamesOrder: loops · NamesAll: loops · ValueEvals: loops · ValueSets: loops · ValueLogic: loops · ValueFaults: loops · ValueReads: loops · TypesChecks: loops · TypesParts: loops · TypesMore: loops · TypesClosed: loops · PreSpans: loops · PreSimple: loops · CallsNone: loops · CallsParts: loops · OwnMore: loops · OwnFirst: loops · OwnInlined: loops.
  DERIVED. THE GIVEN ROWS OF THIS SEAT. 22 by the template 'for every input the law returns true; each argument reads behind the call as it read before'; 0 by the template 'total and deterministic' (their statements: YtmfgdnagmacgdaaTotals.lean).
  GIVEN WITH THE SEED: the statements are not yours to turn. If you find one false, say at which input.
  Laid BY PROGRAM, IN A SANDBOX (cutbox-rows.mjs): the forced cells as the released guide's own fill.sh prints them over the translation 887d0464364904fa… (all of the seat's roots in one cut). By AI agents, Wed Nov 11 2026. No macro, syntax, notation, axiom, sorry.
-/
import Derived.Test.YtmfgdnagmacgdaaChecked
import GoSem.Claim
import GoSem.ClaimJoined
import GoSem.ClaimMapViews
import Derived.JoinedTies
import Derived.KernelRfl
namespace Go.Proofs.Ytmfgdnagmacgdaa
/- THE CELL 'sum', in the pinned program and in every row, IS THE sha256 OF THE DUMP (.gsa) THAT YtmfgdnagmacgdaaProg.lean LOADS. Nothing in Lean hashes anything: it is a label: what it is worth is what the hold of that sum in a sandbox is worth. -/
noncomputable def Try.pinned : Pinned := { name := "ytmfgdnagmacgdaa", sum := "887d0464364904fa60140e6544c701c9e8fc0fdc8df4771f436ea006b00f05c8", checked := Try.checked }
namespace Rows
def none {H : Type} : Left H := { results := [], args := [] }

/-- 'vigillaw02.TreeChecks': WHATEVER THE INPUT: true; the input reads as it did. -/
def treeChecksSpec : ChangeSpec := { name := "treeChecks", fn := fun _ => fun
  | [d] => { results := [.lit (.bool true)], args := [d] }
  | _ => none }
def treeChecksRow : OpenClaim := { program := "ytmfgdnagmacgdaa", sum := "887d0464364904fa60140e6544c701c9e8fc0fdc8df4771f436ea006b00f05c8", func := "vigil/vigillaw02.TreeChecks", spec := "treeChecks", inPlace := ["internal/bytealg.IndexByteString"], unfollowed := true, recurses := true, loops := true, plainKeys := false, apart := false }
def TreeChecksSaid : Prop := treeChecksRow.holds Try.pinned (OpenSpec.ofChange treeChecksSpec)

/-- ITS FALSE NEIGHBOUR: 'it returns false'. Refute it at one input. -/
def treeChecksWrong : ChangeSpec := { name := "treeChecks", fn := fun _ => fun
  | [d] => { results := [.lit (.bool false)], args := [d] }
  | _ => none }
def TreeChecksWrongFalsely : Prop := treeChecksRow.holds Try.pinned (OpenSpec.ofChange treeChecksWrong)

/-- 'vigillaw02.TreeSames': WHATEVER THE INPUT: true; the input reads as it did. -/
def treeSamesSpec : ChangeSpec := { name := "treeSames", fn := fun _ => fun
  | [d1, d2] => { results := [.lit (.bool true)], args := [d1, d2] }
  | _ => none }
def treeSamesRow : OpenClaim := { program := "ytmfgdnagmacgdaa", sum := "887d0464364904fa60140e6544c701c9e8fc0fdc8df4771f436ea006b00f05c8", func := "vigil/vigillaw02.TreeSames", spec := "treeSames", inPlace := ["internal/bytealg.IndexByteString"], unfollowed := true, recurses := true, loops := true, plainKeys := false, apart := false }
def TreeSamesSaid : Prop := treeSamesRow.holds Try.pinned (OpenSpec.ofChange treeSamesSpec)

/-- ITS FALSE NEIGHBOUR: 'it returns false'. Refute it at one input. -/
def treeSamesWrong : ChangeSpec := { name := "treeSames", fn := fun _ => fun
  | [d1, d2] => { results := [.lit (.bool false)], args := [d1, d2] }
  | _ => none }
def TreeSamesWrongFalsely : Prop := treeSamesRow.holds Try.pinned (OpenSpec.ofChange treeSamesWrong)

/-- 'vigillaw06.NamesChecks': WHATEVER THE INPUT: true; the input reads as it did. -/
def namesChecksSpec : ChangeSpec := { name := "namesChecks", fn := fun _ => fun
  | [d] => { results := [.lit (.bool true)], args := [d] }
  | _ => none }
def namesChecksRow : OpenClaim := { program := "ytmfgdnagmacgdaa", sum := "887d0464364904fa60140e6544c701c9e8fc0fdc8df4771f436ea006b00f05c8", func := "vigil/vigillaw06.NamesChecks", spec := "namesChecks", inPlace := ["internal/bytealg.IndexByteString"], unfollowed := true, recurses := true, loops := true, plainKeys := false, apart := false }
def NamesChecksSaid : Prop := namesChecksRow.holds Try.pinned (OpenSpec.ofChange namesChecksSpec)

/-- ITS FALSE NEIGHBOUR: 'it returns false'. Refute it at one input. -/
def namesChecksWrong : ChangeSpec := { name := "namesChecks", fn := fun _ => fun
  | [d] => { results := [.lit (.bool false)], args := [d] }
  | _ => none }
def NamesChecksWrongFalsely : Prop := namesChecksRow.holds Try.pinned (OpenSpec.ofChange namesChecksWrong)

/-- 'vigillaw06.NamesOrder': WHATEVER THE INPUT: true; the input reads as it did. -/
def namesOrderSpec : ChangeSpec := { name := "namesOrder", fn := fun _ => fun
  | [d1, d2, d3] => { results := [.lit (.bool true)], args := [d1, d2, d3] }
  | _ => none }
def namesOrderRow : OpenClaim := { program := "ytmfgdnagmacgdaa", sum := "887d0464364904fa60140e6544c701c9e8fc0fdc8df4771f436ea006b00f05c8", func := "vigil/vigillaw06.NamesOrder", spec := "namesOrder", inPlace := ["internal/bytealg.IndexByteString"], unfollowed := true, recurses := true, loops := true, plainKeys := false, apart := false }
def NamesOrderSaid : Prop := namesOrderRow.holds Try.pinned (OpenSpec.ofChange namesOrderSpec)

/-- ITS FALSE NEIGHBOUR: 'it returns false'. Refute it at one input. -/
def namesOrderWrong : ChangeSpec := { name := "namesOrder", fn := fun _ => fun
  | [d1, d2, d3] => { results := [.lit (.bool false)], args := [d1, d2, d3] }
  | _ => none }
def NamesOrderWrongFalsely : Prop := namesOrderRow.holds Try.pinned (OpenSpec.ofChange namesOrderWrong)

/-- 'vigillaw06.NamesAll': WHATEVER THE INPUT: true; the input reads as it did. -/
def namesAllSpec : ChangeSpec := { name := "namesAll", fn := fun _ => fun
  | [d1, d2] => { results := [.lit (.bool true)], args := [d1, d2] }
  | _ => none }
def namesAllRow : OpenClaim := { program := "ytmfgdnagmacgdaa", sum := "887d0464364904fa60140e6544c701c9e8fc0fdc8df4771f436ea006b00f05c8", func := "vigil/vigillaw06.NamesAll", spec := "namesAll", inPlace := ["internal/bytealg.IndexByteString"], unfollowed := true, recurses := true, loops := true, plainKeys := false, apart := false }
def NamesAllSaid : Prop := namesAllRow.holds Try.pinned (OpenSpec.ofChange namesAllSpec)

/-- ITS FALSE NEIGHBOUR: 'it returns false'. Refute it at one input. -/
def namesAllWrong : ChangeSpec := { name := "namesAll", fn := fun _ => fun
  | [d1, d2] => { results := [.lit (.bool false)], args := [d1, d2] }
  | _ => none }
def NamesAllWrongFalsely : Prop := namesAllRow.holds Try.pinned (OpenSpec.ofChange namesAllWrong)

/-- 'vigillaw11.ValueEvals': WHATEVER THE INPUT: true; the input reads as it did. -/
def valueEvalsSpec : ChangeSpec := { name := "valueEvals", fn := fun _ => fun
  | [d1, d2, d3] => { results := [.lit (.bool true)], args := [d1, d2, d3] }
  | _ => none }
def valueEvalsRow : OpenClaim := { program := "ytmfgdnagmacgdaa", sum := "887d0464364904fa60140e6544c701c9e8fc0fdc8df4771f436ea006b00f05c8", func := "vigil/vigillaw11.ValueEvals", spec := "valueEvals", inPlace := ["internal/bytealg.IndexByteString"], unfollowed := true, recurses := true, loops := true, plainKeys := false, apart := false }
def ValueEvalsSaid : Prop := valueEvalsRow.holds Try.pinned (OpenSpec.ofChange valueEvalsSpec)

/-- ITS FALSE NEIGHBOUR: 'it returns false'. Refute it at one input. -/
def valueEvalsWrong : ChangeSpec := { name := "valueEvals", fn := fun _ => fun
  | [d1, d2, d3] => { results := [.lit (.bool false)], args := [d1, d2, d3] }
  | _ => none }
def ValueEvalsWrongFalsely : Prop := valueEvalsRow.holds Try.pinned (OpenSpec.ofChange valueEvalsWrong)

/-- 'vigillaw11.ValueSets': WHATEVER THE INPUT: true; the input reads as it did. -/
def valueSetsSpec : ChangeSpec := { name := "valueSets", fn := fun _ => fun
  | [d1, d2, d3, d4, d5] => { results := [.lit (.bool true)], args := [d1, d2, d3, d4, d5] }
  | _ => none }
def valueSetsRow : OpenClaim := { program := "ytmfgdnagmacgdaa", sum := "887d0464364904fa60140e6544c701c9e8fc0fdc8df4771f436ea006b00f05c8", func := "vigil/vigillaw11.ValueSets", spec := "valueSets", inPlace := ["internal/bytealg.IndexByteString"], unfollowed := true, recurses := true, loops := true, plainKeys := false, apart := false }
def ValueSetsSaid : Prop := valueSetsRow.holds Try.pinned (OpenSpec.ofChange valueSetsSpec)

/-- ITS FALSE NEIGHBOUR: 'it returns false'. Refute it at one input. -/
def valueSetsWrong : ChangeSpec := { name := "valueSets", fn := fun _ => fun
  | [d1, d2, d3, d4, d5] => { results := [.lit (.bool false)], args := [d1, d2, d3, d4, d5] }
  | _ => none }
def ValueSetsWrongFalsely : Prop := valueSetsRow.holds Try.pinned (OpenSpec.ofChange valueSetsWrong)

/-- 'vigillaw11.ValueLogic': WHATEVER THE INPUT: true; the input reads as it did. -/
def valueLogicSpec : ChangeSpec := { name := "valueLogic", fn := fun _ => fun
  | [d1, d2, d3, d4] => { results := [.lit (.bool true)], args := [d1, d2, d3, d4] }
  | _ => none }
def valueLogicRow : OpenClaim := { program := "ytmfgdnagmacgdaa", sum := "887d0464364904fa60140e6544c701c9e8fc0fdc8df4771f436ea006b00f05c8", func := "vigil/vigillaw11.ValueLogic", spec := "valueLogic", inPlace := ["internal/bytealg.IndexByteString"], unfollowed := true, recurses := true, loops := true, plainKeys := false, apart := false }
def ValueLogicSaid : Prop := valueLogicRow.holds Try.pinned (OpenSpec.ofChange valueLogicSpec)

/-- ITS FALSE NEIGHBOUR: 'it returns false'. Refute it at one input. -/
def valueLogicWrong : ChangeSpec := { name := "valueLogic", fn := fun _ => fun
  | [d1, d2, d3, d4] => { results := [.lit (.bool false)], args := [d1, d2, d3, d4] }
  | _ => none }
def ValueLogicWrongFalsely : Prop := valueLogicRow.holds Try.pinned (OpenSpec.ofChange valueLogicWrong)

/-- 'vigillaw11.ValueFaults': WHATEVER THE INPUT: true; the input reads as it did. -/
def valueFaultsSpec : ChangeSpec := { name := "valueFaults", fn := fun _ => fun
  | [d1, d2, d3] => { results := [.lit (.bool true)], args := [d1, d2, d3] }
  | _ => none }
def valueFaultsRow : OpenClaim := { program := "ytmfgdnagmacgdaa", sum := "887d0464364904fa60140e6544c701c9e8fc0fdc8df4771f436ea006b00f05c8", func := "vigil/vigillaw11.ValueFaults", spec := "valueFaults", inPlace := ["internal/bytealg.IndexByteString"], unfollowed := true, recurses := true, loops := true, plainKeys := false, apart := false }
def ValueFaultsSaid : Prop := valueFaultsRow.holds Try.pinned (OpenSpec.ofChange valueFaultsSpec)

/-- ITS FALSE NEIGHBOUR: 'it returns false'. Refute it at one input. -/
def valueFaultsWrong : ChangeSpec := { name := "valueFaults", fn := fun _ => fun
  | [d1, d2, d3] => { results := [.lit (.bool false)], args := [d1, d2, d3] }
  | _ => none }
def ValueFaultsWrongFalsely : Prop := valueFaultsRow.holds Try.pinned (OpenSpec.ofChange valueFaultsWrong)

/-- 'vigillaw11.ValueReads': WHATEVER THE INPUT: true; the input reads as it did. -/
def valueReadsSpec : ChangeSpec := { name := "valueReads", fn := fun _ => fun
  | [d1, d2, d3, d4] => { results := [.lit (.bool true)], args := [d1, d2, d3, d4] }
  | _ => none }
def valueReadsRow : OpenClaim := { program := "ytmfgdnagmacgdaa", sum := "887d0464364904fa60140e6544c701c9e8fc0fdc8df4771f436ea006b00f05c8", func := "vigil/vigillaw11.ValueReads", spec := "valueReads", inPlace := ["internal/bytealg.IndexByteString"], unfollowed := true, recurses := true, loops := true, plainKeys := false, apart := false }
def ValueReadsSaid : Prop := valueReadsRow.holds Try.pinned (OpenSpec.ofChange valueReadsSpec)

/-- ITS FALSE NEIGHBOUR: 'it returns false'. Refute it at one input. -/
def valueReadsWrong : ChangeSpec := { name := "valueReads", fn := fun _ => fun
  | [d1, d2, d3, d4] => { results := [.lit (.bool false)], args := [d1, d2, d3, d4] }
  | _ => none }
def ValueReadsWrongFalsely : Prop := valueReadsRow.holds Try.pinned (OpenSpec.ofChange valueReadsWrong)

/-- 'vigillaw07.TypesChecks': WHATEVER THE INPUT: true; the input reads as it did. -/
def typesChecksSpec : ChangeSpec := { name := "typesChecks", fn := fun _ => fun
  | [d] => { results := [.lit (.bool true)], args := [d] }
  | _ => none }
def typesChecksRow : OpenClaim := { program := "ytmfgdnagmacgdaa", sum := "887d0464364904fa60140e6544c701c9e8fc0fdc8df4771f436ea006b00f05c8", func := "vigil/vigillaw07.TypesChecks", spec := "typesChecks", inPlace := ["internal/bytealg.IndexByteString"], unfollowed := true, recurses := true, loops := true, plainKeys := false, apart := false }
def TypesChecksSaid : Prop := typesChecksRow.holds Try.pinned (OpenSpec.ofChange typesChecksSpec)

/-- ITS FALSE NEIGHBOUR: 'it returns false'. Refute it at one input. -/
def typesChecksWrong : ChangeSpec := { name := "typesChecks", fn := fun _ => fun
  | [d] => { results := [.lit (.bool false)], args := [d] }
  | _ => none }
def TypesChecksWrongFalsely : Prop := typesChecksRow.holds Try.pinned (OpenSpec.ofChange typesChecksWrong)

/-- 'vigillaw07.TypesParts': WHATEVER THE INPUT: true; the input reads as it did. -/
def typesPartsSpec : ChangeSpec := { name := "typesParts", fn := fun _ => fun
  | [d1, d2, d3] => { results := [.lit (.bool true)], args := [d1, d2, d3] }
  | _ => none }
def typesPartsRow : OpenClaim := { program := "ytmfgdnagmacgdaa", sum := "887d0464364904fa60140e6544c701c9e8fc0fdc8df4771f436ea006b00f05c8", func := "vigil/vigillaw07.TypesParts", spec := "typesParts", inPlace := ["internal/bytealg.IndexByteString"], unfollowed := true, recurses := true, loops := true, plainKeys := false, apart := false }
def TypesPartsSaid : Prop := typesPartsRow.holds Try.pinned (OpenSpec.ofChange typesPartsSpec)

/-- ITS FALSE NEIGHBOUR: 'it returns false'. Refute it at one input. -/
def typesPartsWrong : ChangeSpec := { name := "typesParts", fn := fun _ => fun
  | [d1, d2, d3] => { results := [.lit (.bool false)], args := [d1, d2, d3] }
  | _ => none }
def TypesPartsWrongFalsely : Prop := typesPartsRow.holds Try.pinned (OpenSpec.ofChange typesPartsWrong)

/-- 'vigillaw07.TypesMore': WHATEVER THE INPUT: true; the input reads as it did. -/
def typesMoreSpec : ChangeSpec := { name := "typesMore", fn := fun _ => fun
  | [d1, d2, d3] => { results := [.lit (.bool true)], args := [d1, d2, d3] }
  | _ => none }
def typesMoreRow : OpenClaim := { program := "ytmfgdnagmacgdaa", sum := "887d0464364904fa60140e6544c701c9e8fc0fdc8df4771f436ea006b00f05c8", func := "vigil/vigillaw07.TypesMore", spec := "typesMore", inPlace := ["internal/bytealg.IndexByteString"], unfollowed := true, recurses := true, loops := true, plainKeys := false, apart := false }
def TypesMoreSaid : Prop := typesMoreRow.holds Try.pinned (OpenSpec.ofChange typesMoreSpec)

/-- ITS FALSE NEIGHBOUR: 'it returns false'. Refute it at one input. -/
def typesMoreWrong : ChangeSpec := { name := "typesMore", fn := fun _ => fun
  | [d1, d2, d3] => { results := [.lit (.bool false)], args := [d1, d2, d3] }
  | _ => none }
def TypesMoreWrongFalsely : Prop := typesMoreRow.holds Try.pinned (OpenSpec.ofChange typesMoreWrong)

/-- 'vigillaw07.TypesClosed': WHATEVER THE INPUT: true; the input reads as it did. -/
def typesClosedSpec : ChangeSpec := { name := "typesClosed", fn := fun _ => fun
  | [d] => { results := [.lit (.bool true)], args := [d] }
  | _ => none }
def typesClosedRow : OpenClaim := { program := "ytmfgdnagmacgdaa", sum := "887d0464364904fa60140e6544c701c9e8fc0fdc8df4771f436ea006b00f05c8", func := "vigil/vigillaw07.TypesClosed", spec := "typesClosed", inPlace := ["internal/bytealg.IndexByteString"], unfollowed := true, recurses := true, loops := true, plainKeys := false, apart := false }
def TypesClosedSaid : Prop := typesClosedRow.holds Try.pinned (OpenSpec.ofChange typesClosedSpec)

/-- ITS FALSE NEIGHBOUR: 'it returns false'. Refute it at one input. -/
def typesClosedWrong : ChangeSpec := { name := "typesClosed", fn := fun _ => fun
  | [d] => { results := [.lit (.bool false)], args := [d] }
  | _ => none }
def TypesClosedWrongFalsely : Prop := typesClosedRow.holds Try.pinned (OpenSpec.ofChange typesClosedWrong)

/-- 'vigillaw21.PreSpans': WHATEVER THE INPUT: true; the input reads as it did. -/
def preSpansSpec : ChangeSpec := { name := "preSpans", fn := fun _ => fun
  | [d1, d2, d3] => { results := [.lit (.bool true)], args := [d1, d2, d3] }
  | _ => none }
def preSpansRow : OpenClaim := { program := "ytmfgdnagmacgdaa", sum := "887d0464364904fa60140e6544c701c9e8fc0fdc8df4771f436ea006b00f05c8", func := "vigil/vigillaw21.PreSpans", spec := "preSpans", inPlace := ["internal/bytealg.IndexByteString"], unfollowed := true, recurses := true, loops := true, plainKeys := false, apart := false }
def PreSpansSaid : Prop := preSpansRow.holds Try.pinned (OpenSpec.ofChange preSpansSpec)

/-- ITS FALSE NEIGHBOUR: 'it returns false'. Refute it at one input. -/
def preSpansWrong : ChangeSpec := { name := "preSpans", fn := fun _ => fun
  | [d1, d2, d3] => { results := [.lit (.bool false)], args := [d1, d2, d3] }
  | _ => none }
def PreSpansWrongFalsely : Prop := preSpansRow.holds Try.pinned (OpenSpec.ofChange preSpansWrong)

/-- 'vigillaw21.PreSimple': WHATEVER THE INPUT: true; the input reads as it did. -/
def preSimpleSpec : ChangeSpec := { name := "preSimple", fn := fun _ => fun
  | [d1, d2, d3] => { results := [.lit (.bool true)], args := [d1, d2, d3] }
  | _ => none }
def preSimpleRow : OpenClaim := { program := "ytmfgdnagmacgdaa", sum := "887d0464364904fa60140e6544c701c9e8fc0fdc8df4771f436ea006b00f05c8", func := "vigil/vigillaw21.PreSimple", spec := "preSimple", inPlace := ["internal/bytealg.IndexByteString"], unfollowed := true, recurses := true, loops := true, plainKeys := false, apart := false }
def PreSimpleSaid : Prop := preSimpleRow.holds Try.pinned (OpenSpec.ofChange preSimpleSpec)

/-- ITS FALSE NEIGHBOUR: 'it returns false'. Refute it at one input. -/
def preSimpleWrong : ChangeSpec := { name := "preSimple", fn := fun _ => fun
  | [d1, d2, d3] => { results := [.lit (.bool false)], args := [d1, d2, d3] }
  | _ => none }
def PreSimpleWrongFalsely : Prop := preSimpleRow.holds Try.pinned (OpenSpec.ofChange preSimpleWrong)

/-- 'vigillaw08.CallsBig': WHATEVER THE INPUT: true; the input reads as it did. -/
def callsBigSpec : ChangeSpec := { name := "callsBig", fn := fun _ => fun
  | [d] => { results := [.lit (.bool true)], args := [d] }
  | _ => none }
def callsBigRow : OpenClaim := { program := "ytmfgdnagmacgdaa", sum := "887d0464364904fa60140e6544c701c9e8fc0fdc8df4771f436ea006b00f05c8", func := "vigil/vigillaw08.CallsBig", spec := "callsBig", inPlace := ["internal/bytealg.IndexByteString"], unfollowed := true, recurses := true, plainKeys := false, apart := false }
def CallsBigSaid : Prop := callsBigRow.holds Try.pinned (OpenSpec.ofChange callsBigSpec)

/-- ITS FALSE NEIGHBOUR: 'it returns false'. Refute it at one input. -/
def callsBigWrong : ChangeSpec := { name := "callsBig", fn := fun _ => fun
  | [d] => { results := [.lit (.bool false)], args := [d] }
  | _ => none }
def CallsBigWrongFalsely : Prop := callsBigRow.holds Try.pinned (OpenSpec.ofChange callsBigWrong)

/-- 'vigillaw08.CallsNone': WHATEVER THE INPUT: true; the input reads as it did. -/
def callsNoneSpec : ChangeSpec := { name := "callsNone", fn := fun _ => fun
  | [d1, d2] => { results := [.lit (.bool true)], args := [d1, d2] }
  | _ => none }
def callsNoneRow : OpenClaim := { program := "ytmfgdnagmacgdaa", sum := "887d0464364904fa60140e6544c701c9e8fc0fdc8df4771f436ea006b00f05c8", func := "vigil/vigillaw08.CallsNone", spec := "callsNone", inPlace := ["internal/bytealg.IndexByteString"], unfollowed := true, recurses := true, loops := true, plainKeys := false, apart := false }
def CallsNoneSaid : Prop := callsNoneRow.holds Try.pinned (OpenSpec.ofChange callsNoneSpec)

/-- ITS FALSE NEIGHBOUR: 'it returns false'. Refute it at one input. -/
def callsNoneWrong : ChangeSpec := { name := "callsNone", fn := fun _ => fun
  | [d1, d2] => { results := [.lit (.bool false)], args := [d1, d2] }
  | _ => none }
def CallsNoneWrongFalsely : Prop := callsNoneRow.holds Try.pinned (OpenSpec.ofChange callsNoneWrong)

/-- 'vigillaw08.CallsParts': WHATEVER THE INPUT: true; the input reads as it did. -/
def callsPartsSpec : ChangeSpec := { name := "callsParts", fn := fun _ => fun
  | [d1, d2, d3] => { results := [.lit (.bool true)], args := [d1, d2, d3] }
  | _ => none }
def callsPartsRow : OpenClaim := { program := "ytmfgdnagmacgdaa", sum := "887d0464364904fa60140e6544c701c9e8fc0fdc8df4771f436ea006b00f05c8", func := "vigil/vigillaw08.CallsParts", spec := "callsParts", inPlace := ["internal/bytealg.IndexByteString"], unfollowed := true, recurses := true, loops := true, plainKeys := false, apart := false }
def CallsPartsSaid : Prop := callsPartsRow.holds Try.pinned (OpenSpec.ofChange callsPartsSpec)

/-- ITS FALSE NEIGHBOUR: 'it returns false'. Refute it at one input. -/
def callsPartsWrong : ChangeSpec := { name := "callsParts", fn := fun _ => fun
  | [d1, d2, d3] => { results := [.lit (.bool false)], args := [d1, d2, d3] }
  | _ => none }
def CallsPartsWrongFalsely : Prop := callsPartsRow.holds Try.pinned (OpenSpec.ofChange callsPartsWrong)

/-- 'vigillaw09.OwnMore': WHATEVER THE INPUT: true; the input reads as it did. -/
def ownMoreSpec : ChangeSpec := { name := "ownMore", fn := fun _ => fun
  | [d1, d2, d3] => { results := [.lit (.bool true)], args := [d1, d2, d3] }
  | _ => none }
def ownMoreRow : OpenClaim := { program := "ytmfgdnagmacgdaa", sum := "887d0464364904fa60140e6544c701c9e8fc0fdc8df4771f436ea006b00f05c8", func := "vigil/vigillaw09.OwnMore", spec := "ownMore", inPlace := ["internal/bytealg.IndexByteString"], unfollowed := true, recurses := true, loops := true, plainKeys := false, apart := false }
def OwnMoreSaid : Prop := ownMoreRow.holds Try.pinned (OpenSpec.ofChange ownMoreSpec)

/-- ITS FALSE NEIGHBOUR: 'it returns false'. Refute it at one input. -/
def ownMoreWrong : ChangeSpec := { name := "ownMore", fn := fun _ => fun
  | [d1, d2, d3] => { results := [.lit (.bool false)], args := [d1, d2, d3] }
  | _ => none }
def OwnMoreWrongFalsely : Prop := ownMoreRow.holds Try.pinned (OpenSpec.ofChange ownMoreWrong)

/-- 'vigillaw09.OwnFirst': WHATEVER THE INPUT: true; the input reads as it did. -/
def ownFirstSpec : ChangeSpec := { name := "ownFirst", fn := fun _ => fun
  | [d1, d2, d3] => { results := [.lit (.bool true)], args := [d1, d2, d3] }
  | _ => none }
def ownFirstRow : OpenClaim := { program := "ytmfgdnagmacgdaa", sum := "887d0464364904fa60140e6544c701c9e8fc0fdc8df4771f436ea006b00f05c8", func := "vigil/vigillaw09.OwnFirst", spec := "ownFirst", inPlace := ["internal/bytealg.IndexByteString"], unfollowed := true, recurses := true, loops := true, plainKeys := false, apart := false }
def OwnFirstSaid : Prop := ownFirstRow.holds Try.pinned (OpenSpec.ofChange ownFirstSpec)

/-- ITS FALSE NEIGHBOUR: 'it returns false'. Refute it at one input. -/
def ownFirstWrong : ChangeSpec := { name := "ownFirst", fn := fun _ => fun
  | [d1, d2, d3] => { results := [.lit (.bool false)], args := [d1, d2, d3] }
  | _ => none }
def OwnFirstWrongFalsely : Prop := ownFirstRow.holds Try.pinned (OpenSpec.ofChange ownFirstWrong)

/-- 'vigillaw09.OwnInlined': WHATEVER THE INPUT: true; the input reads as it did. -/
def ownInlinedSpec : ChangeSpec := { name := "ownInlined", fn := fun _ => fun
  | [d] => { results := [.lit (.bool true)], args := [d] }
  | _ => none }
def ownInlinedRow : OpenClaim := { program := "ytmfgdnagmacgdaa", sum := "887d0464364904fa60140e6544c701c9e8fc0fdc8df4771f436ea006b00f05c8", func := "vigil/vigillaw09.OwnInlined", spec := "ownInlined", inPlace := ["internal/bytealg.IndexByteString"], unfollowed := true, recurses := true, loops := true, plainKeys := false, apart := false }
def OwnInlinedSaid : Prop := ownInlinedRow.holds Try.pinned (OpenSpec.ofChange ownInlinedSpec)

/-- ITS FALSE NEIGHBOUR: 'it returns false'. Refute it at one input. -/
def ownInlinedWrong : ChangeSpec := { name := "ownInlined", fn := fun _ => fun
  | [d] => { results := [.lit (.bool false)], args := [d] }
  | _ => none }
def OwnInlinedWrongFalsely : Prop := ownInlinedRow.holds Try.pinned (OpenSpec.ofChange ownInlinedWrong)

/- THE SECOND FORM. 'bulk': how many values and letters a reading holds, each counted each time it is reached (what is shared counts as often as it is met; a slice's spare places count too). A statement '..UptoSaid' is the law's where the arguments, and the package variables that the reading takes, are together of bulk at most 1048576: NARROWER than '..Said'. Prove '..Said' where nothing that the law and all that it calls make is longer than what came in: it says more and counts as full. Else prove '..UptoSaid'. A law counts once. -/
mutual
def uptoBulk {H : Type} : DataW H → Nat
  | .lit (.string bytes) => bytes.length + 1
  | .lit _ => 1
  | .nil => 1
  | .ptr d => uptoBulk d + 1
  | .slice elems spare => uptoBulkAll elems + uptoBulkAll spare + 1
  | .agg parts => uptoBulkAll parts + 1
  | .iface _ d => uptoBulk d + 1
  | .map entries => uptoBulkEntries entries + 1
  | .held _ => 1
def uptoBulkAll {H : Type} : List (DataW H) → Nat
  | [] => 0
  | d :: r => uptoBulk d + uptoBulkAll r
def uptoBulkEntries {H : Type} : List (Lit × DataW H) → Nat
  | [] => 0
  | x :: r => uptoBulkEntry x + uptoBulkEntries r
def uptoBulkEntry {H : Type} : Lit × DataW H → Nat
  | (.string bytes, d) => bytes.length + uptoBulk d + 1
  | (_, d) => uptoBulk d + 1
 end
def uptoSmall : (H : Type) → List (DataW H) → Bool := fun _ ds => decide (uptoBulkAll ds ≤ 1048576)
def OpenSpec.upto (s : _root_.Go.ChangeSpec) : _root_.Go.OpenSpec := { _root_.Go.OpenSpec.ofChange s with cond := some uptoSmall }

/-- 'vigillaw02.TreeChecks', WHERE WHAT IT READS IS OF BULK AT MOST 1048576: true; the input reads as it did. -/
def treeChecksUptoRow : OpenClaim := { program := "ytmfgdnagmacgdaa", sum := "887d0464364904fa60140e6544c701c9e8fc0fdc8df4771f436ea006b00f05c8", func := "vigil/vigillaw02.TreeChecks", spec := "treeChecks", inPlace := ["internal/bytealg.IndexByteString"], unfollowed := true, recurses := true, loops := true, plainKeys := false, apart := false, narrowed := true }
def TreeChecksUptoSaid : Prop := treeChecksUptoRow.holds Try.pinned (OpenSpec.upto treeChecksSpec)

/-- 'vigillaw02.TreeSames', WHERE WHAT IT READS IS OF BULK AT MOST 1048576: true; the input reads as it did. -/
def treeSamesUptoRow : OpenClaim := { program := "ytmfgdnagmacgdaa", sum := "887d0464364904fa60140e6544c701c9e8fc0fdc8df4771f436ea006b00f05c8", func := "vigil/vigillaw02.TreeSames", spec := "treeSames", inPlace := ["internal/bytealg.IndexByteString"], unfollowed := true, recurses := true, loops := true, plainKeys := false, apart := false, narrowed := true }
def TreeSamesUptoSaid : Prop := treeSamesUptoRow.holds Try.pinned (OpenSpec.upto treeSamesSpec)

/-- 'vigillaw06.NamesChecks', WHERE WHAT IT READS IS OF BULK AT MOST 1048576: true; the input reads as it did. -/
def namesChecksUptoRow : OpenClaim := { program := "ytmfgdnagmacgdaa", sum := "887d0464364904fa60140e6544c701c9e8fc0fdc8df4771f436ea006b00f05c8", func := "vigil/vigillaw06.NamesChecks", spec := "namesChecks", inPlace := ["internal/bytealg.IndexByteString"], unfollowed := true, recurses := true, loops := true, plainKeys := false, apart := false, narrowed := true }
def NamesChecksUptoSaid : Prop := namesChecksUptoRow.holds Try.pinned (OpenSpec.upto namesChecksSpec)

/-- 'vigillaw06.NamesOrder', WHERE WHAT IT READS IS OF BULK AT MOST 1048576: true; the input reads as it did. -/
def namesOrderUptoRow : OpenClaim := { program := "ytmfgdnagmacgdaa", sum := "887d0464364904fa60140e6544c701c9e8fc0fdc8df4771f436ea006b00f05c8", func := "vigil/vigillaw06.NamesOrder", spec := "namesOrder", inPlace := ["internal/bytealg.IndexByteString"], unfollowed := true, recurses := true, loops := true, plainKeys := false, apart := false, narrowed := true }
def NamesOrderUptoSaid : Prop := namesOrderUptoRow.holds Try.pinned (OpenSpec.upto namesOrderSpec)

/-- 'vigillaw06.NamesAll', WHERE WHAT IT READS IS OF BULK AT MOST 1048576: true; the input reads as it did. -/
def namesAllUptoRow : OpenClaim := { program := "ytmfgdnagmacgdaa", sum := "887d0464364904fa60140e6544c701c9e8fc0fdc8df4771f436ea006b00f05c8", func := "vigil/vigillaw06.NamesAll", spec := "namesAll", inPlace := ["internal/bytealg.IndexByteString"], unfollowed := true, recurses := true, loops := true, plainKeys := false, apart := false, narrowed := true }
def NamesAllUptoSaid : Prop := namesAllUptoRow.holds Try.pinned (OpenSpec.upto namesAllSpec)

/-- 'vigillaw11.ValueEvals', WHERE WHAT IT READS IS OF BULK AT MOST 1048576: true; the input reads as it did. -/
def valueEvalsUptoRow : OpenClaim := { program := "ytmfgdnagmacgdaa", sum := "887d0464364904fa60140e6544c701c9e8fc0fdc8df4771f436ea006b00f05c8", func := "vigil/vigillaw11.ValueEvals", spec := "valueEvals", inPlace := ["internal/bytealg.IndexByteString"], unfollowed := true, recurses := true, loops := true, plainKeys := false, apart := false, narrowed := true }
def ValueEvalsUptoSaid : Prop := valueEvalsUptoRow.holds Try.pinned (OpenSpec.upto valueEvalsSpec)

/-- 'vigillaw11.ValueSets', WHERE WHAT IT READS IS OF BULK AT MOST 1048576: true; the input reads as it did. -/
def valueSetsUptoRow : OpenClaim := { program := "ytmfgdnagmacgdaa", sum := "887d0464364904fa60140e6544c701c9e8fc0fdc8df4771f436ea006b00f05c8", func := "vigil/vigillaw11.ValueSets", spec := "valueSets", inPlace := ["internal/bytealg.IndexByteString"], unfollowed := true, recurses := true, loops := true, plainKeys := false, apart := false, narrowed := true }
def ValueSetsUptoSaid : Prop := valueSetsUptoRow.holds Try.pinned (OpenSpec.upto valueSetsSpec)

/-- 'vigillaw11.ValueLogic', WHERE WHAT IT READS IS OF BULK AT MOST 1048576: true; the input reads as it did. -/
def valueLogicUptoRow : OpenClaim := { program := "ytmfgdnagmacgdaa", sum := "887d0464364904fa60140e6544c701c9e8fc0fdc8df4771f436ea006b00f05c8", func := "vigil/vigillaw11.ValueLogic", spec := "valueLogic", inPlace := ["internal/bytealg.IndexByteString"], unfollowed := true, recurses := true, loops := true, plainKeys := false, apart := false, narrowed := true }
def ValueLogicUptoSaid : Prop := valueLogicUptoRow.holds Try.pinned (OpenSpec.upto valueLogicSpec)

/-- 'vigillaw11.ValueFaults', WHERE WHAT IT READS IS OF BULK AT MOST 1048576: true; the input reads as it did. -/
def valueFaultsUptoRow : OpenClaim := { program := "ytmfgdnagmacgdaa", sum := "887d0464364904fa60140e6544c701c9e8fc0fdc8df4771f436ea006b00f05c8", func := "vigil/vigillaw11.ValueFaults", spec := "valueFaults", inPlace := ["internal/bytealg.IndexByteString"], unfollowed := true, recurses := true, loops := true, plainKeys := false, apart := false, narrowed := true }
def ValueFaultsUptoSaid : Prop := valueFaultsUptoRow.holds Try.pinned (OpenSpec.upto valueFaultsSpec)

/-- 'vigillaw11.ValueReads', WHERE WHAT IT READS IS OF BULK AT MOST 1048576: true; the input reads as it did. -/
def valueReadsUptoRow : OpenClaim := { program := "ytmfgdnagmacgdaa", sum := "887d0464364904fa60140e6544c701c9e8fc0fdc8df4771f436ea006b00f05c8", func := "vigil/vigillaw11.ValueReads", spec := "valueReads", inPlace := ["internal/bytealg.IndexByteString"], unfollowed := true, recurses := true, loops := true, plainKeys := false, apart := false, narrowed := true }
def ValueReadsUptoSaid : Prop := valueReadsUptoRow.holds Try.pinned (OpenSpec.upto valueReadsSpec)

/-- 'vigillaw07.TypesChecks', WHERE WHAT IT READS IS OF BULK AT MOST 1048576: true; the input reads as it did. -/
def typesChecksUptoRow : OpenClaim := { program := "ytmfgdnagmacgdaa", sum := "887d0464364904fa60140e6544c701c9e8fc0fdc8df4771f436ea006b00f05c8", func := "vigil/vigillaw07.TypesChecks", spec := "typesChecks", inPlace := ["internal/bytealg.IndexByteString"], unfollowed := true, recurses := true, loops := true, plainKeys := false, apart := false, narrowed := true }
def TypesChecksUptoSaid : Prop := typesChecksUptoRow.holds Try.pinned (OpenSpec.upto typesChecksSpec)

/-- 'vigillaw07.TypesParts', WHERE WHAT IT READS IS OF BULK AT MOST 1048576: true; the input reads as it did. -/
def typesPartsUptoRow : OpenClaim := { program := "ytmfgdnagmacgdaa", sum := "887d0464364904fa60140e6544c701c9e8fc0fdc8df4771f436ea006b00f05c8", func := "vigil/vigillaw07.TypesParts", spec := "typesParts", inPlace := ["internal/bytealg.IndexByteString"], unfollowed := true, recurses := true, loops := true, plainKeys := false, apart := false, narrowed := true }
def TypesPartsUptoSaid : Prop := typesPartsUptoRow.holds Try.pinned (OpenSpec.upto typesPartsSpec)

/-- 'vigillaw07.TypesMore', WHERE WHAT IT READS IS OF BULK AT MOST 1048576: true; the input reads as it did. -/
def typesMoreUptoRow : OpenClaim := { program := "ytmfgdnagmacgdaa", sum := "887d0464364904fa60140e6544c701c9e8fc0fdc8df4771f436ea006b00f05c8", func := "vigil/vigillaw07.TypesMore", spec := "typesMore", inPlace := ["internal/bytealg.IndexByteString"], unfollowed := true, recurses := true, loops := true, plainKeys := false, apart := false, narrowed := true }
def TypesMoreUptoSaid : Prop := typesMoreUptoRow.holds Try.pinned (OpenSpec.upto typesMoreSpec)

/-- 'vigillaw07.TypesClosed', WHERE WHAT IT READS IS OF BULK AT MOST 1048576: true; the input reads as it did. -/
def typesClosedUptoRow : OpenClaim := { program := "ytmfgdnagmacgdaa", sum := "887d0464364904fa60140e6544c701c9e8fc0fdc8df4771f436ea006b00f05c8", func := "vigil/vigillaw07.TypesClosed", spec := "typesClosed", inPlace := ["internal/bytealg.IndexByteString"], unfollowed := true, recurses := true, loops := true, plainKeys := false, apart := false, narrowed := true }
def TypesClosedUptoSaid : Prop := typesClosedUptoRow.holds Try.pinned (OpenSpec.upto typesClosedSpec)

/-- 'vigillaw21.PreSpans', WHERE WHAT IT READS IS OF BULK AT MOST 1048576: true; the input reads as it did. -/
def preSpansUptoRow : OpenClaim := { program := "ytmfgdnagmacgdaa", sum := "887d0464364904fa60140e6544c701c9e8fc0fdc8df4771f436ea006b00f05c8", func := "vigil/vigillaw21.PreSpans", spec := "preSpans", inPlace := ["internal/bytealg.IndexByteString"], unfollowed := true, recurses := true, loops := true, plainKeys := false, apart := false, narrowed := true }
def PreSpansUptoSaid : Prop := preSpansUptoRow.holds Try.pinned (OpenSpec.upto preSpansSpec)

/-- 'vigillaw21.PreSimple', WHERE WHAT IT READS IS OF BULK AT MOST 1048576: true; the input reads as it did. -/
def preSimpleUptoRow : OpenClaim := { program := "ytmfgdnagmacgdaa", sum := "887d0464364904fa60140e6544c701c9e8fc0fdc8df4771f436ea006b00f05c8", func := "vigil/vigillaw21.PreSimple", spec := "preSimple", inPlace := ["internal/bytealg.IndexByteString"], unfollowed := true, recurses := true, loops := true, plainKeys := false, apart := false, narrowed := true }
def PreSimpleUptoSaid : Prop := preSimpleUptoRow.holds Try.pinned (OpenSpec.upto preSimpleSpec)

/-- 'vigillaw08.CallsBig', WHERE WHAT IT READS IS OF BULK AT MOST 1048576: true; the input reads as it did. -/
def callsBigUptoRow : OpenClaim := { program := "ytmfgdnagmacgdaa", sum := "887d0464364904fa60140e6544c701c9e8fc0fdc8df4771f436ea006b00f05c8", func := "vigil/vigillaw08.CallsBig", spec := "callsBig", inPlace := ["internal/bytealg.IndexByteString"], unfollowed := true, recurses := true, plainKeys := false, apart := false, narrowed := true }
def CallsBigUptoSaid : Prop := callsBigUptoRow.holds Try.pinned (OpenSpec.upto callsBigSpec)

/-- 'vigillaw08.CallsNone', WHERE WHAT IT READS IS OF BULK AT MOST 1048576: true; the input reads as it did. -/
def callsNoneUptoRow : OpenClaim := { program := "ytmfgdnagmacgdaa", sum := "887d0464364904fa60140e6544c701c9e8fc0fdc8df4771f436ea006b00f05c8", func := "vigil/vigillaw08.CallsNone", spec := "callsNone", inPlace := ["internal/bytealg.IndexByteString"], unfollowed := true, recurses := true, loops := true, plainKeys := false, apart := false, narrowed := true }
def CallsNoneUptoSaid : Prop := callsNoneUptoRow.holds Try.pinned (OpenSpec.upto callsNoneSpec)

/-- 'vigillaw08.CallsParts', WHERE WHAT IT READS IS OF BULK AT MOST 1048576: true; the input reads as it did. -/
def callsPartsUptoRow : OpenClaim := { program := "ytmfgdnagmacgdaa", sum := "887d0464364904fa60140e6544c701c9e8fc0fdc8df4771f436ea006b00f05c8", func := "vigil/vigillaw08.CallsParts", spec := "callsParts", inPlace := ["internal/bytealg.IndexByteString"], unfollowed := true, recurses := true, loops := true, plainKeys := false, apart := false, narrowed := true }
def CallsPartsUptoSaid : Prop := callsPartsUptoRow.holds Try.pinned (OpenSpec.upto callsPartsSpec)

/-- 'vigillaw09.OwnMore', WHERE WHAT IT READS IS OF BULK AT MOST 1048576: true; the input reads as it did. -/
def ownMoreUptoRow : OpenClaim := { program := "ytmfgdnagmacgdaa", sum := "887d0464364904fa60140e6544c701c9e8fc0fdc8df4771f436ea006b00f05c8", func := "vigil/vigillaw09.OwnMore", spec := "ownMore", inPlace := ["internal/bytealg.IndexByteString"], unfollowed := true, recurses := true, loops := true, plainKeys := false, apart := false, narrowed := true }
def OwnMoreUptoSaid : Prop := ownMoreUptoRow.holds Try.pinned (OpenSpec.upto ownMoreSpec)

/-- 'vigillaw09.OwnFirst', WHERE WHAT IT READS IS OF BULK AT MOST 1048576: true; the input reads as it did. -/
def ownFirstUptoRow : OpenClaim := { program := "ytmfgdnagmacgdaa", sum := "887d0464364904fa60140e6544c701c9e8fc0fdc8df4771f436ea006b00f05c8", func := "vigil/vigillaw09.OwnFirst", spec := "ownFirst", inPlace := ["internal/bytealg.IndexByteString"], unfollowed := true, recurses := true, loops := true, plainKeys := false, apart := false, narrowed := true }
def OwnFirstUptoSaid : Prop := ownFirstUptoRow.holds Try.pinned (OpenSpec.upto ownFirstSpec)

/-- 'vigillaw09.OwnInlined', WHERE WHAT IT READS IS OF BULK AT MOST 1048576: true; the input reads as it did. -/
def ownInlinedUptoRow : OpenClaim := { program := "ytmfgdnagmacgdaa", sum := "887d0464364904fa60140e6544c701c9e8fc0fdc8df4771f436ea006b00f05c8", func := "vigil/vigillaw09.OwnInlined", spec := "ownInlined", inPlace := ["internal/bytealg.IndexByteString"], unfollowed := true, recurses := true, loops := true, plainKeys := false, apart := false, narrowed := true }
def OwnInlinedUptoSaid : Prop := ownInlinedUptoRow.holds Try.pinned (OpenSpec.upto ownInlinedSpec)

end Rows
end Go.Proofs.Ytmfgdnagmacgdaa
