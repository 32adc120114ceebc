/- Lean functions with the answers of the Go functions that the statements reach, the proofs that the calls answer so, and the rows (written by a program of this session, wip/mkprint.py). No condition beyond those of the statements. -/
import Derived.Test.YtghieckelggnfaaProg
import Derived.Below
import Derived.Deep.Draws
import Derived.Deep.AppendLies
import Derived.Maps.AppendAt
import Derived.OwnWalk
import Derived.Laws.BytesArg
import Derived.Laws.MakeOwn
import Derived.Laws.OwnMore
import Derived.Deep.OwnRows
import Derived.Tactics
import Derived.Lib.ConvBytes
import Derived.Laws.Slices
import Derived.WalkKit
import Derived.KernelRfl
import Derived.RowKit3
import Derived.Deep.LoopGhost
import Derived.Deep.QuietTactic
import Derived.BigQuiet
import Derived.WideLaws
import Derived.Deep.DeepCutAuto
import Derived.Deep.CutBlock
import Derived.Deep.RegionHeld3
import Derived.Laws.Rows
import Derived.Lib.AppendStr
import Derived.ArgAppend
import Derived.Laws.IdiomCopy
import Derived.OrdersHeld
import Derived.Laws.BitsLemmas
import Derived.RowKit
import Derived.ScopeJumps
import Derived.WalkMore
import Derived.Test.YtghieckelggnfaaWWords
import Derived.Test.YtghieckelggnfaaWLast
import Derived.Test.YtghieckelggnfaaWTab
import Derived.Test.YtghieckelggnfaaWFour
import Derived.Test.YtghieckelggnfaaWQPut
import Derived.Test.YtghieckelggnfaaWApart
import Derived.Test.YtghieckelggnfaaWArr
import Derived.Test.YtghieckelggnfaaWZeros
import Derived.Test.YtghieckelggnfaaWFoot
import Derived.Test.YtghieckelggnfaaWKept
import Derived.Test.YtghieckelggnfaaWShare
import Derived.Test.YtghieckelggnfaaWN
import Derived.Test.YtghieckelggnfaaWFootNe
import Derived.Test.YtghieckelggnfaaWAt
import Derived.Test.YtghieckelggnfaaWEqStruct
import Derived.Test.YtghieckelggnfaaWRepsOne
import Derived.Test.YtghieckelggnfaaWInv
import Derived.Test.YtghieckelggnfaaWInvWords
import Derived.Test.YtghieckelggnfaaWGuard
import Derived.Test.YtghieckelggnfaaWNEv
import Derived.Test.YtghieckelggnfaaWMore
namespace Go.Proofs.Ytghieckelggnfaa.Q
open Go.RowKit Go.Proofs.YtghieckelggnfaaW.PrintWords Go.Proofs.YtghieckelggnfaaW.PrintLast Go.Proofs.YtghieckelggnfaaW.PrintMore
attribute [local go_sem] max2_int min2_int max_two min_two max_three min_three max_four min_four   -- for this text's walks alone
set_option linter.unusedVariables false
set_option linter.unusedSimpArgs false



def errW : Option Int → Value
  | none => .nilIface
  | some c => .iface 0 (.int .i64 c)
theorem errW_none : errW none = .nilIface := rfl
theorem errW_some (c : Int) : errW (some c) = .iface 0 (.int .i64 c) := rfl

theorem info2 : (Try.prog.info? 2).map (fun i => (i.zero, i.size, i.bytes)) = some (some (.int .i64 0), 1, 8) := by kernel_rfl
-- the values' own types

end Go.Proofs.Ytghieckelggnfaa.Q
