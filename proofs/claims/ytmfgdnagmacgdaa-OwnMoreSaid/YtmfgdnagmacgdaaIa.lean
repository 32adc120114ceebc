/- Where names stand; all variables of a program; first values; a variable that is set: the program and the document's answer say the same. No condition. -/
import Derived.Test.YtmfgdnagmacgdaaMG
import Derived.Test.YtmfgdnagmacgdaaMH
import Derived.Test.YtmfgdnagmacgdaaMF
namespace Go.Proofs.Ytmfgdnagmacgdaa.Dv
open Go.RowKit Q
variable {K : Nat}
def encI (n : Int) : DV := .int .i64 n
/-! ### a small program has few -/
def FitP (Q : Prop) (d : DV) : Prop := ∃ b : Bool, d = .bool b ∧ (b = true → Q)
theorem fitp_no (Q : Prop) : ∃ d, some (DV.bool false) = some d ∧ FitP Q d := ⟨_, rfl, false, rfl, fun h => by cases h⟩
end Go.Proofs.Ytmfgdnagmacgdaa.Dv
