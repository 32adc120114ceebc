/- Lean functions with the answers of the Go functions that the statements reach, the proofs that the calls answer so, and the rows (written by a program of this session, wip/mkprint.py). No condition beyond those of the statements. -/
import Derived.Test.YtmfgdnagmacgdaaQx0
namespace Go.Proofs.Ytmfgdnagmacgdaa.Q
open Go.RowKit Go.Proofs.YtmfgdnagmacgdaaW.PrintWords Go.Proofs.YtmfgdnagmacgdaaW.PrintLast Go.Proofs.YtmfgdnagmacgdaaW.PrintMore
attribute [local go_sem] max2_int min2_int max_two min_two max_three min_three max_four min_four   -- for this text's walks alone
set_option linter.unusedVariables false
set_option linter.unusedSimpArgs false

/-! ### vigilref02_RestExpr: function 40 -/
/-! ### vigilref02_Rest: function 76 -/
end Go.Proofs.Ytmfgdnagmacgdaa.Q
