/- The plain law of LexNames: the printed function answers true at every input. -/
import Derived.Test.YtodobpkladegnaaPc
namespace Go.Proofs.Ytodobpkladegnaa.Pure
open Go.RowKit Go.Proofs.Ytodobpkladegnaa.Q Go.Proofs.YtodobpkladegnaaW.PrintWords Go.Proofs.YtodobpkladegnaaW.PrintLast
theorem LexNames : vigillaw01_LexNames.Pure := Q.LexNames
end Go.Proofs.Ytodobpkladegnaa.Pure
