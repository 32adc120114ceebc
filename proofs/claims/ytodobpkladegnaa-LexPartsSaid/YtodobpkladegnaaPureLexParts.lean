/- The plain law of LexParts: the printed function answers true at every input. -/
import Derived.Test.YtodobpkladegnaaPe
namespace Go.Proofs.Ytodobpkladegnaa.Pure
open Go.RowKit Go.Proofs.Ytodobpkladegnaa.Q Go.Proofs.YtodobpkladegnaaW.PrintWords Go.Proofs.YtodobpkladegnaaW.PrintLast
theorem LexParts : vigillaw01_LexParts.Pure := Q.LexParts
end Go.Proofs.Ytodobpkladegnaa.Pure
