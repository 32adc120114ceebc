/- The plain law of LexScans: the printed function answers true at every input. -/
import Derived.Test.YtodobpkladegnaaPc
namespace Go.Proofs.Ytodobpkladegnaa.Pure
open Go.RowKit Go.Proofs.Ytodobpkladegnaa.Q Go.Proofs.YtodobpkladegnaaW.PrintWords Go.Proofs.YtodobpkladegnaaW.PrintLast
theorem LexScans : vigillaw01_LexScans.Pure := Q.LexScans
end Go.Proofs.Ytodobpkladegnaa.Pure
