/- The plain law of LexAgain: the printed function answers true at every input. -/
import Derived.Test.YtodobpkladegnaaPd
namespace Go.Proofs.Ytodobpkladegnaa.Pure
open Go.RowKit Go.Proofs.Ytodobpkladegnaa.Q Go.Proofs.YtodobpkladegnaaW.PrintWords Go.Proofs.YtodobpkladegnaaW.PrintLast
theorem LexAgain : vigillaw01_LexAgain.Pure := Q.LexAgain
end Go.Proofs.Ytodobpkladegnaa.Pure
