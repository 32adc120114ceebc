/- The plain law of LexLong: the printed function answers true at every input. -/
import Derived.Test.YtodobpkladegnaaPc
namespace Go.Proofs.Ytodobpkladegnaa.Pure
open Go.RowKit Go.Proofs.Ytodobpkladegnaa.Q Go.Proofs.YtodobpkladegnaaW.PrintWords Go.Proofs.YtodobpkladegnaaW.PrintLast
theorem LexLong : vigillaw01_LexLong.Pure := Q.LexLong
end Go.Proofs.Ytodobpkladegnaa.Pure
