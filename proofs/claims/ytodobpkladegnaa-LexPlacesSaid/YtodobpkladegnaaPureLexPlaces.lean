/- The plain law of LexPlaces: the printed function answers true at every input. -/
import Derived.Test.YtodobpkladegnaaPg
namespace Go.Proofs.Ytodobpkladegnaa.Pure
open Go.RowKit Go.Proofs.Ytodobpkladegnaa.Q Go.Proofs.YtodobpkladegnaaW.PrintWords Go.Proofs.YtodobpkladegnaaW.PrintLast
theorem LexPlaces : vigillaw01_LexPlaces.Pure := Q.LexPlaces
end Go.Proofs.Ytodobpkladegnaa.Pure
