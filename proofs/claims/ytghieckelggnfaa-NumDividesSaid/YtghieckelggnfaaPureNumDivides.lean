/- The plain law of NumDivides: the printed function answers true at every input. -/
import Derived.Test.YtghieckelggnfaaSpec
namespace Go.Proofs.Ytghieckelggnfaa.Pure
open Go.RowKit Go.Proofs.Ytghieckelggnfaa.Q Go.Proofs.YtghieckelggnfaaW.PrintWords Go.Proofs.YtghieckelggnfaaW.PrintLast
theorem NumDivides : vigillaw10_NumDivides.Pure := Q.NumDivides
end Go.Proofs.Ytghieckelggnfaa.Pure
