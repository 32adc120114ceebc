/- The plain law of NumRing: the printed function answers true at every input. -/
import Derived.Test.YtghieckelggnfaaSpec
namespace Go.Proofs.Ytghieckelggnfaa.Pure
open Go.RowKit Go.Proofs.Ytghieckelggnfaa.Q Go.Proofs.YtghieckelggnfaaW.PrintWords Go.Proofs.YtghieckelggnfaaW.PrintLast
theorem NumRing : vigillaw10_NumRing.Pure := Q.NumRing
end Go.Proofs.Ytghieckelggnfaa.Pure
