/- The plain law of NumSums: the printed function answers true at every input. -/
import Derived.Test.YtghieckelggnfaaSpec
namespace Go.Proofs.Ytghieckelggnfaa.Pure
open Go.RowKit Go.Proofs.Ytghieckelggnfaa.Q Go.Proofs.YtghieckelggnfaaW.PrintWords Go.Proofs.YtghieckelggnfaaW.PrintLast
theorem NumSums : vigillaw10_NumSums.Pure := Q.NumSums
end Go.Proofs.Ytghieckelggnfaa.Pure
