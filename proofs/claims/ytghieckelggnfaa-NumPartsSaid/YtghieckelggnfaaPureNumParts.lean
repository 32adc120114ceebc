/- The plain law of NumParts: the printed function answers true at every input. -/
import Derived.Test.YtghieckelggnfaaSpec
namespace Go.Proofs.Ytghieckelggnfaa.Pure
open Go.RowKit Go.Proofs.Ytghieckelggnfaa.Q Go.Proofs.YtghieckelggnfaaW.PrintWords Go.Proofs.YtghieckelggnfaaW.PrintLast
theorem NumParts : vigillaw10_NumParts.Pure := Q.NumParts
end Go.Proofs.Ytghieckelggnfaa.Pure
