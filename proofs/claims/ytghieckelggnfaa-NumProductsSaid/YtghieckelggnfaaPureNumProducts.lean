/- The plain law of NumProducts: the printed function answers true at every input. -/
import Derived.Test.YtghieckelggnfaaSpec
namespace Go.Proofs.Ytghieckelggnfaa.Pure
open Go.RowKit Go.Proofs.Ytghieckelggnfaa.Q Go.Proofs.YtghieckelggnfaaW.PrintWords Go.Proofs.YtghieckelggnfaaW.PrintLast
theorem NumProducts : vigillaw10_NumProducts.Pure := Q.NumProducts
end Go.Proofs.Ytghieckelggnfaa.Pure
