/- The example of the layer of owners: the machine reckons it. No condition. -/
import Derived.Test.YtmfgdnagmacgdaaEe
namespace Go.Proofs.Ytmfgdnagmacgdaa.Dv
set_option maxRecDepth 100000 in
/-- live of layer 09. -/
theorem y81 (K : Nat) (h : 60 ≤ K) : lm K 81 [] = some (.bool true) := by
  obtain ⟨m, rfl⟩ : ∃ m, K = m + 60 := ⟨K - 60, by omega⟩
  exact lim_of (evL_of (k := 60) (by kernel_rfl))
end Go.Proofs.Ytmfgdnagmacgdaa.Dv
