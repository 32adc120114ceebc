/- The layer's own example: the machine reckons it. No condition. -/
import Derived.Test.YtmfgdnagmacgdaaEe
namespace Go.Proofs.Ytmfgdnagmacgdaa.Dv
set_option maxRecDepth 100000 in
/-- live of layer 02. -/
theorem y26 (K : Nat) (h : 50 ≤ K) : lm K 26 [] = some (.bool true) := by
  obtain ⟨m, rfl⟩ : ∃ m, K = m + 50 := ⟨K - 50, by omega⟩
  exact lim_of (evL_of (k := 60) (by kernel_rfl))
end Go.Proofs.Ytmfgdnagmacgdaa.Dv
