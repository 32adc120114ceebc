/- Parts of a proof, put together. No condition. -/
import Derived.Test.YtmfgdnagmacgdaaMG
import Derived.Test.YtmfgdnagmacgdaaMF
section
/- How many parts statements have: the document's answer; a program that is small has few. No condition. -/
namespace Go.Proofs.Ytmfgdnagmacgdaa.Dv
open Go.RowKit Q
variable {K : Nat}
/-! ### what is left of a number -/
theorem cond_ex2 {b : Bool} {x y : Option DV} {p : DV → Prop} (hx : b = true → ∃ d, x = some d ∧ p d) (hy : b = false → ∃ d, y = some d ∧ p d) : ∃ d, (bif b then x else y) = some d ∧ p d := by
  cases b
  · exact hy rfl
  · exact hx rfl
/-! ### the document's number of parts -/
theorem wadd {a b : Nat} (h : a + b < 4000000000) : IntKind.i64.wrap ((a : Int) + (b : Int)) = ((a + b : Nat) : Int) := by
  rw [Go.IntWalk.i64_left, Go.IntWalk.wrap64_in _ (by omega)]; omega
theorem wadd1 {a : Nat} (h : a + 1 < 4000000000) : IntKind.i64.wrap ((a : Int) + 1) = ((a + 1 : Nat) : Int) := wadd (b := 1) h
end Go.Proofs.Ytmfgdnagmacgdaa.Dv
end
