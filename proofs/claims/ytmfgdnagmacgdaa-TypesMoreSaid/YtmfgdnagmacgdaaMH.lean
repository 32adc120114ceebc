/- Parts of a proof, put together. No condition. -/
import Derived.Test.YtmfgdnagmacgdaaMG
import Derived.Test.YtmfgdnagmacgdaaMF
section
/- How many parts statements have: the document's answer; a program that is small has few. No condition. -/
namespace Go.Proofs.Ytmfgdnagmacgdaa.Dv
open Go.RowKit Q
variable {K : Nat}
mutual
/-- How many parts an expression has. -/
def sizeE : S51 → Nat
  | ⟨_, _, _, _, l, _⟩ => 1 + sizeEs l
def sizeEs : List S51 → Nat
  | [] => 0
  | x :: r => sizeE x + sizeEs r
end
theorem sizeE_eq (x : S51) : sizeE x = 1 + sizeEs x.f4 := by
  obtain ⟨a, b, c, d, l, e⟩ := x
  rw [sizeE]
/-! ### what is left of a number -/
theorem cond_ex2 {b : Bool} {x y : Option DV} {p : DV → Prop} (hx : b = true → ∃ d, x = some d ∧ p d) (hy : b = false → ∃ d, y = some d ∧ p d) : ∃ d, (bif b then x else y) = some d ∧ p d := by
  cases b
  · exact hy rfl
  · exact hx rfl
theorem wrap_down {v : Int} (h : 0 ≤ v) (h2 : v < 9223372036854775808) : IntKind.i64.wrap (v - 1) = v - 1 := by
  rw [Go.IntWalk.i64_left, Go.IntWalk.wrap64_in _ (by omega)]
/-! ### the document's number of parts -/
theorem wadd {a b : Nat} (h : a + b < 4000000000) : IntKind.i64.wrap ((a : Int) + (b : Int)) = ((a + b : Nat) : Int) := by
  rw [Go.IntWalk.i64_left, Go.IntWalk.wrap64_in _ (by omega)]; omega
end Go.Proofs.Ytmfgdnagmacgdaa.Dv
end
