/- The laws ValueFaults and ValueLogic: their own functions. No condition beyond those of their statements. -/
import Derived.Test.YtmfgdnagmacgdaaIc
import Derived.Test.YtmfgdnagmacgdaaMF
namespace Go.Proofs.Ytmfgdnagmacgdaa.Dv
open Go.RowKit Q
variable {K : Nat}
theorem dec_cond {P : Prop} {i : Decidable P} {A B C : Option DV} (h1 : P → A = C) (h2 : ¬ P → B = C) : (bif @decide P i then A else B) = C := by
  by_cases h : P
  · rw [decide_eq_true h]; exact h1 h
  · rw [decide_eq_false h]; exact h2 h
/-- An expression of a kind, with parts. -/
def mkE (op : Int) (l : List S51) : S51 := ⟨op, ByteArray.mk #[], ByteArray.mk #[], 0, l, 0⟩
theorem enc_mk (op : Int) (l : List S51) : enc51 (mkE op l) = .agg [.int .i64 op, .str (ByteArray.mk #[]), .str (ByteArray.mk #[]), .int .i64 0, .sl .no 6 (l.map enc51), .int .i64 0] := by rw [enc51_eq]; rfl
theorem BE_mk {op : Int} {l : List S51} (h : l.length < 9223372036854775808) (k : ∀ y, y ∈ l → BE y) : BE (mkE op l) := .mk _ h k
/-! ### a right type leaves the state as it was -/
/-! ### the codes of errors -/
/-! ### ValueLogic -/
end Go.Proofs.Ytmfgdnagmacgdaa.Dv
