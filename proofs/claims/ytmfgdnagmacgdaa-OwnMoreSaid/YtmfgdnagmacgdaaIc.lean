/- What the type of an expression is; what an expression comes to: told by recursion; the program says it. No condition. -/
import Derived.Test.YtmfgdnagmacgdaaIa
import Derived.Test.YtmfgdnagmacgdaaMF
namespace Go.Proofs.Ytmfgdnagmacgdaa.Dv
open Go.RowKit Q
variable {K : Nat}
/-! ### types -/
set_option maxRecDepth 100000 in
theorem re90 (a b : Int) : R 90 (.agg [.int .i64 a, .int .i64 b]) = .agg [.int .i64 a, .int .i64 b] := by kernel_rfl
/-! ### what a right type says -/
/-! ### values -/
def rkCells (p : List S45) (q : List S35) (vals : List Int) (f : Bool) : List DV := [.sl .no 4 (p.map enc45), .sl .no 5 (q.map enc35), .sl .no 1 (vals.map encI), .bool f]
def rkAns (p : List S45) (q : List S35) (vals : List Int) (r : Int × Bool) : DV := .tup [.int .i64 r.1, .agg (rkCells p q vals r.2)]
theorem mk_rk (p : List S45) (q : List S35) (vals : List Int) (n : Int) (f : Bool) : DV.tup [.int .i64 n, .agg [.sl .no 4 (p.map enc45), .sl .no 5 (q.map enc35), .sl .no 1 (vals.map encI), .bool f]] = rkAns p q vals (n, f) := rfl
end Go.Proofs.Ytmfgdnagmacgdaa.Dv
