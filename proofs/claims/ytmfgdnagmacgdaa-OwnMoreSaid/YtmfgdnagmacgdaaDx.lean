/- The value machine: values told as trees of expressions and statements; what is known of the three functions that range over an iterator, and of strings.IndexByte. No condition. -/
import Derived.Test.YtmfgdnagmacgdaaDb
import Derived.Test.YtmfgdnagmacgdaaQx7
import Derived.Test.YtmfgdnagmacgdaaQx14
import Derived.Test.YtmfgdnagmacgdaaQx15
namespace Go.Proofs.Ytmfgdnagmacgdaa.Dv
open Q
def dec51 : Nat → DV → Option S51
  | 0, _ => none
  | n + 1, .agg [.int .i64 a, .str b, .str c, .int .i64 d, .sl _ _ xs, .int .i64 e] => if xs.length ≤ 9223372036854775807 then (xs.mapM (dec51 n)).map fun l => ⟨a, b, c, d, l, e⟩ else none
  | _, _ => none
/-- A list that lies in one cell. -/
def decL {α : Type} (dec : DV → Option α) : DV → Option (List α)
  | .sl _ _ ys => if ys.length ≤ 9223372036854775807 then ys.mapM dec else none
  | _ => none
def dec56 : Nat → DV → Option S56
  | 0, _ => none
  | n + 1, .agg [.int .i64 a, .str b, .str c, .int .i64 d, .int .i64 e0, .str e1, .str e2, .int .i64 e3, .sl g s es, .int .i64 e5, .sl _ _ xs, .int .i64 at_] =>
    if xs.length ≤ 9223372036854775807 then (dec51 n (.agg [.int .i64 e0, .str e1, .str e2, .int .i64 e3, .sl g s es, .int .i64 e5])).bind fun e => (xs.mapM (decL (dec56 n))).map fun l => ⟨a, b, c, d, e, l, at_⟩ else none
  | _, _ => none
/-- What is known: CheckExpr, Reads, sizeOf, IndexByte. -/
def knT (k : Nat) (f : Nat) (args : List DV) : Option DV :=
  match f, args with
  | 41, [d] => (dec51 k d).bind fun x => (tree_CheckExpr.f k x.f0 x.f1 x.f2 x.f3 x.f4 x.f5).map (.int .i64 ·)
  | 42, [d] => (dec51 k d).bind fun x => (tree_Reads.f k x.f0 x.f1 x.f2 x.f3 x.f4 x.f5).map fun l => .sl .no 1 (l.map .str)
  | 233, [.str s, .int .u8 c] => some (.int .i64 (Lib.indexByte s.data.toList c.toNat.toUInt8))
  | 98, [d] => (decL (dec56 k) d).bind fun l => (tree_sizeOf.f k l).map (.int .i64 ·)
  | _, _ => none
end Go.Proofs.Ytmfgdnagmacgdaa.Dv
