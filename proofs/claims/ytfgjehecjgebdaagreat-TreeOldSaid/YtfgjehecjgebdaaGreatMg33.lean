/- Pages: parse. -/
import Derived.Test.YtfgjehecjgebdaaGreatMg31
import Derived.Test.YtfgjehecjgebdaaGreatMg15
namespace Go.Proofs.YtfgjehecjgebdaaGreat
open Go.RowKit
structure PB (w:World) (n p g gen mk:Nat) (d:ByteArray):Prop where
 lay:w.heap[n]? = some (.cells #[.int .i64 p,.int .i64 g] 52 (0,0))
 sec:w.heap[n + 1]? = some (.cells #[.int .i64 gen,.int .u8 mk,.string d] 132 (0,0))
 res:w.heap[n + 2]? = some (.cells #[.int .i64 0,.int .i64 0,.int .i64 0,.int .i64 0] 78 (0,0))
end Go.Proofs.YtfgjehecjgebdaaGreat
