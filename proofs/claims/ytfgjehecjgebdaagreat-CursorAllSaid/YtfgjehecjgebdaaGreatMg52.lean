/- The reference's Begins; CursorAbove's walk. -/
import Derived.Test.YtfgjehecjgebdaaGreatMg51
import Derived.Test.YtfgjehecjgebdaaGreatMg48
import Derived.Test.YtfgjehecjgebdaaGreatMg38
namespace Go.Proofs.YtfgjehecjgebdaaGreat
open Go.RowKit Go.Maps Go.ChangeMaps
set_option maxHeartbeats 4000000
set_option maxRecDepth 100000
attribute [local go_sem] Oper.semAt_some
end Go.Proofs.YtfgjehecjgebdaaGreat
