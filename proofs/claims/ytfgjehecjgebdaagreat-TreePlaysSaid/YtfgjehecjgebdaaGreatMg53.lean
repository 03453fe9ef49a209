/- TreeFull: the walk. -/
import Derived.Test.YtfgjehecjgebdaaGreatMg51
import Derived.Test.YtfgjehecjgebdaaGreatMg46
import Derived.Test.YtfgjehecjgebdaaGreatMg44
namespace Go.Proofs.YtfgjehecjgebdaaGreat
open Go.RowKit Go.Maps Go.ChangeMaps
attribute [local go_sem] Oper.semAt_some
theorem act_cells {w:World} {g:Nat} {k n:Int} {s t:ByteArray} {T:TypeId} {f} (h:w.heap[g]? = some (.cells #[.int .i64 k,.int .i64 n,.string s,.string t] T f)) :
  w.cell? ⟨g,0,none⟩=some (.int .i64 k)∧w.cell? ⟨g,1,none⟩=some (.int .i64 n)∧w.cell? ⟨g,2,none⟩=some (.string s)∧w.cell? ⟨g,3,none⟩=some (.string t):=by
 refine⟨?_,?_,?_,?_⟩<;>(rw[cell_heap h];rfl)
end Go.Proofs.YtfgjehecjgebdaaGreat
