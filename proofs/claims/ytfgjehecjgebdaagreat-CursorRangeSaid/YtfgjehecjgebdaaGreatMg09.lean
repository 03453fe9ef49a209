/- The laws' Cut: a text's first bytes. -/
import Derived.Test.YtfgjehecjgebdaaGreatProg
import Derived.Test.YtfgjehecjgebdaaGreatMg04
namespace Go.Proofs.YtfgjehecjgebdaaGreat
open Go.RowKit
def cutTo (s:ByteArray) (n:Nat):ByteArray:=if n < s.size then s.extract 0 n else s
theorem cutTo_size (s:ByteArray) (n:Nat):(cutTo s n).size≤n:=by unfold cutTo;split<;>(try simp)<;>omega
theorem Cut_calls (s:ByteArray) (n:Nat) (w:World) (_hm:s.size≤maxLen) (_hn:n≤100000):Calls Tryz.prog 16 #[.string s,.int .i64 n] w fun e w'=>e = .returned (.string (cutTo s n))∧w=w':=by
 unfold maxLen at _hm
 by_cases h:n < s.size
 ·have HC:Hid (cutTo s n=s.extract 0 n):=by simp[Hid,cutTo,h]
  go_enter Tryz.func16,Tryz.ntmps16
  go_wp2
  go_ret
  exact⟨by rw[HC.out];rfl,rfl⟩
 ·have HC:Hid (cutTo s n=s):=by simp[Hid,cutTo,h]
  go_enter Tryz.func16,Tryz.ntmps16
  go_wp2
  go_ret
  exact⟨by rw[HC.out];rfl,rfl⟩
end Go.Proofs.YtfgjehecjgebdaaGreat
