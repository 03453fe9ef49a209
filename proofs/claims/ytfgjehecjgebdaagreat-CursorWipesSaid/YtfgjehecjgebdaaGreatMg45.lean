/- Numbers that a law gets; 'append' behind a clipped row of entries. -/
import Derived.Test.YtfgjehecjgebdaaGreatMg44
import Derived.Test.YtfgjehecjgebdaaGreatMg05
import Derived.Test.YtfgjehecjgebdaaGreatMg08
import Derived.Deep.Strs
namespace Go.Proofs.YtfgjehecjgebdaaGreat
open Go.RowKit Go.Maps Go.ChangeMaps
section
variable {H:Type} {enc:TypeId×Value→H} {w:World} {P:Program}
open Go.Deep Go.ChangeShapes Go.WideShapes Go.ChangeAt
end
theorem own_cap {w:World} {B:Nat} {e:TypeId} {s:Nat} {A:Option Addr} {n m c:Nat} {xs:List Value} (h:w.ownsRow B e s (.slice A n c) m xs) (hn:n=m):n≤c:=by
 rcases h.2 with⟨h0,h1⟩|⟨g,cap,cur,h0,_,_,h1,_⟩
 ·rw[hn,h1];exact Nat.zero_le _
 ·have:=(Value.slice.inj h0).2.2
  omega
def slN:Value→Nat
 | .slice _ n _=>n
 | _=>0
end Go.Proofs.YtfgjehecjgebdaaGreat
