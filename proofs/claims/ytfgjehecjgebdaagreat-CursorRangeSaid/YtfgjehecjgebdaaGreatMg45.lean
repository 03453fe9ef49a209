/- Numbers that a law gets; 'append' behind a clipped row of entries. -/
import Derived.Test.YtfgjehecjgebdaaGreatMg44
import Derived.Test.YtfgjehecjgebdaaGreatMg08
import Derived.Test.YtfgjehecjgebdaaGreatMg09
import Derived.Deep.Strs
namespace Go.Proofs.YtfgjehecjgebdaaGreat
open Go.RowKit Go.Maps Go.ChangeMaps
section
variable {H:Type} {enc:TypeId×Value→H} {w:World} {P:Program}
open Go.Deep Go.ChangeShapes Go.WideShapes Go.ChangeAt
end
theorem own_cap {w:World} {B:Nat} {e:TypeId} {s:Nat} {A:Option Addr} {n m c:Nat} {xs:List Value} (h:w.ownsRow B e s (.slice A n c) m xs) (hn:n=m):n≤c:=by
 rcases h.2 with⟨h0,h1⟩|⟨g,cap,cur,h0,_,_,h1,_⟩
 ·rw[hn,h1];exact Nat.zero_le _
 ·have:=(Value.slice.inj h0).2.2
  omega
theorem EnS.part {w b off n c E} (h:EnS w (.slice (some ⟨b,off,none⟩) n c) E):∀j (hj:j < E.length),w.cell? ⟨b,off + j * 2,none⟩=some (Ss E[j].1)∧w.cell? ⟨b,off + j * 2 + 1,none⟩=some (Ss E[j].2):=by
 intro j hj
 obtain⟨b2,o2,c2,e, -,p⟩:=h.at hj
 obtain⟨e1, -, -⟩:=Value.slice.inj e
 obtain⟨e1,e2, -⟩:=Addr.mk.inj (Option.some.inj e1)
 subst e1 e2
 exact p
theorem part_take {w:World} {b off:Nat} {E:List KV} (h:∀j (hj:j < E.length),w.cell? ⟨b,off + j * 2,none⟩=some (Ss E[j].1)∧w.cell? ⟨b,off + j * 2 + 1,none⟩=some (Ss E[j].2)) (k:Nat) :
  ∀j (hj:j < (E.take k).length),w.cell? ⟨b,off + j * 2,none⟩=some (Ss (E.take k)[j].1)∧w.cell? ⟨b,off + j * 2 + 1,none⟩=some (Ss (E.take k)[j].2):=by
 intro j hj
 rw[List.length_take] at hj
 rw[List.getElem_take]
 exact h j (by omega)
def slN:Value→Nat
 | .slice _ n _=>n
 | _=>0
end Go.Proofs.YtfgjehecjgebdaaGreat
