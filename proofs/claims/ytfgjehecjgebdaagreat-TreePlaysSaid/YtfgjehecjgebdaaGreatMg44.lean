/- Numbers that a law gets; 'append' behind a clipped row of entries. -/
import Derived.Test.YtfgjehecjgebdaaGreatMg43
import Derived.Test.YtfgjehecjgebdaaGreatMg09
import Derived.Test.YtfgjehecjgebdaaGreatMg07
import Derived.Deep.Strs
namespace Go.Proofs.YtfgjehecjgebdaaGreat
open Go.RowKit Go.Maps Go.ChangeMaps
section
variable {H:Type} {enc:TypeId×Value→H} {w:World} {P:Program}
open Go.Deep Go.ChangeShapes Go.WideShapes Go.ChangeAt
end
theorem and_mod {N:Int} {n:Nat} (h0:0 < n):∃rr kk:Nat,bits BinOp.and IntKind.i64 N 255=rr∧Int.tmod (rr:Int) (n:Int)=kk∧kk < n:=by
 obtain⟨rr,hrr⟩:∃x:Nat,(x:Int)=N % 256:=⟨(N % 256).toNat,by omega⟩
 refine⟨rr,rr % n,by rw[hrr];exact and_mask N 8 (by omega),?_,Nat.mod_lt _ h0⟩
 rw[Int.tmod_eq_emod_of_nonneg (by omega)]
 omega
end Go.Proofs.YtfgjehecjgebdaaGreat
