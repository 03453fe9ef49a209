/- Texts that a law gets. -/
import Derived.Test.YtfgjehecjgebdaaGreatMg13
import Derived.Test.YtfgjehecjgebdaaGreatMg09
import Derived.Deep.Strs
namespace Go.Proofs.YtfgjehecjgebdaaGreat
open Go.RowKit Go.Maps Go.ChangeMaps
structure Strs (w:World) (A:Option Addr) (len:Nat) (b off:Nat) (S:Nat→ByteArray):Prop where
 at_:0 < len→A=some ⟨b,off,none⟩
 lt:0 < len→b < w.heap.size
 cell:∀i,i < len→w.cell? ⟨b,off + i,none⟩=some (.string (S i))
 sz:∀i,i < len→(S i).size≤maxLen
theorem Strs.kept {w w' A len b off S} (h:Strs w A len b off S) (k:Kept (fun _=>False) w w'):Strs w' A len b off S :=
 ⟨h.at_,fun hl=>Nat.lt_of_lt_of_le (h.lt hl) k.size,fun i hi=>by
  have hb:=h.lt (by omega)
  exact(World.cell?_of_block (w:=w) (k.block b hb id)).trans (h.cell i hi),h.sz⟩
section
variable {H:Type} {enc:TypeId×Value→H} {w:World} {P:Program}
open Go.Deep Go.ChangeShapes Go.WideShapes
theorem open_texts {t e:TypeId} {v:Value} {d:DataW H} {ps:List MemPlace} (ht:P.underlying t=some (.slice e)) (he:P.underlying e=some .string) (hc:P.cellsOf e=1)
  (hv:Value.okWide P w .any 0 t v) (h:DataW.Trod enc P w 0 (fun _=>true) true t v d ps) :
  ∃A len cap b off S,v = .slice A len cap∧len≤maxLen∧Strs w A len b off S:=by
 obtain⟨a0,len,cap,rfl⟩:=okWide_slice ht hv
 obtain⟨fuel,hf⟩:=h
 rcases Go.Deep.open_strs ht he hc hf with⟨hcs,_⟩|⟨a,len',cap',m,Sx,hcs,_,hl,hm,hmm,_,hx⟩
 ·simp[Value.cells] at hcs
  obtain⟨rfl,rfl,rfl⟩:=hcs
  exact⟨none,0,0,0,0,fun _=>⟨#[]⟩,rfl,Nat.zero_le _,⟨fun h=>absurd h (by omega),fun h=>absurd h (by omega),fun i h=>absurd h (by omega),fun i h=>absurd h (by omega)⟩⟩
 ·simp[Value.cells] at hcs
  obtain⟨rfl,rfl,rfl⟩:=hcs
  simp only[if_true] at hmm
  subst hmm
  obtain⟨b,off,spot⟩:=a
  by_cases hlen:0 < len
  ·have h00:=(hx 0 (by omega)).1
   have hspot:spot=none:=by simpa[Addr.add] using World.cell?_spot h00
   subst hspot
   have e1:∀n,(⟨b,off,none⟩:Addr).add n=⟨b,off + n,none⟩:=fun n=>by unfold Addr.add;split<;>simp_all
   refine⟨some ⟨b,off,none⟩,len,_,b,off,Sx,rfl,by omega,⟨fun _=>rfl,fun _=>block_lt_of_cell (a:=(⟨b,off,none⟩:Addr).add 0) h00,fun i hi=>?_,fun i hi=>(hx i (by omega)).2⟩⟩
   rw[←e1];exact(hx i (by omega)).1
  ·exact⟨some ⟨b,off,spot⟩,len,_,0,0,fun _=>⟨#[]⟩,rfl,by omega,⟨fun h=>absurd h hlen,fun h=>absurd h hlen,fun i h=>absurd h (by omega),fun i h=>absurd h (by omega)⟩⟩
end
end Go.Proofs.YtfgjehecjgebdaaGreat
