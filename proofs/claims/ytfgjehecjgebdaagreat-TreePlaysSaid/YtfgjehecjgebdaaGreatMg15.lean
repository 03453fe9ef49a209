/- The acts of 09: two numbers, two texts each; how they open. -/
import Derived.Test.YtfgjehecjgebdaaGreatMg09
import Derived.Test.YtfgjehecjgebdaaGreatMg07
import Derived.Deep.Strs
namespace Go.Proofs.YtfgjehecjgebdaaGreat
open Go.ChangeShapes Go.WideShapes Go.ChangeAt Go.RowKit
structure Acts4 (w:World) (A:Option Addr) (len:Nat) (b off:Nat) (K N:Nat→Int) (S V:Nat→ByteArray):Prop where
 at_:0 < len→A=some ⟨b,off,none⟩
 lt:0 < len→b < w.heap.size
 cell:∀i,i < len→w.cell? ⟨b,off + i * 4,none⟩=some (.int .i64 (K i))∧w.cell? ⟨b,off + i * 4 + 1,none⟩=some (.int .i64 (N i))∧w.cell? ⟨b,off + i * 4 + 2,none⟩=some (.string (S i))∧w.cell? ⟨b,off + i * 4 + 3,none⟩=some (.string (V i))
 sz:∀i,i < len→(S i).size≤maxLen∧(V i).size≤maxLen
 bd:∀i,i < len→(-9223372036854775808≤K i∧K i≤9223372036854775807)∧(-9223372036854775808≤N i∧N i≤9223372036854775807)
theorem Acts4.kept {w w' A len b off K N S V} (h:Acts4 w A len b off K N S V) (k:Kept (fun _=>False) w w'):Acts4 w' A len b off K N S V :=
 ⟨h.at_,fun hl=>Nat.lt_of_lt_of_le (h.lt hl) k.size,fun i hi=>by
  have hb:=h.lt (by omega)
  have hc:=h.cell i hi
  have e:∀o,w'.cell? ⟨b,o,none⟩=w.cell? ⟨b,o,none⟩:=fun o=>World.cell?_of_block (w:=w) (k.block b hb id)
  rw[e,e,e,e]
  exact hc,h.sz,h.bd⟩
section
variable {H:Type} {enc:TypeId×Value→H} {w:World} {P:Program}
open Go.Deep
theorem open_acts4 {t e ti ts:TypeId} {f0 f1 f2 f3:Field} {v:Value} {d:DataW H} {ps:List MemPlace} (ht:P.underlying t=some (.slice e)) (he:P.underlying e=some (.struct #[f0,f1,f2,f3]))
  (hone:oneCellFields P #[f0,f1,f2,f3]=true) (hC:P.cellsOf e=4) (h0:f0.type=ti) (h1:f1.type=ti) (h2:f2.type=ts) (h3:f3.type=ts)
  (hti:P.underlying ti=some (.int .i64)) (hts:P.underlying ts=some .string)
  (hv:Value.okWide P w .any 0 t v) (h:DataW.Trod enc P w 0 (fun _=>true) true t v d ps) :
  ∃A len cap b off K N S V,v = .slice A len cap∧len≤maxLen∧Acts4 w A len b off K N S V:=by
 obtain⟨a0,len,cap,rfl⟩:=okWide_slice ht hv
 obtain⟨fuel,hf⟩:=h
 rcases open_slice_fields ht he hone hC hf with⟨hcs,_⟩|⟨a,len',cap',m,D,Pl,hcs,_,hl,hm,hmm,_,hi⟩
 ·simp[Value.cells] at hcs
  obtain⟨rfl,rfl,rfl⟩:=hcs
  exact⟨none,0,0,0,0,fun _=>0,fun _=>0,fun _=>⟨#[]⟩,fun _=>⟨#[]⟩,rfl,Nat.zero_le _,⟨fun h=>absurd h (by omega),fun h=>absurd h (by omega),fun i h=>absurd h (by omega),fun i h=>absurd h (by omega),fun i h=>absurd h (by omega)⟩⟩
 ·simp[Value.cells] at hcs
  obtain⟨rfl,rfl,rfl⟩:=hcs
  simp only[if_true] at hmm
  subst hmm
  have key:∀i,i < len → ∃r:(Int×Int)×ByteArray×ByteArray,
    (w.cell? (a.add (i * 4))=some (.int .i64 r.1.1)∧w.cell? (a.add (i * 4 + 1))=some (.int .i64 r.1.2)∧w.cell? (a.add (i * 4 + 2))=some (.string r.2.1)∧w.cell? (a.add (i * 4 + 3))=some (.string r.2.2)) ∧
    (r.2.1.size≤maxLen∧r.2.2.size≤maxLen)∧(-9223372036854775808≤r.1.1∧r.1.1≤9223372036854775807)∧(-9223372036854775808≤r.1.2∧r.1.2≤9223372036854775807):=by
   intro i hil
   obtain⟨ys,n,_,_,_,hf⟩:=hi i (by omega)
   obtain⟨v0,y0,hc0,_,ht0⟩:=hf 0 f0 rfl
   obtain⟨v1,y1,hc1,_,ht1⟩:=hf 1 f1 rfl
   obtain⟨v2,y2,hc2,_,ht2⟩:=hf 2 f2 rfl
   obtain⟨v3,y3,hc3,_,ht3⟩:=hf 3 f3 rfl
   rw[h0] at ht0
   rw[h1] at ht1
   rw[h2] at ht2
   rw[h3] at ht3
   obtain⟨x0,e0,_,w0⟩:=DataW.trod_int hti ht0
   obtain⟨x1,e1,_,w1⟩:=DataW.trod_int hti ht1
   obtain⟨s2,e2,_,w2⟩:=DataW.trod_string hts ht2
   obtain⟨s3,e3,_,w3⟩:=DataW.trod_string hts ht3
   simp at e0 e1 e2 e3
   subst e0 e1 e2 e3
   exact⟨((x0,x1),s2,s3),⟨by simpa using hc0,by simpa using hc1,by simpa using hc2,by simpa using hc3⟩,⟨w2,w3⟩,bounds_i64 w0,bounds_i64 w1⟩
  obtain⟨f,hfn⟩:=Go.Deep.choose_lt key
  obtain⟨b,off,spot⟩:=a
  by_cases hlen:0 < len
  ·have h00:=(hfn 0 hlen).1.1
   have hspot:spot=none:=by simpa[Addr.add] using World.cell?_spot h00
   subst hspot
   refine⟨some ⟨b,off,none⟩,len,_,b,off,fun i=>(f i).1.1,fun i=>(f i).1.2,fun i=>(f i).2.1,fun i=>(f i).2.2,rfl,by omega,⟨fun _=>rfl,fun _=>?_,fun i hi=>?_,fun i hi=>(hfn i hi).2.1,fun i hi=>(hfn i hi).2.2⟩⟩
   ·exact block_lt_of_cell (a:=(⟨b,off,none⟩:Addr).add (0 * 4)) h00
   ·have:=(hfn i hi).1
    have e1:∀n,(⟨b,off,none⟩:Addr).add n=⟨b,off + n,none⟩:=fun n=>by unfold Addr.add;split<;>simp_all
    simp only[e1] at this
    exact this
  ·exact⟨some ⟨b,off,spot⟩,len,_,0,0,fun _=>0,fun _=>0,fun _=>⟨#[]⟩,fun _=>⟨#[]⟩,rfl,by omega,⟨fun h=>absurd h hlen,fun h=>absurd h hlen,fun i h=>absurd h (by omega),fun i h=>absurd h (by omega),fun i h=>absurd h (by omega)⟩⟩
end
end Go.Proofs.YtfgjehecjgebdaaGreat
