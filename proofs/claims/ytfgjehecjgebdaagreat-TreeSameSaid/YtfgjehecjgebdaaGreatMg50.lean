/- Numbers that a law gets; 'append' behind a clipped row of entries. -/
import Derived.Test.YtfgjehecjgebdaaGreatMg46
import Derived.Test.YtfgjehecjgebdaaGreatMg19
namespace Go.Proofs.YtfgjehecjgebdaaGreat
open Go.RowKit Go.Maps Go.ChangeMaps
structure Nums (w:World) (A:Option Addr) (len:Nat) (b off:Nat) (N:Nat→Int):Prop where
 at_:0 < len→A=some ⟨b,off,none⟩
 lt:0 < len→b < w.heap.size
 cell:∀i,i < len→w.cell? ⟨b,off + i,none⟩=some (.int .i64 (N i))
 bd:∀i,i < len → -9223372036854775808≤N i∧N i≤9223372036854775807
theorem Nums.kept {w w' A len b off N} (h:Nums w A len b off N) (k:Kept (fun _=>False) w w'):Nums w' A len b off N :=
 ⟨h.at_,fun hl=>Nat.lt_of_lt_of_le (h.lt hl) k.size,fun i hi=>by
  have hb:=h.lt (by omega)
  exact(World.cell?_of_block (w:=w) (k.block b hb id)).trans (h.cell i hi),h.bd⟩
section
variable {H:Type} {enc:TypeId×Value→H} {w:World} {P:Program}
open Go.Deep Go.ChangeShapes Go.WideShapes Go.ChangeAt
theorem open_nums {t e:TypeId} {v:Value} {d:DataW H} {ps:List MemPlace} (ht:P.underlying t=some (.slice e)) (he:P.underlying e=some (.int .i64)) (hc:P.cellsOf e=1)
  (hv:Value.okWide P w .any 0 t v) (h:DataW.Trod enc P w 0 (fun _=>true) true t v d ps) :
  ∃A len cap b off N,v = .slice A len cap∧len≤maxLen∧Nums w A len b off N:=by
 obtain⟨a0,len,cap,rfl⟩:=okWide_slice ht hv
 obtain⟨fuel,hf⟩:=h
 rcases open_ints ht he hc hf with⟨hcs,_⟩|⟨a,len',cap',zs,hcs,_,hl,hm,hmm,_,hx,hz⟩
 ·simp[Value.cells] at hcs
  obtain⟨rfl,rfl,rfl⟩:=hcs
  exact⟨none,0,0,0,0,fun _=>0,rfl,Nat.zero_le _,⟨fun h=>absurd h (by omega),fun h=>absurd h (by omega),fun i h=>absurd h (by omega),fun i h=>absurd h (by omega)⟩⟩
 ·simp[Value.cells] at hcs
  obtain⟨rfl,rfl,rfl⟩:=hcs
  simp only[if_true] at hmm
  obtain⟨b,off,spot⟩:=a
  by_cases hlen:0 < len
  ·have h00:=hx 0 (by omega)
   have hspot:spot=none:=by simpa[Addr.add] using World.cell?_spot h00
   subst hspot
   have e1:∀n,(⟨b,off,none⟩:Addr).add n=⟨b,off + n,none⟩:=fun n=>by unfold Addr.add;split<;>simp_all
   refine⟨some ⟨b,off,none⟩,len,_,b,off,fun i=>zs.getD i 0,rfl,by omega,⟨fun _=>rfl,fun _=>block_lt_of_cell (a:=(⟨b,off,none⟩:Addr).add 0) h00,fun i hi=>?_,fun i hi=>?_⟩⟩
   ·rw[←e1];exact hx i (by omega)
   ·have hi':i < zs.length:=by omega
    have:zs.getD i 0=zs[i]:=by simp[List.getD,hi']
    simp only[this]
    exact bounds_i64 (hz _ (List.getElem_mem hi'))
  ·exact⟨some ⟨b,off,spot⟩,len,_,0,0,fun _=>0,rfl,by omega,⟨fun h=>absurd h hlen,fun h=>absurd h hlen,fun i h=>absurd h (by omega),fun i h=>absurd h (by omega)⟩⟩
end
theorem eCells_off {w:World} {b off:Nat} {E:List KV} (h:∀j (hj:j < E.length),w.cell? ⟨b,off + j * 2,none⟩=some (Ss E[j].1)∧w.cell? ⟨b,off + j * 2 + 1,none⟩=some (Ss E[j].2)) :
  ∀j u,(eCells E)[j]? = some u→w.cell? ((⟨b,off,none⟩:Addr).add j)=some u:=by
 intro j u hu
 have hl:j < (eCells E).length:=(List.getElem?_eq_some_iff.1 hu).1
 rw[eCells_len] at hl
 have hq:j / 2 < E.length:=by omega
 obtain⟨e1,e2⟩:=eCells_at E (j / 2) hq
 obtain⟨c1,c2⟩:=h (j / 2) hq
 rw[Addr.add_lit]
 rcases (show j=j / 2 * 2∨j=j / 2 * 2 + 1 by omega) with e|e
 ·rw[←e] at e1 c1
  rw[c1, ←hu,e1]
 ·rw[←e] at e2
  rw[show off + j / 2 * 2 + 1=off + j by omega] at c2
  rw[c2, ←hu,e2]
theorem own_cap {w:World} {B:Nat} {e:TypeId} {s:Nat} {A:Option Addr} {n m c:Nat} {xs:List Value} (h:w.ownsRow B e s (.slice A n c) m xs) (hn:n=m):n≤c:=by
 rcases h.2 with⟨h0,h1⟩|⟨g,cap,cur,h0,_,_,h1,_⟩
 ·rw[hn,h1];exact Nat.zero_le _
 ·have:=(Value.slice.inj h0).2.2
  omega
theorem run_app_cut {w:World} {ty b o1 b2 o2 c n m:Nat} {E1 E2:List KV} (hn:n=E1.length) (hm:m=E2.length) (hb:b < w.heap.size)
  (h1:∀j (hj:j < E1.length),w.cell? ⟨b,o1 + j * 2,none⟩=some (Ss E1[j].1)∧w.cell? ⟨b,o1 + j * 2 + 1,none⟩=some (Ss E1[j].2))
  (h2:∀j (hj:j < E2.length),w.cell? ⟨b2,o2 + j * 2,none⟩=some (Ss E2[j].1)∧w.cell? ⟨b2,o2 + j * 2 + 1,none⟩=some (Ss E2[j].2)) (hl:n + m≤100000) :
  ∃A c' w',(Builtin.append_ #[70,70] ty #[.slice (some ⟨b,o1,none⟩) n n,.slice (some ⟨b2,o2,none⟩) m c]).run Tryz.prog w = .ok (.slice A (n + m) c') w'∧Hid (EnS w' (.slice A (n + m) c') (E1 ++ E2))∧Hid (Kept (fun _=>False) w w')∧Hid ((∀b' o',A=some ⟨b',o',none⟩→b'=b∨w.heap.size≤b')∧n + m≤c'):=by
 subst hn hm
 obtain⟨i,hi,z1,z2,z3⟩:=info_parts ent_info
 have c1:=eCells_off h1
 have c2:=eCells_off h2
 by_cases h0:E2 = []
 ·subst h0
  have hr:=run_append_room_cells (P:=Tryz.prog) w 70 ty 75 i Tryz.underlying70 hi b o1 E1.length E1.length ⟨b2,o2,none⟩ 0 c [] (by simp) (fun j u hu=>by simp at hu) (by simp) (by simp) (fun j hj=>by simp at hj) (fun j hj=>by simp at hj)
  refine⟨_,_,_,hr,?_,Kept.refl _ _,fun b' o' e=>.inl (Addr.mk.inj (Option.some.inj e)).1.symm,by simp⟩
  rw[List.append_nil]
  exact⟨_,_,rfl,.inr ⟨b,o1,rfl,hb,h1⟩⟩
 ·have hp:0 < E2.length:=List.length_pos_iff.2 h0
  obtain⟨v',w',hr,hown,hg⟩:=run_append_arg_grows (P:=Tryz.prog) w 70 ty 75 i (.agg #[.string ⟨#[]⟩,.string ⟨#[]⟩]) 2 32 Tryz.underlying70 hi z1 z2 z3 rfl (by decide) ⟨b,o1,none⟩ E1.length E1.length (eCells E1) (eCells_len E1) c1 ⟨b2,o2,none⟩ E2.length c (eCells E2) (eCells_len E2) c2 (by omega) (by unfold maxLen;omega) (by omega)
  have hE:ERow w' w.heap.size v' (E1 ++ E2):=by
   show w'.ownsRow _ _ _ _ _ _
   rw[List.length_append,eCells_app];exact hown
  obtain⟨A,c',rfl⟩:=hE.en.slice
  rw[List.length_append] at hr hE
  refine⟨A,c',w',hr,hE.en,⟨hg.os,hg.tape,hg.output,hg.size,fun k hk _=>hg.block k hk (by simp)⟩,fun b' o' e=>.inr ?_,own_cap hE (by rw[List.length_append])⟩
  subst e
  exact own_ge hE rfl
theorem step_cut {w:World} {ops:Array Oper} {o:Oper} {a:Act} {K:Act→World→Prop} {Q:Exit→Act→World→Prop} {E:Prop} (hgd:o.guard=none) (s x:Operand)
  (ho:o.op = .call { callee:=.builtin .append,args := #[s,x],argTypes := #[70,70] })
  {b o1 b2 o2 c n m:Nat} {E1 E2:List KV} (hs:a.eval s = .slice (some ⟨b,o1,none⟩) n n) (hx:a.eval x = .slice (some ⟨b2,o2,none⟩) m c) (hn:n=E1.length) (hm:m=E2.length) (hb:b < w.heap.size)
  (h1:∀j (hj:j < E1.length),w.cell? ⟨b,o1 + j * 2,none⟩=some (Ss E1[j].1)∧w.cell? ⟨b,o1 + j * 2 + 1,none⟩=some (Ss E1[j].2))
  (h2:∀j (hj:j < E2.length),w.cell? ⟨b2,o2 + j * 2,none⟩=some (Ss E2[j].1)∧w.cell? ⟨b2,o2 + j * 2 + 1,none⟩=some (Ss E2[j].2)) (hl:n + m≤100000)
  (h:∀A c' w',Hid (EnS w' (.slice A (n + m) c') (E1 ++ E2))→Hid (Kept (fun _=>False) w w')→Hid ((∀b' o',A=some ⟨b',o',none⟩→b'=b∨w.heap.size≤b')∧n + m≤c')→K (a.put o.dst (.slice A (n + m) c')) w') :
  if Region.wanted o (yielded ops a.tmps)=true then Oper.wp Tryz.prog o a w K Q else E:=by
 have hw:Region.wanted o (yielded ops a.tmps)=true:=by simp[Region.wanted,hgd]
 rw[if_pos hw]
 obtain⟨A,c',w',hr,g1,g2,g3⟩:=run_app_cut (w:=w) (ty:=o.type) (c:=c) hn hm hb h1 h2 hl
 unfold Oper.wp execOp
 simp only[ho,resolve,invoke,builtin,Sem.run_bind,Sem.run_pure,Result.andThen_ok,List.map_toArray,List.map_cons,List.map_nil,hs,hx,hr]
 exact h _ _ _ g1 g2 g3
theorem EnS.keptS {w w' s E} {S:Nat→Prop} (h:EnS w s E) (k:Kept S w w') (hs:∀b off n c,s = .slice (some ⟨b,off,none⟩) n c → ¬S b):EnS w' s E:=by
 obtain⟨A,c,rfl,h⟩:=h
 refine⟨A,c,rfl,?_⟩
 rcases h with h|⟨b,off,rfl,hb,h⟩
 ·exact .inl h
 ·refine .inr ⟨b,off,rfl,Nat.lt_of_lt_of_le hb k.size,fun j hj=>?_⟩
  have ce:∀o,w'.cell? ⟨b,o,none⟩=w.cell? ⟨b,o,none⟩:=fun o=>World.cell?_of_block (k.block b hb (hs _ _ _ _ rfl))
  exact⟨(ce _).trans (h j hj).1,(ce _).trans (h j hj).2⟩
theorem EnS.part {w b off n c E} (h:EnS w (.slice (some ⟨b,off,none⟩) n c) E):∀j (hj:j < E.length),w.cell? ⟨b,off + j * 2,none⟩=some (Ss E[j].1)∧w.cell? ⟨b,off + j * 2 + 1,none⟩=some (Ss E[j].2):=by
 intro j hj
 obtain⟨b2,o2,c2,e, -,p⟩:=h.at hj
 obtain⟨e1, -, -⟩:=Value.slice.inj e
 obtain⟨e1,e2, -⟩:=Addr.mk.inj (Option.some.inj e1)
 subst e1 e2
 exact p
theorem part_take {w:World} {b off:Nat} {E:List KV} (h:∀j (hj:j < E.length),w.cell? ⟨b,off + j * 2,none⟩=some (Ss E[j].1)∧w.cell? ⟨b,off + j * 2 + 1,none⟩=some (Ss E[j].2)) (k:Nat) :
  ∀j (hj:j < (E.take k).length),w.cell? ⟨b,off + j * 2,none⟩=some (Ss (E.take k)[j].1)∧w.cell? ⟨b,off + j * 2 + 1,none⟩=some (Ss (E.take k)[j].2):=by
 intro j hj
 rw[List.length_take] at hj
 rw[List.getElem_take]
 exact h j (by omega)
theorem part_drop {w:World} {b off:Nat} {E:List KV} (h:∀j (hj:j < E.length),w.cell? ⟨b,off + j * 2,none⟩=some (Ss E[j].1)∧w.cell? ⟨b,off + j * 2 + 1,none⟩=some (Ss E[j].2)) (k:Nat) :
  ∀j (hj:j < (E.drop k).length),w.cell? ⟨b,off + k * 2 + j * 2,none⟩=some (Ss (E.drop k)[j].1)∧w.cell? ⟨b,off + k * 2 + j * 2 + 1,none⟩=some (Ss (E.drop k)[j].2):=by
 intro j hj
 rw[List.length_drop] at hj
 rw[List.getElem_drop,show off + k * 2 + j * 2=off + (k + j) * 2 by omega]
 exact h (k + j) (by omega)
def slN:Value→Nat
 | .slice _ n _=>n
 | _=>0
theorem and_mod {N:Int} {n:Nat} (h0:0 < n):∃rr kk:Nat,bits BinOp.and IntKind.i64 N 255=rr∧Int.tmod (rr:Int) (n:Int)=kk∧kk < n:=by
 obtain⟨rr,hrr⟩:∃x:Nat,(x:Int)=N % 256:=⟨(N % 256).toNat,by omega⟩
 refine⟨rr,rr % n,by rw[hrr];exact and_mask N 8 (by omega),?_,Nat.mod_lt _ h0⟩
 rw[Int.tmod_eq_emod_of_nonneg (by omega)]
 omega
end Go.Proofs.YtfgjehecjgebdaaGreat
