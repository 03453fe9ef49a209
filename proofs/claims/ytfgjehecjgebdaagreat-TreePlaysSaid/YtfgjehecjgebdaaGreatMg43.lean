/- Rows of entries; the reference's Get. -/
import Derived.Test.YtfgjehecjgebdaaGreatMg34
import Derived.Test.YtfgjehecjgebdaaGreatMg41
namespace Go.Proofs.YtfgjehecjgebdaaGreat
open Go.RowKit Go.Maps Go.ChangeMaps
attribute [local go_sem] Oper.semAt_some
def eCells (E:List KV):List Value:=E.flatMap fun e => [Ss e.1,Ss e.2]
theorem eCells_app (A B:List KV):eCells (A ++ B)=eCells A ++ eCells B:=by unfold eCells;rw[List.flatMap_append]
theorem eCells_one (E:List KV):∀u∈eCells E,u.oneCell'=true:=by
 intro u hu
 unfold eCells at hu
 obtain⟨e, -,he⟩:=List.mem_flatMap.1 hu
 simp only[List.mem_cons,List.not_mem_nil,or_false] at he
 rcases he with rfl|rfl<;>rfl
theorem eCells_at:∀(E:List KV) (j:Nat) (h:j < E.length),(eCells E)[j * 2]? = some (Ss E[j].1)∧(eCells E)[j * 2 + 1]? = some (Ss E[j].2)
 | a :: t,0,_=>⟨rfl,rfl⟩
 | a :: t,j + 1,h=>by
  obtain⟨h1,h2⟩:=eCells_at t j (by simpa using h)
  have e:eCells (a :: t)=Ss a.1 :: Ss a.2 :: eCells t:=rfl
  rw[e,show(j + 1) * 2=j * 2 + 1 + 1 by omega]
  exact⟨by simpa using h1,by simpa using h2⟩
def ERow (w:World) (B:Nat) (v:Value) (E:List KV):Prop:=w.ownsRow B 75 2 v E.length (eCells E)
theorem ERow.kept {w w' B v E} {S:Nat→Prop} (h:ERow w B v E) (k:Kept S w w') (hs:∀g,v.ownBlock=some g → ¬S g):ERow w' B v E:=k.own h hs
theorem ERow.keptF {w w' B v E} (h:ERow w B v E) (k:Kept (fun _=>False) w w'):ERow w' B v E:=h.kept k fun _ _=>id
theorem ERow.base {w B B' v E} (h:ERow w B v E) (hb:B'≤B):ERow w B' v E:=own_base h fun _ hg=>Nat.le_trans hb (own_ge h hg)
theorem ERow.nil (w:World) (B:Nat):ERow w B (.slice none 0 0) []:=World.ownsRow_nil _ _ _ _
def EnS (w:World) (s:Value) (E:List KV):Prop:=∃A c,s = .slice A E.length c∧((A=none∧E = []) ∨ ∃b off,A=some ⟨b,off,none⟩∧b < w.heap.size ∧ ∀j (hj:j < E.length),w.cell? ⟨b,off + j * 2,none⟩=some (Ss E[j].1)∧w.cell? ⟨b,off + j * 2 + 1,none⟩=some (Ss E[j].2))
theorem ERow.en {w B v E} (h:ERow w B v E):EnS w v E:=by
 obtain⟨hl,h|⟨g,cap,cur,rfl,hb,hh,h1,h2,h3⟩⟩:=id h
 ·obtain⟨rfl,h0⟩:=h
  have hE:E = []:=by
   cases E with
   | nil=>rfl
   | cons a t=>simp at h0
  subst hE
  exact⟨none,0,rfl,.inl ⟨rfl,rfl⟩⟩
 ·refine⟨_,cap,rfl,.inr ⟨g,0,rfl,own_lt h rfl,fun j hj=>?_⟩⟩
  obtain⟨e1,e2⟩:=eCells_at E j hj
  have c1:=World.ownsRow.cellAt h (j * 2) (by omega)
  have c2:=World.ownsRow.cellAt h (j * 2 + 1) (by omega)
  rw[Nat.zero_add]
  exact⟨c1.trans e1,c2.trans e2⟩
theorem EnS.keptF {w w' s E} (h:EnS w s E) (k:Kept (fun _=>False) w w'):EnS w' s E:=by
 obtain⟨A,c,rfl,h⟩:=h
 refine⟨A,c,rfl,?_⟩
 rcases h with h|⟨b,off,rfl,hb,h⟩
 ·exact .inl h
 ·refine .inr ⟨b,off,rfl,Nat.lt_of_lt_of_le hb k.size,fun j hj=>?_⟩
  have ce:∀o,w'.cell? ⟨b,o,none⟩=w.cell? ⟨b,o,none⟩:=fun o=>World.cell?_of_block (k.block b hb id)
  exact⟨(ce _).trans (h j hj).1,(ce _).trans (h j hj).2⟩
theorem EnS.at {w s E} (h:EnS w s E) {j:Nat} (hj:j < E.length):∃b off c,s = .slice (some ⟨b,off,none⟩) E.length c∧b < w.heap.size∧w.cell? ⟨b,off + j * 2,none⟩=some (Ss E[j].1)∧w.cell? ⟨b,off + j * 2 + 1,none⟩=some (Ss E[j].2):=by
 obtain⟨A,c,rfl,h⟩:=h
 rcases h with⟨_,rfl⟩|⟨b,off,rfl,hb,h⟩
 ·simp at hj
 ·exact⟨b,off,c,rfl,hb,(h j hj).1,(h j hj).2⟩
theorem EnS.slice {w s E} (h:EnS w s E):∃A c,s = .slice A E.length c:=by
 obtain⟨A,c,rfl, -⟩:=h;exact⟨A,c,rfl⟩
theorem ent_info:(Tryz.prog.info? 75).map (fun i=>(i.zero,i.size,i.bytes))=some (some (.agg #[.string ⟨#[]⟩,.string ⟨#[]⟩]),2,32):=by kernel_rfl
theorem app_ent {w:World} {ops:Array Oper} {rest:List Oper} {o:Oper} {a:Act} {Q:Exit→Act→World→Prop} (hgd:o.guard=none) (s x:Operand)
  (ho:o.op = .call { callee:=.builtin .append,args := #[s,x],argTypes := #[70,70] })
  {v:Value} {E:List KV} (hs:a.eval s=v) {Bv:Nat} (hown:ERow w Bv v E)
  (B:Nat) {A:Option Addr} {c:Nat} {E':List KV} (hx:a.eval x = .slice A E'.length c) (hr:Reads w B 2 A E'.length (eCells E')) (hl:E.length + E'.length≤100000)
  (h:∀v' w',w'.ownsRow 0 75 2 v' (E.length + E'.length) (eCells E ++ eCells E')→w.grownBy w' v.ownBlock→(v'.ownBlock=v.ownBlock∨v'.ownBlock=some w.heap.size)→wpList Tryz.prog ops Q rest (a.put o.dst v') w'):wpList Tryz.prog ops Q (o :: rest) a w:=by
 obtain⟨i,hi,h1',h2,h3⟩:=info_parts ent_info
 exact wpList_append_any w hgd s x 70 ho 0 75 i (.agg #[.string ⟨#[]⟩,.string ⟨#[]⟩]) 2 32 Tryz.underlying70 hi h1' h2 h3 rfl (by decide) v E.length (eCells E) hs (own_base hown fun _ _=>Nat.zero_le _) B A E'.length c (eCells E') hx hr (eCells_one E') (by unfold maxLen;omega) (by omega) (Nat.zero_le _) h
theorem ent_app {w2 W' w':World} {B:Nat} {v v':Value} {E E':List KV} (h:ERow w2 B v E) (k0:Kept (fun _=>False) w2 W') (hB:B≤w2.heap.size) (h1:w'.ownsRow 0 75 2 v' (E.length + E'.length) (eCells E ++ eCells E')) (h2:W'.grownBy w' v.ownBlock)
  (h3:v'.ownBlock=v.ownBlock∨v'.ownBlock=some W'.heap.size):ERow w' B v' (E ++ E')∧Kept (fun k=>v.ownBlock=some k) w2 w' ∧ ∀g,v'.ownBlock=some g→v.ownBlock=some g∨w2.heap.size≤g:=by
 have hk:=k0.size
 refine⟨?_,(k0.mono fun _ _=>False.elim).trans ⟨h2.os,h2.tape,h2.output,h2.size,fun k hk' hne=>h2.block k hk' fun e=>hne e.symm⟩,fun g hg=>?_⟩
 ·show w'.ownsRow _ _ _ _ _ _
  rw[List.length_append,eCells_app]
  refine own_base h1 fun k hk'=>?_
  rcases h3 with e|e
  ·exact own_ge h (e ▸ hk')
  ·rw[hk'] at e
   injection e with e
   omega
 ·rcases h3 with e|e
  ·rw[e] at hg;exact .inl hg
  ·rw[e] at hg;injection hg with hg;exact .inr (by omega)
theorem reads_ent (w:World) (k v:ByteArray) (e:TypeId):Reads (w.alloc (.cells #[.string k,.string v] e)) (w.heap.size + 1) 2 (some ⟨w.heap.size,0,none⟩) 1 [.string k,.string v] :=
 ⟨rfl,fun _=>⟨_,rfl,Nat.lt_succ_self _,fun j x hj=>by
  rw[Addr.add_lit]
  have hh:=heap_new w (.cells #[.string k,.string v] e)
  rw[show 0 + j=j by omega,cell_heap hh]
  rw[←hj]
  rcases j with _|_|j<;>rfl⟩⟩
theorem bs_eq (a b:Bs):((ba a).toList == (ba b).toList)=decide (a=b):=by
 rw[ba_empty,ba_empty]
 by_cases h:a=b<;>simp[h]
set_option maxHeartbeats 1000000 in
theorem refGet_calls {w s E} (h:EnS w s E) (hl:E.length≤100000) (k:Bs):Calls Tryz.prog 58 #[s,.string (ba k)] w fun e w'=>e = .returned (.tuple #[.string (ba (valE E k).1),.bool (valE E k).2])∧Kept (fun _=>False) w w':=by
 have H:=Lib.hid h
 obtain⟨A,c,rfl⟩:=h.slice
 obtain⟨n,hn⟩:∃n,n=E.length:=⟨_,rfl⟩
 have HN:=Lib.hid hn
 have hn1:n≤100000:=by omega
 obtain⟨r,hr⟩:∃r,r=valE E k:=⟨_,rfl⟩
 have HR:=Lib.hid hr
 obtain⟨ks,hks⟩:∃s,s=ba k:=⟨_,rfl⟩
 have HK:=Lib.hid hks
 rw[←hn] at H⊢
 rw[←hr, ←hks]
 clear hn hr hks h hl
 go_enter Tryz.func58,Tryz.ntmps58
 go_wp2_with fail
 go_loopw [7,10] (fun _ i wr=>∃j:Nat,j≤n∧i = .int .i64 j∧Hid (Kept (fun _=>False) w wr)∧Hid (r=valE (E.drop j) k)) (fun _ i _=>n - (RowKit.intOf i).toNat)
 case atStart=>exact⟨0,Nat.zero_le _,rfl,Kept.refl _ _,HR.out⟩
 case round =>
  obtain⟨j,hj,rfl,KW,RJ⟩:=hrel
  by_cases hlt:j < n
  ·have hjE:j < E.length:=by have:=HN.out;omega
   obtain⟨b,off,c',e,hb,q1,q2⟩:=(H.out.keptF KW.out).at hjE
   injection e with e1 e2 e3
   subst e1
   clear e2 e3
   obtain⟨⟨ek,ev⟩,he⟩:∃x,x=E[j]:=⟨_,rfl⟩
   have HDR:Hid (E.drop j=(ek,ev) :: E.drop (j + 1)):=by show _=_;rw[he];exact List.drop_eq_getElem_cons hjE
   rw[←he] at q1 q2
   dsimp only[Ss] at q1 q2
   obtain⟨kx,hkx⟩:∃x,x=ba ek:=⟨_,rfl⟩
   obtain⟨vx,hvx⟩:∃x,x=ba ev:=⟨_,rfl⟩
   rw[←hkx] at q1
   rw[←hvx] at q2
   have HVX:=Lib.hid hvx
   have HEQ:Hid ((kx.toList == ks.toList)=decide (ek=k)):=by show _=_;rw[hkx,HK.out];exact bs_eq ek k
   clear he hkx hvx hjE
   by_cases hq:ek=k
   ·have g1:(kx.toList == ks.toList)=true:=by rw[HEQ.out];simp[hq]
    have HQ:=Lib.hid hq
    clear hq
    go_wp2
    refine bodyPost_ret (v:=.tuple #[.string vx,.bool true]) (by simp[results,Tryz.f58,go_sem]) rfl ?_
    refine⟨?_,KW.out.alloc _⟩
    rw[RJ.out,HDR.out,HVX.out]
    simp[valE,getE,HQ.out]
   ·have g1:(kx.toList == ks.toList)=false:=by rw[HEQ.out];simp[hq]
    have HQ:=Lib.hid hq
    clear hq
    go_wp2_with fail
    go_roundw
    case rel=>exact⟨j + 1,by omega,by go_num,KW.out.alloc _,by show r=_;rw[RJ.out,HDR.out];simp[valE,getE,HQ.out]⟩
    case measure=>simp[RowKit.intOf];omega
  ·obtain rfl:j=n:=by omega
   go_wp2
   refine bodyPost_ret (v:=.tuple #[.string ⟨#[]⟩,.bool false]) (by simp[results,Tryz.f58,go_sem]) rfl ?_
   refine⟨?_,KW.out⟩
   rw[RJ.out,HN.out,List.drop_length]
   rfl
end Go.Proofs.YtfgjehecjgebdaaGreat
/- The reference's Put and Delete over entries. -/
namespace Go.Proofs.YtfgjehecjgebdaaGreat
open Go.RowKit Go.Maps Go.ChangeMaps
attribute [local go_sem] Oper.semAt_some
theorem bless (a b:Bs):Op.bytesLess (ba a).toList (ba b).toList=decide (a < b):=by
 rw[bytesLess_eq,ba_empty,ba_empty]
theorem insE_snoc (P:List KV) (x:KV) (k v:Bs):insE (P ++ [x]) k v=P.filter (fun e=>decide (e.1 < k)) ++ (if x.1 < k then [x] else []) ++ (k,v) :: (P.filter (fun e=>decide (k < e.1)) ++ if k < x.1 then [x] else []):=by
 unfold insE
 rw[List.filter_append,List.filter_append]
 congr 2
 ·by_cases h:x.1 < k<;>simp[h]
 ·by_cases h:k < x.1<;>simp[h]
theorem filt_lt_all {P:List KV} {k:Bs} (h:∀x∈P,x.1 < k):P.filter (fun e=>decide (e.1 < k))=P∧P.filter (fun e=>decide (k < e.1)) = [] :=
 ⟨filt_all fun x hx=>by simpa using h x hx,filt_none fun x hx=>by simpa using bs_asymm (h x hx)⟩
structure PutG (P:List KV) (k v:Bs) (D:Bool) (O:List KV):Prop where
 out:O=if D then insE P k v else P
 no:D=false → ∀x∈P,x.1 < k
 yes:D=true → ∃y∈P, ¬y.1 < k
theorem PutG.next {P:List KV} {x:KV} {k v:Bs} {D:Bool} {O:List KV} (h:PutG P k v D O) (hu:UpE (P ++ [x])) :
  (D=true→x.1 ≠ k∧PutG (P ++ [x]) k v true (O ++ [x]))∧(D=false→x.1 < k→PutG (P ++ [x]) k v false (O ++ [x])) ∧
  (D=false→x.1=k→PutG (P ++ [x]) k v true (O ++ [(k,v)]))∧(D=false→k < x.1→PutG (P ++ [x]) k v true (O ++ [(k,v)] ++ [x])):=by
 refine⟨fun hd=>?_,fun hd hx=>?_,fun hd hx=>?_,fun hd hx=>?_⟩
 ·obtain⟨y,hy,hyk⟩:=h.yes hd
  have hyx:y.1 < x.1:=(List.pairwise_append.1 hu).2.2 y hy x (by simp)
  have hkx:k < x.1:=bs_le_lt hyk hyx
  refine⟨(bs_ne hkx).symm,⟨?_,fun e=>(by cases e),fun _=>⟨y,by simp[hy],hyk⟩⟩⟩
  rw[h.out,hd,if_pos rfl,if_pos rfl,insE_snoc,if_neg (bs_asymm hkx),if_pos hkx]
  simp[insE]
 ·refine⟨?_,fun _ y hy=>?_,fun e=>(by cases e)⟩
  ·rw[h.out,hd];rfl
  ·rcases List.mem_append.1 hy with hy|hy
   ·exact h.no hd y hy
   ·simp only[List.mem_singleton] at hy;subst hy;exact hx
 ·obtain⟨f1,f2⟩:=filt_lt_all (h.no hd)
  refine⟨?_,fun e=>(by cases e),fun _=>⟨x,by simp,by rw[hx];exact List.lt_irrefl _⟩⟩
  rw[h.out,hd,if_pos rfl,insE_snoc,f1,f2,if_neg (show ¬x.1 < k by rw[hx];exact List.lt_irrefl _),if_neg (show ¬k < x.1 by rw[hx];exact List.lt_irrefl _)]
  simp
 ·obtain⟨f1,f2⟩:=filt_lt_all (h.no hd)
  refine⟨?_,fun e=>(by cases e),fun _=>⟨x,by simp,bs_asymm hx⟩⟩
  rw[h.out,hd,if_pos rfl,insE_snoc,f1,f2,if_neg (bs_asymm hx),if_pos hx]
  simp
theorem ERow.empty {w:World} (T:TypeId) (hT:T=75):ERow (w.alloc (.cells #[] T)) w.heap.size (.slice (some ⟨w.heap.size,0,none⟩) 0 0) []:=by
 subst hT
 refine⟨rfl,.inr ⟨w.heap.size,0,#[],rfl,Nat.le_refl _,heap_new w _,by simp,by simp[maxLen],by simp,by simp[eCells]⟩⟩
theorem ent_step {w2 W' w':World} {B:Nat} {v v':Value} {E E':List KV} (h:ERow w2 B v E) (k0:Kept (fun _=>False) w2 W') (hB:B≤w2.heap.size) (h1:w'.ownsRow 0 75 2 v' (E.length + E'.length) (eCells E ++ eCells E')) (h2:W'.grownBy w' v.ownBlock)
  (h3:v'.ownBlock=v.ownBlock∨v'.ownBlock=some W'.heap.size):∃A c lo,v' = .slice A lo c∧Hid (lo=(E ++ E').length)∧Hid (ERow w' B (.slice A lo c) (E ++ E'))∧Hid (Kept (fun k=>v.ownBlock=some k) w2 w')∧Hid (∀g,(Value.slice A lo c).ownBlock=some g→v.ownBlock=some g∨w2.heap.size≤g):=by
 obtain⟨e1,e2,e3⟩:=ent_app h k0 hB h1 h2 h3
 obtain⟨A,c,rfl⟩:=e1.en.slice
 exact⟨A,c,_,rfl,rfl,e1,e2,e3⟩
theorem reads_kv (w:World) {k v:Bs} {kx vx:ByteArray} (hk:kx=ba k) (hv:vx=ba v) (e:TypeId):Reads (w.alloc (.cells #[.string kx,.string vx] e)) (w.heap.size + 1) 2 (some ⟨w.heap.size,0,none⟩) 1 (eCells [(k,v)]):=by
 subst hk hv;exact reads_ent w _ _ e
theorem reads_kvn {w:World} {n:Nat} (hn:n=w.heap.size) {k v:Bs} {kx vx:ByteArray} (hk:kx=ba k) (hv:vx=ba v) (e:TypeId):Reads (w.alloc (.cells #[.string kx,.string vx] e)) (n + 1) 2 (some ⟨n,0,none⟩) 1 (eCells [(k,v)]):=by
 subst hn;exact reads_kv w hk hv e
theorem grown_box {W w3:World} {own:Option Nat} (hg:W.grownBy w3 own) {i:Nat} {o:Obj} (h:W.heap[i]? = some o) (hne:own ≠ some i):w3.heap[i]? = some o:=(hg.block i (lt_heap h) (fun e=>hne e.symm)).trans h
def RefTo (O:List KV) (w:World) (e:Ending) (w':World):Prop:=∃v',e = .returned v'∧ERow w' w.heap.size v' O∧Kept (fun _=>False) w w'
set_option maxHeartbeats 2000000 in
theorem refPut9_calls {w s E} (h:EnS w s E) (hl:E.length≤1000) (hu:UpE E) (k v:Bs):Calls Tryz.prog 42 #[s,.string (ba k),.string (ba v)] w (RefTo (insE E k v) w):=by
 have H:=Lib.hid h;have HU:=Lib.hid hu
 obtain⟨A,c,rfl⟩:=h.slice
 obtain⟨n,hn⟩:∃n,n=E.length:=⟨_,rfl⟩
 have HN:=Lib.hid hn
 have hn1:n≤1000:=by omega
 obtain⟨ks,hks⟩:∃s,s=ba k:=⟨_,rfl⟩
 obtain⟨vs,hvs⟩:∃s,s=ba v:=⟨_,rfl⟩
 have HK:=Lib.hid hks;have HV:=Lib.hid hvs
 rw[←hn] at H⊢
 rw[←hks, ←hvs]
 clear hn hks hvs h hl hu
 go_enter Tryz.func42,Tryz.ntmps42
 go_wp2_with fail
 obtain⟨B,hB⟩:∃n,n=w.heap.size:=⟨_,rfl⟩
 have HB:=Lib.hid hB
 have E0:Hid (ERow (w.alloc (.cells #[] 75)) B (.slice (some ⟨B,0,none⟩) 0 0) []):=by show ERow _ _ _ _;rw[hB];exact ERow.empty _ rfl
 obtain⟨w1,hw1⟩:∃w1,w1=w.alloc (.cells #[] 75):=⟨_,rfl⟩
 have K1:Hid (Kept (fun _=>False) w w1):=by rw[hw1];exact(Kept.refl _ _).alloc _
 rw[←hw1] at E0
 rw[←hw1, ←hB]
 clear hw1 hB
 go_loopw [7,8,10,14] (fun o d _ i wr=>∃(j:Nat) (D:Bool) (O:List KV) (Ao:Option Addr) (lo co:Nat),j≤n∧i = .int .i64 j∧d = .bool D∧o = .slice Ao lo co∧Hid (lo=O.length∧lo≤2 * j)∧Hid (ERow wr B (.slice Ao lo co) O)∧Hid (Kept (fun _=>False) w wr)∧Hid (PutG (E.take j) k v D O)) (fun _ _ _ i _=>n - (RowKit.intOf i).toNat)
 case atStart=>exact⟨0,false, [],_,0,0,Nat.zero_le _,rfl,rfl,rfl,⟨rfl,Nat.zero_le _⟩,E0.out,K1.out,⟨rfl,fun _ x hx=>(by simp at hx),fun e=>by cases e⟩⟩
 case round =>
  obtain⟨j,D,O,Ao,lo,co,hj,rfl,rfl,rfl,HL,ER,KW,PG⟩:=hrel
  have HBw:Hid (B≤wr.heap.size):=by have:=HB.out;have:=KW.out.size;show _≤_;omega
  by_cases hlt:j < n
  ·have hjE:j < E.length:=by have:=HN.out;omega
   obtain⟨b,off,c',e,hb,q1,q2⟩:=(H.out.keptF KW.out).at hjE
   injection e with e1 e2 e3
   subst e1
   clear e2 e3
   obtain⟨⟨ek,ev⟩,he⟩:∃x,x=E[j]:=⟨_,rfl⟩
   have HTK:Hid (E.take (j + 1)=E.take j ++ [(ek,ev)]):=by show _=_;rw[he];exact List.take_succ_eq_append_getElem hjE
   have HUP:Hid (UpE (E.take j ++ [(ek,ev)])):=by show UpE _;rw[←HTK.out];exact HU.out.sublist (List.take_sublist _ _)
   have NX:=Lib.hid (PG.out.next HUP.out)
   rw[←HTK.out] at NX
   rw[←he] at q1 q2
   dsimp only[Ss] at q1 q2
   obtain⟨kx,hkx⟩:∃x,x=ba ek:=⟨_,rfl⟩
   obtain⟨vx,hvx⟩:∃x,x=ba ev:=⟨_,rfl⟩
   rw[←hkx] at q1
   rw[←hvx] at q2
   have HKX:=Lib.hid hkx;have HVX:=Lib.hid hvx
   have HEQ:Hid ((kx.toList == ks.toList)=decide (ek=k)):=by show _=_;rw[hkx,HK.out];exact bs_eq ek k
   have HLT:Hid (Op.bytesLess kx.toList ks.toList=decide (ek < k)):=by show _=_;rw[hkx,HK.out];exact bless ek k
   obtain⟨W1,hW1⟩:∃W1,W1=wr.alloc (.cells #[.string kx,.string vx] 75):=⟨_,rfl⟩
   have HW1:=Lib.hid hW1
   have KW1:Hid (Kept (fun _=>False) wr W1):=by rw[hW1];exact(Kept.refl _ _).alloc _
   have HLn:Hid (O.length + 1≤100000∧O.length + 1 + 1≤100000):=by have:=HL.out;exact⟨by omega,by omega⟩
   clear he hkx hvx hjE hW1
   have RX:=Lib.hid (reads_kvn (w:=W1) (n:=wr.heap.size + 1) (by rw[HW1.out];simp) HKX.out HVX.out 75)
   have RK:=Lib.hid (reads_kvn (w:=W1) (n:=wr.heap.size + 1) (by rw[HW1.out];simp) HK.out HV.out 75)
   have OX:=Lib.hid ((ER.out.keptF KW1.out).keptF ((Kept.refl _ W1).alloc (.cells #[.string kx,.string vx] 75)))
   have OK:=Lib.hid ((ER.out.keptF KW1.out).keptF ((Kept.refl _ W1).alloc (.cells #[.string ks,.string vs] 75)))
   have KX:=Lib.hid (KW1.out.alloc (.cells #[.string kx,.string vx] 75))
   have KK:=Lib.hid (KW1.out.alloc (.cells #[.string ks,.string vs] 75))
   rw[HW1.out] at RX RK OX OK KX KK
   have HNO:Hid ((Value.slice Ao lo co).ownBlock ≠ some wr.heap.size):=fun e=>by have:=own_lt ER.out e;omega
   have DONE:Hid (∀(w3:World),Kept (fun g=>(Value.slice Ao lo co).ownBlock=some g) wr w3→Kept (fun _=>False) w w3):=fun w3 kk=>KW.out.then kk fun i hi e=>by have:=own_ge ER.out e;have:=HB.out;omega
   clear HW1
   by_cases hD:D=true
   ·subst hD
    have hq:=(NX.out.1 rfl).1
    have g1:(kx.toList == ks.toList)=false:=by rw[HEQ.out];simp[hq]
    clear hq
    go_wp2_with (at_builtin;(refine app_ent (E:=O) (E' := [(ek,ev)]) rfl (.tmp 36) (.tmp 38) rfl (v:=.slice Ao lo co) rfl OX.out _ rfl RX.out HLn.out.1 ?_;intro v' w3 hv' hg' hob;obtain⟨A3,c3,l3,rfl,L3,E3,K3,G3⟩:=ent_step ER.out KX.out HBw.out hv' hg' hob;clear hv' hg' hob))
    go_roundw
    case rel=>exact⟨j + 1,true,O ++ [(ek,ev)],A3,l3,c3,by omega,by go_num,rfl,rfl,⟨L3.out,by have:=L3.out;have:=HL.out;simp at *;omega⟩,E3.out,DONE.out _ K3.out,(NX.out.1 rfl).2⟩
    case measure=>simp[RowKit.intOf];omega
   ·have hD':D=false:=by simpa using hD
    subst hD'
    clear hD
    rcases bs_tri ek k with h1|h1|h1
    ·have g1:(kx.toList == ks.toList)=false:=by rw[HEQ.out];simp[bs_ne h1]
     have g2:Op.bytesLess kx.toList ks.toList=true:=by rw[HLT.out];simpa using h1
     have HH:=Lib.hid h1
     clear h1
     go_wp2_with (at_builtin;(refine app_ent (E:=O) (E' := [(ek,ev)]) rfl (.tmp 36) (.tmp 38) rfl (v:=.slice Ao lo co) rfl OX.out _ rfl RX.out HLn.out.1 ?_;intro v' w3 hv' hg' hob;obtain⟨A3,c3,l3,rfl,L3,E3,K3,G3⟩:=ent_step ER.out KX.out HBw.out hv' hg' hob;clear hv' hg' hob))
     go_roundw
     case rel=>exact⟨j + 1,false,O ++ [(ek,ev)],A3,l3,c3,by omega,by go_num,rfl,rfl,⟨L3.out,by have:=L3.out;have:=HL.out;simp at *;omega⟩,E3.out,DONE.out _ K3.out,NX.out.2.1 rfl HH.out⟩
     case measure=>simp[RowKit.intOf];omega
    ·have g1:(kx.toList == ks.toList)=true:=by rw[HEQ.out];simp[h1]
     have g2:Op.bytesLess kx.toList ks.toList=false:=by rw[HLT.out,h1];simp[List.lt_irrefl]
     have HH:=Lib.hid h1
     clear h1
     go_wp2_with (at_builtin;(refine app_ent (E:=O) (E' := [(k,v)]) rfl (.tmp 26) (.tmp 30) rfl (v:=.slice Ao lo co) rfl OK.out _ rfl RK.out HLn.out.1 ?_;intro v' w3 hv' hg' hob;obtain⟨A3,c3,l3,rfl,L3,E3,K3,G3⟩:=ent_step ER.out KK.out HBw.out hv' hg' hob;have hbx:=grown_box hg' (heap_old (heap_new wr _) _) HNO.out;have hb0:w3.cell? ⟨wr.heap.size,0,none⟩=some (.string kx):=(cell_heap hbx 0).trans rfl;have hbl:=lt_heap hbx;clear hv' hg' hob hbx))
     go_roundw
     case rel=>exact⟨j + 1,true,O ++ [(k,v)],A3,l3,c3,by omega,by go_num,rfl,rfl,⟨L3.out,by have:=L3.out;have:=HL.out;simp at *;omega⟩,E3.out,DONE.out _ K3.out,NX.out.2.2.1 rfl HH.out⟩
     case measure=>simp[RowKit.intOf];omega
    ·have g1:(kx.toList == ks.toList)=false:=by rw[HEQ.out];simp[(bs_ne h1).symm]
     have g2:Op.bytesLess kx.toList ks.toList=false:=by rw[HLT.out];simpa using bs_asymm h1
     have HH:=Lib.hid h1
     clear h1
     go_wp2_with (at_builtin;first
      | (refine app_ent (E:=O) (E' := [(k,v)]) rfl (.tmp 26) (.tmp 30) rfl (v:=.slice Ao lo co) rfl OK.out _ rfl RK.out HLn.out.1 ?_;intro v' w3 hv' hg' hob;obtain⟨A3,c3,l3,rfl,L3,E3,K3,G3⟩:=ent_step ER.out KK.out HBw.out hv' hg' hob;have hbx:=grown_box hg' (heap_old (heap_new wr _) _) HNO.out;have hb0:w3.cell? ⟨wr.heap.size,0,none⟩=some (.string kx):=(cell_heap hbx 0).trans rfl;have hb1:w3.cell? ⟨wr.heap.size,1,none⟩=some (.string vx):=(cell_heap hbx 1).trans rfl;have hbl:=lt_heap hbx;have HB3:Hid (B≤w3.heap.size):=(Nat.le_trans HBw.out K3.out.size);have RX3:=Lib.hid (reads_kv w3 HKX.out HVX.out 75);have OX3:=Lib.hid (E3.out.keptF ((Kept.refl (fun _=>False) w3).alloc (.cells #[.string kx,.string vx] 75)));clear hv' hg' hob hbx)
      | (refine app_ent (E:=O ++ [(k,v)]) (E' := [(ek,ev)]) rfl (.tmp 36) (.tmp 38) rfl (v:=.slice A3 l3 c3) rfl OX3.out _ rfl RX3.out (by have:=HLn.out.2;rw[List.length_append];simpa using this) ?_;intro v' w4 hv' hg' hob;obtain⟨A4,c4,l4,rfl,L4,E4,K4,G4⟩:=ent_step E3.out ((Kept.refl (fun _=>False) w3).alloc (.cells #[.string kx,.string vx] 75)) HB3.out hv' hg' hob;clear hv' hg' hob hb0 hb1 hbl))
     have K34:Kept (fun g=>(Value.slice Ao lo co).ownBlock=some g) wr w4:=K3.out.then K4.out fun i hi e=>by
      rcases G3.out i e with e|e
      ·exact e
      ·omega
     go_roundw
     case rel=>exact⟨j + 1,true,O ++ [(k,v)] ++ [(ek,ev)],A4,l4,c4,by omega,by go_num,rfl,rfl,⟨L4.out,by have:=L4.out;have:=HL.out;simp at *;omega⟩,E4.out,DONE.out _ K34,NX.out.2.2.2 rfl HH.out⟩
     case measure=>simp[RowKit.intOf];omega
  ·obtain rfl:j=n:=by omega
   have HTA:Hid (E.take j=E):=by show _=_;rw[HN.out];exact List.take_length
   by_cases hD:D=true
   ·subst hD
    go_wp2
    refine bodyPost_ret (v:=.slice Ao lo co) (by simp[results,Tryz.f42,go_sem]) rfl ?_
    have h:=PG.out.out
    rw[if_pos rfl,HTA.out] at h
    refine⟨_,rfl,?_,KW.out⟩
    rw[←h, ←HB.out];exact ER.out
   ·have hD':D=false:=by simpa using hD
    subst hD'
    clear hD
    have RK:=Lib.hid (reads_kv wr HK.out HV.out 75)
    have OK:=Lib.hid (ER.out.keptF ((Kept.refl (fun _=>False) wr).alloc (.cells #[.string ks,.string vs] 75)))
    have HLn:Hid (O.length + 1≤100000):=by have:=HL.out;show _≤_;omega
    go_wp2_with (at_builtin;(refine app_ent (E:=O) (E' := [(k,v)]) rfl (.tmp 43) (.tmp 47) rfl (v:=.slice Ao lo co) rfl OK.out _ rfl RK.out HLn.out ?_;intro v' w3 hv' hg' hob;obtain⟨A3,c3,l3,rfl,L3,E3,K3,G3⟩:=ent_step ER.out ((Kept.refl (fun _=>False) wr).alloc (.cells #[.string ks,.string vs] 75)) HBw.out hv' hg' hob;clear hv' hg' hob))
    refine bodyPost_ret (v:=.slice A3 l3 c3) (by simp[results,Tryz.f42,go_sem]) rfl ?_
    have h:=PG.out.out
    simp only[Bool.false_eq_true,if_false] at h
    have h2:insE E k v=O ++ [(k,v)]:=by
     have hn:=PG.out.no rfl
     rw[HTA.out] at h hn
     obtain⟨f1,f2⟩:=filt_lt_all hn
     unfold insE
     rw[f1,f2,h]
    refine⟨_,rfl,?_,KW.out.then K3.out fun i hi e=>by have:=own_ge ER.out e;have:=HB.out;omega⟩
    rw[h2, ←HB.out];exact E3.out
end Go.Proofs.YtfgjehecjgebdaaGreat
/- The reference's Delete over entries. -/
namespace Go.Proofs.YtfgjehecjgebdaaGreat
open Go.RowKit Go.Maps Go.ChangeMaps
attribute [local go_sem] Oper.semAt_some
theorem delE_snoc (P:List KV) (x:KV) (k:Bs):delE (P ++ [x]) k=delE P k ++ if x.1 ≠ k then [x] else []:=by
 unfold delE
 rw[List.filter_append]
 congr 1
 by_cases h:x.1=k<;>simp[h]
theorem delE_le (E:List KV) (k:Bs):(delE E k).length≤E.length:=List.length_filter_le _ _
set_option maxHeartbeats 2000000 in
theorem refDel9_calls {w s E} (h:EnS w s E) (hl:E.length≤1000) (k:Bs):Calls Tryz.prog 43 #[s,.string (ba k)] w fun e w'=>∃v',e = .returned (.tuple #[v',.bool (decide ((delE E k).length < E.length))])∧ERow w' w.heap.size v' (delE E k)∧Kept (fun _=>False) w w':=by
 have H:=Lib.hid h
 obtain⟨A,c,rfl⟩:=h.slice
 obtain⟨n,hn⟩:∃n,n=E.length:=⟨_,rfl⟩
 have HN:=Lib.hid hn
 have hn1:n≤1000:=by omega
 obtain⟨ks,hks⟩:∃s,s=ba k:=⟨_,rfl⟩
 have HK:=Lib.hid hks
 rw[←hn] at H⊢
 rw[←hks]
 clear hn hks h hl
 go_enter Tryz.func43,Tryz.ntmps43
 go_wp2_with fail
 obtain⟨B,hB⟩:∃n,n=w.heap.size:=⟨_,rfl⟩
 have HB:=Lib.hid hB
 have E0:Hid (ERow (w.alloc (.cells #[] 75)) B (.slice (some ⟨B,0,none⟩) 0 0) []):=by show ERow _ _ _ _;rw[hB];exact ERow.empty _ rfl
 obtain⟨w1,hw1⟩:∃w1,w1=w.alloc (.cells #[] 75):=⟨_,rfl⟩
 have K1:Hid (Kept (fun _=>False) w w1):=by rw[hw1];exact(Kept.refl _ _).alloc _
 rw[←hw1] at E0
 rw[←hw1, ←hB]
 clear hw1 hB
 go_loopw [6,8,12] (fun o _ i wr=>∃(j:Nat) (O:List KV) (Ao:Option Addr) (lo co:Nat),j≤n∧i = .int .i64 j∧o = .slice Ao lo co∧Hid (lo=O.length∧lo≤j)∧Hid (ERow wr B (.slice Ao lo co) O)∧Hid (Kept (fun _=>False) w wr)∧Hid (O=delE (E.take j) k)) (fun _ _ i _=>n - (RowKit.intOf i).toNat)
 case atStart=>exact⟨0, [],_,0,0,Nat.zero_le _,rfl,rfl,⟨rfl,Nat.zero_le _⟩,E0.out,K1.out,rfl⟩
 case round =>
  obtain⟨j,O,Ao,lo,co,hj,rfl,rfl,HL,ER,KW,PG⟩:=hrel
  have HBw:Hid (B≤wr.heap.size):=by have:=HB.out;have:=KW.out.size;show _≤_;omega
  by_cases hlt:j < n
  ·have hjE:j < E.length:=by have:=HN.out;omega
   obtain⟨b,off,c',e,hb,q1,q2⟩:=(H.out.keptF KW.out).at hjE
   injection e with e1 e2 e3
   subst e1
   clear e2 e3
   obtain⟨⟨ek,ev⟩,he⟩:∃x,x=E[j]:=⟨_,rfl⟩
   have HTK:Hid (E.take (j + 1)=E.take j ++ [(ek,ev)]):=by show _=_;rw[he];exact List.take_succ_eq_append_getElem hjE
   rw[←he] at q1 q2
   dsimp only[Ss] at q1 q2
   obtain⟨kx,hkx⟩:∃x,x=ba ek:=⟨_,rfl⟩
   obtain⟨vx,hvx⟩:∃x,x=ba ev:=⟨_,rfl⟩
   rw[←hkx] at q1
   rw[←hvx] at q2
   have HKX:=Lib.hid hkx;have HVX:=Lib.hid hvx
   have HEQ:Hid ((kx.toList == ks.toList)=decide (ek=k)):=by show _=_;rw[hkx,HK.out];exact bs_eq ek k
   obtain⟨W1,hW1⟩:∃W1,W1=wr.alloc (.cells #[.string kx,.string vx] 75):=⟨_,rfl⟩
   have HW1:=Lib.hid hW1
   have KW1:Hid (Kept (fun _=>False) wr W1):=by rw[hW1];exact(Kept.refl _ _).alloc _
   have HLn:Hid (O.length + 1≤100000):=by have:=HL.out;show _≤_;omega
   clear he hkx hvx hjE hW1
   have RX:=Lib.hid (reads_kvn (w:=W1) (n:=wr.heap.size + 1) (by rw[HW1.out];simp) HKX.out HVX.out 75)
   have OX:=Lib.hid ((ER.out.keptF KW1.out).keptF ((Kept.refl _ W1).alloc (.cells #[.string kx,.string vx] 75)))
   have KX:=Lib.hid (KW1.out.alloc (.cells #[.string kx,.string vx] 75))
   rw[HW1.out] at RX OX KX
   have HNO:Hid ((Value.slice Ao lo co).ownBlock ≠ some wr.heap.size):=fun e=>by have:=own_lt ER.out e;omega
   have DONE:Hid (∀(w3:World),Kept (fun g=>(Value.slice Ao lo co).ownBlock=some g) wr w3→Kept (fun _=>False) w w3):=fun w3 kk=>KW.out.then kk fun i hi e=>by have:=own_ge ER.out e;have:=HB.out;omega
   clear HW1
   by_cases hq:ek=k
   ·have g1:(kx.toList == ks.toList)=true:=by rw[HEQ.out];simp[hq]
    have HPN:Hid (O=delE (E.take (j + 1)) k):=by show _=_;rw[HTK.out,delE_snoc,if_neg (fun h=>h hq),List.append_nil];exact PG.out
    clear hq
    go_wp2_with fail
    go_roundw
    case rel=>exact⟨j + 1,O,Ao,lo,co,by omega,by go_num,rfl,⟨HL.out.1,by have:=HL.out;omega⟩,ER.out.keptF ((Kept.refl _ _).alloc _),KW.out.alloc _,HPN.out⟩
    case measure=>simp[RowKit.intOf];omega
   ·have g1:(kx.toList == ks.toList)=false:=by rw[HEQ.out];simp[hq]
    have HPN:Hid (O ++ [(ek,ev)]=delE (E.take (j + 1)) k):=by show _=_;rw[HTK.out,delE_snoc,if_pos hq,PG.out]
    clear hq
    go_wp2_with (at_builtin;(refine app_ent (E:=O) (E' := [(ek,ev)]) rfl (.tmp 20) (.tmp 22) rfl (v:=.slice Ao lo co) rfl OX.out _ rfl RX.out HLn.out ?_;intro v' w3 hv' hg' hob;obtain⟨A3,c3,l3,rfl,L3,E3,K3,G3⟩:=ent_step ER.out KX.out HBw.out hv' hg' hob;clear hv' hg' hob))
    go_roundw
    case rel=>exact⟨j + 1,O ++ [(ek,ev)],A3,l3,c3,by omega,by go_num,rfl,⟨L3.out,by have:=L3.out;have:=HL.out;simp at *;omega⟩,E3.out,DONE.out _ K3.out,HPN.out⟩
    case measure=>simp[RowKit.intOf];omega
  ·obtain rfl:j=n:=by omega
   have hO:Hid (O=delE E k):=by show _=_;rw[PG.out,HN.out,List.take_length]
   have HLO:Hid (lo=(delE E k).length):=by show _=_;rw[HL.out.1,hO.out]
   have g1:decide ((lo:Int) < (j:Int))=decide ((delE E k).length < j):=by rw[HLO.out];exact decide_eq_decide.2 (by omega)
   have g2:decide (lo < j)=decide ((delE E k).length < j):=by rw[HLO.out]
   go_wp2_with fail
   refine bodyPost_ret (v:=.tuple #[.slice Ao lo co,.bool (decide ((delE E k).length < j))]) (by simp[results,Tryz.f43,go_sem]) rfl ?_
   exact⟨_,rfl,by rw[←hO.out, ←HB.out];exact ER.out,KW.out⟩
end Go.Proofs.YtfgjehecjgebdaaGreat
