/- Plain: the five puts of the laws' awake. -/
import Derived.Test.YtfgjehecjgebdaaGreatMg34
import Derived.Test.YtfgjehecjgebdaaGreatMg42
namespace Go.Proofs.YtfgjehecjgebdaaGreat
open Go.RowKit
set_option maxHeartbeats 1000000
theorem give1 {l:List Nat} {r:Nat} (h:l.getD r 0=2):giveAll l [r]=l.set r 0:=by
 have hr:=live_lt (l:=l) (x:=r) (by omega)
 unfold giveAll
 simp only[List.foldl_cons,List.foldl_nil]
 rw[gv_cast l r hr,if_pos h]
theorem put_leaf {X:Sto} {r i:Nat} {n n':Nd} {k v:Bs} (hg:X.gd r) (hn:X.nd r=n) (hl:n.leaf=true) (hk:k.length≤24) (hv:v.length≤32) (hset:n.set k v=n') (hok:n'.Ok) (hr:X.s r=2) (htk:tkAt X.l=some i) :
  ∃X':Sto,putT X r k v=(0,(i:Int),X')∧X'.gd i∧X'.nd i=n'∧X'.l=(X.l.set i 2).set r 0∧X'.s i=2:=by
 have hd:=down_leaf (k:=k) (f:=11) hn hg hl
 obtain⟨hi,hi0⟩:=tk_some htk
 have hir:i ≠ r:=fun e=>by subst e;unfold Sto.s at hr;omega
 have hsh:n'.Sh:=by
  unfold Nd.Sh
  split
  ·next hl=>exact(hok.leaf hl).1
  ·next hl=>exact(hok.inner (by simpa using hl)).2.1
 have ht:=text_fits hok.most hsh hok.kl hok.vl hok.kid
 have hp:putP ((wk0 X).add r) n'=((i,0), { (wk0 X).add r with X := { X with l:=X.l.set i 2,T:=upd X.T i n'.text },fresh := [i] }):=by
  unfold putP
  have e:((wk0 X).add r).X=X:=rfl
  rw[if_neg (by omega),e,htk]
  rfl
 have hlay:layP ((wk0 X).add r) n'=(([i], []),0, { (wk0 X).add r with X := { X with l:=X.l.set i 2,T:=upd X.T i n'.text },fresh := [i] }):=by
  unfold layP
  rw[if_pos hok.most,hp]
 have hg2:(X.l.set i 2).getD r 0=2:=by rw[getD_set hi,if_neg (fun e=>hir e.symm)];exact hr
 have e:putT X r k v=(0,(i:Int), { X with l:=(X.l.set i 2).set r 0,T:=upd X.T i n'.text }):=by
  unfold putT
  rw[if_neg (by omega),if_neg (by omega),Int.toNat_natCast,hd,if_neg (fun h=>h rfl)]
  simp only[List.reverse_cons,List.reverse_nil,List.nil_append]
  rw[upP_one]
  simp only[hset]
  rw[hlay,if_neg (fun h=>h rfl)]
  have et:topP { (wk0 X).add r with X := { X with l:=X.l.set i 2,T:=upd X.T i n'.text },fresh := [i] } (([i], []):Parts)=((i,0), { (wk0 X).add r with X := { X with l:=X.l.set i 2,T:=upd X.T i n'.text },fresh := [i] }):=by
   unfold topP
   rw[if_pos (show(([i], []):Parts).1.length=1 from rfl)]
   rfl
  rw[et]
  unfold doneP
  rw[if_pos rfl]
  have eo:({ (wk0 X).add r with X := { X with l:=X.l.set i 2,T:=upd X.T i n'.text },fresh := [i] } : Wk).old = [r]:=rfl
  rw[eo]
  simp only
  rw[give1 hg2]
 have hload:Sto.load { X with l:=(X.l.set i 2).set r 0,T:=upd X.T i n'.text } i=(n',0):=by
  rw[←load_put hi hok]
  exact load_keep (X := { X with l:=X.l.set i 2,T:=upd X.T i n'.text }) i rfl (by simp) (.inl (by simp only;rw[getD_set (by simp;exact live_lt (by unfold Sto.s at hr;omega)),if_neg hir])) (.inl rfl)
 refine⟨_,e,?_,?_,rfl,?_⟩
 ·unfold Sto.gd;rw[hload]
 ·unfold Sto.nd;rw[hload]
 ·unfold Sto.s
  simp only
  rw[getD_set (by simp;exact live_lt (by unfold Sto.s at hr;omega)),if_neg hir,getD_set hi,if_pos rfl]
theorem put_first {X:Sto} {i:Nat} {k v:Bs} (hk:k.length≤24) (hv:v.length≤32) (htk:tkAt X.l=some i) :
  ∃X':Sto,putT X (-1) k v=(0,(i:Int),X')∧X'.gd i∧X'.nd i=⟨true, [k], [v], []⟩∧X'.l=X.l.set i 2∧X'.s i=2:=by
 obtain⟨hi,hi0⟩:=tk_some htk
 have hok:=one_ok hk hv
 have ht:=text_fits hok.most (show Nd.Sh ⟨true, [k], [v], []⟩ by simp[Nd.Sh]) hok.kl hok.vl hok.kid
 have hp:putP (wk0 X) ⟨true, [k], [v], []⟩=((i,0), { wk0 X with X := { X with l:=X.l.set i 2,T:=upd X.T i (Nd.text ⟨true, [k], [v], []⟩) },fresh := [i] }):=by
  unfold putP
  have e:(wk0 X).X=X:=rfl
  rw[if_neg (by omega),e,htk]
  rfl
 have hload:=load_put (X:=X) hi hok
 refine⟨{ X with l:=X.l.set i 2,T:=upd X.T i (Nd.text ⟨true, [k], [v], []⟩) },?_,?_,?_,rfl,?_⟩
 ·unfold putT
  rw[if_neg (by omega),if_pos (by omega),leaf0_set,hp]
  unfold doneP
  rw[if_pos rfl]
  rfl
 ·unfold Sto.gd;rw[hload]
 ·unfold Sto.nd;rw[hload]
 ·unfold Sto.s;simp only;rw[getD_set hi,if_pos rfl]
theorem put_split {X:Sto} {r i j t:Nat} {n n':Nd} {k v:Bs} (hg:X.gd r) (hn:X.nd r=n) (hl:n.leaf=true) (hk:k.length≤24) (hv:v.length≤32) (hset:n.set k v=n') (ho:n'.over=true) (hlo:n'.lo.Ok) (hhi:n'.hi.Ok) (htop:Nd.Ok ⟨false, [n'.mid], [], [i,j]⟩) (hr:X.s r=2)
  (h1:tkAt X.l=some i) (h2:tkAt (X.l.set i 2)=some j) (h3:tkAt ((X.l.set i 2).set j 2)=some t) :
  ∃X':Sto,putT X r k v=(0,(t:Int),X')∧X'.gd t∧X'.nd t=⟨false, [n'.mid], [], [i,j]⟩:=by
 have hd:=down_leaf (k:=k) (f:=11) hn hg hl
 obtain⟨hi,hi0⟩:=tk_some h1
 obtain⟨hj,hj0⟩:=tk_some h2
 obtain⟨ht,ht0⟩:=tk_some h3
 have text:∀ {m:Nd},m.Ok→m.text.length≤248:=fun {m} hok=>text_fits hok.most (by
  unfold Nd.Sh
  split
  ·next hl=>exact(hok.leaf hl).1
  ·next hl=>exact(hok.inner (by simpa using hl)).2.1) hok.kl hok.vl hok.kid
 have hp:∀(W:Wk) (m:Nd) (i:Nat),m.Ok→tkAt W.X.l=some i→putP W m=((i,0), { W with X := { W.X with l:=W.X.l.set i 2,T:=upd W.X.T i m.text },fresh:=W.fresh ++ [i] }):=fun W m i hm hh=>by
  unfold putP
  rw[if_neg (by have:=text hm;omega),hh]
 obtain⟨W1,e1⟩:∃W1:Wk,W1 = { (wk0 X).add r with X := { X with l:=X.l.set i 2,T:=upd X.T i n'.lo.text },fresh := [] ++ [i] } := ⟨_,rfl⟩
 have p1:putP ((wk0 X).add r) n'.lo=((i,0),W1):=by rw[hp _ _ i hlo h1,e1];rfl
 have l1:W1.X.l=X.l.set i 2:=by rw[e1]
 obtain⟨W2,e2⟩:∃W2:Wk,W2 = { W1 with X := { W1.X with l:=W1.X.l.set j 2,T:=upd W1.X.T j n'.hi.text },fresh:=W1.fresh ++ [j] } := ⟨_,rfl⟩
 have p2:putP W1 n'.hi=((j,0),W2):=by rw[hp _ _ j hhi (by rw[l1];exact h2),e2]
 have l2:W2.X.l=(X.l.set i 2).set j 2:=by rw[e2];simp only;rw[l1]
 have p3:=hp W2 ⟨false, [n'.mid], [], [i,j]⟩ t htop (by rw[l2];exact h3)
 obtain⟨W3,e3⟩:∃W3:Wk,W3 = { W2 with X := { W2.X with l:=W2.X.l.set t 2,T:=upd W2.X.T t (Nd.text ⟨false, [n'.mid], [], [i,j]⟩) },fresh:=W2.fresh ++ [t] } := ⟨_,rfl⟩
 rw[←e3] at p3
 have o3:W3.old = [r]:=by rw[e3,e2,e1];rfl
 have hrl:r < X.l.length:=live_lt (by unfold Sto.s at hr;omega)
 have nri:r ≠ i:=fun e=>by subst e;unfold Sto.s at hr;omega
 have hj0':(X.l.set i 2).getD j 0=0:=hj0
 have nrj:r ≠ j:=fun e=>by subst e;rw[getD_set hi,if_neg nri] at hj0';unfold Sto.s at hr;omega
 have ht0':((X.l.set i 2).set j 2).getD t 0=0:=ht0
 have nrt:t ≠ r:=fun e=>by
  subst e
  rw[getD_set (by simpa using hj),if_neg nrj,getD_set hi,if_neg nri] at ht0'
  unfold Sto.s at hr
  omega
 have hlay:layP ((wk0 X).add r) n'=(([i,j],n'.mid),0,W2):=by
  unfold layP
  rw[if_neg (by simp[ho]),p1]
  simp only
  rw[if_neg (fun h=>h rfl),p2]
 have hr3:W3.X.l.getD r 0=2:=by
  rw[e3]
  simp only
  rw[l2,getD_set ht,if_neg (fun e=>nrt e.symm),getD_set (by simpa using hj),if_neg nrj,getD_set hi,if_neg nri]
  exact hr
 have hload3:W3.X.load t=(⟨false, [n'.mid], [], [i,j]⟩,0):=by
  rw[e3]
  exact load_put (X:=W2.X) (by rw[l2];exact ht) htop
 have e:putT X r k v=(0,(t:Int), { W3.X with l:=W3.X.l.set r 0 }):=by
  unfold putT
  rw[if_neg (by omega),if_neg (by omega),Int.toNat_natCast,hd,if_neg (fun h=>h rfl)]
  simp only[List.reverse_cons,List.reverse_nil,List.nil_append]
  rw[upP_one]
  simp only[hset]
  rw[hlay,if_neg (fun h=>h rfl)]
  have et:topP W2 (([i,j],n'.mid):Parts)=((t,0),W3):=by
   unfold topP
   rw[if_neg (by simp)]
   exact p3
  rw[et]
  unfold doneP
  rw[if_pos rfl,o3,give1 hr3]
 have hlen3:W3.X.l.length=X.l.length:=by rw[e3];simp only;rw[l2];simp
 have hload:Sto.load { W3.X with l:=W3.X.l.set r 0 } t=(⟨false, [n'.mid], [], [i,j]⟩,0):=by
  rw[←hload3]
  exact load_keep (X:=W3.X) t rfl (by simp) (.inl (by simp only;rw[getD_set (by omega),if_neg nrt])) (.inl rfl)
 refine⟨_,e,?_,?_⟩
 ·unfold Sto.gd;rw[hload]
 ·unfold Sto.nd;rw[hload]
def awK (j:Nat):Bs := [UInt8.ofNat (97 + j)]
noncomputable def awA:Nat→Sto×Int
 | 0=>(blankX 20, -1)
 | j + 1=>((putT (awA j).1 (awA j).2 (awK j) (awK j ++ awK j)).2.2,(putT (awA j).1 (awA j).2 (awK j) (awK j ++ awK j)).2.1)
def awN (j:Nat):Nd:=⟨true,(List.range j).map awK,(List.range j).map fun i=>awK i ++ awK i, []⟩
def awE (j:Nat):List KV:=(List.range j).map fun i=>(awK i,awK i ++ awK i)
theorem awN_ok {j:Nat} (hj:j≤4):(awN j).Ok:=by
 rcases (show j=0∨j=1∨j=2∨j=3∨j=4 by omega) with rfl|rfl|rfl|rfl|rfl
 all_goals
  refine⟨by decide,fun _=>⟨by decide,rfl⟩,(fun h=>by cases h),by decide,by decide,?_,by simp[awN]⟩
  unfold Up
  decide
theorem aw_set {j:Nat} (hj:j < 5) (h1:1≤j):(awN j).set (awK j) (awK j ++ awK j)=awN (j + 1):=by
 rcases (show j=1∨j=2∨j=3∨j=4 by omega) with rfl|rfl|rfl|rfl<;>rfl
theorem blank_ti {p:Nat} (hp:p≤128) (h4:4≤p):TI (blankX p) (-1) []:=by
 obtain⟨h1,h2,h3,h4',h5,h6⟩:=blank_disk hp h4
 have hs:∀j,(blankX p).s j=0:=fun j=>by
  unfold Sto.s
  rw[h4']
  simp only[List.getD_eq_getElem?_getD,List.getElem?_replicate]
  split<;>rfl
 exact⟨fun j=>by rw[hs];omega,by rw[h4'];simp;exact hp,.inl ⟨rfl,rfl,fun x=>by rw[hs];rfl⟩⟩
structure AwS (j r:Nat) (L:List Nat):Prop where
 rt:(awA j).2=r
 gd:(awA j).1.gd r
 nd:(awA j).1.nd r=awN j
 l:(awA j).1.l=L
 s:(awA j).1.s r=2
 ti:TI (awA j).1 r (awE j)
theorem aw_ti {j:Nat} (hj:j < 5) {X X':Sto} {root:Int} {r':Nat} (t:TI X root (awE j)) (h:putT X root (awK j) (awK j ++ awK j)=(0,(r':Int),X')):TI X' r' (awE (j + 1)):=by
 have hK:(awK j).length≤24∧(awK j ++ awK j).length≤32:=by simp[awK]
 rcases putT_ok t hK.1 hK.2 with⟨X1,e, -⟩|⟨r1,X1,e,t1, -⟩
 ·rw[h] at e;injection e with e _;cases e
 ·rw[h] at e
  injection e with _ e
  injection e with e1 e2
  subst e1 e2
  have ee:insE (awE j) (awK j) (awK j ++ awK j)=awE (j + 1):=by
   rcases (show j=0∨j=1∨j=2∨j=3∨j=4 by omega) with rfl|rfl|rfl|rfl|rfl<;>rfl
  rw[ee] at t1
  exact t1
theorem aw_next {j r i:Nat} {L:List Nat} (h:AwS j r L) (h1:1≤j) (hj:j≤3) (htk:tkAt L=some i):(putT (awA j).1 (awA j).2 (awK j) (awK j ++ awK j)).1=0∧AwS (j + 1) i ((L.set i 2).set r 0):=by
 obtain⟨X',e,a1,a2,a3,a4⟩:=put_leaf (k:=awK j) (v:=awK j ++ awK j) h.gd h.nd rfl (by simp[awK]) (by simp[awK]) (aw_set (by omega) h1) (awN_ok (by omega)) h.s (by rw[h.l];exact htk)
 have ht:=aw_ti (by omega) h.ti e
 rw[←h.rt] at e
 have ea:awA (j + 1)=(X',(i:Int)):=by
  show((putT (awA j).1 (awA j).2 (awK j) (awK j ++ awK j)).2.2,(putT (awA j).1 (awA j).2 (awK j) (awK j ++ awK j)).2.1)=_
  rw[e]
 refine⟨by rw[e],?_⟩
 have e1:(awA (j + 1)).1=X':=by rw[ea]
 exact⟨by rw[ea],by rw[e1];exact a1,by rw[e1];exact a2,by rw[e1,a3,h.l],by rw[e1];exact a4,by rw[e1];exact ht⟩
theorem aw_all:(∀j,j < 5→(putT (awA j).1 (awA j).2 (awK j) (awK j ++ awK j)).1=0)∧(awA 5).2=3∧(awA 5).1.load 3=(⟨false, [awK 3], [], [0,2]⟩,0)∧getT (awA 5).1 3 (awK 3)=((awK 3 ++ awK 3,true),0):=by
 have t0:TI (awA 0).1 (-1) (awE 0):=blank_ti (by omega) (by omega)
 have l0:(awA 0).1.l=List.replicate 20 0:=(blank_disk (p:=20) (by omega) (by omega)).2.2.2.1
 obtain⟨X1,e1,a1,a2,a3,a4⟩:=put_first (X:=(awA 0).1) (i:=0) (k:=awK 0) (v:=awK 0 ++ awK 0) (by simp[awK]) (by simp[awK]) (by rw[l0];rfl)
 have s1:AwS 1 0 ((List.replicate 20 0).set 0 2):=by
  have ea:awA 1=(X1,(0:Int)):=by
   show((putT (awA 0).1 (awA 0).2 (awK 0) (awK 0 ++ awK 0)).2.2,(putT (awA 0).1 (awA 0).2 (awK 0) (awK 0 ++ awK 0)).2.1)=_
   have:(awA 0).2 = -1:=rfl
   rw[this,e1];rfl
  have e2:(awA 1).1=X1:=by rw[ea]
  exact⟨by rw[ea];rfl,by rw[e2];exact a1,by rw[e2];exact a2,by rw[e2,a3,l0],by rw[e2];exact a4,by rw[e2];exact aw_ti (by omega) t0 e1⟩
 obtain⟨z1,s2⟩:=aw_next s1 (by omega) (by omega) (i:=1) rfl
 obtain⟨z2,s3⟩:=aw_next s2 (by omega) (by omega) (i:=0) rfl
 obtain⟨z3,s4⟩:=aw_next s3 (by omega) (by omega) (i:=1) rfl
 have hov:(awN 5).over=true:=rfl
 have hlo:(awN 5).lo.Ok:=by
  refine⟨by decide,fun _=>⟨by decide,rfl⟩,(fun h=>by cases h),by decide,by decide,?_,by decide⟩
  unfold Up
  decide
 have hhi:(awN 5).hi.Ok:=by
  refine⟨by decide,fun _=>⟨by decide,rfl⟩,(fun h=>by cases h),by decide,by decide,?_,by decide⟩
  unfold Up
  decide
 have htop:Nd.Ok ⟨false, [(awN 5).mid], [], [0,2]⟩:=⟨by decide,(fun h=>by cases h),fun _=>⟨by decide,by decide,rfl⟩,by decide,by decide,List.pairwise_singleton _ _,by decide⟩
 obtain⟨X5,e5,b1,b2⟩:=put_split (k:=awK 4) (v:=awK 4 ++ awK 4) s4.gd s4.nd rfl (by simp[awK]) (by simp[awK]) (aw_set (by omega) (by omega)) hov hlo hhi htop s4.s (by rw[s4.l];rfl) (by rw[s4.l];rfl) (t:=3) (by rw[s4.l];rfl)
 have t5:=aw_ti (by omega) s4.ti e5
 rw[←s4.rt] at e5
 have ea:awA 5=(X5,(3:Int)):=by
  show((putT (awA 4).1 (awA 4).2 (awK 4) (awK 4 ++ awK 4)).2.2,(putT (awA 4).1 (awA 4).2 (awK 4) (awK 4 ++ awK 4)).2.1)=_
  rw[e5];rfl
 have e6:(awA 5).1=X5:=by rw[ea]
 refine⟨fun j hj=>?_,by rw[ea],?_,?_⟩
 ·rcases (show j=0∨j=1∨j=2∨j=3∨j=4 by omega) with rfl|rfl|rfl|rfl|rfl
  ·have:(awA 0).2 = -1:=rfl
   rw[this,e1]
  ·exact z1
  ·exact z2
  ·exact z3
  ·rw[e5]
 ·rw[e6]
  have h1:(X5.load (3:Nat)).2=0:=b1
  have h2:(X5.load (3:Nat)).1=⟨false, [(awN 5).mid], [], [0,2]⟩:=b2
  have h3:(awN 5).mid=awK 3:=rfl
  rw[h3] at h2
  exact Prod.ext h2 h1
 ·rw[e6]
  have:=getT_ok (k:=awK 3) t5
  have h3:valE (awE 5) (awK 3)=(awK 3 ++ awK 3,true):=rfl
  rw[h3] at this
  exact this
end Go.Proofs.YtfgjehecjgebdaaGreat
/- The laws of 09: awake. -/
namespace Go.Proofs.YtfgjehecjgebdaaGreat
open Go.RowKit Go.Maps Go.ChangeMaps
attribute [local go_sem] Oper.semAt_some
def awS (j:Nat):ByteArray:=⟨#[UInt8.ofNat (97 + j)]⟩
theorem awS_ba (j:Nat):awS j=ba (awK j):=rfl
set_option maxRecDepth 100000 in
set_option maxHeartbeats 4000000 in
theorem awake9_calls (w:World):Calls Tryz.prog 31 #[] w fun e w'=>e = .returned (.bool true)∧Kept (fun _=>False) w w':=by
 have HB:=Lib.hid (fun w=>Begin_calls (p:=20) (by omega) (by omega) w)
 have HA:=Lib.hid aw_all
 go_enter Tryz.func31,Tryz.ntmps31
 go_wp2_with fail
 refine(HB.out w).mono ?_
 rintro e w1 ⟨q,rfl,tw1,k1,hq, -⟩
 have T1:=Lib.hid tw1;have K1:=Lib.hid k1;have HQ:=Lib.hid hq
 clear tw1 k1 hq HB
 go_wp2_with fail
 obtain⟨N,hN⟩:∃N,N=w1.heap.size:=⟨_,rfl⟩
 obtain⟨w2,hw2⟩:∃w2,w2=w1.alloc (.cells #[.string ⟨#[97]⟩,.string ⟨#[98]⟩,.string ⟨#[99]⟩,.string ⟨#[100]⟩,.string ⟨#[101]⟩] 9):=⟨_,rfl⟩
 rw[←hw2, ←hN]
 have K2:Hid (Kept (fun _=>False) w1 w2):=by rw[hw2];exact(Kept.refl _ _).alloc _
 have HBN:Hid (w2.heap[N]? = some (.cells #[.string ⟨#[97]⟩,.string ⟨#[98]⟩,.string ⟨#[99]⟩,.string ⟨#[100]⟩,.string ⟨#[101]⟩] 9 (0,0))):=by show _=_;rw[hw2,hN];exact heap_new w1 _
 have T2:=Lib.hid (T1.out.keptF K2.out)
 have HS:Hid (q.c < N∧q.m < N∧q.t < N):=by have:=T1.out.small;rw[hN];exact this
 clear hw2 hN
 go_loopw [4,18] (fun _ i wr=>∃j:Nat,j≤5∧i = .int .i64 j∧Hid (TW wr q (awA j).1 (awA j).2)∧Hid (Kept (fun k=>k=q.c∨k=q.m∨k=q.t) w2 wr)) (fun _ i _=>5 - (RowKit.intOf i).toNat)
 case atStart=>exact⟨0,by omega,rfl,T2.out,Kept.refl _ _⟩
 case round =>
  obtain⟨j,hj,rfl,TR,KR⟩:=hrel
  by_cases hlt:j < 5
  ·have hbn:=KR.out.heap HBN.out (by have:=HS.out;omega)
   obtain⟨sj,hsj⟩:∃s,s=awS j:=⟨_,rfl⟩
   have q1:wr.cell? ⟨N,j,none⟩=some (.string sj):=by
    rw[cell_heap hbn,hsj]
    rcases (show j=0∨j=1∨j=2∨j=3∨j=4 by omega) with rfl|rfl|rfl|rfl|rfl<;>rfl
   have hsz:sj.size=1:=by rw[hsj];rfl
   have CP:=Lib.hid (TreePut_calls TR.out (awK j) (awK j ++ awK j))
   have e2:ba (awK j ++ awK j)=sj ++ sj:=by rw[hsj,awS_ba,ba_append]
   rw[e2, ←awS_ba, ←hsj] at CP
   have HA0:=Lib.hid (HA.out.1 j hlt)
   clear hbn hsj e2
   go_wp2_with fail
   refine CP.out.mono ?_
   rintro e w3 ⟨rfl,tw3,k3⟩
   rw[HA0.out]
   have T3:Hid (TW w3 q (awA (j + 1)).1 (awA (j + 1)).2):=tw3
   have K3:=Lib.hid (KR.out.trans k3)
   clear tw3 k3 CP q1 hsz
   go_wp2_with fail
   go_roundw
   case rel=>exact⟨j + 1,by omega,by go_num,T3.out,K3.out⟩
   case measure=>simp[RowKit.intOf];omega
  ·obtain rfl:j=5:=by omega
   obtain⟨-,h1,h2,h3⟩:=HA.out
   obtain⟨X,hX⟩:∃X,X=(awA 5).1:=⟨_,rfl⟩
   have TR3:Hid (TW wr q X 3):=by
    have h:=TR.out
    rw[h1, ←hX] at h
    exact h
   rw[←hX] at h2 h3
   have CR:=Lib.hid (TreeRoot_calls TR3.out)
   have CL:=Lib.hid (TreeLoadX_calls TR3.out 3)
   have CG:=Lib.hid fun w' (kk:Kept (fun _=>False) wr w')=>TreeGet_calls (TR3.out.keptF kk) (awK 3)
   rw[h2] at CL
   rw[h3] at CG
   unfold LoadTo at CL
   unfold GetTo at CG
   have KW:Hid (Kept (fun _=>False) w wr):=(K1.out.trans K2.out).then KR.out fun i hi e=>by
    have:=HQ.out.t;have:=HQ.out.c;have:=HQ.out.m;omega
   clear h1 h2 h3 hX HA TR
   go_wp2_with fail
   refine CR.out.mono ?_
   rintro e w3 ⟨rfl,rfl⟩
   clear CR
   go_wp2_with fail
   refine CL.out.mono ?_
   rintro e w4 ⟨k4,v,rfl,hn⟩
   obtain⟨l,A1,n1,c1,A2,n2,c2,A3,n3,c3,rfl,HE,N1,R1, -, -⟩:=hn.opened
   obtain⟨e0,e1, -,e3⟩:=HE.out
   simp only[List.length_cons,List.length_nil] at e0 e1 e3
   subst e0 e1 e3
   obtain⟨g,cg,ev⟩:=own_form R1.out (by simp)
   injection ev with ev1 ev2 ev3
   subst ev1
   clear ev2 ev3
   have q1:w4.cell? ⟨g,0,none⟩=some (.string ⟨#[100]⟩):=by rw[SRow.at_ R1.out (show 0 < [awK 3].length by simp)];rfl
   have lg:g < w4.heap.size:=own_lt R1.out rfl
   have K4:=Lib.hid k4
   have CN:=Lib.hid fun w' (kk:Kept (fun _=>False) w4 w')=>NdLen_calls (N1.out.kept kk)
   clear k4 hn CL HE R1
   go_wp2_with fail
   refine(CG.out _ (K4.out.alloc _)).mono ?_
   rintro e w5 ⟨rfl,k5⟩
   have K5:=Lib.hid (((Kept.refl (fun _=>False) w4).alloc (.cells #[.bool false,.slice (some ⟨g,0,none⟩) 1 c1,.slice A2 n2 c2,.slice A3 2 c3] 148)).trans k5)
   have HB5:=Lib.hid (k5.heap (heap_new w4 (.cells #[.bool false,.slice (some ⟨g,0,none⟩) 1 c1,.slice A2 n2 c2,.slice A3 2 c3] 148)) id)
   obtain⟨d0,d1,d2,d3⟩:=nd_cells HB5.out
   have q5:w5.cell? ⟨g,0,none⟩=some (.string ⟨#[100]⟩):=(World.cell?_of_block (K5.out.block g lg id)).trans q1
   have lg5:g < w5.heap.size:=Nat.lt_of_lt_of_le lg K5.out.size
   have CN5:=Lib.hid (CN.out w5 K5.out)
   rw[show ba (awK 3 ++ awK 3)=⟨#[100,100]⟩ from rfl]
   dsimp only[Nd.len] at CN5
   clear k5 CG q1 lg CN
   go_wp2_with fail
   refine CN5.out.mono ?_
   rintro e w6 ⟨rfl,k6⟩
   have K6:=Lib.hid k6
   obtain⟨d0',d1',d2',d3'⟩:=nd_cells (k6.heap HB5.out id)
   have q6:w6.cell? ⟨g,0,none⟩=some (.string ⟨#[100]⟩):=(World.cell?_of_block (K6.out.block g lg5 id)).trans q5
   clear k6 CN5 d0 d1 d2 d3 q5
   go_wp2_with fail
   refine bodyPost_ret (v:=.bool true) (by simp[results,Tryz.f31,go_sem]) rfl ?_
   exact⟨rfl,((KW.out.trans K4.out).trans K5.out).trans K6.out⟩
end Go.Proofs.YtfgjehecjgebdaaGreat
