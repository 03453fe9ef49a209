/- Nodes as texts, in plain lists: which may stand, the text, and back. -/
import Derived.Test.YtfgjehecjgebdaaGreatMg19
import Derived.Test.YtfgjehecjgebdaaGreatMg17
namespace Go.Proofs.YtfgjehecjgebdaaGreat
set_option maxHeartbeats 1000000
def nd0:Nd:=⟨false, [], [], []⟩
structure Nd.Ok (n:Nd):Prop where
 most:n.over=false
 leaf:n.leaf=true→n.vals.length=n.keys.length∧n.kids = []
 inner:n.leaf=false→2≤n.kids.length∧n.keys.length + 1=n.kids.length∧n.vals = []
 kl:∀k∈n.keys,k.length≤24
 vl:∀v∈n.vals,v.length≤32
 up:Up n.keys
 kid:∀i∈n.kids,i < 128
theorem Nd.Ok.len {n:Nd} (h:n.Ok):n.keys.length≤5∧n.vals.length≤4∧n.kids.length≤6:=by
 have hm:=h.most
 cases hl:n.leaf
 ·have hi:=h.inner hl
  simp[Nd.over,Nd.len,hl] at hm
  rw[hi.2.2];simp;omega
 ·have hi:=h.leaf hl
  simp[Nd.over,Nd.len,hl] at hm
  rw[hi.2];simp;omega
theorem Nd.Ok.sm {n:Nd} (h:n.Ok):n.Sm:=by have:=h.len;exact⟨by omega,by omega,by omega⟩
def Nd.kvs (n:Nd):List (Bs×Bs):=n.keys.zip n.vals
def kvT (p:Bs×Bs):Bs:=encSs [p.1,p.2]
def Nd.text (n:Nd):Bs:=if n.leaf then encNs [1,(n.keys.length:Int)] ++ n.kvs.flatMap kvT else encNs [2,(n.kids.length:Int)] ++ encNs (n.kids.map fun i:Nat=>(i:Int)) ++ encSs n.keys
def pStepL (p:Nd×InSt):Nd×InSt:=({ p.1 with keys:=p.1.keys ++ [(iS 24 p.2).1],vals:=p.1.vals ++ [(iS 32 (iS 24 p.2).2).1] },(iS 32 (iS 24 p.2).2).2)
def pStepI (p:Nd×InSt):Nd×InSt:=({ p.1 with kids:=p.1.kids ++ [(iN 127 p.2).1] },(iN 127 p.2).2)
def pStepK (p:Nd×InSt):Nd×InSt:=({ p.1 with keys:=p.1.keys ++ [(iS 24 p.2).1] },(iS 24 p.2).2)
def pLoop (f:Nd×InSt→Nd×InSt):Nat→Nd×InSt→Nd×InSt
 | 0,p=>p
 | k + 1,p=>if p.2.2=0 then pLoop f k (f p) else p
def pKind (t:Bs):Nat×InSt:=iN 2 (t,0)
def pS1 (t:Bs):InSt:=if (pKind t).2.2=0∧(pKind t).1=0 then iFail 6 (pKind t).2 else (pKind t).2
def pLf (t:Bs):Bool:=(pKind t).1 == 1
def pCount (t:Bs):Nat×InSt:=iN (if pLf t then 4 else 6) (pS1 t)
def pBody (t:Bs):Nd×InSt:=pLoop (if pLf t then pStepL else pStepI) (pCount t).1 (⟨pLf t, [], [], []⟩,(pCount t).2)
def pAll (t:Bs):Nd×InSt:=if pLf t then pBody t else pLoop pStepK ((pCount t).1 - 1) (pBody t)
open Classical in
noncomputable def parseNd (t:Bs):Option Nd:=if (iEnd (pAll t).2).2=0∧(pAll t).1.Ok then some (pAll t).1 else none
theorem parseNd_ok {t:Bs} {n:Nd} (h:parseNd t=some n):n.Ok:=by
 unfold parseNd at h
 split at h
 ·next hc=>injection h with h;rw[←h];exact hc.2
 ·cases h
theorem encNs_cons (x:Int) (l:List Int):encNs (x :: l)=encN x ++ encNs l:=by simp[encNs]
theorem encSs_cons (x:Bs) (l:List Bs):encSs (x :: l)=encS x ++ encSs l:=by simp[encSs]
theorem encNs_nil:encNs [] = []:=rfl
theorem encSs_nil:encSs [] = []:=rfl
theorem loopL:∀(kv:List (Bs×Bs)) (_:∀p∈kv,p.1.length≤24∧p.2.length≤32) (n:Nd) (r:Bs),
  pLoop pStepL kv.length (n,(kv.flatMap kvT ++ r,0))=({ n with keys:=n.keys ++ kv.map (·.1),vals:=n.vals ++ kv.map (·.2) },(r,0))
 | [],_,n,r=>by simp[pLoop]
 | p :: kv,h,n,r=>by
  have hp:=h p (by simp)
  have e:((p :: kv).flatMap kvT ++ r)=encS p.1 ++ (encS p.2 ++ (kv.flatMap kvT ++ r)):=by simp[kvT,encSs_cons,encSs_nil]
  have e1:=iS_enc 24 p.1 (by omega) (by omega) (encS p.2 ++ (kv.flatMap kvT ++ r))
  have e2:=iS_enc 32 p.2 (by omega) (by omega) (kv.flatMap kvT ++ r)
  rw[e,List.length_cons,pLoop,if_pos rfl]
  have es:pStepL (n,(encS p.1 ++ (encS p.2 ++ (kv.flatMap kvT ++ r)),0))=({ n with keys:=n.keys ++ [p.1],vals:=n.vals ++ [p.2] },(kv.flatMap kvT ++ r,0)):=by
   unfold pStepL;rw[e1];dsimp only;rw[e2]
  rw[es,loopL kv (fun q hq=>h q (by simp[hq]))]
  simp
theorem loopI:∀(l:List Nat) (_:∀i∈l,i < 128) (n:Nd) (r:Bs),
  pLoop pStepI l.length (n,(encNs (l.map fun i:Nat=>(i:Int)) ++ r,0))=({ n with kids:=n.kids ++ l },(r,0))
 | [],_,n,r=>by simp[pLoop,encNs_nil]
 | i :: l,h,n,r=>by
  have hi:=h i (by simp)
  have e1:=iN_enc 127 i (by omega) (by omega) (encNs (l.map fun i:Nat=>(i:Int)) ++ r)
  rw[List.length_cons,pLoop,if_pos rfl,List.map_cons,encNs_cons,List.append_assoc]
  have es:pStepI (n,(encN (i:Int) ++ (encNs (l.map fun i:Nat=>(i:Int)) ++ r),0))=({ n with kids:=n.kids ++ [i] },(encNs (l.map fun i:Nat=>(i:Int)) ++ r,0)):=by
   unfold pStepI;rw[e1]
  rw[es,loopI l (fun q hq=>h q (by simp[hq]))]
  simp
theorem loopK:∀(l:List Bs) (_:∀i∈l,i.length≤24) (n:Nd) (r:Bs),
  pLoop pStepK l.length (n,(encSs l ++ r,0))=({ n with keys:=n.keys ++ l },(r,0))
 | [],_,n,r=>by simp[pLoop,encSs_nil]
 | i :: l,h,n,r=>by
  have hi:=h i (by simp)
  have e1:=iS_enc 24 i (by omega) (by omega) (encSs l ++ r)
  rw[List.length_cons,pLoop,if_pos rfl,encSs_cons,List.append_assoc]
  have es:pStepK (n,(encS i ++ (encSs l ++ r),0))=({ n with keys:=n.keys ++ [i] },(encSs l ++ r,0)):=by
   unfold pStepK;rw[e1]
  rw[es,loopK l (fun q hq=>h q (by simp[hq]))]
  simp
theorem parse_text {n:Nd} (h:n.Ok):parseNd n.text=some n:=by
 have hl:=h.len
 obtain⟨lf,ks,vs,is⟩:=n
 have key:(pAll (Nd.text ⟨lf,ks,vs,is⟩))=(⟨lf,ks,vs,is⟩,([],0)):=by
  cases lf
  ·obtain⟨h1,h2,h3⟩:=h.inner rfl
   dsimp only at h1 h2 h3 hl
   subst h3
   have et:Nd.text ⟨false,ks, [],is⟩=encN (2:Nat) ++ (encN (is.length:Int) ++ (encNs (is.map fun i:Nat=>(i:Int)) ++ (encSs ks ++ []))):=by
    simp[Nd.text,encNs_cons,encNs_nil]
   have e1:pKind (Nd.text ⟨false,ks, [],is⟩)=(2,(encN (is.length:Int) ++ (encNs (is.map fun i:Nat=>(i:Int)) ++ (encSs ks ++ [])),0)):=by
    unfold pKind;rw[et];exact iN_enc 2 2 (by omega) (by omega) _
   have e2:pLf (Nd.text ⟨false,ks, [],is⟩)=false:=by unfold pLf;rw[e1];rfl
   have e3:pS1 (Nd.text ⟨false,ks, [],is⟩)=(encN (is.length:Int) ++ (encNs (is.map fun i:Nat=>(i:Int)) ++ (encSs ks ++ [])),0):=by unfold pS1;rw[e1];simp
   have e4:pCount (Nd.text ⟨false,ks, [],is⟩)=(is.length,(encNs (is.map fun i:Nat=>(i:Int)) ++ (encSs ks ++ []),0)):=by
    unfold pCount;rw[e2,e3];exact iN_enc 6 is.length (by omega) (by omega) _
   have e5:pBody (Nd.text ⟨false,ks, [],is⟩)=(⟨false, [], [],is⟩,(encSs ks ++ [],0)):=by
    unfold pBody;rw[e2,e4];exact loopI is h.kid _ _
   unfold pAll
   rw[e2,e4,e5,if_neg (by simp)]
   have:is.length - 1=ks.length:=by omega
   dsimp only
   rw[this]
   exact loopK ks h.kl _ _
  ·obtain⟨h1,h2⟩:=h.leaf rfl
   dsimp only at h1 h2 hl
   subst h2
   have hz1:(ks.zip vs).map (·.1)=ks:=List.map_fst_zip (by omega)
   have hz2:(ks.zip vs).map (·.2)=vs:=List.map_snd_zip (by omega)
   have hzl:(ks.zip vs).length=ks.length:=by simp;omega
   have et:Nd.text ⟨true,ks,vs, []⟩=encN (1:Nat) ++ (encN ((ks.zip vs).length:Nat) ++ ((ks.zip vs).flatMap kvT ++ [])):=by
    rw[hzl];simp[Nd.text,encNs_cons,encNs_nil,Nd.kvs]
   have e1:pKind (Nd.text ⟨true,ks,vs, []⟩)=(1,(encN ((ks.zip vs).length:Nat) ++ ((ks.zip vs).flatMap kvT ++ []),0)):=by
    unfold pKind;rw[et];exact iN_enc 2 1 (by omega) (by omega) _
   have e2:pLf (Nd.text ⟨true,ks,vs, []⟩)=true:=by unfold pLf;rw[e1];rfl
   have e3:pS1 (Nd.text ⟨true,ks,vs, []⟩)=(encN ((ks.zip vs).length:Nat) ++ ((ks.zip vs).flatMap kvT ++ []),0):=by unfold pS1;rw[e1];simp
   have e4:pCount (Nd.text ⟨true,ks,vs, []⟩)=((ks.zip vs).length,((ks.zip vs).flatMap kvT ++ [],0)):=by
    unfold pCount;rw[e2,e3];exact iN_enc 4 _ (by rw[hzl];omega) (by omega) _
   have e5:pBody (Nd.text ⟨true,ks,vs, []⟩)=(⟨true,ks,vs, []⟩,([],0)):=by
    unfold pBody;rw[e2,e4]
    refine(loopL (ks.zip vs) (fun p hp=>⟨h.kl _ ?_,h.vl _ ?_⟩) _ _).trans ?_
    ·exact(List.of_mem_zip hp).1
    ·exact(List.of_mem_zip hp).2
    ·rw[hz1,hz2];rfl
   unfold pAll
   rw[e2,if_pos rfl,e5]
 unfold parseNd
 rw[key,if_pos ⟨by simp[iEnd],h⟩]
theorem encN_small {n:Nat} (h:n < 256):(encN n).length≤2:=by
 show(encU ((n:Int).toNat)).length≤2
 rw[Int.toNat_natCast,encU_len]
 have:=nb_le n 1 (by omega)
 omega
theorem encNs_small:∀(l:List Nat) (_:∀i∈l,i < 256),(encNs (l.map fun i:Nat=>(i:Int))).length≤2 * l.length
 | [],_=>by simp[encNs_nil]
 | i :: l,h=>by
  rw[List.map_cons,encNs_cons]
  have h1:=encN_small (h i (by simp))
  have h2:=encNs_small l (fun j hj=>h j (by simp[hj]))
  simp only[List.length_append,List.length_cons];omega
theorem encSs_small (M:Nat) (hM:M < 256):∀(l:List Bs) (_:∀i∈l,i.length≤M),(encSs l).length≤(M + 2) * l.length
 | [],_=>by simp[encSs_nil]
 | i :: l,h=>by
  rw[encSs_cons]
  have h1:=encS_len i (by have:=h i (by simp);omega)
  have h3:=h i (by simp)
  have h2:=encSs_small M hM l (fun j hj=>h j (by simp[hj]))
  simp only[List.length_append,List.length_cons,Nat.mul_add];omega
theorem kvT_small:∀(l:List (Bs×Bs)) (_:∀p∈l,p.1.length≤24∧p.2.length≤32),(l.flatMap kvT).length≤60 * l.length
 | [],_=>by simp
 | p :: l,h=>by
  have h1:=h p (by simp)
  have h2:=kvT_small l (fun j hj=>h j (by simp[hj]))
  have e1:=encS_len p.1 (by omega)
  have e2:=encS_len p.2 (by omega)
  simp only[List.flatMap_cons,List.length_append,List.length_cons,kvT,encSs_cons,encSs_nil,List.length_nil];omega
theorem text_fits {n:Nd} (hm:n.over=false) (hs:n.Sh) (h1:∀k∈n.keys,k.length≤24) (h2:∀v∈n.vals,v.length≤32) (h3:∀i∈n.kids,i < 128):n.text.length≤248:=by
 obtain⟨lf,ks,vs,is⟩:=n
 cases lf
 ·simp[Nd.over,Nd.len] at hm
  have hs':ks.length + 1=is.length:=by simpa[Nd.Sh] using hs
  have e1:=encNs_small is (fun i hi=>by have:=h3 i hi;omega)
  have e2:=encSs_small 24 (by omega) ks h1
  have e3:(encN 2).length≤2:=encN_small (n:=2) (by omega)
  have e4:=encN_small (n:=is.length) (by omega)
  simp only[Nd.text,encNs_cons,encNs_nil,List.length_append,List.length_nil,Bool.false_eq_true,if_false] at *
  omega
 ·simp[Nd.over,Nd.len] at hm
  have hs':vs.length=ks.length:=by simpa[Nd.Sh] using hs
  have e1:=kvT_small (ks.zip vs) (fun p hp=>⟨h1 _ (List.of_mem_zip hp).1,h2 _ (List.of_mem_zip hp).2⟩)
  have e2:(ks.zip vs).length=ks.length:=by simp;omega
  have e3:(encN 1).length≤2:=encN_small (n:=1) (by omega)
  have e4:=encN_small (n:=ks.length) (by omega)
  simp only[Nd.text,Nd.kvs,encNs_cons,encNs_nil,List.length_append,List.length_nil,if_true] at *
  omega
end Go.Proofs.YtfgjehecjgebdaaGreat
