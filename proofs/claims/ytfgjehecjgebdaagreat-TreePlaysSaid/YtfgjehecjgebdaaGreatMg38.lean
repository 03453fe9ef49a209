/- Plain: what stands on a device; what Open finds there; what a checkpoint leaves there. -/
import Derived.Test.YtfgjehecjgebdaaGreatMg31
import Derived.Test.YtfgjehecjgebdaaGreatMg32
import Derived.Test.YtfgjehecjgebdaaGreatMg14
namespace Go.Proofs.YtfgjehecjgebdaaGreat
def L01 (l:List Nat):Prop:=∀x∈l,x=0∨x=1
theorem inUse_01 {l:List Nat} (h:L01 l):inUse l=l:=by
 unfold inUse
 conv=>rhs;rw[←List.map_id l]
 apply List.map_congr_left
 intro x hx
 rcases h x hx with rfl|rfl<;>rfl
theorem ud_01 (l:List Nat) (h4:∀x∈l,x < 4):L01 (ud l):=by
 intro x hx
 simp only[ud,chg,List.mem_map] at hx
 obtain⟨a,⟨b,hb,rfl⟩,rfl⟩:=hx
 have:=h4 b hb
 split<;>split<;>(try split)<;>omega
theorem kp_01 (l:List Nat) (h4:∀x∈l,x < 4):L01 (kp l):=by
 intro x hx
 simp only[kp,chg,List.mem_map] at hx
 obtain⟨a,⟨b,hb,rfl⟩,rfl⟩:=hx
 have:=h4 b hb
 split<;>split<;>(try split)<;>omega
theorem supB_eq (s:Sup) (l:List Nat) (h : -1≤s.root):supB s l=encN (((s.root + 1).toNat:Nat):Int) ++ (encN (s.log:Int) ++ (encN (s.next:Int) ++ (encS (byB l) ++ []))):=by
 have e:(((s.root + 1).toNat:Nat):Int)=s.root + 1:=by omega
 rw[e]
 simp[supB,encNs,encSs]
theorem supOf_supB {p:Nat} {s:Sup} (h:s.Good) {l:List Nat} (hl:l.length=p) (hp:p≤128) (h01:L01 l) (hr:s.root < p) (hroot:s.root = -1∨stAt l s.root=1):supOf p s.gen (supB s l)=some (s,l):=by
 have:=h.r1
 have hb:=byB_len l (by omega)
 have ea:pA p (supB s l)=((s.root + 1).toNat,(encN (s.log:Int) ++ (encN (s.next:Int) ++ (encS (byB l) ++ [])),0)):=by
  rw[pA,supB_eq s l h.r1];exact iN_enc p _ (by omega) (by omega) _
 have eb:pB p (supB s l)=(s.log,(encN (s.next:Int) ++ (encS (byB l) ++ []),0)):=by
  rw[pB,ea];exact iN_enc _ _ (by have:=h.l2;omega) (by omega) _
 have ec:pC p (supB s l)=(s.next,(encS (byB l) ++ [],0)):=by
  rw[pC,eb];exact iN_enc _ _ (by have:=h.n2;omega) (by omega) _
 have ed:pD p (supB s l)=(byB l,([],0)):=by
  rw[pD,ec];exact iS_enc 16 _ (by omega) (by omega) _
 have hf:fine p (ba (byB l))=true:=by rw[←bstr_byB];exact fine_bys l p hl
 have hq:parsed p (ba (byB l))=l:=by rw[←bstr_byB,parsed_bys l p hl,inUse_01 h01]
 simp only[supOf,ea,eb,ec,ed,hf,hq]
 have hl1:=h.l1
 rw[if_neg (by simp[iEnd];omega),if_neg (by simp)]
 have e:(((s.root + 1).toNat:Nat):Int) - 1=s.root:=by omega
 rw[e,if_neg (by rcases hroot with h1|h1;omega;rintro⟨_,h2⟩;exact h2 h1)]
theorem pgOf_full {t:List UInt8} (h:t.length≤248):pgOf (fullB t)=(t,0):=by
 have hd:(fullB t).drop 4=encS t ++ List.replicate (252 - (encS t).length) 0:=by
  have h4:=le4_len (crcOf (padTo 252 (encS t)))
  simp only[fullB,summed]
  rw[←h4,List.drop_left]
  rfl
 simp only[pgOf,hd]
 rw[iS_enc 248 t (by omega) (by omega)]
 simp
theorem four_parts (f:List UInt8) (h:f.length=256):(List.range 4).flatMap (fun k=>(f.drop (64 * k)).take 64)=f:=by
 have e:List.range 4 = [0,1,2,3]:=rfl
 rw[e]
 simp only[List.flatMap_cons,List.flatMap_nil,List.append_nil,Nat.mul_zero,List.drop_zero]
 have h3:(f.drop (64 * 3)).take 64=f.drop (64 * 3):=List.take_of_length_le (by simp;omega)
 rw[h3]
 have s1:f.drop (64 * 2)=(f.drop (64 * 2)).take 64 ++ f.drop (64 * 3):=by
  conv=>lhs;rw[←List.take_append_drop 64 (f.drop (64 * 2))]
  rw[List.drop_drop]
 have s2:f.drop (64 * 1)=(f.drop (64 * 1)).take 64 ++ f.drop (64 * 2):=by
  conv=>lhs;rw[←List.take_append_drop 64 (f.drop (64 * 1))]
  rw[List.drop_drop]
 rw[←s1, ←s2]
 exact List.take_append_drop 64 f
structure OnDisk (p:Nat) (S:List (List UInt8)) (l:List Nat) (s:Sup) (K:Nat→List UInt8):Prop where
 good:s.Good
 gen:1≤s.gen∧s.gen≤1099511627776
 one:S.getD (s.gen % 2) []=secText ⟨s.gen,0,supB s l⟩
 two:∀y,Says (S.getD ((s.gen + 1) % 2) []) y→y.stamp < s.gen
 len:l.length=p
 l01:L01 l
 rp:s.root < p
 root:s.root = -1∨stAt l s.root=1
 page:∀i,l.getD i 0=1→(K i).length≤248 ∧ ∀k,k < 4→S.getD (2 + 4 * i + k) []=((fullB (K i)).drop (64 * k)).take 64
theorem OnDisk.sec {p S l s K} (h:OnDisk p S l s K) (hp:p≤128):Sec.Good ⟨s.gen,0,supB s l⟩ :=
 ⟨h.gen.1,h.gen.2,by simp only;omega,(supB_len h.good (by have:=h.len;omega)).1⟩
theorem OnDisk.found {p S l s K} (h:OnDisk p S l s K) (hp:p≤128) {r:Option (Sec×Bool)} (hr:Newest (S.getD 0 []) (S.getD 1 []) r) :
  r=some (⟨s.gen,0,supB s l⟩,decide (s.gen % 2=1))∧supOf p s.gen (supB s l)=some (s,l):=by
 refine⟨?_,supOf_supB h.good h.len hp h.l01 h.rp h.root⟩
 have hs:Says (S.getD (s.gen % 2) []) ⟨s.gen,0,supB s l⟩:=⟨h.sec hp,h.one.symm⟩
 have ho:=h.two
 rcases Nat.mod_two_eq_zero_or_one s.gen with e|e
 ·rw[e] at hs
  have e2:(s.gen + 1) % 2=1:=by omega
  rw[e2] at ho
  rw[e]
  cases hr with
  | second y hy hlt=>have h1:=hlt _ hs;have h2:=ho y hy;simp only at h1;omega
  | first x hx _=>rw[hx.unique hs];rfl
  | none h1 _=>exact absurd hs (h1 _)
 ·rw[e] at hs
  have e2:(s.gen + 1) % 2=0:=by omega
  rw[e2] at ho
  rw[e]
  cases hr with
  | second y hy _=>rw[hy.unique hs];rfl
  | first x hx hle=>have h1:=hle _ hs;have h2:=ho x hx;simp only at h1;omega
  | none _ h2=>exact absurd hs (h2 _)
structure Hale (D:Dev):Prop where
 cache:D.cache = []
 left:D.left = -1
 down:D.down=false
theorem Hale.text {D:Dev} (h:Hale D) (i:Nat):D.text i=D.secs.getD i []:=by simp[Dev.text,h.cache]
theorem call_on {D:Dev} (hl:D.left = -1) (hd:D.down=false):D.call=(true,D):=by simp[Dev.call,hl,hd]
theorem pad64_whole {t:List UInt8} (h:t.length=64):pad64 t=t:=by simp[pad64,h]
theorem write_on {D:Dev} (hl:D.left = -1) (hd:D.down=false) (a:Nat) (t:List UInt8) (ha:a < D.secs.length) (ht:t.length=64):D.write a t=(0, { D with cache:=D.cache ++ [(a,t)] }):=by
 unfold Dev.write
 rw[if_neg (by omega),call_on hl hd]
 simp[pad64_whole ht]
theorem wrAll_on:∀(ws:List (Nat×List UInt8)) {D:Dev},D.left = -1→D.down=false→(∀q∈ws,q.1 < D.secs.length∧q.2.length=64)→wrAll D ws=(0, { D with cache:=D.cache ++ ws })
 | [],D,_,_,_=>by simp[wrAll]
 | q :: r,D,hl,hd,hw=>by
  have h1:=write_on hl hd q.1 q.2 (hw q (by simp)).1 (hw q (by simp)).2
  simp only[wrAll]
  have h2:=wrAll_on r (D := { D with cache:=D.cache ++ [(q.1,q.2)] }) hl hd (fun x hx=>hw x (by simp[hx]))
  rw[h1]
  simp only[if_true]
  rw[h2]
  simp
theorem flush_on {D:Dev} (hl:D.left = -1) (hd:D.down=false):D.flush=(0, { D with secs:=settle D.secs D.cache,cache := [] }):=by
 unfold Dev.flush
 rw[call_on hl hd]
 rfl
theorem OnDisk.read {p S l s K} (h:OnDisk p S l s K) {D:Dev} (hD:Hale D) (hS:D.secs=S) (i:Nat) (hi:l.getD i 0=1):pgOf (rawTo D i 4)=(K i,0):=by
 have hp:=h.page i hi
 have hr:rawTo D i 4=fullB (K i):=by
  rw[←four_parts (fullB (K i)) (fullB_len _ hp.1)]
  simp only[rawTo]
  simp only[List.flatMap]
  congr 1
  apply List.map_congr_left
  intro k hk
  rw[hD.text,hS,hp.2 k (List.mem_range.1 hk)]
 rw[hr,pgOf_full hp.1]
def ckW (X:Sto):List (Nat×List UInt8):=(fresh X.l).flatMap (pgW X.T)
theorem ckW_mem {X:Sto} (hT:∀i∈fresh X.l,(X.T i).length≤248) {q:Nat×List UInt8} (hq:q∈ckW X):∃i∈fresh X.l, ∃k,k < 4∧q=(2 + 4 * i + k,((fullB (X.T i)).drop (64 * k)).take 64)∧q.2.length=64:=by
 simp only[ckW,List.mem_flatMap,pgW,List.mem_map,List.mem_range] at hq
 obtain⟨i,hi,k,hk,rfl⟩:=hq
 refine⟨i,hi,k,hk,rfl,?_⟩
 have:=fullB_len _ (hT i hi)
 simp;omega
theorem ckW_ok {X:Sto} (hT:∀i∈fresh X.l,(X.T i).length≤248) (hS:2 + 4 * X.l.length≤X.D.secs.length):∀q∈ckW X,q.1 < X.D.secs.length∧q.2.length=64:=by
 intro q hq
 obtain⟨i,hi,k,hk,rfl,hl⟩:=ckW_mem hT hq
 have:=(mem_fresh.1 hi).1
 exact⟨by simp only;omega,hl⟩
theorem settle_no {s:List (List UInt8)} {c:List (Nat×List UInt8)} {j:Nat} (h:∀q∈c,q.1 ≠ j):(settle s c).getD j []=s.getD j []:=by
 induction c generalizing s with
 | nil=>rfl
 | cons a r ih =>
  have h1:settle s (a :: r)=settle (s.set a.1 a.2) r:=rfl
  rw[h1,ih (fun q hq=>h q (by simp[hq]))]
  have:=h a (by simp)
  simp[List.getD,this]
theorem settle_some {s:List (List UInt8)} {c:List (Nat×List UInt8)} {j:Nat} {t:List UInt8} (hj:j < s.length) (hm:(j,t)∈c) (hu:∀q∈c,q.1=j→q.2=t):(settle s c).getD j []=t:=by
 induction c generalizing s with
 | nil=>simp at hm
 | cons a r ih =>
  have h1:settle s (a :: r)=settle (s.set a.1 a.2) r:=rfl
  rw[h1]
  by_cases hr:(j,t)∈r
  ·exact ih (by simpa using hj) hr (fun q hq=>hu q (by simp[hq]))
  ·have ha:a=(j,t):=by
    rcases List.mem_cons.1 hm with e|e
    ·exact e.symm
    ·exact absurd e hr
   subst ha
   rw[settle_no]
   ·simp[List.getD,hj]
   ·intro q hq e
    have:=hu q (by simp[hq]) e
    exact hr (by rw[←e, ←this];exact hq)
theorem ck_hale {X:Sto} {root log next:Int} (hD:Hale X.D) (hb:ckBad X root log next=0) (hT:∀i∈fresh X.l,(X.T i).length≤248) (hS:2 + 4 * X.l.length≤X.D.secs.length) {s:Sup} (hs:s=⟨X.sup.gen + 1,root,log.toNat,next.toNat⟩)
  (hsec:(secText ⟨s.gen,0,supB s X.l⟩).length=64):X.check root log next=(0, { X with l:=kp X.l,sup:=s,D := { X.D with secs:=(settle X.D.secs (ckW X)).set (s.gen % 2) (secText ⟨s.gen,0,supB s X.l⟩),cache := [] } }):=by
 have h1:=wrAll_on (ckW X) hD.left hD.down (ckW_ok hT hS)
 have h2:=flush_on (D := { X.D with cache:=X.D.cache ++ ckW X }) hD.left hD.down
 have h3:=write_on (D := { X.D with secs:=settle X.D.secs (X.D.cache ++ ckW X),cache := [] }) hD.left hD.down (s.gen % 2) (secText ⟨s.gen,0,supB s X.l⟩) (by simp only[settle_len];omega) hsec
 have h4:=flush_on (D := { X.D with secs:=settle X.D.secs (X.D.cache ++ ckW X),cache := [] ++ [(s.gen % 2,secText ⟨s.gen,0,supB s X.l⟩)] }) hD.left hD.down
 have hc:ckDev X s=(0, { X.D with secs:=(settle X.D.secs (ckW X)).set (s.gen % 2) (secText ⟨s.gen,0,supB s X.l⟩),cache := [] }):=by
  unfold ckDev
  simp only
  unfold ckW at h1 h2 h3 h4
  rw[h1]
  simp only[ne_eq,not_true_eq_false,if_false]
  rw[h2]
  simp only[not_true_eq_false,if_false]
  rw[h3]
  simp only[not_true_eq_false,if_false]
  rw[h4,hD.cache]
  simp[settle,ckW]
 subst hs
 simp only[Sto.check,hb,hc,ne_eq,not_true_eq_false,if_false,if_true]
end Go.Proofs.YtfgjehecjgebdaaGreat
/- Plain: a checkpoint of a device with its power on. -/
namespace Go.Proofs.YtfgjehecjgebdaaGreat
theorem kp_map {l:List Nat} (h4:∀x∈l,x < 4):kp l=l.map kp1:=by
 simp only[kp,chg,List.map_map]
 apply List.map_congr_left
 intro x hx
 have:=h4 x hx
 simp only[Function.comp_apply,kp1]
 split<;>split<;>(try split)<;>(try split)<;>omega
theorem getD_map0 (f:Nat→Nat) (hf:f 0=0) (l:List Nat) (i:Nat):(l.map f).getD i 0=f (l.getD i 0):=by
 simp only[List.getD,List.getElem?_map]
 cases l[i]? <;> simp[hf]
theorem stAt_getD {l:List Nat} {k:Nat} (hk:k < l.length):stAt l k=(l.getD k 0:Nat):=by
 simp[stAt,List.getD,hk]
def ckK (X:Sto) (K:Nat→List UInt8):Nat→List UInt8:=fun i=>if X.l.getD i 0=2 then X.T i else K i
theorem ck_disk {X:Sto} {p:Nat} {K:Nat→List UInt8} {root log next:Int} (hD:Hale X.D) (hold:∀y,Says (X.D.secs.getD (X.sup.gen % 2) []) y→y.stamp≤X.sup.gen)
  (hpg:∀i,X.l.getD i 0=1→(K i).length≤248 ∧ ∀k,k < 4→X.D.secs.getD (2 + 4 * i + k) []=((fullB (K i)).drop (64 * k)).take 64)
  (h4:∀x∈X.l,x < 4) (hlen:X.l.length=p) (hp:p≤128) (hT:∀i∈fresh X.l,(X.T i).length≤248) (hS:2 + 4 * p≤X.D.secs.length) (hb:ckBad X root log next=0) (hgen:X.sup.gen + 1≤1099511627776) :
  (X.check root log next).1=0∧Hale (X.check root log next).2.D∧OnDisk p (X.check root log next).2.D.secs (kp X.l) (X.check root log next).2.sup (ckK X K)∧(X.check root log next).2.l=kp X.l ∧
   (X.check root log next).2.D.secs.length=X.D.secs.length∧(X.check root log next).2.sup=⟨X.sup.gen + 1,root,log.toNat,next.toNat⟩:=by
 have hr:(root = -1∨(0≤root∧(stAt X.l root=1∨stAt X.l root=2))) ∧ -1≤root∧root < X.l.length∧1≤log∧log≤1099511627776∧0≤next∧next≤1099511627776:=by
  unfold ckBad at hb
  split at hb
  ·omega
  ·split at hb<;>omega
 obtain⟨hr1,hr2,hr3,hr4,hr5,hr6,hr7⟩:=hr
 obtain⟨s,hs⟩:∃s:Sup,s=⟨X.sup.gen + 1,root,log.toNat,next.toNat⟩:=⟨_,rfl⟩
 have hsg:s.Good:=by rw[hs];exact⟨by simp only;omega,by simp only;omega,by simp only;omega,by simp only;omega,by simp only;omega⟩
 have hgs:s.gen=X.sup.gen + 1:=by rw[hs]
 have hkl:(kp X.l).length=p:=by rw[kp_map h4];simpa using hlen
 have e8:supB s X.l=supB s (kp X.l):=by
  have h1:inUse X.l=kp X.l:=by
   rw[kp_map h4]
   unfold inUse
   apply List.map_congr_left
   intro x hx
   have:=h4 x hx
   obtain rfl|rfl|rfl|rfl:x=0∨x=1∨x=2∨x=3:=by omega
   all_goals rfl
  unfold supB byB
  rw[←h1,bys_inUse]
 have hgood:Sec.Good ⟨s.gen,0,supB s X.l⟩:=⟨by simp only;omega,by simp only;omega,by simp only;omega,(supB_len hsg (by omega)).1⟩
 have hck:=ck_hale hD hb hT (by omega) hs hgood.len
 rw[hck]
 dsimp only
 have hg2:s.gen % 2 < X.D.secs.length:=by omega
 have hW:∀q∈ckW X,2≤q.1:=by
  intro q hq
  obtain⟨i,_,k,_,rfl,_⟩:=ckW_mem hT hq
  simp only;omega
 refine⟨rfl,⟨rfl,hD.left,hD.down⟩,⟨hsg,⟨by omega,by omega⟩,?_,?_,hkl,kp_01 _ h4,by rw[hs];simp only;omega,?_,?_⟩,rfl,by simp[settle_len],hs⟩
 ·rw[←e8]
  simp[List.getD,settle_len,hg2]
 ·intro y hy
  have e:(s.gen + 1) % 2=X.sup.gen % 2:=by omega
  have hne:s.gen % 2 ≠ X.sup.gen % 2:=by omega
  have h1:((settle X.D.secs (ckW X)).set (s.gen % 2) (secText ⟨s.gen,0,supB s X.l⟩)).getD (X.sup.gen % 2) []=X.D.secs.getD (X.sup.gen % 2) []:=by
   rw[←settle_no (s:=X.D.secs) (c:=ckW X) (j:=X.sup.gen % 2) (fun q hq=>by have:=hW q hq;omega)]
   simp[List.getD,hne]
  rw[e,h1] at hy
  have:=hold y hy
  omega
 ·rw[hs]
  simp only
  rcases hr1 with h|⟨h0,h⟩
  ·exact .inl h
  ·right
   obtain⟨k,rfl⟩:∃k:Nat,root=k:=⟨root.toNat,by omega⟩
   rw[stAt_getD (by omega)] at h⊢
   rw[kp_map h4,getD_map0 kp1 rfl]
   have h':X.l.getD k 0=1∨X.l.getD k 0=2:=by omega
   rw[kp1,if_pos h']
   rfl
 ·intro i hi
  rw[kp_map h4,getD_map0 kp1 rfl] at hi
  have hi':X.l.getD i 0=1∨X.l.getD i 0=2:=by
   unfold kp1 at hi
   split at hi
   ·assumption
   ·omega
  have hil:i < X.l.length:=by
   apply Nat.lt_of_not_le
   intro h
   rw[List.getD_eq_getElem?_getD,List.getElem?_eq_none h] at hi'
   simp at hi'
  have hset:∀k,((settle X.D.secs (ckW X)).set (s.gen % 2) (secText ⟨s.gen,0,supB s X.l⟩)).getD (2 + 4 * i + k) []=(settle X.D.secs (ckW X)).getD (2 + 4 * i + k) []:=by
   intro k
   have:s.gen % 2 ≠ 2 + 4 * i + k:=by omega
   simp[List.getD,this]
  by_cases h2:X.l.getD i 0=2
  ·have hf:i∈fresh X.l:=mem_fresh.2 ⟨hil,h2⟩
   rw[show ckK X K i=X.T i by simp only[ckK];rw[if_pos h2]]
   refine⟨hT i hf,fun k hk=>?_⟩
   rw[hset]
   refine settle_some (by omega) ?_ ?_
   ·simp only[ckW,List.mem_flatMap,pgW,List.mem_map,List.mem_range]
    exact⟨i,hf,k,hk,rfl⟩
   ·intro q hq e
    obtain⟨i',_,k',hk',rfl,_⟩:=ckW_mem hT hq
    simp only at e⊢
    have e1:i'=i:=by omega
    have e2:k'=k:=by omega
    rw[e1,e2]
  ·have h1:X.l.getD i 0=1:=by omega
   rw[show ckK X K i=K i by simp only[ckK];rw[if_neg h2]]
   refine⟨(hpg i h1).1,fun k hk=>?_⟩
   rw[hset,settle_no,(hpg i h1).2 k hk]
   intro q hq e
   obtain⟨i',hf',k',hk',rfl,_⟩:=ckW_mem hT hq
   simp only at e
   have e1:i'=i:=by omega
   rw[e1] at hf'
   exact h2 (mem_fresh.1 hf').2
theorem zero_says (y:Sec):¬Says zero64 y:=by
 rintro⟨hg,ht⟩
 have h0:1≤nb y.stamp:=by
  have:=hg.one
  unfold nb
  rw[dif_neg (by omega)]
  omega
 have h6:=nb_le y.stamp 6 (by have:=hg.most;omega)
 have h1:(secText y).getD 4 0=UInt8.ofNat (nb y.stamp):=by
  have h4:=le4_len (crcOf (secBody y))
  simp only[secText,summed,secBody,padTo,secHead_eq,encN,encU,Int.toNat_natCast] at *
  rw[List.getD_eq_getElem?_getD,List.getElem?_append_right (by omega),h4]
  rfl
 rw[ht] at h1
 have h2:zero64.getD 4 0=0:=by decide
 rw[h2] at h1
 have h3:=congrArg UInt8.toNat h1
 rw[UInt8.toNat_ofNat'] at h3
 simp at h3
 omega
end Go.Proofs.YtfgjehecjgebdaaGreat
