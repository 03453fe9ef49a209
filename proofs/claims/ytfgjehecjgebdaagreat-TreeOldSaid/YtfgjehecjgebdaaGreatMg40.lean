/- Plain: a checkpoint of a device with its power on. -/
import Derived.Test.YtfgjehecjgebdaaGreatMg37
import Derived.Test.YtfgjehecjgebdaaGreatMg31
import Derived.Test.YtfgjehecjgebdaaGreatMg15
namespace Go.Proofs.YtfgjehecjgebdaaGreat
theorem kp_map {l:List Nat} (h4:∀x∈l,x < 4):kp l=l.map kp1:=by
 simp only[kp,chg,List.map_map]
 apply List.map_congr_left
 intro x hx
 have:=h4 x hx
 simp only[Function.comp_apply,kp1]
 split<;>split<;>(try split)<;>(try split)<;>omega
theorem ud_map {l:List Nat} (h4:∀x∈l,x < 4):ud l=l.map ud1:=by
 simp only[ud,chg,List.map_map]
 apply List.map_congr_left
 intro x hx
 have:=h4 x hx
 simp only[Function.comp_apply,ud1]
 split<;>split<;>(try split)<;>(try split)<;>omega
theorem getD_map0 (f:Nat→Nat) (hf:f 0=0) (l:List Nat) (i:Nat):(l.map f).getD i 0=f (l.getD i 0):=by
 simp only[List.getD,List.getElem?_map]
 cases l[i]? <;> simp[hf]
theorem stAt_getD {l:List Nat} {k:Nat} (hk:k < l.length):stAt l k=(l.getD k 0:Nat):=by
 simp[stAt,List.getD,hk]
def ckK (X:Sto) (K:Nat→List UInt8):Nat→List UInt8:=fun i=>if X.l.getD i 0=2 then X.T i else K i
theorem ck_disk {X:Sto} {p:Nat} {K:Nat→List UInt8} {root log next:Int} (hD:Hale X.D) (hold:∀y,Says (X.D.secs.getD (X.sup.gen % 2) []) y→y.stamp≤X.sup.gen)
  (hpg:∀i,X.l.getD i 0=1→(K i).length≤248 ∧ ∀k,k < 4→X.D.secs.getD (2 + 4 * i + k) []=((fullB (K i)).drop (64 * k)).take 64)
  (h4:∀x∈X.l,x < 4) (hlen:X.l.length=p) (hp:p≤128) (hT:∀i∈fresh X.l,(X.T i).length≤248) (hS:2 + 4 * p≤X.D.secs.length) (hb:ckBad X root log next=0) (hgen:X.sup.gen + 1≤1099511627776) :
  (X.check root log next).1=0∧Hale (X.check root log next).2.D∧OnDisk p (X.check root log next).2.D.secs (kp X.l) (X.check root log next).2.sup (ckK X K)∧(X.check root log next).2.l=kp X.l ∧
   (X.check root log next).2.D.secs.length=X.D.secs.length∧(X.check root log next).2.sup=⟨X.sup.gen + 1,root,log.toNat,next.toNat⟩:=by
 have hr:(root = -1∨(0≤root∧(stAt X.l root=1∨stAt X.l root=2))) ∧ -1≤root∧root < X.l.length∧1≤log∧log≤1099511627776∧0≤next∧next≤1099511627776:=by
  unfold ckBad at hb
  split at hb
  ·omega
  ·split at hb<;>omega
 obtain⟨hr1,hr2,hr3,hr4,hr5,hr6,hr7⟩:=hr
 obtain⟨s,hs⟩:∃s:Sup,s=⟨X.sup.gen + 1,root,log.toNat,next.toNat⟩:=⟨_,rfl⟩
 have hsg:s.Good:=by rw[hs];exact⟨by simp only;omega,by simp only;omega,by simp only;omega,by simp only;omega,by simp only;omega⟩
 have hgs:s.gen=X.sup.gen + 1:=by rw[hs]
 have hkl:(kp X.l).length=p:=by rw[kp_map h4];simpa using hlen
 have e8:supB s X.l=supB s (kp X.l):=by
  have h1:inUse X.l=kp X.l:=by
   rw[kp_map h4]
   unfold inUse
   apply List.map_congr_left
   intro x hx
   have:=h4 x hx
   obtain rfl|rfl|rfl|rfl:x=0∨x=1∨x=2∨x=3:=by omega
   all_goals rfl
  unfold supB byB
  rw[←h1,bys_inUse]
 have hgood:Sec.Good ⟨s.gen,0,supB s X.l⟩:=⟨by simp only;omega,by simp only;omega,by simp only;omega,(supB_len hsg (by omega)).1⟩
 have hck:=ck_hale hD hb hT (by omega) hs hgood.len
 rw[hck]
 dsimp only
 have hg2:s.gen % 2 < X.D.secs.length:=by omega
 have hW:∀q∈ckW X,2≤q.1:=by
  intro q hq
  obtain⟨i,_,k,_,rfl,_⟩:=ckW_mem hT hq
  simp only;omega
 refine⟨rfl,⟨rfl,hD.left,hD.down⟩,⟨hsg,⟨by omega,by omega⟩,?_,?_,hkl,kp_01 _ h4,by rw[hs];simp only;omega,?_,?_⟩,rfl,by simp[settle_len],hs⟩
 ·rw[←e8]
  simp[List.getD,settle_len,hg2]
 ·intro y hy
  have e:(s.gen + 1) % 2=X.sup.gen % 2:=by omega
  have hne:s.gen % 2 ≠ X.sup.gen % 2:=by omega
  have h1:((settle X.D.secs (ckW X)).set (s.gen % 2) (secText ⟨s.gen,0,supB s X.l⟩)).getD (X.sup.gen % 2) []=X.D.secs.getD (X.sup.gen % 2) []:=by
   rw[←settle_no (s:=X.D.secs) (c:=ckW X) (j:=X.sup.gen % 2) (fun q hq=>by have:=hW q hq;omega)]
   simp[List.getD,hne]
  rw[e,h1] at hy
  have:=hold y hy
  omega
 ·rw[hs]
  simp only
  rcases hr1 with h|⟨h0,h⟩
  ·exact .inl h
  ·right
   obtain⟨k,rfl⟩:∃k:Nat,root=k:=⟨root.toNat,by omega⟩
   rw[stAt_getD (by omega)] at h⊢
   rw[kp_map h4,getD_map0 kp1 rfl]
   have h':X.l.getD k 0=1∨X.l.getD k 0=2:=by omega
   rw[kp1,if_pos h']
   rfl
 ·intro i hi
  rw[kp_map h4,getD_map0 kp1 rfl] at hi
  have hi':X.l.getD i 0=1∨X.l.getD i 0=2:=by
   unfold kp1 at hi
   split at hi
   ·assumption
   ·omega
  have hil:i < X.l.length:=by
   apply Nat.lt_of_not_le
   intro h
   rw[List.getD_eq_getElem?_getD,List.getElem?_eq_none h] at hi'
   simp at hi'
  have hset:∀k,((settle X.D.secs (ckW X)).set (s.gen % 2) (secText ⟨s.gen,0,supB s X.l⟩)).getD (2 + 4 * i + k) []=(settle X.D.secs (ckW X)).getD (2 + 4 * i + k) []:=by
   intro k
   have:s.gen % 2 ≠ 2 + 4 * i + k:=by omega
   simp[List.getD,this]
  by_cases h2:X.l.getD i 0=2
  ·have hf:i∈fresh X.l:=mem_fresh.2 ⟨hil,h2⟩
   rw[show ckK X K i=X.T i by simp only[ckK];rw[if_pos h2]]
   refine⟨hT i hf,fun k hk=>?_⟩
   rw[hset]
   refine settle_some (by omega) ?_ ?_
   ·simp only[ckW,List.mem_flatMap,pgW,List.mem_map,List.mem_range]
    exact⟨i,hf,k,hk,rfl⟩
   ·intro q hq e
    obtain⟨i',_,k',hk',rfl,_⟩:=ckW_mem hT hq
    simp only at e⊢
    have e1:i'=i:=by omega
    have e2:k'=k:=by omega
    rw[e1,e2]
  ·have h1:X.l.getD i 0=1:=by omega
   rw[show ckK X K i=K i by simp only[ckK];rw[if_neg h2]]
   refine⟨(hpg i h1).1,fun k hk=>?_⟩
   rw[hset,settle_no,(hpg i h1).2 k hk]
   intro q hq e
   obtain⟨i',hf',k',hk',rfl,_⟩:=ckW_mem hT hq
   simp only at e
   have e1:i'=i:=by omega
   rw[e1] at hf'
   exact h2 (mem_fresh.1 hf').2
theorem zero_says (y:Sec):¬Says zero64 y:=by
 rintro⟨hg,ht⟩
 have h0:1≤nb y.stamp:=by
  have:=hg.one
  unfold nb
  rw[dif_neg (by omega)]
  omega
 have h6:=nb_le y.stamp 6 (by have:=hg.most;omega)
 have h1:(secText y).getD 4 0=UInt8.ofNat (nb y.stamp):=by
  have h4:=le4_len (crcOf (secBody y))
  simp only[secText,summed,secBody,padTo,secHead_eq,encN,encU,Int.toNat_natCast] at *
  rw[List.getD_eq_getElem?_getD,List.getElem?_append_right (by omega),h4]
  rfl
 rw[ht] at h1
 have h2:zero64.getD 4 0=0:=by decide
 rw[h2] at h1
 have h3:=congrArg UInt8.toNat h1
 rw[UInt8.toNat_ofNat'] at h3
 simp at h3
 omega
end Go.Proofs.YtfgjehecjgebdaaGreat
