/- Plain: what stands on a device; what Open finds there; what a checkpoint leaves there. -/
import Derived.Test.YtfgjehecjgebdaaGreatMg31
import Derived.Test.YtfgjehecjgebdaaGreatMg33
namespace Go.Proofs.YtfgjehecjgebdaaGreat
def L01 (l:List Nat):Prop:=∀x∈l,x=0∨x=1
theorem ud_01 (l:List Nat) (h4:∀x∈l,x < 4):L01 (ud l):=by
 intro x hx
 simp only[ud,chg,List.mem_map] at hx
 obtain⟨a,⟨b,hb,rfl⟩,rfl⟩:=hx
 have:=h4 b hb
 split<;>split<;>(try split)<;>omega
theorem kp_01 (l:List Nat) (h4:∀x∈l,x < 4):L01 (kp l):=by
 intro x hx
 simp only[kp,chg,List.mem_map] at hx
 obtain⟨a,⟨b,hb,rfl⟩,rfl⟩:=hx
 have:=h4 b hb
 split<;>split<;>(try split)<;>omega
theorem pgOf_full {t:List UInt8} (h:t.length≤248):pgOf (fullB t)=(t,0):=by
 have hd:(fullB t).drop 4=encS t ++ List.replicate (252 - (encS t).length) 0:=by
  have h4:=le4_len (crcOf (padTo 252 (encS t)))
  simp only[fullB,summed]
  rw[←h4,List.drop_left]
  rfl
 simp only[pgOf,hd]
 rw[iS_enc 248 t (by omega) (by omega)]
 simp
theorem four_parts (f:List UInt8) (h:f.length=256):(List.range 4).flatMap (fun k=>(f.drop (64 * k)).take 64)=f:=by
 have e:List.range 4 = [0,1,2,3]:=rfl
 rw[e]
 simp only[List.flatMap_cons,List.flatMap_nil,List.append_nil,Nat.mul_zero,List.drop_zero]
 have h3:(f.drop (64 * 3)).take 64=f.drop (64 * 3):=List.take_of_length_le (by simp;omega)
 rw[h3]
 have s1:f.drop (64 * 2)=(f.drop (64 * 2)).take 64 ++ f.drop (64 * 3):=by
  conv=>lhs;rw[←List.take_append_drop 64 (f.drop (64 * 2))]
  rw[List.drop_drop]
 have s2:f.drop (64 * 1)=(f.drop (64 * 1)).take 64 ++ f.drop (64 * 2):=by
  conv=>lhs;rw[←List.take_append_drop 64 (f.drop (64 * 1))]
  rw[List.drop_drop]
 rw[←s1, ←s2]
 exact List.take_append_drop 64 f
structure OnDisk (p:Nat) (S:List (List UInt8)) (l:List Nat) (s:Sup) (K:Nat→List UInt8):Prop where
 good:s.Good
 gen:1≤s.gen∧s.gen≤1099511627776
 one:S.getD (s.gen % 2) []=secText ⟨s.gen,0,supB s l⟩
 two:∀y,Says (S.getD ((s.gen + 1) % 2) []) y→y.stamp < s.gen
 len:l.length=p
 l01:L01 l
 rp:s.root < p
 root:s.root = -1∨stAt l s.root=1
 page:∀i,l.getD i 0=1→(K i).length≤248 ∧ ∀k,k < 4→S.getD (2 + 4 * i + k) []=((fullB (K i)).drop (64 * k)).take 64
theorem OnDisk.sec {p S l s K} (h:OnDisk p S l s K) (hp:p≤128):Sec.Good ⟨s.gen,0,supB s l⟩ :=
 ⟨h.gen.1,h.gen.2,by simp only;omega,(supB_len h.good (by have:=h.len;omega)).1⟩
structure Hale (D:Dev):Prop where
 cache:D.cache = []
 left:D.left = -1
 down:D.down=false
theorem Hale.text {D:Dev} (h:Hale D) (i:Nat):D.text i=D.secs.getD i []:=by simp[Dev.text,h.cache]
theorem call_on {D:Dev} (hl:D.left = -1) (hd:D.down=false):D.call=(true,D):=by simp[Dev.call,hl,hd]
theorem pad64_whole {t:List UInt8} (h:t.length=64):pad64 t=t:=by simp[pad64,h]
theorem write_on {D:Dev} (hl:D.left = -1) (hd:D.down=false) (a:Nat) (t:List UInt8) (ha:a < D.secs.length) (ht:t.length=64):D.write a t=(0, { D with cache:=D.cache ++ [(a,t)] }):=by
 unfold Dev.write
 rw[if_neg (by omega),call_on hl hd]
 simp[pad64_whole ht]
theorem wrAll_on:∀(ws:List (Nat×List UInt8)) {D:Dev},D.left = -1→D.down=false→(∀q∈ws,q.1 < D.secs.length∧q.2.length=64)→wrAll D ws=(0, { D with cache:=D.cache ++ ws })
 | [],D,_,_,_=>by simp[wrAll]
 | q :: r,D,hl,hd,hw=>by
  have h1:=write_on hl hd q.1 q.2 (hw q (by simp)).1 (hw q (by simp)).2
  simp only[wrAll]
  have h2:=wrAll_on r (D := { D with cache:=D.cache ++ [(q.1,q.2)] }) hl hd (fun x hx=>hw x (by simp[hx]))
  rw[h1]
  simp only[if_true]
  rw[h2]
  simp
theorem flush_on {D:Dev} (hl:D.left = -1) (hd:D.down=false):D.flush=(0, { D with secs:=settle D.secs D.cache,cache := [] }):=by
 unfold Dev.flush
 rw[call_on hl hd]
 rfl
theorem OnDisk.read {p S l s K} (h:OnDisk p S l s K) {D:Dev} (hD:Hale D) (hS:D.secs=S) (i:Nat) (hi:l.getD i 0=1):pgOf (rawTo D i 4)=(K i,0):=by
 have hp:=h.page i hi
 have hr:rawTo D i 4=fullB (K i):=by
  rw[←four_parts (fullB (K i)) (fullB_len _ hp.1)]
  simp only[rawTo]
  simp only[List.flatMap]
  congr 1
  apply List.map_congr_left
  intro k hk
  rw[hD.text,hS,hp.2 k (List.mem_range.1 hk)]
 rw[hr,pgOf_full hp.1]
def ckW (X:Sto):List (Nat×List UInt8):=(fresh X.l).flatMap (pgW X.T)
theorem ckW_mem {X:Sto} (hT:∀i∈fresh X.l,(X.T i).length≤248) {q:Nat×List UInt8} (hq:q∈ckW X):∃i∈fresh X.l, ∃k,k < 4∧q=(2 + 4 * i + k,((fullB (X.T i)).drop (64 * k)).take 64)∧q.2.length=64:=by
 simp only[ckW,List.mem_flatMap,pgW,List.mem_map,List.mem_range] at hq
 obtain⟨i,hi,k,hk,rfl⟩:=hq
 refine⟨i,hi,k,hk,rfl,?_⟩
 have:=fullB_len _ (hT i hi)
 simp;omega
theorem ckW_ok {X:Sto} (hT:∀i∈fresh X.l,(X.T i).length≤248) (hS:2 + 4 * X.l.length≤X.D.secs.length):∀q∈ckW X,q.1 < X.D.secs.length∧q.2.length=64:=by
 intro q hq
 obtain⟨i,hi,k,hk,rfl,hl⟩:=ckW_mem hT hq
 have:=(mem_fresh.1 hi).1
 exact⟨by simp only;omega,hl⟩
theorem settle_no {s:List (List UInt8)} {c:List (Nat×List UInt8)} {j:Nat} (h:∀q∈c,q.1 ≠ j):(settle s c).getD j []=s.getD j []:=by
 induction c generalizing s with
 | nil=>rfl
 | cons a r ih =>
  have h1:settle s (a :: r)=settle (s.set a.1 a.2) r:=rfl
  rw[h1,ih (fun q hq=>h q (by simp[hq]))]
  have:=h a (by simp)
  simp[List.getD,this]
theorem settle_some {s:List (List UInt8)} {c:List (Nat×List UInt8)} {j:Nat} {t:List UInt8} (hj:j < s.length) (hm:(j,t)∈c) (hu:∀q∈c,q.1=j→q.2=t):(settle s c).getD j []=t:=by
 induction c generalizing s with
 | nil=>simp at hm
 | cons a r ih =>
  have h1:settle s (a :: r)=settle (s.set a.1 a.2) r:=rfl
  rw[h1]
  by_cases hr:(j,t)∈r
  ·exact ih (by simpa using hj) hr (fun q hq=>hu q (by simp[hq]))
  ·have ha:a=(j,t):=by
    rcases List.mem_cons.1 hm with e|e
    ·exact e.symm
    ·exact absurd e hr
   subst ha
   rw[settle_no]
   ·simp[List.getD,hj]
   ·intro q hq e
    have:=hu q (by simp[hq]) e
    exact hr (by rw[←e, ←this];exact hq)
theorem ck_hale {X:Sto} {root log next:Int} (hD:Hale X.D) (hb:ckBad X root log next=0) (hT:∀i∈fresh X.l,(X.T i).length≤248) (hS:2 + 4 * X.l.length≤X.D.secs.length) {s:Sup} (hs:s=⟨X.sup.gen + 1,root,log.toNat,next.toNat⟩)
  (hsec:(secText ⟨s.gen,0,supB s X.l⟩).length=64):X.check root log next=(0, { X with l:=kp X.l,sup:=s,D := { X.D with secs:=(settle X.D.secs (ckW X)).set (s.gen % 2) (secText ⟨s.gen,0,supB s X.l⟩),cache := [] } }):=by
 have h1:=wrAll_on (ckW X) hD.left hD.down (ckW_ok hT hS)
 have h2:=flush_on (D := { X.D with cache:=X.D.cache ++ ckW X }) hD.left hD.down
 have h3:=write_on (D := { X.D with secs:=settle X.D.secs (X.D.cache ++ ckW X),cache := [] }) hD.left hD.down (s.gen % 2) (secText ⟨s.gen,0,supB s X.l⟩) (by simp only[settle_len];omega) hsec
 have h4:=flush_on (D := { X.D with secs:=settle X.D.secs (X.D.cache ++ ckW X),cache := [] ++ [(s.gen % 2,secText ⟨s.gen,0,supB s X.l⟩)] }) hD.left hD.down
 have hc:ckDev X s=(0, { X.D with secs:=(settle X.D.secs (ckW X)).set (s.gen % 2) (secText ⟨s.gen,0,supB s X.l⟩),cache := [] }):=by
  unfold ckDev
  simp only
  unfold ckW at h1 h2 h3 h4
  rw[h1]
  simp only[ne_eq,not_true_eq_false,if_false]
  rw[h2]
  simp only[not_true_eq_false,if_false]
  rw[h3]
  simp only[not_true_eq_false,if_false]
  rw[h4,hD.cache]
  simp[settle,ckW]
 subst hs
 simp only[Sto.check,hb,hc,ne_eq,not_true_eq_false,if_false,if_true]
end Go.Proofs.YtfgjehecjgebdaaGreat
