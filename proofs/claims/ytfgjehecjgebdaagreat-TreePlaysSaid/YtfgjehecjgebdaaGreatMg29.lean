/- Nodes: Parse. -/
import Derived.Test.YtfgjehecjgebdaaGreatMg27
import Derived.Test.YtfgjehecjgebdaaGreatMg06
import Derived.Test.YtfgjehecjgebdaaGreatMg11
import Derived.Deep.CutBlock
namespace Go.Proofs.YtfgjehecjgebdaaGreat
open Go.RowKit
set_option maxHeartbeats 4000000
set_option maxRecDepth 100000
def ParseRes (o:Option Nd) (w:World) (e:Ending) (w':World):Prop :=
 Kept (fun _=>False) w w'∧match o with
  | some n=>∃v,e = .returned (.tuple #[v,.int .i64 0])∧IsNd w' w.heap.size v n
  | none=>∃c:Int,c ≠ 0∧e = .returned (.tuple #[.agg zeroNd,.int .i64 c])
structure PS (w wr:World) (N ib nb:Nat) (l:Bool) (v1 v2 v3:Value) (n:Nd) (s:InSt):Prop where
 inn:IsIn wr ib s
 blk:wr.heap[nb]? = some (.cells #[.bool l,v1,v2,v3] 148 (0,0))
 res:wr.heap[N]? = some (.cells zeroNd 148 (0,0))
 r1:SRow wr N v1 n.keys
 r2:SRow wr N v2 n.vals
 r3:IRow wr N v3 n.kids
 ne:∀b,v2.ownBlock=some b→v1.ownBlock ≠ some b
 kept:Kept (fun _=>False) w wr
 hN:N=w.heap.size
 hib:N < ib
 hnb:N < nb
 lf:l=n.leaf
 len:s.1.length≤1000000
theorem PS.bn {w wr N ib nb l v1 v2 v3 n s} (h:PS w wr N ib nb l v1 v2 v3 n s):ib ≠ nb:=by
 rintro rfl
 have h1:=h.inn
 have h2:=h.blk
 unfold IsIn at h1
 rw[h1] at h2
 injection h2 with h2
 injection h2 with _ e _
 exact absurd e (by decide)
theorem PS.later {w wr W N ib nb l v1 v2 v3 n s} (h:PS w wr N ib nb l v1 v2 v3 n s) (k:Kept (fun _=>False) wr W):PS w W N ib nb l v1 v2 v3 n s :=
 ⟨h.inn.kept k id,k.heap h.blk id,k.heap h.res id,h.r1.keptF k,h.r2.keptF k,h.r3.keptF k,h.ne,h.kept.trans k,h.hN,h.hib,h.hnb,h.lf,h.len⟩
theorem PS.read {w wr W N ib nb l v1 v2 v3 n s s'} (h:PS w wr N ib nb l v1 v2 v3 n s) (hi:IsIn W ib s') (k:Kept (· = ib) wr W) (hl:s'.1.length≤s.1.length):PS w W N ib nb l v1 v2 v3 n s':=by
 have hin:wr.heap[ib]? = some (.cells #[.string (ba s.1),.int .i64 s.2] 225 (0,0)):=h.inn
 refine⟨hi,k.heap h.blk (Ne.symm h.bn),k.heap h.res (by have:=h.hib;omega),SRow.kept h.r1 k (own_ne h.r1 hin (by decide)),SRow.kept h.r2 k (own_ne h.r2 hin (by decide)),IRow.kept h.r3 k (own_ne h.r3 hin (by decide)),h.ne,h.kept.then k fun i hi e=>?_,h.hN,h.hib,h.hnb,h.lf,Nat.le_trans hl h.len⟩
 have:=h.hib
 have:=h.hN
 omega
theorem PS.key {w wr W w4 N ib nb l v1 v2 v3 n s v' x} (h:PS w wr N ib nb l v1 v2 v3 n s) (k0:Kept (fun _=>False) wr W) {m:Nat} (hm:m=n.keys.length)
  (h1:w4.ownsRow 0 9 1 v' (m + 1) (n.keys.map Ss ++ [Ss x])) (h2:W.grownBy w4 v1.ownBlock) (h3:v'.ownBlock=v1.ownBlock∨v'.ownBlock=some W.heap.size) :
  ∃A c,v' = .slice A (m + 1) c∧w4.heap[nb]? = some (.cells #[.bool l,v1,v2,v3] 148 (0,0))∧PS w (w4.setCell ⟨nb,1,none⟩ (.slice A (m + 1) c)) N ib nb l (.slice A (m + 1) c) v2 v3 { n with keys:=n.keys ++ [x] } s:=by
 have hNs:N≤wr.heap.size:=by rw[h.hN];exact h.kept.size
 have hks:=k0.size
 have hin:wr.heap[ib]? = some (.cells #[.string (ba s.1),.int .i64 s.2] 225 (0,0)):=h.inn
 have hl:(n.keys ++ [x]).length=m + 1:=by rw[List.length_append,hm];rfl
 have kg:Kept (fun k=>v1.ownBlock=some k) wr w4:=(k0.mono fun _ _=>False.elim).trans ⟨h2.os,h2.tape,h2.output,h2.size,fun k hk' hne=>h2.block k hk' fun e=>hne e.symm⟩
 have r:SRow w4 N v' (n.keys ++ [x]):=by
  show w4.ownsRow _ _ _ _ _ _
  rw[hl,List.map_append]
  refine own_base h1 fun k hk'=>?_
  rcases h3 with e|e
  ·exact own_ge h.r1 (e ▸ hk')
  ·rw[hk'] at e
   injection e with e
   omega
 obtain⟨A,c,rfl⟩:=own_slice h1
 have hb:w4.heap[nb]? = some (.cells #[.bool l,v1,v2,v3] 148 (0,0)):=kg.heap h.blk fun e=>own_ne h.r1 h.blk (by decide) _ e rfl
 have hi4:IsIn w4 ib s:=kg.heap hin fun e=>own_ne h.r1 hin (by decide) _ e rfl
 have hr4:w4.heap[N]? = some (.cells zeroNd 148 (0,0)):=kg.heap h.res fun e=>own_ne h.r1 h.res (by decide) _ e rfl
 have ks:Kept (· = nb) w4 (w4.setCell ⟨nb,1,none⟩ (.slice A (m + 1) c)):=(Kept.refl (· = nb) w4).set1 1 _
 refine⟨A,c,rfl,hb,hi4.kept ks h.bn,heap_set hb 1 _,ks.heap hr4 (by have:=h.hnb;omega),?_,?_,?_,?_,?_,h.hN,h.hib,h.hnb,h.lf,h.len⟩
 ·exact SRow.kept r ks (own_ne r hb (by decide))
 ·have r2':=SRow.kept h.r2 kg h.ne
  exact SRow.kept r2' ks (own_ne r2' hb (by decide))
 ·have r3':=IRow.kept h.r3 kg (own_ne2 h.r3 h.r1 (by decide))
  exact IRow.kept r3' ks (own_ne r3' hb (by decide))
 ·intro b hb2 e
  rcases h3 with e3|e3
  ·rw[e3] at e;exact h.ne b hb2 e
  ·rw[e3] at e
   injection e with e
   have:=own_lt h.r2 hb2
   omega
 ·refine(h.kept.then kg fun i hi e=>?_).then ks fun i hi e=>?_
  ·have:=own_ge h.r1 e
   have:=h.hN
   omega
  ·have:=h.hnb
   have:=h.hN
   omega
theorem PS.val {w wr W w4 N ib nb l v1 v2 v3 n s v' x} (h:PS w wr N ib nb l v1 v2 v3 n s) (k0:Kept (fun _=>False) wr W) {m:Nat} (hm:m=n.vals.length)
  (h1:w4.ownsRow 0 9 1 v' (m + 1) (n.vals.map Ss ++ [Ss x])) (h2:W.grownBy w4 v2.ownBlock) (h3:v'.ownBlock=v2.ownBlock∨v'.ownBlock=some W.heap.size) :
  ∃A c,v' = .slice A (m + 1) c∧w4.heap[nb]? = some (.cells #[.bool l,v1,v2,v3] 148 (0,0))∧PS w (w4.setCell ⟨nb,2,none⟩ (.slice A (m + 1) c)) N ib nb l v1 (.slice A (m + 1) c) v3 { n with vals:=n.vals ++ [x] } s:=by
 have hNs:N≤wr.heap.size:=by rw[h.hN];exact h.kept.size
 have hks:=k0.size
 have hin:wr.heap[ib]? = some (.cells #[.string (ba s.1),.int .i64 s.2] 225 (0,0)):=h.inn
 have hl:(n.vals ++ [x]).length=m + 1:=by rw[List.length_append,hm];rfl
 have kg:Kept (fun k=>v2.ownBlock=some k) wr w4:=(k0.mono fun _ _=>False.elim).trans ⟨h2.os,h2.tape,h2.output,h2.size,fun k hk' hne=>h2.block k hk' fun e=>hne e.symm⟩
 have r:SRow w4 N v' (n.vals ++ [x]):=by
  show w4.ownsRow _ _ _ _ _ _
  rw[hl,List.map_append]
  refine own_base h1 fun k hk'=>?_
  rcases h3 with e|e
  ·exact own_ge h.r2 (e ▸ hk')
  ·rw[hk'] at e
   injection e with e
   omega
 obtain⟨A,c,rfl⟩:=own_slice h1
 have hb:w4.heap[nb]? = some (.cells #[.bool l,v1,v2,v3] 148 (0,0)):=kg.heap h.blk fun e=>own_ne h.r2 h.blk (by decide) _ e rfl
 have hi4:IsIn w4 ib s:=kg.heap hin fun e=>own_ne h.r2 hin (by decide) _ e rfl
 have hr4:w4.heap[N]? = some (.cells zeroNd 148 (0,0)):=kg.heap h.res fun e=>own_ne h.r2 h.res (by decide) _ e rfl
 have ks:Kept (· = nb) w4 (w4.setCell ⟨nb,2,none⟩ (.slice A (m + 1) c)):=(Kept.refl (· = nb) w4).set1 2 _
 refine⟨A,c,rfl,hb,hi4.kept ks h.bn,heap_set hb 2 _,ks.heap hr4 (by have:=h.hnb;omega),?_,?_,?_,?_,?_,h.hN,h.hib,h.hnb,h.lf,h.len⟩
 ·have r1':=SRow.kept h.r1 kg (fun b hb' e=>h.ne b e hb')
  exact SRow.kept r1' ks (own_ne r1' hb (by decide))
 ·exact SRow.kept r ks (own_ne r hb (by decide))
 ·have r3':=IRow.kept h.r3 kg (own_ne2 h.r3 h.r2 (by decide))
  exact IRow.kept r3' ks (own_ne r3' hb (by decide))
 ·intro b hb2 e
  rcases h3 with e3|e3
  ·rw[e3] at hb2;exact h.ne b hb2 e
  ·rw[e3] at hb2
   injection hb2 with hb2
   have:=own_lt h.r1 e
   omega
 ·refine(h.kept.then kg fun i hi e=>?_).then ks fun i hi e=>?_
  ·have:=own_ge h.r2 e
   have:=h.hN
   omega
  ·have:=h.hnb
   have:=h.hN
   omega
theorem PS.kid {w wr W w4 N ib nb l v1 v2 v3 n s v' x} (h:PS w wr N ib nb l v1 v2 v3 n s) (k0:Kept (fun _=>False) wr W) {m:Nat} (hm:m=n.kids.length)
  (h1:w4.ownsRow 0 3 1 v' (m + 1) (n.kids.map I ++ [I x])) (h2:W.grownBy w4 v3.ownBlock) (h3:v'.ownBlock=v3.ownBlock∨v'.ownBlock=some W.heap.size) :
  ∃A c,v' = .slice A (m + 1) c∧w4.heap[nb]? = some (.cells #[.bool l,v1,v2,v3] 148 (0,0))∧PS w (w4.setCell ⟨nb,3,none⟩ (.slice A (m + 1) c)) N ib nb l v1 v2 (.slice A (m + 1) c) { n with kids:=n.kids ++ [x] } s:=by
 have hNs:N≤wr.heap.size:=by rw[h.hN];exact h.kept.size
 have hks:=k0.size
 have hin:wr.heap[ib]? = some (.cells #[.string (ba s.1),.int .i64 s.2] 225 (0,0)):=h.inn
 have hl:(n.kids ++ [x]).length=m + 1:=by rw[List.length_append,hm];rfl
 have kg:Kept (fun k=>v3.ownBlock=some k) wr w4:=(k0.mono fun _ _=>False.elim).trans ⟨h2.os,h2.tape,h2.output,h2.size,fun k hk' hne=>h2.block k hk' fun e=>hne e.symm⟩
 have r:IRow w4 N v' (n.kids ++ [x]):=by
  show w4.ownsRow _ _ _ _ _ _
  rw[hl,List.map_append]
  refine own_base h1 fun k hk'=>?_
  rcases h3 with e|e
  ·exact own_ge h.r3 (e ▸ hk')
  ·rw[hk'] at e
   injection e with e
   omega
 obtain⟨A,c,rfl⟩:=own_slice h1
 have hb:w4.heap[nb]? = some (.cells #[.bool l,v1,v2,v3] 148 (0,0)):=kg.heap h.blk fun e=>own_ne h.r3 h.blk (by decide) _ e rfl
 have hi4:IsIn w4 ib s:=kg.heap hin fun e=>own_ne h.r3 hin (by decide) _ e rfl
 have hr4:w4.heap[N]? = some (.cells zeroNd 148 (0,0)):=kg.heap h.res fun e=>own_ne h.r3 h.res (by decide) _ e rfl
 have ks:Kept (· = nb) w4 (w4.setCell ⟨nb,3,none⟩ (.slice A (m + 1) c)):=(Kept.refl (· = nb) w4).set1 3 _
 refine⟨A,c,rfl,hb,hi4.kept ks h.bn,heap_set hb 3 _,ks.heap hr4 (by have:=h.hnb;omega),?_,?_,?_,?_,?_,h.hN,h.hib,h.hnb,h.lf,h.len⟩
 ·have r1':=SRow.kept h.r1 kg (own_ne2 h.r1 h.r3 (by decide))
  exact SRow.kept r1' ks (own_ne r1' hb (by decide))
 ·have r2':=SRow.kept h.r2 kg (own_ne2 h.r2 h.r3 (by decide))
  exact SRow.kept r2' ks (own_ne r2' hb (by decide))
 ·exact IRow.kept r ks (own_ne r hb (by decide))
 ·exact h.ne
 ·refine(h.kept.then kg fun i hi e=>?_).then ks fun i hi e=>?_
  ·have:=own_ge h.r3 e
   have:=h.hN
   omega
  ·have:=h.hnb
   have:=h.hN
   omega
theorem iS_lenR (most:Int) (s:InSt):(iS most s).2.1.length≤s.1.length:=by
 have h1:=(iN_le most s).2
 have h2:=(iTake_len (iN most s).1 (iN most s).2).2
 unfold iS
 exact Nat.le_trans h2 h1
theorem pLoop_small (f:Nd×InSt→Nd×InSt) (g:Nd→Nat) (hf:∀p,g (f p).1≤g p.1 + 1):∀(k:Nat) (p:Nd×InSt),g (pLoop f k p).1≤g p.1 + k
 | 0,p=>Nat.le_refl _
 | k + 1,p=>by
  rw[pLoop]
  split
  ·have:=pLoop_small f g hf k (f p)
   have:=hf p
   omega
  ·omega
theorem pCount_le (t:Bs):(pCount t).1≤6:=by
 unfold pCount
 cases pLf t
 ·have:=(iN_le 6 (pS1 t)).1
  show(iN 6 (pS1 t)).1≤6
  omega
 ·have:=(iN_le 4 (pS1 t)).1
  show(iN 4 (pS1 t)).1≤6
  omega
theorem pAll_small (t:Bs):(pAll t).1.vals.length≤100∧(pAll t).1.kids.length≤100:=by
 have hc:=pCount_le t
 have hb:(pBody t).1.vals.length≤6∧(pBody t).1.kids.length≤6:=by
  unfold pBody
  have h1:=pLoop_small (if pLf t then pStepL else pStepI) (fun n=>n.vals.length) (fun p=>by split<;>simp[pStepL,pStepI]) (pCount t).1 (⟨pLf t, [], [], []⟩,(pCount t).2)
  have h2:=pLoop_small (if pLf t then pStepL else pStepI) (fun n=>n.kids.length) (fun p=>by split<;>simp[pStepL,pStepI]) (pCount t).1 (⟨pLf t, [], [], []⟩,(pCount t).2)
  simp only[List.length_nil] at h1 h2
  omega
 unfold pAll
 split
 ·omega
 ·have h1:=pLoop_small pStepK (fun n=>n.vals.length) (fun p=>by simp[pStepK]) ((pCount t).1 - 1) (pBody t)
  have h2:=pLoop_small pStepK (fun n=>n.kids.length) (fun p=>by simp[pStepK]) ((pCount t).1 - 1) (pBody t)
  omega
theorem iN_failed:iN 6 (([],6):InSt)=(0,([],6)):=by decide
theorem iEnd_failed:iEnd (([],6):InSt)=([],6):=by decide
theorem parse_kind0 {t:Bs} (h0:(iN 2 (t,0)).1=0) (h1:(iN 2 (t,0)).2.2=0):parseNd t=none:=by
 have e1:pKind t=iN 2 (t,0):=rfl
 have e2:pLf t=false:=by unfold pLf;rw[e1,h0];rfl
 have e3:pS1 t=([],6):=by
  unfold pS1
  rw[e1,if_pos ⟨h1,h0⟩]
  unfold iFail
  rw[if_pos ⟨h1,by decide⟩]
 have e4:pCount t=(0,([],6)):=by
  unfold pCount
  rw[e2,e3]
  exact iN_failed
 have e5:pBody t=(⟨false, [], [], []⟩,([],6)):=by
  unfold pBody
  rw[e2,e4];rfl
 have e6:pAll t=(⟨false, [], [], []⟩,([],6)):=by
  unfold pAll
  rw[e2,e4,e5];rfl
 unfold parseNd
 rw[e6,if_neg]
 rintro⟨h, -⟩
 rw[iEnd_failed] at h
 cases h
theorem NdParse_calls (t:Bs) (ht:t.length≤1000000) (w:World):Calls Tryz.prog 149 #[.string (ba t)] w (ParseRes (parseNd t) w):=by
 have HT:=Lib.hid ht
 have C0:=Lib.hid fun w'=>Read_calls t w'
 obtain⟨o,ho⟩:∃o,o=parseNd t:=⟨_,rfl⟩
 rw[←ho]
 have HO:=Lib.hid ho
 obtain⟨st,hst⟩:∃st,st=ba t:=⟨_,rfl⟩
 rw[←hst] at C0⊢
 clear ht ho hst
 go_enter Tryz.func149,Tryz.ntmps149
 go_wp2_with fail
 refine(C0.out _).mono ?_
 rintro e w1 ⟨ib,hib,rfl,hin,k1⟩
 have K1:=Lib.hid (((Kept.refl (fun _=>False) w).alloc _).trans k1)
 have R1:=Lib.hid (k1.heap (heap_new w (.cells zeroNd 148)) id)
 have hib':w.heap.size < ib:=by simp at hib;omega
 have C1:=Lib.hid (inN_calls hin (by have:=HT.out;show t.length≤_;omega) 2 (by omega))
 have HL2:Hid ((iN 2 (t,0)).2.1.length≤1000000∧(iN 2 (t,0)).1≤2):=by
  have:=iN_le 2 (t,0)
  have:=HT.out
  refine⟨by simp only at *;omega,by omega⟩
 obtain⟨kd,hkd⟩:∃kd,kd=(iN 2 (t,0)).1:=⟨_,rfl⟩
 obtain⟨s2,hs2⟩:∃s2,s2=(iN 2 (t,0)).2:=⟨_,rfl⟩
 rw[←hkd, ←hs2] at C1 HL2
 have HKD:=Lib.hid hkd;have HS2:=Lib.hid hs2
 clear hin k1 hib hkd hs2 C0
 go_wp2_with fail
 refine C1.out.mono ?_
 rintro e w2 ⟨rfl,hin2,k2⟩
 obtain⟨lf,hlf⟩:∃lf,lf=(kd == 1):=⟨_,rfl⟩
 have K2:=Lib.hid (K1.out.then k2 (fun i hi e=>by omega))
 have R2:=Lib.hid (k2.heap R1.out (by omega))
 have I2:=Lib.hid hin2
 have hlf1:(kd == 1)=lf:=hlf.symm
 have hlf2:((kd:Int) == 1)=lf:=by rw[hlf];cases h:(kd == 1)<;>simp at h⊢ <;> omega
 have HLF:=Lib.hid hlf
 clear hin2 k2 C1 R1 K1 hlf
 by_cases hA:s2.2=0∧kd=0
 ·obtain⟨hz,rfl⟩:=hA
  obtain rfl:lf=false:=by rw[HLF.out];rfl
  have HNone:Hid (o=none):=by
   show _=_
   rw[HO.out]
   exact parse_kind0 HKD.out.symm (by rw[←HS2.out];exact hz)
  have hin3:=I2.out.kept ((Kept.refl (fun _=>False) w2).alloc (.cells #[.bool false,.slice none 0 0,.slice none 0 0,.slice none 0 0] 148)) id
  have CE:=Lib.hid (Err_calls hin3)
  have CF:=Lib.hid (Fail_calls hin3 6)
  have hff:iFail 6 s2=([],6):=by unfold iFail;rw[if_pos ⟨hz,by decide⟩]
  rw[hz] at CE
  rw[hff] at CF
  obtain⟨w3,hw3⟩:∃w3,w3=w2.alloc (.cells #[.bool false,.slice none 0 0,.slice none 0 0,.slice none 0 0] 148):=⟨_,rfl⟩
  obtain⟨nb,hnb⟩:∃nb,nb=w2.heap.size:=⟨_,rfl⟩
  obtain⟨N,hN⟩:∃N,N=w.heap.size:=⟨_,rfl⟩
  have ps0:Hid (PS w w3 N ib nb false (.slice none 0 0) (.slice none 0 0) (.slice none 0 0) ⟨false, [], [], []⟩ s2):=by
   rw[hw3,hnb,hN]
   exact⟨hin3,heap_new w2 _,heap_old R2.out _,SRow.nil _ _,SRow.nil _ _,IRow.nil _ _,(fun b hb=>by cases hb),K2.out.alloc _,rfl,hib',by have:=lt_heap I2.out;omega,rfl,HL2.out.1⟩
  rw[←hw3] at CE CF
  go_upto_region 4 with(fail)
  rw[←hw3, ←hnb, ←hN]
  clear hz hff hin3 hw3 hnb hN hlf1 hlf2
  go_wp2_with fail
  refine CE.out.mono ?_
  rintro e w' ⟨rfl,rfl⟩
  clear CE
  go_wp2_with fail
  refine CF.out.mono ?_
  rintro e w4 ⟨rfl,hi4,k4⟩
  have ps1:=Lib.hid (ps0.out.read hi4 k4 (Nat.zero_le _))
  have CB:=Lib.hid (NdBounds_calls (B:=0) (n:=⟨false, [], [], []⟩) (IsNd.made rfl (SRow.nil w4 0) (SRow.nil _ 0) (IRow.nil _ 0)))
  have CB':Hid (Calls Tryz.prog 152 #[.agg #[.bool false,.slice none 0 0,.slice none 0 0,.slice none 0 0]] w4 fun e w'=>e = .returned (.tuple #[.int .i64 3,.int .i64 6])∧Kept (fun _=>False) w4 w'):=CB.out
  obtain⟨c0,c1,c2,c3⟩:=nd_cells ps1.out.blk
  clear hi4 k4 CF CB
  go_wp2_with fail
  refine CB'.out.mono ?_
  rintro e w5 ⟨rfl,k5⟩
  have ps2:=Lib.hid (ps1.out.later k5)
  have C2:=Lib.hid (inN_calls ps2.out.inn (by simp) 6 (by omega))
  rw[iN_failed] at C2
  clear c0 c1 c2 c3 k5 CB'
  go_wp2_with fail
  refine C2.out.mono ?_
  rintro e w6 ⟨rfl,hi6,k6⟩
  have ps3:=Lib.hid (ps2.out.read hi6 k6 (Nat.le_refl _))
  clear hi6 k6 C2
  go_wp2_with fail
  go_loopw [10] (fun i wr=>i = .int .i64 0∧wr=w6) (fun _ _=>(0:Nat))
  case atStart=>exact⟨rfl,rfl⟩
  case round =>
   obtain⟨rfl,rfl⟩:=hrel
   go_wp2_with fail
   go_loopw [11] (fun i w'=>i = .int .i64 1∧w'=wr) (fun _ _=>(0:Nat))
   case atStart=>exact⟨rfl,rfl⟩
   case round =>
    obtain⟨rfl,rfl⟩:=hrel
    have CEnd:=Lib.hid (End_calls ps3.out.inn)
    rw[iEnd_failed] at CEnd
    go_wp2_with fail
    refine CEnd.out.mono ?_
    rintro e w7 ⟨rfl,hi7,k7⟩
    have ps4:=Lib.hid (ps3.out.read hi7 k7 (Nat.le_refl _))
    obtain⟨r0,r1,r2,r3⟩:=nd_cells ps4.out.res
    have fr:∀i,w7.frozen? ⟨N,i,none⟩=false:=fun i=>free_heap ps4.out.res i
    clear hi7 k7 CEnd
    go_wp2
    have kk:Kept (· = N) w7 ((((w7.setCell ⟨N,0,none⟩ (.bool false)).setCell ⟨N,1,none⟩ (.slice none 0 0)).setCell ⟨N,2,none⟩ (.slice none 0 0)).setCell ⟨N,3,none⟩ (.slice none 0 0)):=((((Kept.refl (· = N) w7).set1 0 _).set1 1 _).set1 2 _).set1 3 _
    refine bodyPost_ret (v:=.tuple #[.agg zeroNd,.int .i64 6]) (by simp[results,Tryz.f149,go_sem,r0,r1,r2,r3,zeroNd]) rfl ?_
    refine⟨ps4.out.kept.then kk fun i hi e=>by have:=ps4.out.hN;omega,?_⟩
    rw[HNone.out]
    exact⟨6,by decide,rfl⟩
 ·have CE:=Lib.hid (Err_calls (I2.out.kept ((Kept.refl (fun _=>False) w2).alloc (.cells #[.bool lf,.slice none 0 0,.slice none 0 0,.slice none 0 0] 148)) id))
  have ps0:Hid (PS w (w2.alloc (.cells #[.bool lf,.slice none 0 0,.slice none 0 0,.slice none 0 0] 148)) w.heap.size ib w2.heap.size lf (.slice none 0 0) (.slice none 0 0) (.slice none 0 0) ⟨lf, [], [], []⟩ s2) :=
   ⟨I2.out.kept ((Kept.refl (fun _=>False) w2).alloc _) id,heap_new w2 _,heap_old R2.out _,SRow.nil _ _,SRow.nil _ _,IRow.nil _ _,(fun b hb=>by cases hb),K2.out.alloc _,rfl,hib',by have:=lt_heap I2.out;omega,rfl,HL2.out.1⟩
  have CB:=Lib.hid (NdBounds_calls (B:=0) (n:=⟨lf, [], [], []⟩) (IsNd.made rfl (SRow.nil (w2.alloc (.cells #[.bool lf,.slice none 0 0,.slice none 0 0,.slice none 0 0] 148)) 0) (SRow.nil _ 0) (IRow.nil _ 0)))
  obtain⟨w3,hw3⟩:∃w3,w3=w2.alloc (.cells #[.bool lf,.slice none 0 0,.slice none 0 0,.slice none 0 0] 148):=⟨_,rfl⟩
  obtain⟨nb,hnb⟩:∃nb,nb=w2.heap.size:=⟨_,rfl⟩
  obtain⟨N,hN⟩:∃N,N=w.heap.size:=⟨_,rfl⟩
  rw[←hw3] at CE CB ps0
  rw[←hnb, ←hN] at ps0
  obtain⟨most,hmost⟩:∃m:Nat,m=if lf then 4 else 6:=⟨_,rfl⟩
  obtain⟨least,hleast⟩:∃m:Nat,m=if lf then 2 else 3:=⟨_,rfl⟩
  have CB':Hid (Calls Tryz.prog 152 #[.agg #[.bool lf,.slice none 0 0,.slice none 0 0,.slice none 0 0]] w3 fun e w'=>e = .returned (.tuple #[.int .i64 least,.int .i64 most])∧Kept (fun _=>False) w3 w'):=by rw[hmost,hleast];exact CB.out
  have HM:=Lib.hid hmost
  have hm6:most≤6:=by rw[hmost];cases lf<;>simp
  obtain⟨e2,he2⟩:∃e2,e2=s2.2:=⟨_,rfl⟩
  rw[←he2] at CE
  have HE2:=Lib.hid he2
  have hNw:=Lib.hid hN
  obtain⟨c0,c1,c2,c3⟩:=nd_cells ps0.out.blk
  go_upto_region 4 with(fail)
  rw[←hw3, ←hnb, ←hN]
  go_cut [27] from 21 to 27 (fun v wx=>v = .bool false∧wx=w3)
  case first =>
   by_cases hz:e2=0
   ·have hk0:kd ≠ 0:=fun h=>hA ⟨by rw[←he2];exact hz,h⟩
    have hk1:(kd == 0)=false:=by rw[beq_eq_false_iff_ne];exact hk0
    have hk2:((kd:Int) == 0)=false:=by rw[beq_eq_false_iff_ne];omega
    rw[hz] at CE
    clear hz he2 hA hw3 hnb hN hmost hleast
    go_wp2_with fail
    refine CE.out.mono ?_
    rintro e w' ⟨rfl,rfl⟩
    go_wp2
    go_meet
    exact⟨rfl,rfl⟩
   ·have hk1:(e2 == 0)=false:=by rw[beq_eq_false_iff_ne];exact hz
    clear he2 hA hw3 hnb hN hmost hleast
    go_wp2_with fail
    refine CE.out.mono ?_
    rintro e w' ⟨rfl,rfl⟩
    go_wp2
    go_meet
    exact⟨rfl,rfl⟩
  case rest =>
   obtain⟨rfl,rfl⟩:=hcut
   have HA:=Lib.hid hA
   clear hA hw3 hnb hN hmost hleast he2
   go_wp2_with fail
   refine CB'.out.mono ?_
   rintro e w4 ⟨rfl,k4⟩
   have ps1:=Lib.hid (ps0.out.later k4)
   have C2:=Lib.hid (inN_calls ps1.out.inn (by have:=ps1.out.len;omega) (most:Int) (by omega))
   obtain⟨cnt,hcnt⟩:∃c,c=(iN (most:Int) s2).1:=⟨_,rfl⟩
   obtain⟨s3,hs3⟩:∃s,s=(iN (most:Int) s2).2:=⟨_,rfl⟩
   have HS3:Hid (s3.1.length≤s2.1.length):=by show _≤_;rw[hs3];exact(iN_le _ _).2
   have hcm:cnt≤6:=by rw[hcnt];have:=(iN_le (most:Int) s2).1;omega
   rw[←hcnt, ←hs3] at C2
   have HC:=Lib.hid hcnt;have HSS3:=Lib.hid hs3
   clear hcnt hs3 k4 CB' CB ps0 CE c0 c1 c2 c3
   go_wp2_with fail
   refine C2.out.mono ?_
   rintro e w5 ⟨rfl,hi5,k5⟩
   have ps2:=Lib.hid (ps1.out.read hi5 k5 HS3.out)
   clear hi5 k5 C2 ps1
   have HBody:Hid (pBody t=pLoop (if lf then pStepL else pStepI) cnt (⟨lf, [], [], []⟩,s3)):=by
    have hk:kd=(pKind t).1:=HKD.out
    have hs:s2=(pKind t).2:=HS2.out
    have hl:lf=pLf t:=by rw[HLF.out,hk];rfl
    have hp1:pS1 t=s2:=by
     have h:=HA.out
     unfold pS1
     rw[←hk, ←hs,if_neg h]
    have hpc:pCount t=(cnt,s3):=by
     unfold pCount
     rw[hp1, ←hl]
     have:(if lf=true then (4:Int) else 6)=(most:Int):=by rw[HM.out];cases lf<;>rfl
     rw[this,HC.out,HSS3.out]
    show _=_
    unfold pBody
    rw[hpc, ←hl]
   have HLft:Hid (lf=pLf t∧(pCount t).1=cnt):=by
    have hk:kd=(pKind t).1:=HKD.out
    have hs:s2=(pKind t).2:=HS2.out
    have hl:lf=pLf t:=by rw[HLF.out,hk];rfl
    have hp1:pS1 t=s2:=by
     have h:=HA.out
     unfold pS1
     rw[←hk, ←hs,if_neg h]
    refine⟨hl,?_⟩
    unfold pCount
    rw[hp1, ←hl]
    have:(if lf=true then (4:Int) else 6)=(most:Int):=by rw[HM.out];cases lf<;>rfl
    rw[this,HC.out]
   clear hlf1 hlf2 HA
   go_upto_block 0 with(fail)
   go_cut [10] from 38 to 70 (fun _ wx=>∃v1 v2 v3 n s,Hid (PS w wx N ib nb lf v1 v2 v3 n s∧(n,s)=pBody t∧n.keys.length≤6))
   case first =>
    go_wp2_with fail
    go_loopw [10] (fun i wr=>∃(k:Nat) (v1 v2 v3:Value) (n:Nd) (s:InSt),k≤cnt∧i = .int .i64 k∧Hid (PS w wr N ib nb lf v1 v2 v3 n s)∧Hid (pBody t=pLoop (if lf then pStepL else pStepI) (cnt - k) (n,s)∧n.keys.length≤k∧n.vals.length≤k∧n.kids.length≤k)) (fun i _=>cnt - (RowKit.intOf i).toNat)
    case atStart=>exact⟨0,_,_,_,_,_,Nat.zero_le _,rfl,ps2,HBody.out,by simp,by simp,by simp⟩
    case round =>
     obtain⟨k,v1,v2,v3,n,s,hk,rfl,ps,hp⟩:=hrel
     clear ps2 HBody
     by_cases hlt:k < cnt
     ·have CE:=Lib.hid (Err_calls ps.out.inn)
      obtain⟨e2,he2⟩:∃e,e=s.2:=⟨_,rfl⟩
      rw[←he2] at CE
      by_cases hz:e2=0
      ·have HZ:Hid (s.2=0):=by show _=_;rw[←he2];exact hz
       rw[hz] at CE
       clear he2 hz
       obtain⟨A1,m1,rfl⟩:=own_slice ps.out.r1
       obtain⟨A2,m2,rfl⟩:=own_slice ps.out.r2
       obtain⟨A3,m3,rfl⟩:=own_slice ps.out.r3
       have hl1:n.keys.length≤6:=by have:=hp.out.2.1;omega
       have hl2:n.vals.length≤6:=by have:=hp.out.2.2.1;omega
       have hl3:n.kids.length≤6:=by have:=hp.out.2.2.2;omega
       have hpr:Hid (pBody t=pLoop (if lf then pStepL else pStepI) (cnt - (k + 1)) ((if lf then pStepL else pStepI) (n,s))):=by
        have h:=hp.out.1
        rw[show cnt - k=cnt - (k + 1) + 1 by omega,pLoop,if_pos HZ.out] at h
        exact h
       obtain⟨a1,ha1⟩:∃a,a=n.keys.length:=⟨_,rfl⟩
       obtain⟨a2,ha2⟩:∃a,a=n.vals.length:=⟨_,rfl⟩
       obtain⟨a3,ha3⟩:∃a,a=n.kids.length:=⟨_,rfl⟩
       rw[←ha1, ←ha2, ←ha3] at ps
       rw[←ha1] at hl1
       rw[←ha2] at hl2
       rw[←ha3] at hl3
       have Ha1:=Lib.hid ha1;have Ha2:=Lib.hid ha2;have Ha3:=Lib.hid ha3
       clear ha1 ha2 ha3
       obtain⟨g0,g1,g2,g3⟩:=nd_cells ps.out.blk
       cases lf
       ·go_wp2_with fail
        refine CE.out.mono ?_
        rintro e w' ⟨rfl,rfl⟩
        clear CE
        go_wp2_with fail
        clear g0 g1 g2 g3
        obtain⟨e10,e11,e12,e13⟩:=nd_cells ps.out.blk
        have C1:=Lib.hid (inN_calls (ps.out.later ((Kept.refl _ _).drew)).inn (by have:=ps.out.len;omega) 127 (by omega))
        obtain⟨x1,hx1⟩:∃q',q'=(iN 127 s).1:=⟨_,rfl⟩
        obtain⟨s1,hs1⟩:∃q',q'=(iN 127 s).2:=⟨_,rfl⟩
        have HS1:Hid (s1.1.length≤s.1.length):=by show _≤_;rw[hs1];exact(iN_le 127 s).2
        rw[←hx1, ←hs1] at C1
        have HX1:=Lib.hid hx1;have HSS1:=Lib.hid hs1
        clear hx1 hs1
        refine wp_region_z 7 (fun w'=>w'.cell? ⟨nb,3,none⟩=some (.slice A3 a3 m3)) (by kernel_rfl) e13 (fun hC=>?_)
        clear e10 e11 e12 e13
        refine tz 0 (h:=?_)
        (try simp only[lits])
        refine tz 1 (h:=?_)
        (try simp only[lits])
        refine tz 2 (h:=?_)
        (try simp only[lits])
        refine wpAnyZ_one (i:=3) (by kernel_rfl) rfl (fun K hK=>?_)
        go_simp
        refine C1.out.mono ?_
        rintro e y1 ⟨rfl,hi1,k1⟩
        have q1:=Lib.hid ((ps.out.later ((Kept.refl _ _).drew)).read hi1 k1 HS1.out)
        obtain⟨e10,e11,e12,e13⟩:=nd_cells q1.out.blk
        refine hK.out _ _ (fun _=>e13) ?_
        clear hK hC hi1 k1 C1
        (try simp only[lits])
        refine wpAnyZ_one (i:=4) (by kernel_rfl) rfl (fun K hK=>?_)
        go_simp
        have qa1:=Lib.hid (q1.out.later ((Kept.refl _ y1).alloc (.cells #[.int .i64 (x1:Nat)] 3)))
        refine hK.out _ _ (fun _=>(nd_cells qa1.out.blk).2.2.2) ?_
        clear hK e10 e11 e12 e13
        (try simp only[lits])
        refine wpAnyZ_one (i:=5) (by kernel_rfl) rfl (fun K hK=>?_)
        have ow1:Hid ((y1.alloc (.cells #[.int .i64 (x1:Nat)] 3)).ownsRow 0 3 1 (.slice A3 a3 m3) a3 (n.kids.map I)):=by
         have h:=qa1.out.r3
         unfold IRow at h
         rw[show(n.kids).length=a3 from Ha3.out.symm] at h
         exact own_base h fun _ _=>Nat.zero_le _
        refine step_one (v:=.slice A3 a3 m3) rfl (.tmp 65) (.tmp 68) rfl Tryz.underlying28 info_int rfl rfl ow1.out _ rfl (reads_one y1 (.int .i64 (x1:Nat)) 3) (ints_one [x1]) (by unfold maxLen;omega) (by omega) ?_
        intro v' z1 hv1 hg1 hob1
        obtain⟨B1,d1,rfl,hb1,p1⟩:=q1.out.kid ((Kept.refl _ y1).alloc _) Ha3.out hv1 hg1 hob1
        have ps1:=Lib.hid p1
        obtain⟨e10,e11,e12,e13⟩:=nd_cells hb1
        have fz1:∀i,z1.frozen? ⟨nb,i,none⟩=false:=fun i=>free_heap hb1 i
        refine hK.out _ _ (fun _=>e13) ?_
        clear hK hv1 hg1 hob1 ow1 p1 hb1 qa1 q1
        (try simp only[lits])
        refine wpAnyZ_one (i:=6) (by kernel_rfl) rfl (fun K hK=>?_)
        go_simp
        refine hK.out _ _ (fun _=>e13) ?_
        clear hK
        (try simp only[lits])
        refine wpAnyZ_one (i:=7) (by kernel_rfl) rfl (fun K hK=>?_)
        go_simp
        refine hK.out _ _ (fun h=>by cases h) ?_
        clear hK
        (try simp only[lits])
        refine wpAnyZ_done (by kernel_rfl) ?_ _
        clear e10 e11 e12 e13 fz1
        go_wp2
        go_roundw
        case rel =>
         refine⟨k + 1,_,_,_,_,_,by omega,by go_num,ps1,?_,?_,?_,?_⟩
         ·rw[hpr.out];simp only[Bool.false_eq_true,if_false,pStepI, ←HX1.out, ←HSS1.out]
         ·have:=hp.out.2.1;simp only;omega
         ·have:=hp.out.2.2.1;simp only;omega
         ·have:=hp.out.2.2.2;simp only[List.length_append,List.length_singleton];omega
        case measure=>simp[RowKit.intOf];omega
       ·go_wp2_with fail
        refine CE.out.mono ?_
        rintro e w' ⟨rfl,rfl⟩
        clear CE
        go_wp2_with fail
        clear g0 g1 g2 g3
        obtain⟨e10,e11,e12,e13⟩:=nd_cells ps.out.blk
        have C1:=Lib.hid (inS_calls (ps.out.later ((Kept.refl _ _).drew)).inn (by have:=ps.out.len;omega) 24 (by omega))
        obtain⟨x1,hx1⟩:∃q',q'=(iS 24 s).1:=⟨_,rfl⟩
        obtain⟨s1,hs1⟩:∃q',q'=(iS 24 s).2:=⟨_,rfl⟩
        have HS1:Hid (s1.1.length≤s.1.length):=by show _≤_;rw[hs1];exact iS_lenR 24 s
        rw[←hx1, ←hs1] at C1
        have HX1:=Lib.hid hx1;have HSS1:=Lib.hid hs1
        clear hx1 hs1
        refine wp_region_z 7 (fun w'=>w'.cell? ⟨nb,1,none⟩=some (.slice A1 a1 m1)) (by kernel_rfl) e11 (fun hC=>?_)
        clear e10 e11 e12 e13
        refine tz 0 (h:=?_)
        (try simp only[lits])
        refine tz 1 (h:=?_)
        (try simp only[lits])
        refine tz 2 (h:=?_)
        (try simp only[lits])
        refine wpAnyZ_one (i:=3) (by kernel_rfl) rfl (fun K hK=>?_)
        go_simp
        refine C1.out.mono ?_
        rintro e y1 ⟨rfl,hi1,k1⟩
        have q1:=Lib.hid ((ps.out.later ((Kept.refl _ _).drew)).read hi1 k1 HS1.out)
        obtain⟨e10,e11,e12,e13⟩:=nd_cells q1.out.blk
        refine hK.out _ _ (fun _=>e11) ?_
        clear hK hC hi1 k1 C1
        (try simp only[lits])
        refine wpAnyZ_one (i:=4) (by kernel_rfl) rfl (fun K hK=>?_)
        go_simp
        have qa1:=Lib.hid (q1.out.later ((Kept.refl _ y1).alloc (.cells #[.string (ba x1)] 9)))
        refine hK.out _ _ (fun _=>(nd_cells qa1.out.blk).2.1) ?_
        clear hK e10 e11 e12 e13
        (try simp only[lits])
        refine wpAnyZ_one (i:=5) (by kernel_rfl) rfl (fun K hK=>?_)
        have ow1:Hid ((y1.alloc (.cells #[.string (ba x1)] 9)).ownsRow 0 9 1 (.slice A1 a1 m1) a1 (n.keys.map Ss)):=by
         have h:=qa1.out.r1
         unfold SRow at h
         rw[show(n.keys).length=a1 from Ha1.out.symm] at h
         exact own_base h fun _ _=>Nat.zero_le _
        refine step_one (v:=.slice A1 a1 m1) rfl (.tmp 51) (.tmp 54) rfl Tryz.underlying29 info_str rfl rfl ow1.out _ rfl (reads_one y1 (.string (ba x1)) 9) (ss_one [x1]) (by unfold maxLen;omega) (by omega) ?_
        intro v' z1 hv1 hg1 hob1
        obtain⟨B1,d1,rfl,hb1,p1⟩:=q1.out.key ((Kept.refl _ y1).alloc _) Ha1.out hv1 hg1 hob1
        have ps1:=Lib.hid p1
        obtain⟨e10,e11,e12,e13⟩:=nd_cells hb1
        have fz1:∀i,z1.frozen? ⟨nb,i,none⟩=false:=fun i=>free_heap hb1 i
        refine hK.out _ _ (fun _=>e11) ?_
        clear hK hv1 hg1 hob1 ow1 p1 hb1 qa1 q1
        (try simp only[lits])
        refine wpAnyZ_one (i:=6) (by kernel_rfl) rfl (fun K hK=>?_)
        go_simp
        refine hK.out _ _ (fun _=>e11) ?_
        clear hK
        (try simp only[lits])
        refine wpAnyZ_one (i:=7) (by kernel_rfl) rfl (fun K hK=>?_)
        go_simp
        refine hK.out _ _ (fun h=>by cases h) ?_
        clear hK
        (try simp only[lits])
        refine wpAnyZ_done (by kernel_rfl) ?_ _
        clear e10 e11 e12 e13 fz1
        go_wp2_with fail
        obtain⟨e20,e21,e22,e23⟩:=nd_cells ps1.out.blk
        have C2:=Lib.hid (inS_calls (ps1.out.later ((Kept.refl _ _).drew)).inn (by have:=ps1.out.len;omega) 32 (by omega))
        obtain⟨x2,hx2⟩:∃q',q'=(iS 32 s1).1:=⟨_,rfl⟩
        obtain⟨s2,hs2⟩:∃q',q'=(iS 32 s1).2:=⟨_,rfl⟩
        have HS2:Hid (s2.1.length≤s1.1.length):=by show _≤_;rw[hs2];exact iS_lenR 32 s1
        rw[←hx2, ←hs2] at C2
        have HX2:=Lib.hid hx2;have HSS2:=Lib.hid hs2
        clear hx2 hs2
        refine wp_region_z 7 (fun w'=>w'.cell? ⟨nb,2,none⟩=some (.slice A2 a2 m2)) (by kernel_rfl) e22 (fun hC=>?_)
        clear e20 e21 e22 e23
        refine tz 0 (h:=?_)
        (try simp only[lits])
        refine tz 1 (h:=?_)
        (try simp only[lits])
        refine tz 2 (h:=?_)
        (try simp only[lits])
        refine wpAnyZ_one (i:=3) (by kernel_rfl) rfl (fun K hK=>?_)
        go_simp
        refine C2.out.mono ?_
        rintro e y2 ⟨rfl,hi2,k2⟩
        have q2:=Lib.hid ((ps1.out.later ((Kept.refl _ _).drew)).read hi2 k2 HS2.out)
        obtain⟨e20,e21,e22,e23⟩:=nd_cells q2.out.blk
        refine hK.out _ _ (fun _=>e22) ?_
        clear hK hC hi2 k2 C2
        (try simp only[lits])
        refine wpAnyZ_one (i:=4) (by kernel_rfl) rfl (fun K hK=>?_)
        go_simp
        have qa2:=Lib.hid (q2.out.later ((Kept.refl _ y2).alloc (.cells #[.string (ba x2)] 9)))
        refine hK.out _ _ (fun _=>(nd_cells qa2.out.blk).2.2.1) ?_
        clear hK e20 e21 e22 e23
        (try simp only[lits])
        refine wpAnyZ_one (i:=5) (by kernel_rfl) rfl (fun K hK=>?_)
        have ow2:Hid ((y2.alloc (.cells #[.string (ba x2)] 9)).ownsRow 0 9 1 (.slice A2 a2 m2) a2 (n.vals.map Ss)):=by
         have h:=qa2.out.r2
         unfold SRow at h
         rw[show(n.vals).length=a2 from Ha2.out.symm] at h
         exact own_base h fun _ _=>Nat.zero_le _
        refine step_one (v:=.slice A2 a2 m2) rfl (.tmp 58) (.tmp 61) rfl Tryz.underlying29 info_str rfl rfl ow2.out _ rfl (reads_one y2 (.string (ba x2)) 9) (ss_one [x2]) (by unfold maxLen;omega) (by omega) ?_
        intro v' z2 hv2 hg2 hob2
        obtain⟨B2,d2,rfl,hb2,p2⟩:=q2.out.val ((Kept.refl _ y2).alloc _) Ha2.out hv2 hg2 hob2
        have ps2:=Lib.hid p2
        obtain⟨e20,e21,e22,e23⟩:=nd_cells hb2
        have fz2:∀i,z2.frozen? ⟨nb,i,none⟩=false:=fun i=>free_heap hb2 i
        refine hK.out _ _ (fun _=>e22) ?_
        clear hK hv2 hg2 hob2 ow2 p2 hb2 qa2 q2
        (try simp only[lits])
        refine wpAnyZ_one (i:=6) (by kernel_rfl) rfl (fun K hK=>?_)
        go_simp
        refine hK.out _ _ (fun _=>e22) ?_
        clear hK
        (try simp only[lits])
        refine wpAnyZ_one (i:=7) (by kernel_rfl) rfl (fun K hK=>?_)
        go_simp
        refine hK.out _ _ (fun h=>by cases h) ?_
        clear hK
        (try simp only[lits])
        refine wpAnyZ_done (by kernel_rfl) ?_ _
        clear e20 e21 e22 e23 fz2
        go_wp2
        go_roundw
        case rel =>
         refine⟨k + 1,_,_,_,_,_,by omega,by go_num,ps2,?_,?_,?_,?_⟩
         ·rw[hpr.out];simp only[if_true,pStepL, ←HX1.out, ←HSS1.out, ←HX2.out, ←HSS2.out]
         ·have:=hp.out.2.1;simp only[List.length_append,List.length_singleton];omega
         ·have:=hp.out.2.2.1;simp only[List.length_append,List.length_singleton];omega
         ·have:=hp.out.2.2.2;simp only;omega
        case measure=>simp[RowKit.intOf];omega
      ·have hz1:(e2 == 0)=false:=by rw[beq_eq_false_iff_ne];exact hz
       have hfin:Hid (PS w wr N ib nb lf v1 v2 v3 n s∧(n,s)=pBody t∧n.keys.length≤6):=by
        refine⟨ps.out,?_,by have:=hp.out.2.1;omega⟩
        have h:=hp.out.1
        rw[show cnt - k=cnt - (k + 1) + 1 by omega,pLoop,if_neg (by rw[←he2];exact hz)] at h
        exact h.symm
       clear he2 hp
       go_wp2_with fail
       refine CE.out.mono ?_
       rintro e w' ⟨rfl,rfl⟩
       go_wp2
       go_meet
       exact⟨v1,v2,v3,n,s,hfin⟩
     ·obtain rfl:k=cnt:=by omega
      have hfin:Hid (PS w wr N ib nb lf v1 v2 v3 n s∧(n,s)=pBody t∧n.keys.length≤6):=by
       refine⟨ps.out,?_,by have:=hp.out.2.1;omega⟩
       have h:=hp.out.1
       rw[Nat.sub_self,pLoop] at h
       exact h.symm
      clear hp
      go_wp2
      go_meet
      exact⟨v1,v2,v3,n,s,hfin⟩
   case rest =>
    obtain⟨v1,v2,v3,n,s,hfin⟩:=hcut
    clear ps2 HBody
    go_upto_block 2 with(fail)
    go_cut [11] from 71 to 92 (fun _ wx=>∃v1 v2 v3 n s,Hid (PS w wx N ib nb lf v1 v2 v3 n s∧(n,s)=pAll t∧n.keys.length≤12))
    case first =>
     cases lf
     ·go_wp2_with fail
      have hstart:Hid (pAll t=pLoop pStepK (cnt - 1) (n,s)):=by
       show _=_
       unfold pAll
       rw[←HLft.out.1,HLft.out.2,hfin.out.2.1];rfl
      have psS:=Lib.hid hfin.out.1
      have hkS:Hid (n.keys.length≤6):=hfin.out.2.2
      clear hfin
      go_loopw [11] (fun i wr=>∃(k:Nat) (v1 v2 v3:Value) (n:Nd) (s:InSt),(k=1∨k≤cnt)∧1≤k∧i = .int .i64 k∧Hid (PS w wr N ib nb false v1 v2 v3 n s)∧Hid (pAll t=pLoop pStepK (cnt - k) (n,s)∧n.keys.length≤5 + k)) (fun i _=>cnt - (RowKit.intOf i).toNat)
      case atStart=>exact⟨1,_,_,_,_,_,.inl rfl,Nat.le_refl _,rfl,psS,hstart.out,by have:=hkS.out;omega⟩
      case round =>
       obtain⟨k,v1,v2,v3,n,s,hk,hk1,rfl,ps,hp⟩:=hrel
       clear psS hstart hkS
       by_cases hlt:k < cnt
       ·have CE:=Lib.hid (Err_calls ps.out.inn)
        obtain⟨e2,he2⟩:∃e,e=s.2:=⟨_,rfl⟩
        rw[←he2] at CE
        by_cases hz:e2=0
        ·have HZ:Hid (s.2=0):=by show _=_;rw[←he2];exact hz
         rw[hz] at CE
         clear he2 hz
         obtain⟨A1,m1,rfl⟩:=own_slice ps.out.r1
         obtain⟨A2,m2,rfl⟩:=own_slice ps.out.r2
         obtain⟨A3,m3,rfl⟩:=own_slice ps.out.r3
         have hl1:n.keys.length≤12:=by have:=hp.out.2;omega
         have hpr:Hid (pAll t=pLoop pStepK (cnt - (k + 1)) (pStepK (n,s))):=by
          have h:=hp.out.1
          rw[show cnt - k=cnt - (k + 1) + 1 by omega,pLoop,if_pos HZ.out] at h
          exact h
         obtain⟨a1,ha1⟩:∃a,a=n.keys.length:=⟨_,rfl⟩
         obtain⟨a2,ha2⟩:∃a,a=n.vals.length:=⟨_,rfl⟩
         obtain⟨a3,ha3⟩:∃a,a=n.kids.length:=⟨_,rfl⟩
         rw[←ha1, ←ha2, ←ha3] at ps
         rw[←ha1] at hl1
         have Ha1:=Lib.hid ha1;have Ha2:=Lib.hid ha2;have Ha3:=Lib.hid ha3
         clear ha1 ha2 ha3
         obtain⟨g0,g1,g2,g3⟩:=nd_cells ps.out.blk
         go_wp2_with fail
         refine CE.out.mono ?_
         rintro e w' ⟨rfl,rfl⟩
         clear CE
         go_wp2_with fail
         clear g0 g1 g2 g3
         obtain⟨e10,e11,e12,e13⟩:=nd_cells ps.out.blk
         have C1:=Lib.hid (inS_calls (ps.out.later ((Kept.refl _ _).drew)).inn (by have:=ps.out.len;omega) 24 (by omega))
         obtain⟨x1,hx1⟩:∃q',q'=(iS 24 s).1:=⟨_,rfl⟩
         obtain⟨s1,hs1⟩:∃q',q'=(iS 24 s).2:=⟨_,rfl⟩
         have HS1:Hid (s1.1.length≤s.1.length):=by show _≤_;rw[hs1];exact iS_lenR 24 s
         rw[←hx1, ←hs1] at C1
         have HX1:=Lib.hid hx1;have HSS1:=Lib.hid hs1
         clear hx1 hs1
         refine wp_region_z 7 (fun w'=>w'.cell? ⟨nb,1,none⟩=some (.slice A1 a1 m1)) (by kernel_rfl) e11 (fun hC=>?_)
         clear e10 e11 e12 e13
         refine tz 0 (h:=?_)
         (try simp only[lits])
         refine tz 1 (h:=?_)
         (try simp only[lits])
         refine tz 2 (h:=?_)
         (try simp only[lits])
         refine wpAnyZ_one (i:=3) (by kernel_rfl) rfl (fun K hK=>?_)
         go_simp
         refine C1.out.mono ?_
         rintro e y1 ⟨rfl,hi1,k1⟩
         have q1:=Lib.hid ((ps.out.later ((Kept.refl _ _).drew)).read hi1 k1 HS1.out)
         obtain⟨e10,e11,e12,e13⟩:=nd_cells q1.out.blk
         refine hK.out _ _ (fun _=>e11) ?_
         clear hK hC hi1 k1 C1
         (try simp only[lits])
         refine wpAnyZ_one (i:=4) (by kernel_rfl) rfl (fun K hK=>?_)
         go_simp
         have qa1:=Lib.hid (q1.out.later ((Kept.refl _ y1).alloc (.cells #[.string (ba x1)] 9)))
         refine hK.out _ _ (fun _=>(nd_cells qa1.out.blk).2.1) ?_
         clear hK e10 e11 e12 e13
         (try simp only[lits])
         refine wpAnyZ_one (i:=5) (by kernel_rfl) rfl (fun K hK=>?_)
         have ow1:Hid ((y1.alloc (.cells #[.string (ba x1)] 9)).ownsRow 0 9 1 (.slice A1 a1 m1) a1 (n.keys.map Ss)):=by
          have h:=qa1.out.r1
          unfold SRow at h
          rw[show(n.keys).length=a1 from Ha1.out.symm] at h
          exact own_base h fun _ _=>Nat.zero_le _
         refine step_one (v:=.slice A1 a1 m1) rfl (.tmp 87) (.tmp 90) rfl Tryz.underlying29 info_str rfl rfl ow1.out _ rfl (reads_one y1 (.string (ba x1)) 9) (ss_one [x1]) (by unfold maxLen;omega) (by omega) ?_
         intro v' z1 hv1 hg1 hob1
         obtain⟨B1,d1,rfl,hb1,p1⟩:=q1.out.key ((Kept.refl _ y1).alloc _) Ha1.out hv1 hg1 hob1
         have ps1:=Lib.hid p1
         obtain⟨e10,e11,e12,e13⟩:=nd_cells hb1
         have fz1:∀i,z1.frozen? ⟨nb,i,none⟩=false:=fun i=>free_heap hb1 i
         refine hK.out _ _ (fun _=>e11) ?_
         clear hK hv1 hg1 hob1 ow1 p1 hb1 qa1 q1
         (try simp only[lits])
         refine wpAnyZ_one (i:=6) (by kernel_rfl) rfl (fun K hK=>?_)
         go_simp
         refine hK.out _ _ (fun _=>e11) ?_
         clear hK
         (try simp only[lits])
         refine wpAnyZ_one (i:=7) (by kernel_rfl) rfl (fun K hK=>?_)
         go_simp
         refine hK.out _ _ (fun h=>by cases h) ?_
         clear hK
         (try simp only[lits])
         refine wpAnyZ_done (by kernel_rfl) ?_ _
         clear e10 e11 e12 e13 fz1
         go_wp2
         go_roundw
         case rel =>
          refine⟨k + 1,_,_,_,_,_,by omega,by omega,by go_num,ps1,?_,?_⟩
          ·rw[hpr.out];simp only[pStepK, ←HX1.out, ←HSS1.out]
          ·have:=hp.out.2;simp only[List.length_append,List.length_singleton];omega
         case measure=>simp[RowKit.intOf];omega
        ·have hz1:(e2 == 0)=false:=by rw[beq_eq_false_iff_ne];exact hz
         have hfin:Hid (PS w wr N ib nb false v1 v2 v3 n s∧(n,s)=pAll t∧n.keys.length≤12):=by
          refine⟨ps.out,?_,by have:=hp.out.2;omega⟩
          have h:=hp.out.1
          rw[show cnt - k=cnt - (k + 1) + 1 by omega,pLoop,if_neg (by rw[←he2];exact hz)] at h
          exact h.symm
         obtain⟨g0,g1,g2,g3⟩:=nd_cells ps.out.blk
         clear he2 hp
         go_wp2_with fail
         refine CE.out.mono ?_
         rintro e w' ⟨rfl,rfl⟩
         go_wp2
         go_meet
         exact⟨v1,v2,v3,n,s,hfin⟩
       ·have hfin:Hid (PS w wr N ib nb false v1 v2 v3 n s∧(n,s)=pAll t∧n.keys.length≤12):=by
         refine⟨ps.out,?_,by have:=hp.out.2;omega⟩
         have h:=hp.out.1
         rw[show cnt - k=0 by omega,pLoop] at h
         exact h.symm
        clear hp
        go_wp2
        go_meet
        exact⟨v1,v2,v3,n,s,hfin⟩
     ·have hfin2:Hid (PS w wc N ib nb true v1 v2 v3 n s∧(n,s)=pAll t∧n.keys.length≤12):=by
       refine⟨hfin.out.1,?_,by have:=hfin.out.2.2;omega⟩
       rw[hfin.out.2.1]
       unfold pAll
       rw[←HLft.out.1,if_pos rfl]
      obtain⟨g0,g1,g2,g3⟩:=nd_cells hfin.out.1.blk
      clear hfin
      by_cases hc1:1 < cnt
      all_goals
       go_wp2_with fail
       go_loopw [11] (fun i wr=>i = .int .i64 1∧wr=wc) (fun _ _=>(0:Nat))
       case atStart=>exact⟨rfl,rfl⟩
       case round =>
        obtain⟨rfl,rfl⟩:=hrel
        go_wp2
        go_meet
        exact⟨v1,v2,v3,n,s,hfin2⟩
    case rest =>
     clear hfin
     obtain⟨v1,v2,v3,n,s,hfin⟩:=hcut
     have CEnd:=Lib.hid (End_calls hfin.out.1.inn)
     obtain⟨en,hen⟩:∃e,e=(iEnd s).2:=⟨_,rfl⟩
     rw[←hen] at CEnd
     have HEn:=Lib.hid hen
     have HEl:Hid ((iEnd s).1.length≤s.1.length):=by
      show _≤_
      unfold iEnd
      split
      ·exact Nat.le_refl _
      ·exact iFail_len _ _
     clear hen
     go_wp2_with fail
     refine CEnd.out.mono ?_
     rintro e w6 ⟨rfl,hi6,k6⟩
     have ps6:=Lib.hid (hfin.out.1.read hi6 k6 HEl.out)
     clear hi6 k6 CEnd
     obtain⟨g0,g1,g2,g3⟩:=nd_cells ps6.out.blk
     obtain⟨r0,r1,r2,r3⟩:=nd_cells ps6.out.res
     have fr:∀i,w6.frozen? ⟨N,i,none⟩=false:=fun i=>free_heap ps6.out.res i
     have kN:Hid (∀(W:World),Kept (· = N) w6 W→Kept (fun _=>False) w W):=fun W k=>ps6.out.kept.then k fun i hi e=>by have:=ps6.out.hN;omega
     by_cases hz:en=0
     ·subst hz
      obtain⟨A1,m1,rfl⟩:=own_slice ps6.out.r1
      obtain⟨A2,m2,rfl⟩:=own_slice ps6.out.r2
      obtain⟨A3,m3,rfl⟩:=own_slice ps6.out.r3
      have hsm:n.Sm:=by
       have h1:=hfin.out.2.2
       have h2:=pAll_small t
       rw[←hfin.out.2.1] at h2
       exact⟨by omega,h2.1,h2.2⟩
      have CK:=Lib.hid (NdCheck_calls (IsNd.made (n:=n) ps6.out.lf ps6.out.r1 ps6.out.r2 ps6.out.r3) hsm)
      obtain⟨a1,ha1⟩:∃a,a=n.keys.length:=⟨_,rfl⟩
      obtain⟨a2,ha2⟩:∃a,a=n.vals.length:=⟨_,rfl⟩
      obtain⟨a3,ha3⟩:∃a,a=n.kids.length:=⟨_,rfl⟩
      rw[←ha1, ←ha2, ←ha3] at CK ps6
      rw[←ha1] at g1
      rw[←ha2] at g2
      rw[←ha3] at g3
      clear ha1 ha2 ha3 hsm
      go_wp2_with fail
      refine CK.out.mono ?_
      rintro e w7 ⟨c,rfl,hc,k7⟩
      have ps7:=Lib.hid (ps6.out.later k7)
      have HC7:=Lib.hid hc
      clear hc k7 CK g0 g1 g2 g3 r0 r1 r2 r3 fr
      obtain⟨g0,g1,g2,g3⟩:=nd_cells ps7.out.blk
      obtain⟨r0,r1,r2,r3⟩:=nd_cells ps7.out.res
      have fr:∀i,w7.frozen? ⟨N,i,none⟩=false:=fun i=>free_heap ps7.out.res i
      by_cases hc0:c=0
      ·subst hc0
       have HSome:Hid (o=some n):=by
        show _=_
        rw[HO.out]
        unfold parseNd
        rw[←hfin.out.2.1,if_pos ⟨HEn.out.symm,HC7.out.1 rfl⟩]
       go_wp2
       have kk:Kept (· = N) w7 ((((w7.setCell ⟨N,0,none⟩ (.bool lf)).setCell ⟨N,1,none⟩ (.slice A1 a1 m1)).setCell ⟨N,2,none⟩ (.slice A2 a2 m2)).setCell ⟨N,3,none⟩ (.slice A3 a3 m3)):=((((Kept.refl (· = N) w7).set1 0 _).set1 1 _).set1 2 _).set1 3 _
       refine bodyPost_ret (v:=.tuple #[.agg #[.bool lf,.slice A1 a1 m1,.slice A2 a2 m2,.slice A3 a3 m3],.int .i64 0]) (by simp[results,Tryz.f149,go_sem,r0,r1,r2,r3]) rfl ?_
       have hNw':=ps7.out.hN
       refine⟨ps7.out.kept.then kk fun i hi e=>by omega,?_⟩
       rw[HSome.out, ←hNw']
       exact⟨_,rfl,IsNd.made ps7.out.lf (SRow.kept ps7.out.r1 kk (own_ne ps7.out.r1 ps7.out.res (by decide))) (SRow.kept ps7.out.r2 kk (own_ne ps7.out.r2 ps7.out.res (by decide))) (IRow.kept ps7.out.r3 kk (own_ne ps7.out.r3 ps7.out.res (by decide)))⟩
      ·have HNone:Hid (o=none):=by
        show _=_
        rw[HO.out]
        unfold parseNd
        rw[←hfin.out.2.1,if_neg fun h=>hc0 (HC7.out.2 h.2)]
       have hc1:(c == 0)=false:=by rw[beq_eq_false_iff_ne];exact hc0
       have hc2:(c != 0)=true:=by rw[bne_iff_ne];exact hc0
       have HC0:=Lib.hid hc0
       clear hc0
       go_wp2
       have kk:Kept (· = N) w7 ((((w7.setCell ⟨N,0,none⟩ (.bool false)).setCell ⟨N,1,none⟩ (.slice none 0 0)).setCell ⟨N,2,none⟩ (.slice none 0 0)).setCell ⟨N,3,none⟩ (.slice none 0 0)):=((((Kept.refl (· = N) w7).set1 0 _).set1 1 _).set1 2 _).set1 3 _
       refine bodyPost_ret (v:=.tuple #[.agg zeroNd,.int .i64 c]) (by simp[results,Tryz.f149,go_sem,r0,r1,r2,r3,zeroNd]) rfl ?_
       have hNw':=ps7.out.hN
       refine⟨ps7.out.kept.then kk fun i hi e=>by omega,?_⟩
       rw[HNone.out]
       exact⟨c,HC0.out,rfl⟩
     ·have HNone:Hid (o=none):=by
       show _=_
       rw[HO.out]
       unfold parseNd
       rw[←hfin.out.2.1,if_neg fun h=>hz (HEn.out.trans h.1)]
      have hz1:(en == 0)=false:=by rw[beq_eq_false_iff_ne];exact hz
      have hz2:(en != 0)=true:=by rw[bne_iff_ne];exact hz
      have HZ:=Lib.hid hz
      clear hz g0 g1 g2 g3
      go_wp2
      have kk:Kept (· = N) w6 ((((w6.setCell ⟨N,0,none⟩ (.bool false)).setCell ⟨N,1,none⟩ (.slice none 0 0)).setCell ⟨N,2,none⟩ (.slice none 0 0)).setCell ⟨N,3,none⟩ (.slice none 0 0)):=((((Kept.refl (· = N) w6).set1 0 _).set1 1 _).set1 2 _).set1 3 _
      refine bodyPost_ret (v:=.tuple #[.agg zeroNd,.int .i64 en]) (by simp[results,Tryz.f149,go_sem,r0,r1,r2,r3,zeroNd]) rfl ?_
      refine⟨kN.out _ kk,?_⟩
      rw[HNone.out]
      exact⟨en,HZ.out,rfl⟩
end Go.Proofs.YtfgjehecjgebdaaGreat
