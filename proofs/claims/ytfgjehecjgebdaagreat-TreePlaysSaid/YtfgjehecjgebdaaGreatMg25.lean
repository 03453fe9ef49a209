/- Nodes: Split. -/
import Derived.Test.YtfgjehecjgebdaaGreatMg19
import Derived.Test.YtfgjehecjgebdaaGreatMg06
import Derived.IntWalk
import Derived.Test.YtfgjehecjgebdaaGreatMg22
namespace Go.Proofs.YtfgjehecjgebdaaGreat
open Go.RowKit
set_option maxHeartbeats 4000000
set_option maxRecDepth 100000
theorem SRow.pre {w B g a c T h} (hr:SRow w B (.slice (some ⟨g,0,none⟩) a c) T) (hh:h≤T.length):SlS w (.slice (some ⟨g,0,none⟩) h c) (T.take h):=by
 obtain⟨A,c',e,⟨rfl,_⟩|⟨b,off,rfl,hc⟩⟩:=hr.sl
 ·cases e
 ·injection e with e1 e2 e3
  injection e1 with e1
  injection e1 with e1 e4
  subst e1 e4
  have hl:(T.take h).length=h:=by simp;omega
  refine⟨some ⟨g,0,none⟩,c,by rw[hl],.inr ⟨g,0,rfl,fun j hj=>?_⟩⟩
  rw[hc j (by omega),List.getElem_take]
theorem SRow.suf {w B g a c T h} (hr:SRow w B (.slice (some ⟨g,0,none⟩) a c) T) (hh:h≤T.length) {m d:Nat} (hm:m=T.length - h):SlS w (.slice (some ⟨g,h,none⟩) m d) (T.drop h):=by
 subst hm
 obtain⟨A,c',e,⟨rfl,_⟩|⟨b,off,rfl,hc⟩⟩:=hr.sl
 ·cases e
 ·injection e with e1 e2 e3
  injection e1 with e1
  injection e1 with e1 e4
  subst e1 e4
  have hl:(T.drop h).length=T.length - h:=by simp
  refine⟨some ⟨g,h,none⟩,d,by rw[hl],.inr ⟨g,h,rfl,fun j hj=>?_⟩⟩
  have:=hc (h + j) (by omega)
  rw[Nat.zero_add] at this
  rw[this,List.getElem_drop]
theorem SRow.at_ {w B g a c T j} (hr:SRow w B (.slice (some ⟨g,0,none⟩) a c) T) (hj:j < T.length):w.cell? ⟨g,j,none⟩=some (Ss T[j]):=by
 obtain⟨A,c',e,⟨rfl,_⟩|⟨b,off,rfl,hc⟩⟩:=hr.sl
 ·cases e
 ·injection e with e1 e2 e3
  injection e1 with e1
  injection e1 with e1 e4
  subst e1 e4
  have:=hc j hj
  rw[Nat.zero_add] at this
  exact this
theorem own_neB {w:World} {B:Nat} {e:TypeId} {v:Value} {n:Nat} {xs:List Value} (h:w.ownsRow B e 1 v n xs) {g:Nat} {cs:Array Value} {T:TypeId} {f:Nat×Nat} (hg:w.heap[g]? = some (.cells cs T f)) (hT:T ≠ e):∀b,v.ownBlock=some b→b ≠ g:=by
 rintro b hb rfl
 rcases h.2 with⟨rfl,_⟩|⟨g',cap,cur,rfl,_,hh,_⟩
 ·cases hb
 ·injection hb with hb
  subst hb
  rw[hh] at hg
  injection hg with hg
  injection hg with _ e _
  exact hT e.symm
theorem IRow.pre {w B g a c T h} (hr:IRow w B (.slice (some ⟨g,0,none⟩) a c) T) (hh:h≤T.length):SlI w (.slice (some ⟨g,0,none⟩) h c) (T.take h):=by
 obtain⟨A,c',e,⟨rfl,_⟩|⟨b,off,rfl,hc⟩⟩:=hr.sl
 ·cases e
 ·injection e with e1 e2 e3
  injection e1 with e1
  injection e1 with e1 e4
  subst e1 e4
  have hl:(T.take h).length=h:=by simp;omega
  refine⟨some ⟨g,0,none⟩,c,by rw[hl],.inr ⟨g,0,rfl,fun j hj=>?_⟩⟩
  rw[hc j (by omega),List.getElem_take]
theorem IRow.suf {w B g a c T h} (hr:IRow w B (.slice (some ⟨g,0,none⟩) a c) T) (hh:h≤T.length) {m d:Nat} (hm:m=T.length - h):SlI w (.slice (some ⟨g,h,none⟩) m d) (T.drop h):=by
 subst hm
 obtain⟨A,c',e,⟨rfl,_⟩|⟨b,off,rfl,hc⟩⟩:=hr.sl
 ·cases e
 ·injection e with e1 e2 e3
  injection e1 with e1
  injection e1 with e1 e4
  subst e1 e4
  have hl:(T.drop h).length=T.length - h:=by simp
  refine⟨some ⟨g,h,none⟩,d,by rw[hl],.inr ⟨g,h,rfl,fun j hj=>?_⟩⟩
  have:=hc (h + j) (by omega)
  rw[Nat.zero_add] at this
  rw[this,List.getElem_drop]
def SplitTo (n:Nd) (B:Nat) (w:World) (e:Ending) (w':World):Prop:=∃v1 v2,e = .returned (.tuple #[v1,Ss n.mid,v2])∧IsNd w' B v1 n.lo∧IsNd w' B v2 n.hi∧Kept (fun _=>False) w w'
theorem NdSplit_calls {w B v n} (h:IsNd w B v n) (hB:B≤w.heap.size) (hs:n.Sm) (ho:n.over=true) (hsh:n.Sh):Calls Tryz.prog 136 #[v] w (SplitTo n w.heap.size w):=by
 obtain⟨l,Ak,a1,ck,Av,a2,cv,Ai,a3,ci,rfl,HE,H,H1,H2,H3⟩:=h.opened
 clear h
 have C1:=Lib.hid fun w' (kk:Kept (fun _=>False) w w')=>NdLen_calls (H.out.kept kk)
 obtain⟨m,hm⟩:∃m,m=n.len:=⟨_,rfl⟩
 rw[←hm] at C1
 have HMm:=Lib.hid hm
 clear hm
 by_cases hl:n.leaf=true
 ·obtain rfl:l=true:=by rw[HE.out.1,hl]
  have hml:m=n.keys.length:=by rw[HMm.out];simp[Nd.len,hl]
  have hov:4 < m:=by have:n.over=true:=ho;simp[Nd.over,hl] at this;rw[HMm.out];exact this
  have hvk:n.vals.length=n.keys.length:=by simpa[Nd.Sh,hl] using hsh
  have hkm:=hs.k
  obtain⟨gk,ck',ek⟩:=own_form H1.out (by omega)
  obtain⟨gv,cv',ev⟩:=own_form H2.out (by omega)
  injection ek with e1 e2 e3
  injection ev with e4 e5 e6
  subst e1 e3 e4 e6
  obtain rfl:a1=m:=by rw[HE.out.2.1];omega
  obtain rfl:a2=a1:=by rw[HE.out.2.2.1];omega
  obtain⟨h,hh⟩:∃h,h=(a2 + 1) / 2:=⟨_,rfl⟩
  have HH:Hid (h=n.half):=by show _=_;rw[hh,HMm.out];rfl
  have hcap:a2≤ck∧a2≤cv:=by
   constructor
   ·rcases H1.out.2 with⟨e,_⟩|⟨_,_,_,e,_,_,hn,_⟩
    ·cases e
    ·injection e with _ _ e;omega
   ·rcases H2.out.2 with⟨e,_⟩|⟨_,_,_,e,_,_,hn,_⟩
    ·cases e
    ·injection e with _ _ e;omega
  have hlt:h < a2:=by omega
  have hh1:((a2:Int) + 1).tdiv 2=(h:Int):=by rw[Int.tdiv_eq_ediv_of_nonneg (by omega),hh];omega
  have D1:=Lib.hid fun w' (kk:Kept (fun _=>False) w w')=>cloneS_calls ((H1.out.keptF kk).pre (h:=h) (by omega)) (by simp;omega)
  have D2:=Lib.hid fun w' (kk:Kept (fun _=>False) w w')=>cloneS_calls ((H2.out.keptF kk).pre (h:=h) (by omega)) (by simp;omega)
  have D3:=Lib.hid fun w' (kk:Kept (fun _=>False) w w')=>cloneS_calls ((H1.out.keptF kk).suf (h:=h) (m:=a2 - h) (d:=ck - h) (by omega) (by omega)) (by simp;omega)
  have D4:=Lib.hid fun w' (kk:Kept (fun _=>False) w w')=>cloneS_calls ((H2.out.keptF kk).suf (h:=h) (m:=a2 - h) (d:=cv - h) (by omega) (by omega)) (by simp;omega)
  have hkc:Hid (w.cell? ⟨gk,h,none⟩=some (Ss n.mid)):=by
   show _=_
   have:n.mid=n.keys[h]:=by simp[Nd.mid,hl, ←HH.out,List.getD,show h < n.keys.length by omega]
   rw[this];exact H1.out.at_ (by omega)
  have HMid:Hid (.string (ba n.mid)=Ss n.mid):=rfl
  obtain⟨s,hs'⟩:∃s,s=ba n.mid:=⟨_,rfl⟩
  have HS:=Lib.hid hs'
  have hkc':Hid (w.cell? ⟨gk,h,none⟩=some (.string s)):=by rw[hs'];exact hkc
  have HL:=Lib.hid hl;have HSm:=Lib.hid hs;have HBB:=Lib.hid hB;have HO:=Lib.hid ho;have HSh:=Lib.hid hsh
  have HML:=Lib.hid hml;have HVK:=Lib.hid hvk;have HC:=Lib.hid hcap
  have hc1:h≤ck:=by omega
  have hc2:h≤cv:=by omega
  have hne1:¬(ck=h):=by omega
  have hne2:¬(cv=h):=by omega
  have hne3:h < ck:=by omega
  have hne4:h < cv:=by omega
  have hlt2:h≤a2:=by omega
  have ha:a2≤100:=by omega
  clear hs' hkc hml hov hvk hkm hh hl hs hB ho hsh hcap HMid e2 e5
  go_enter Tryz.func136,Tryz.ntmps136
  go_wp2_with fail
  refine(C1.out _ (by repeat (first|exact Kept.refl _ _|refine Kept.alloc ?_ _))).mono ?_
  rintro e w1 ⟨rfl,k1⟩
  have K1:=Lib.hid (((((Kept.refl (fun _=>False) w).alloc _).alloc _).alloc _).trans k1)
  have hb0:=k1.heap ((((Kept.refl (fun _=>False) _).alloc _).alloc _).heap (heap_new w _) id) id
  have hb1:=k1.heap (((Kept.refl (fun _=>False) _).alloc _).heap (heap_newAt (w:=w.alloc _) (n:=w.heap.size + 1) (Array.size_push _).symm _) id) id
  have hb2:=k1.heap (heap_newAt (w:=(w.alloc _).alloc _) (n:=w.heap.size + 1 + 1) (by simp) _) id
  obtain⟨N,hN⟩:∃N,N=w.heap.size:=⟨_,rfl⟩
  rw[←hN] at hb0 hb1 hb2
  have HB0:=Lib.hid hb0;have HB1:=Lib.hid hb1;have HB2:=Lib.hid hb2
  have hlN:=lt_heap hb2
  obtain⟨c0,c1,c2,c3⟩:=nd_cells hb0
  have hkr:=(K1.out.block gk (own_lt H1.out rfl) id)
  have hkc1:w1.cell? ⟨gk,h,none⟩=some (.string s):=(World.cell?_of_block hkr).trans hkc'.out
  have f1:∀i,w1.frozen? ⟨N + 1,i,none⟩=false:=fun i=>free_heap hb1 i
  have f2:∀i,w1.frozen? ⟨N + 1 + 1,i,none⟩=false:=fun i=>free_heap hb2 i
  have HN:=Lib.hid hN
  rw[←hN]
  have HGK:Hid (gk < w.heap.size):=own_lt H1.out rfl
  have hgk1:¬(gk=N + 1):=by have:=HGK.out;omega
  have hgk2:¬(gk=N + 1 + 1):=by have:=HGK.out;omega
  have hgk3:¬(N + 1=gk):=by omega
  have hgk4:¬(N + 1 + 1=gk):=by omega
  clear hN hb0 hb1 hb2 k1 hkr C1
  go_wp2_with fail
  have HS0:Hid (∀w',Kept (fun _=>False) w1.drew w'→w'.cell? ⟨N,1,none⟩=some (.slice (some ⟨gk,0,none⟩) a2 ck)∧w'.cell? ⟨N,2,none⟩=some (.slice (some ⟨gv,0,none⟩) a2 cv)∧w'.cell? ⟨gk,h,none⟩=some (.string s)):=fun w' k=>by
   have e0:∀i,w'.cell? ⟨N,i,none⟩=w1.cell? ⟨N,i,none⟩:=fun i=>World.cell?_of_block (k.block N (by show N < w1.heap.size;omega) id)
   have e1:w'.cell? ⟨gk,h,none⟩=w1.cell? ⟨gk,h,none⟩:=World.cell?_of_block (k.block gk (by show gk < w1.heap.size;have:=HGK.out;have:=HN.out;omega) id)
   exact⟨(e0 1).trans c1,(e0 2).trans c2,e1.trans hkc1⟩
  have HKW:Hid (∀w',Kept (fun _=>False) w1.drew w'→Kept (fun _=>False) w w'):=fun w' k=>K1.out.drew.trans k
  have HNW:Hid (∀w',Kept (fun _=>False) w1.drew w'→N≤w'.heap.size):=fun w' k=>by have:=k.size;have e:w1.drew.heap.size=w1.heap.size:=rfl;omega
  have HLo:Hid (n.lo=⟨true,n.keys.take h,n.vals.take h, []⟩):=by show _=_;unfold Nd.lo;rw[HL.out, ←HH.out,if_pos rfl]
  have HHi:Hid (n.hi=⟨true,n.keys.drop h,n.vals.drop h, []⟩):=by show _=_;unfold Nd.hi;rw[HL.out, ←HH.out,if_pos rfl]
  have HLK:Hid (h=n.half∧(n.keys.take h).length=h∧(n.vals.take h).length=h∧(n.keys.drop h).length=a2 - h∧(n.vals.drop h).length=a2 - h):=⟨HH.out,by have:=HML.out;have:=HVK.out;refine⟨?_,?_,?_,?_⟩<;>simp<;>omega⟩
  obtain⟨d,hd⟩:∃d,d=a2 - h:=⟨_,rfl⟩
  have HD:=Lib.hid hd
  refine wp_region_held_drew (S:=(fun w'=>w'.cell? ⟨N,1,none⟩=some (.slice (some ⟨gk,0,none⟩) a2 ck)∧w'.cell? ⟨N,2,none⟩=some (.slice (some ⟨gv,0,none⟩) a2 cv)∧w'.cell? ⟨gk,h,none⟩=some (.string s))) (by kernel_rfl) ⟨c1,c2,hkc1⟩ (fun hHeld=>?_)
  clear c0 c1 c2 c3 hkc1 f1 f2 hd
  refine tk 0 (h:=?_)
  (try simp only[lits])
  refine tk 1 (h:=?_)
  (try simp only[lits])
  refine tk 2 (h:=?_)
  (try simp only[lits])
  refine tk 3 (h:=?_)
  (try simp only[lits])
  refine tk 5 (h:=?_)
  (try simp only[lits])
  refine tk 6 (h:=?_)
  (try simp only[lits])
  refine tk 7 (h:=?_)
  (try simp only[lits])
  refine tk 8 (h:=?_)
  (try simp only[lits])
  refine tk 11 (h:=?_)
  (try simp only[lits])
  refine tk 12 (h:=?_)
  (try simp only[lits])
  refine tk 13 (h:=?_)
  (try simp only[lits])
  refine tk 14 (h:=?_)
  (try simp only[lits])
  refine tk 15 (h:=?_)
  (try simp only[lits])
  refine tk 16 (h:=?_)
  (try simp only[lits])
  refine tk 17 (h:=?_)
  (try simp only[lits])
  refine tk 18 (h:=?_)
  (try simp only[lits])
  refine tk 19 (h:=?_)
  (try simp only[lits])
  refine tk 21 (h:=?_)
  (try simp only[lits])
  refine tk 22 (h:=?_)
  (try simp only[lits])
  refine tk 23 (h:=?_)
  (try simp only[lits])
  refine tk 24 (h:=?_)
  (try simp only[lits])
  refine wpAnyH_grow (Kept (fun _=>False)) (Kept.refl _) (fun h k=>Kept.trans h k) [(4,16),(9,21),(10,22),(20,32),(25,37),(26,38)] (fun j=>j == 10 || j == 26)
   (fun j V w2=>match j with
    | 4=>SRow w2 N (V 16) (n.keys.take h)
    | 9=>SRow w2 N (V 21) (n.vals.take h)
    | 10=>∃A1 m1 A2 m2,V 22 = .agg #[.bool true,.slice A1 h m1,.slice A2 h m2,.slice none 0 0]∧SRow w2 N (.slice A1 h m1) (n.keys.take h)∧SRow w2 N (.slice A2 h m2) (n.vals.take h)
    | 20=>SRow w2 N (V 32) (n.keys.drop h)
    | 25=>SRow w2 N (V 37) (n.vals.drop h)
    | _=>∃A1 m1 A2 m2,V 38 = .agg #[.bool true,.slice A1 d m1,.slice A2 d m2,.slice none 0 0]∧SRow w2 N (.slice A1 d m1) (n.keys.drop h)∧SRow w2 N (.slice A2 d m2) (n.vals.drop h))
   (n:=3) (by kernel_rfl) rfl HS0.out (fun _ _ _ _ _ _ _ h=>h) ?_ ?_ ?_ ?_
  ·intro p hp V V' x y h e d k
   simp only[List.mem_cons,List.not_mem_nil,or_false] at hp
   rcases hp with rfl|rfl|rfl|rfl|rfl|rfl<;>simp only at h e⊢ <;> rw[e]
   ·exact h.keptF k
   ·exact h.keptF k
   ·obtain⟨A1,m1,A2,m2,e,h1,h2⟩:=h;exact⟨A1,m1,A2,m2,e,h1.keptF k,h2.keptF k⟩
   ·exact h.keptF k
   ·exact h.keptF k
   ·obtain⟨A1,m1,A2,m2,e,h1,h2⟩:=h;exact⟨A1,m1,A2,m2,e,h1.keptF k,h2.keptF k⟩
  ·intro p hp hpp V w2 hG hd
   simp only[List.mem_cons,List.not_mem_nil,or_false] at hp
   rcases hp with rfl|rfl|rfl|rfl|rfl|rfl
   ·cases hpp
   ·cases hpp
   ·have r1:SRow w2 N (V 16) (n.keys.take h):=hd (4,16) (by simp) (by kernel_rfl)
    have r2:SRow w2 N (V 21) (n.vals.take h):=hd (9,21) (by simp) (by kernel_rfl)
    obtain⟨A1,m1,e1⟩:=own_slice r1
    obtain⟨A2,m2,e2⟩:=own_slice r2
    rw[HLK.out.2.1] at e1
    rw[HLK.out.2.2.1] at e2
    rw[e1] at r1
    rw[e2] at r2
    have R1:=Lib.hid r1;have R2:=Lib.hid r2
    clear hd r1 r2 hG
    refine⟨_,.agg #[.bool true,.slice A1 h m1,.slice A2 h m2,.slice none 0 0],rfl,Or.inl ⟨by rfl,?_⟩,?_⟩
    ·skip
     simp only[puts,Act.put,lit4,lit5,lit6]
     simp only[e1,e2]
     intro w' hSw;(try dsimp only at hSw);go_simp
     (try with_reducible rfl)
    ·exact⟨A1,m1,A2,m2,rfl,R1.out,R2.out⟩
   ·cases hpp
   ·cases hpp
   ·have r1:SRow w2 N (V 32) (n.keys.drop h):=hd (20,32) (by simp) (by kernel_rfl)
    have r2:SRow w2 N (V 37) (n.vals.drop h):=hd (25,37) (by simp) (by kernel_rfl)
    obtain⟨A1,m1,e1⟩:=own_slice r1
    obtain⟨A2,m2,e2⟩:=own_slice r2
    rw[HLK.out.2.2.2.1, ←HD.out] at e1
    rw[HLK.out.2.2.2.2, ←HD.out] at e2
    rw[e1] at r1
    rw[e2] at r2
    have R1:=Lib.hid r1;have R2:=Lib.hid r2
    clear hd r1 r2 hG
    refine⟨_,.agg #[.bool true,.slice A1 d m1,.slice A2 d m2,.slice none 0 0],rfl,Or.inl ⟨by rfl,?_⟩,?_⟩
    ·skip
     simp only[puts,Act.put,lit4,lit5,lit6]
     simp only[e1,e2]
     intro w' hSw;(try dsimp only at hSw);go_simp
     (try with_reducible rfl)
    ·exact⟨A1,m1,A2,m2,rfl,R1.out,R2.out⟩
  ·intro p hp hpf V w2 hG hd
   simp only[List.mem_cons,List.not_mem_nil,or_false] at hp
   clear hd
   rcases hp with rfl|rfl|rfl|rfl|rfl|rfl
   ·have C:=Lib.hid (D1.out _ (HKW.out _ hG))
    have hN1:=HNW.out _ hG
    simp only[puts,Act.put,lit4,lit5,lit6]
    refine grow_step rfl (fun K' hK=>?_)
    go_simp
    refine C.out.mono ?_
    rintro e x ⟨v,rfl,h,k⟩
    exact hK.out _ _ ⟨_,rfl,h.base hN1,k⟩
   ·have C:=Lib.hid (D2.out _ (HKW.out _ hG))
    have hN1:=HNW.out _ hG
    simp only[puts,Act.put,lit4,lit5,lit6]
    refine grow_step rfl (fun K' hK=>?_)
    go_simp
    refine C.out.mono ?_
    rintro e x ⟨v,rfl,h,k⟩
    exact hK.out _ _ ⟨_,rfl,h.base hN1,k⟩
   ·cases hpf
   ·have C:=Lib.hid (D3.out _ (HKW.out _ hG))
    have hN1:=HNW.out _ hG
    simp only[puts,Act.put,lit4,lit5,lit6]
    refine grow_step rfl (fun K' hK=>?_)
    go_simp
    refine C.out.mono ?_
    rintro e x ⟨v,rfl,h,k⟩
    exact hK.out _ _ ⟨_,rfl,h.base hN1,k⟩
   ·have C:=Lib.hid (D4.out _ (HKW.out _ hG))
    have hN1:=HNW.out _ hG
    simp only[puts,Act.put,lit4,lit5,lit6]
    refine grow_step rfl (fun K' hK=>?_)
    go_simp
    refine C.out.mono ?_
    rintro e x ⟨v,rfl,h,k⟩
    exact hK.out _ _ ⟨_,rfl,h.base hN1,k⟩
   ·cases hpf
  ·intro V w2 hG hR
   obtain⟨A1,m1,A2,m2,e1,R1,R2⟩:=hR (10,22) (by simp)
   obtain⟨A3,m3,A4,m4,e2,R3,R4⟩:=hR (26,38) (by simp)
   have X1:=Lib.hid R1;have X2:=Lib.hid R2;have X3:=Lib.hid R3;have X4:=Lib.hid R4
   clear hR R1 R2 R3 R4
   simp only[puts,Act.put,lit4,lit5,lit6]
   simp only[e1,e2]
   obtain⟨u0,hu0⟩:∃u,u=V 16:=⟨_,rfl⟩
   obtain⟨u1,hu1⟩:∃u,u=V 21:=⟨_,rfl⟩
   obtain⟨u2,hu2⟩:∃u,u=V 32:=⟨_,rfl⟩
   obtain⟨u3,hu3⟩:∃u,u=V 37:=⟨_,rfl⟩
   rw[←hu0, ←hu1, ←hu2, ←hu3]
   clear e1 e2 hu0 hu1 hu2 hu3
   have KX:Hid (Kept (fun _=>False) w1 w2):=(Kept.refl _ w1).drew.trans hG
   have b1:=KX.out.heap HB1.out id
   have b2:=KX.out.heap HB2.out id
   obtain⟨c0,c1,c2,c3⟩:=nd_cells b1
   obtain⟨d0,d1,d2,d3⟩:=nd_cells b2
   have f1:∀i,w2.frozen? ⟨N + 1,i,none⟩=false:=fun i=>free_heap b1 i
   have f2:∀i,w2.frozen? ⟨N + 1 + 1,i,none⟩=false:=fun i=>free_heap b2 i
   have BB1:=Lib.hid b1;have BB2:=Lib.hid b2
   have hS2:=Lib.hid (HS0.out w2 hG)
   clear b1 b2
   refine wpAnyH_ready (rs := [27]) (by kernel_rfl) (by simp) ?_
   refine AllReadyH.cons rfl (fun K hK=>?_) AllReadyH.nil
   go_simp
   refine hK.out _ _ ?_ (fun hHeld=>?_)
   ·refine⟨?_,?_,?_⟩<;>(repeat (refine(World.cell?_setCell_far _ _ _ _ (by dsimp only;omega)).trans ?_))
    ·exact hS2.out.1
    ·exact hS2.out.2.1
    ·exact hS2.out.2.2
   clear hK
   (try simp only[lits])
   refine tk 28 (h:=?_)
   (try simp only[lits])
   refine wpAnyH_ready (rs := [29]) (by kernel_rfl) (by simp) ?_
   refine AllReadyH.cons rfl (fun K hK=>?_) AllReadyH.nil
   go_simp
   refine hK.out _ _ ?_ (fun hHeld=>?_)
   ·refine⟨?_,?_,?_⟩<;>(repeat (refine(World.cell?_setCell_far _ _ _ _ (by dsimp only;omega)).trans ?_))
    ·exact hS2.out.1
    ·exact hS2.out.2.1
    ·exact hS2.out.2.2
   clear hK
   refine wpAnyH_done (by kernel_rfl) ?_ _
   go_wp2
   have k6:Kept (fun b=>b=N + 1∨b=N + 1 + 1) w2 ((((((((w2.setCell ⟨N + 1,0,none⟩ (.bool true)).setCell ⟨N + 1,1,none⟩ (.slice A1 h m1)).setCell ⟨N + 1,2,none⟩ (.slice A2 h m2)).setCell ⟨N + 1,3,none⟩ (.slice none 0 0)).setCell ⟨N + 1 + 1,0,none⟩ (.bool true)).setCell ⟨N + 1 + 1,1,none⟩ (.slice A3 d m3)).setCell ⟨N + 1 + 1,2,none⟩ (.slice A4 d m4)).setCell ⟨N + 1 + 1,3,none⟩ (.slice none 0 0)):=((((((((Kept.refl (fun b=>b=N + 1∨b=N + 1 + 1) w2).setCell (.inl (.inl rfl)) _).setCell (.inl (.inl rfl)) _).setCell (.inl (.inl rfl)) _).setCell (.inl (.inl rfl)) _).setCell (.inl (.inr rfl)) _).setCell (.inl (.inr rfl)) _).setCell (.inl (.inr rfl)) _).setCell (.inl (.inr rfl)) _
   have hNw:=HN.out
   have hNB:w.heap.size≤N:=by omega
   refine bodyPost_ret (v:=.tuple #[.agg #[.bool true,.slice A1 h m1,.slice A2 h m2,.slice none 0 0],.string s,.agg #[.bool true,.slice A3 d m3,.slice A4 d m4,.slice none 0 0]]) (by simp[results,Tryz.f136,go_sem,c0,c1,c2,c3,d0,d1,d2,d3]) rfl ?_
   refine⟨_,_,?_,IsNd.made (n:=n.lo) (by rw[HLo.out]) (by rw[HLo.out];exact(SRow.kept X1.out k6 (fun g hg hs=>by rcases hs with hs|hs;exact own_neB X1.out BB1.out (by decide) g hg hs;exact own_neB X1.out BB2.out (by decide) g hg hs)).base hNB) (by rw[HLo.out];exact(SRow.kept X2.out k6 (fun g hg hs=>by rcases hs with hs|hs;exact own_neB X2.out BB1.out (by decide) g hg hs;exact own_neB X2.out BB2.out (by decide) g hg hs)).base hNB) (by rw[HLo.out];exact IRow.nil _ _),IsNd.made (n:=n.hi) (by rw[HHi.out]) (by rw[HHi.out];exact(SRow.kept X3.out k6 (fun g hg hs=>by rcases hs with hs|hs;exact own_neB X3.out BB1.out (by decide) g hg hs;exact own_neB X3.out BB2.out (by decide) g hg hs)).base hNB) (by rw[HHi.out];exact(SRow.kept X4.out k6 (fun g hg hs=>by rcases hs with hs|hs;exact own_neB X4.out BB1.out (by decide) g hg hs;exact own_neB X4.out BB2.out (by decide) g hg hs)).base hNB) (by rw[HHi.out];exact IRow.nil _ _),?_⟩
   ·rw[HS.out];rfl
   ·exact(K1.out.trans KX.out).then k6 fun i hi e=>by omega
 ·obtain rfl:l=false:=by rw[HE.out.1];simpa using hl
  have hl:n.leaf=false:=by simpa using hl
  have hml:m=n.kids.length:=by rw[HMm.out];simp[Nd.len,hl]
  have hov:6 < m:=by have:n.over=true:=ho;simp[Nd.over,hl] at this;rw[HMm.out];exact this
  have hvk:n.keys.length + 1=n.kids.length:=by simpa[Nd.Sh,hl] using hsh
  have hkm:=hs.i
  obtain⟨gk,ck',ek⟩:=own_form H1.out (by omega)
  obtain⟨gv,ci',ei⟩:=own_form H3.out (by omega)
  injection ek with e1 e2 e3
  injection ei with e4 e5 e6
  subst e1 e3 e4 e6
  obtain rfl:a3=m:=by rw[HE.out.2.2.2];omega
  have ha13:a1 + 1=a3:=by rw[HE.out.2.1];omega
  obtain⟨q,hq⟩:∃q,q + 1=(a3 + 1) / 2:=⟨(a3 + 1) / 2 - 1,by omega⟩
  have HH:Hid (n.half=q + 1):=by show _=_;rw[hq,HMm.out];rfl
  have hcap:a1≤ck∧a3≤ci:=by
   constructor
   ·rcases H1.out.2 with⟨e,_⟩|⟨_,_,_,e,_,_,hn,_⟩
    ·cases e
    ·injection e with _ _ e;omega
   ·rcases H3.out.2 with⟨e,_⟩|⟨_,_,_,e,_,_,hn,_⟩
    ·cases e
    ·injection e with _ _ e;omega
  have hlt:q + 1 < a1:=by omega
  have hh1:((a3:Int) + 1).tdiv 2=(q:Int) + 1:=by rw[Int.tdiv_eq_ediv_of_nonneg (by omega)];omega
  have D1:=Lib.hid fun w' (kk:Kept (fun _=>False) w w')=>cloneS_calls ((H1.out.keptF kk).pre (h:=q) (by omega)) (by simp;omega)
  have D2:=Lib.hid fun w' (kk:Kept (fun _=>False) w w')=>cloneI_calls ((H3.out.keptF kk).pre (h:=q + 1) (by omega)) (by simp;omega)
  have D3:=Lib.hid fun w' (kk:Kept (fun _=>False) w w')=>cloneS_calls ((H1.out.keptF kk).suf (h:=q + 1) (m:=a1 - (q + 1)) (d:=ck - (q + 1)) (by omega) (by omega)) (by simp;omega)
  have D4:=Lib.hid fun w' (kk:Kept (fun _=>False) w w')=>cloneI_calls ((H3.out.keptF kk).suf (h:=q + 1) (m:=a3 - (q + 1)) (d:=ci - (q + 1)) (by omega) (by omega)) (by simp;omega)
  have hkc:Hid (w.cell? ⟨gk,q,none⟩=some (Ss n.mid)):=by
   show _=_
   have:n.mid=n.keys[q]:=by simp[Nd.mid,hl,HH.out,List.getD,show q < n.keys.length by omega]
   rw[this];exact H1.out.at_ (by omega)
  have HMid:Hid (.string (ba n.mid)=Ss n.mid):=rfl
  obtain⟨s,hs'⟩:∃s,s=ba n.mid:=⟨_,rfl⟩
  have HS:=Lib.hid hs'
  have hkc':Hid (w.cell? ⟨gk,q,none⟩=some (.string s)):=by rw[hs'];exact hkc
  have HL:=Lib.hid hl;have HSm:=Lib.hid hs;have HBB:=Lib.hid hB;have HO:=Lib.hid ho;have HSh:=Lib.hid hsh
  have HML:=Lib.hid hml;have HVK:=Lib.hid hvk;have HC:=Lib.hid hcap;have HA13:=Lib.hid ha13
  have hc1:q≤ck:=by omega
  have hc1':q + 1≤ck:=by omega
  have hc2:q + 1≤ci:=by omega
  have hne1:¬(ck=q + 1):=by omega
  have hne2:¬(ci=q + 1):=by omega
  have hne3:q + 1 < ck:=by omega
  have hne4:q + 1 < ci:=by omega
  have hlt2:q + 1≤a1:=by omega
  have hlt3:q + 1≤a3:=by omega
  have hlt4:q < a1:=by omega
  have ha:a3≤100:=by omega
  have ha1:a1≤100:=by omega
  clear hs' hkc hml hov hvk hkm hq hl hs hB ho hsh hcap HMid e2 e5 ha13
  go_enter Tryz.func136,Tryz.ntmps136
  go_wp2_with fail
  refine(C1.out _ (by repeat (first|exact Kept.refl _ _|refine Kept.alloc ?_ _))).mono ?_
  rintro e w1 ⟨rfl,k1⟩
  have K1:=Lib.hid (((((Kept.refl (fun _=>False) w).alloc _).alloc _).alloc _).trans k1)
  have hb0:=k1.heap ((((Kept.refl (fun _=>False) _).alloc _).alloc _).heap (heap_new w _) id) id
  have hb1:=k1.heap (((Kept.refl (fun _=>False) _).alloc _).heap (heap_newAt (w:=w.alloc _) (n:=w.heap.size + 1) (Array.size_push _).symm _) id) id
  have hb2:=k1.heap (heap_newAt (w:=(w.alloc _).alloc _) (n:=w.heap.size + 1 + 1) (by simp) _) id
  obtain⟨N,hN⟩:∃N,N=w.heap.size:=⟨_,rfl⟩
  rw[←hN] at hb0 hb1 hb2
  have HB0:=Lib.hid hb0;have HB1:=Lib.hid hb1;have HB2:=Lib.hid hb2
  have hlN:=lt_heap hb2
  obtain⟨c0,c1,c2,c3⟩:=nd_cells hb0
  have hkr:=(K1.out.block gk (own_lt H1.out rfl) id)
  have hkc1:w1.cell? ⟨gk,q,none⟩=some (.string s):=(World.cell?_of_block hkr).trans hkc'.out
  have f1:∀i,w1.frozen? ⟨N + 1,i,none⟩=false:=fun i=>free_heap hb1 i
  have f2:∀i,w1.frozen? ⟨N + 1 + 1,i,none⟩=false:=fun i=>free_heap hb2 i
  have HN:=Lib.hid hN
  rw[←hN]
  have HGK:Hid (gk < w.heap.size):=own_lt H1.out rfl
  have hgk1:¬(gk=N + 1):=by have:=HGK.out;omega
  have hgk2:¬(gk=N + 1 + 1):=by have:=HGK.out;omega
  have hgk3:¬(N + 1=gk):=by omega
  have hgk4:¬(N + 1 + 1=gk):=by omega
  clear hN hb0 hb1 hb2 k1 hkr C1
  go_wp2_with fail
  have HS0:Hid (∀w',Kept (fun _=>False) w1.drew w'→w'.cell? ⟨N,1,none⟩=some (.slice (some ⟨gk,0,none⟩) a1 ck)∧w'.cell? ⟨N,3,none⟩=some (.slice (some ⟨gv,0,none⟩) a3 ci)∧w'.cell? ⟨gk,q,none⟩=some (.string s)):=fun w' k=>by
   have e0:∀i,w'.cell? ⟨N,i,none⟩=w1.cell? ⟨N,i,none⟩:=fun i=>World.cell?_of_block (k.block N (by show N < w1.heap.size;omega) id)
   have e1:w'.cell? ⟨gk,q,none⟩=w1.cell? ⟨gk,q,none⟩:=World.cell?_of_block (k.block gk (by show gk < w1.heap.size;have:=HGK.out;have:=HN.out;omega) id)
   exact⟨(e0 1).trans c1,(e0 3).trans c3,e1.trans hkc1⟩
  have HKW:Hid (∀w',Kept (fun _=>False) w1.drew w'→Kept (fun _=>False) w w'):=fun w' k=>K1.out.drew.trans k
  have HNW:Hid (∀w',Kept (fun _=>False) w1.drew w'→N≤w'.heap.size):=fun w' k=>by have:=k.size;have e:w1.drew.heap.size=w1.heap.size:=rfl;omega
  have HLo:Hid (n.lo=⟨false,n.keys.take q, [],n.kids.take (q + 1)⟩):=by show _=_;unfold Nd.lo;rw[HL.out,HH.out];rfl
  have HHi:Hid (n.hi=⟨false,n.keys.drop (q + 1), [],n.kids.drop (q + 1)⟩):=by show _=_;unfold Nd.hi;rw[HL.out,HH.out];rfl
  obtain⟨d,hd⟩:∃d,d=a1 - (q + 1):=⟨_,rfl⟩
  obtain⟨e,he⟩:∃e,e=a3 - (q + 1):=⟨_,rfl⟩
  have HD:=Lib.hid hd
  have HE2:=Lib.hid he
  have HLK:Hid (n.half=q + 1∧(n.keys.take q).length=q∧(n.kids.take (q + 1)).length=q + 1∧(n.keys.drop (q + 1)).length=d∧(n.kids.drop (q + 1)).length=e):=⟨HH.out,by have:=HML.out;have:=HVK.out;have:=HA13.out;refine⟨?_,?_,?_,?_⟩<;>simp<;>omega⟩
  refine wp_region_held_drew (S:=(fun w'=>w'.cell? ⟨N,1,none⟩=some (.slice (some ⟨gk,0,none⟩) a1 ck)∧w'.cell? ⟨N,3,none⟩=some (.slice (some ⟨gv,0,none⟩) a3 ci)∧w'.cell? ⟨gk,q,none⟩=some (.string s))) (by kernel_rfl) ⟨c1,c3,hkc1⟩ (fun hHeld=>?_)
  clear c0 c1 c2 c3 hkc1 f1 f2 hd he
  have g2:(0:Int)≤(q:Int) + 1:=by omega
  have g3:(q:Int) + 1≤(ci:Int):=by omega
  have g4:(q:Int)≤(ck:Int):=by omega
  have g5:(q:Int) + 1≤(a1:Int):=by omega
  have g6:(q:Int) + 1≤(a3:Int):=by omega
  have g7:(q:Int) < (a1:Int):=by omega
  have g8:(0:Int)≤(q:Int):=by omega
  have g1:IntKind.i64.wrap (q:Int)=(q:Int):=IntWalk.i64_in _ (by omega)
  refine tk 0 (h:=?_)
  (try simp only[lits])
  refine tk 1 (h:=?_)
  (try simp only[lits])
  refine tk 2 (h:=?_)
  (try simp only[lits])
  refine tk 3 (h:=?_)
  (try simp only[lits])
  refine tk 4 (h:=?_)
  (try simp only[lits])
  refine tk 6 (h:=?_)
  (try simp only[lits])
  refine tk 7 (h:=?_)
  (try simp only[lits])
  refine tk 8 (h:=?_)
  (try simp only[lits])
  refine tk 9 (h:=?_)
  (try simp only[lits])
  refine tk 12 (h:=?_)
  (try simp only[lits])
  refine tk 13 (h:=?_)
  (try simp only[lits])
  refine tk 14 (h:=?_)
  (try simp only[lits])
  refine tk 15 (h:=?_)
  (try simp only[lits])
  refine tk 16 (h:=?_)
  (try simp only[lits])
  refine tk 17 (h:=?_)
  (try simp only[lits])
  refine tk 18 (h:=?_)
  (try simp only[lits])
  refine tk 19 (h:=?_)
  (try simp only[lits])
  refine tk 20 (h:=?_)
  (try simp only[lits])
  refine tk 21 (h:=?_)
  (try simp only[lits])
  refine tk 23 (h:=?_)
  (try simp only[lits])
  refine tk 24 (h:=?_)
  (try simp only[lits])
  refine tk 25 (h:=?_)
  (try simp only[lits])
  refine tk 26 (h:=?_)
  (try simp only[lits])
  clear g1 g2 g3 g4 g5 g6 g7 g8
  refine wpAnyH_grow (Kept (fun _=>False)) (Kept.refl _) (fun h k=>Kept.trans h k) [(5,44),(10,49),(11,50),(22,61),(27,66),(28,67)] (fun j=>j == 11 || j == 28)
   (fun j V w2=>match j with
    | 5=>SRow w2 N (V 44) (n.keys.take q)
    | 10=>IRow w2 N (V 49) (n.kids.take (q + 1))
    | 11=>∃A1 m1 A2 m2,V 50 = .agg #[.bool false,.slice A1 q m1,.slice none 0 0,.slice A2 (q + 1) m2]∧SRow w2 N (.slice A1 q m1) (n.keys.take q)∧IRow w2 N (.slice A2 (q + 1) m2) (n.kids.take (q + 1))
    | 22=>SRow w2 N (V 61) (n.keys.drop (q + 1))
    | 27=>IRow w2 N (V 66) (n.kids.drop (q + 1))
    | _=>∃A1 m1 A2 m2,V 67 = .agg #[.bool false,.slice A1 d m1,.slice none 0 0,.slice A2 e m2]∧SRow w2 N (.slice A1 d m1) (n.keys.drop (q + 1))∧IRow w2 N (.slice A2 e m2) (n.kids.drop (q + 1)))
   (n:=3) (by kernel_rfl) rfl HS0.out (fun _ _ _ _ _ _ _ h=>h) ?_ ?_ ?_ ?_
  ·intro p hp V V' x y h e d k
   simp only[List.mem_cons,List.not_mem_nil,or_false] at hp
   rcases hp with rfl|rfl|rfl|rfl|rfl|rfl<;>simp only at h e⊢ <;> rw[e]
   ·exact h.keptF k
   ·exact h.keptF k
   ·obtain⟨A1,m1,A2,m2,e,h1,h2⟩:=h;exact⟨A1,m1,A2,m2,e,h1.keptF k,h2.keptF k⟩
   ·exact h.keptF k
   ·exact h.keptF k
   ·obtain⟨A1,m1,A2,m2,e,h1,h2⟩:=h;exact⟨A1,m1,A2,m2,e,h1.keptF k,h2.keptF k⟩
  ·intro p hp hpp V w2 hG hd
   simp only[List.mem_cons,List.not_mem_nil,or_false] at hp
   rcases hp with rfl|rfl|rfl|rfl|rfl|rfl
   ·cases hpp
   ·cases hpp
   ·have r1:SRow w2 N (V 44) (n.keys.take q):=hd (5,44) (by simp) (by kernel_rfl)
    have r2:IRow w2 N (V 49) (n.kids.take (q + 1)):=hd (10,49) (by simp) (by kernel_rfl)
    obtain⟨A1,m1,e1⟩:=own_slice r1
    obtain⟨A2,m2,e2⟩:=own_slice r2
    rw[HLK.out.2.1] at e1
    rw[HLK.out.2.2.1] at e2
    rw[e1] at r1
    rw[e2] at r2
    have R1:=Lib.hid r1;have R2:=Lib.hid r2
    clear hd r1 r2 hG
    refine⟨_,.agg #[.bool false,.slice A1 q m1,.slice none 0 0,.slice A2 (q + 1) m2],rfl,Or.inl ⟨by rfl,?_⟩,?_⟩
    ·skip
     simp only[puts,Act.put,lit4,lit5,lit6]
     simp only[e1,e2]
     intro w' hSw;(try dsimp only at hSw);go_simp
     (try with_reducible rfl)
    ·exact⟨A1,m1,A2,m2,rfl,R1.out,R2.out⟩
   ·cases hpp
   ·cases hpp
   ·have r1:SRow w2 N (V 61) (n.keys.drop (q + 1)):=hd (22,61) (by simp) (by kernel_rfl)
    have r2:IRow w2 N (V 66) (n.kids.drop (q + 1)):=hd (27,66) (by simp) (by kernel_rfl)
    obtain⟨A1,m1,e1⟩:=own_slice r1
    obtain⟨A2,m2,e2⟩:=own_slice r2
    rw[HLK.out.2.2.2.1] at e1
    rw[HLK.out.2.2.2.2] at e2
    rw[e1] at r1
    rw[e2] at r2
    have R1:=Lib.hid r1;have R2:=Lib.hid r2
    clear hd r1 r2 hG
    refine⟨_,.agg #[.bool false,.slice A1 d m1,.slice none 0 0,.slice A2 e m2],rfl,Or.inl ⟨by rfl,?_⟩,?_⟩
    ·skip
     simp only[puts,Act.put,lit4,lit5,lit6]
     simp only[e1,e2]
     intro w' hSw;(try dsimp only at hSw);go_simp
     (try with_reducible rfl)
    ·exact⟨A1,m1,A2,m2,rfl,R1.out,R2.out⟩
  ·intro p hp hpf V w2 hG hd
   simp only[List.mem_cons,List.not_mem_nil,or_false] at hp
   clear hd
   rcases hp with rfl|rfl|rfl|rfl|rfl|rfl
   ·have C:=Lib.hid (D1.out _ (HKW.out _ hG))
    have hN1:=HNW.out _ hG
    simp only[puts,Act.put,lit4,lit5,lit6]
    refine grow_step rfl (fun K' hK=>?_)
    go_simp
    refine C.out.mono ?_
    rintro e x ⟨v,rfl,h,k⟩
    exact hK.out _ _ ⟨_,rfl,h.base hN1,k⟩
   ·have C:=Lib.hid (D2.out _ (HKW.out _ hG))
    have hN1:=HNW.out _ hG
    simp only[puts,Act.put,lit4,lit5,lit6]
    refine grow_step rfl (fun K' hK=>?_)
    go_simp
    refine C.out.mono ?_
    rintro e x ⟨v,rfl,h,k⟩
    exact hK.out _ _ ⟨_,rfl,h.base hN1,k⟩
   ·cases hpf
   ·have C:=Lib.hid (D3.out _ (HKW.out _ hG))
    have hN1:=HNW.out _ hG
    simp only[puts,Act.put,lit4,lit5,lit6]
    refine grow_step rfl (fun K' hK=>?_)
    go_simp
    refine C.out.mono ?_
    rintro e x ⟨v,rfl,h,k⟩
    exact hK.out _ _ ⟨_,rfl,h.base hN1,k⟩
   ·have C:=Lib.hid (D4.out _ (HKW.out _ hG))
    have hN1:=HNW.out _ hG
    simp only[puts,Act.put,lit4,lit5,lit6]
    refine grow_step rfl (fun K' hK=>?_)
    go_simp
    refine C.out.mono ?_
    rintro e x ⟨v,rfl,h,k⟩
    exact hK.out _ _ ⟨_,rfl,h.base hN1,k⟩
   ·cases hpf
  ·intro V w2 hG hR
   obtain⟨A1,m1,A2,m2,e1,R1,R2⟩:=hR (11,50) (by simp)
   obtain⟨A3,m3,A4,m4,e2,R3,R4⟩:=hR (28,67) (by simp)
   have X1:=Lib.hid R1;have X2:=Lib.hid R2;have X3:=Lib.hid R3;have X4:=Lib.hid R4
   clear hR R1 R2 R3 R4
   simp only[puts,Act.put,lit4,lit5,lit6]
   simp only[e1,e2]
   obtain⟨u0,hu0⟩:∃u,u=V 44:=⟨_,rfl⟩
   obtain⟨u1,hu1⟩:∃u,u=V 49:=⟨_,rfl⟩
   obtain⟨u2,hu2⟩:∃u,u=V 61:=⟨_,rfl⟩
   obtain⟨u3,hu3⟩:∃u,u=V 66:=⟨_,rfl⟩
   rw[←hu0, ←hu1, ←hu2, ←hu3]
   clear e1 e2 hu0 hu1 hu2 hu3
   have KX:Hid (Kept (fun _=>False) w1 w2):=(Kept.refl _ w1).drew.trans hG
   have b1:=KX.out.heap HB1.out id
   have b2:=KX.out.heap HB2.out id
   obtain⟨c0,c1,c2,c3⟩:=nd_cells b1
   obtain⟨d0,d1,d2,d3⟩:=nd_cells b2
   have f1:∀i,w2.frozen? ⟨N + 1,i,none⟩=false:=fun i=>free_heap b1 i
   have f2:∀i,w2.frozen? ⟨N + 1 + 1,i,none⟩=false:=fun i=>free_heap b2 i
   have BB1:=Lib.hid b1;have BB2:=Lib.hid b2
   have hS2:=Lib.hid (HS0.out w2 hG)
   clear b1 b2
   refine wpAnyH_ready (rs := [29]) (by kernel_rfl) (by simp) ?_
   refine AllReadyH.cons rfl (fun K hK=>?_) AllReadyH.nil
   go_simp
   refine hK.out _ _ ?_ (fun hHeld=>?_)
   ·refine⟨?_,?_,?_⟩<;>(repeat (refine(World.cell?_setCell_far _ _ _ _ (by dsimp only;omega)).trans ?_))
    ·exact hS2.out.1
    ·exact hS2.out.2.1
    ·exact hS2.out.2.2
   clear hK
   (try simp only[lits])
   refine tk 30 (h:=?_)
   (try simp only[lits])
   refine wpAnyH_ready (rs := [31]) (by kernel_rfl) (by simp) ?_
   refine AllReadyH.cons rfl (fun K hK=>?_) AllReadyH.nil
   go_simp
   refine hK.out _ _ ?_ (fun hHeld=>?_)
   ·refine⟨?_,?_,?_⟩<;>(repeat (refine(World.cell?_setCell_far _ _ _ _ (by dsimp only;omega)).trans ?_))
    ·exact hS2.out.1
    ·exact hS2.out.2.1
    ·exact hS2.out.2.2
   clear hK
   refine wpAnyH_done (by kernel_rfl) ?_ _
   go_wp2
   have k6:Kept (fun b=>b=N + 1∨b=N + 1 + 1) w2 ((((((((w2.setCell ⟨N + 1,0,none⟩ (.bool false)).setCell ⟨N + 1,1,none⟩ (.slice A1 q m1)).setCell ⟨N + 1,2,none⟩ (.slice none 0 0)).setCell ⟨N + 1,3,none⟩ (.slice A2 (q + 1) m2)).setCell ⟨N + 1 + 1,0,none⟩ (.bool false)).setCell ⟨N + 1 + 1,1,none⟩ (.slice A3 d m3)).setCell ⟨N + 1 + 1,2,none⟩ (.slice none 0 0)).setCell ⟨N + 1 + 1,3,none⟩ (.slice A4 e m4)):=((((((((Kept.refl (fun b=>b=N + 1∨b=N + 1 + 1) w2).setCell (.inl (.inl rfl)) _).setCell (.inl (.inl rfl)) _).setCell (.inl (.inl rfl)) _).setCell (.inl (.inl rfl)) _).setCell (.inl (.inr rfl)) _).setCell (.inl (.inr rfl)) _).setCell (.inl (.inr rfl)) _).setCell (.inl (.inr rfl)) _
   have hNw:=HN.out
   have hNB:w.heap.size≤N:=by omega
   refine bodyPost_ret (v:=.tuple #[.agg #[.bool false,.slice A1 q m1,.slice none 0 0,.slice A2 (q + 1) m2],.string s,.agg #[.bool false,.slice A3 d m3,.slice none 0 0,.slice A4 e m4]]) (by simp[results,Tryz.f136,go_sem,c0,c1,c2,c3,d0,d1,d2,d3]) rfl ?_
   refine⟨_,_,?_,IsNd.made (n:=n.lo) (by rw[HLo.out]) (by rw[HLo.out];exact(SRow.kept X1.out k6 (fun g hg hs=>by rcases hs with hs|hs;exact own_neB X1.out BB1.out (by decide) g hg hs;exact own_neB X1.out BB2.out (by decide) g hg hs)).base hNB) (by rw[HLo.out];exact SRow.nil _ _) (by rw[HLo.out];exact(IRow.kept X2.out k6 (fun g hg hs=>by rcases hs with hs|hs;exact own_neB X2.out BB1.out (by decide) g hg hs;exact own_neB X2.out BB2.out (by decide) g hg hs)).base hNB),IsNd.made (n:=n.hi) (by rw[HHi.out]) (by rw[HHi.out];exact(SRow.kept X3.out k6 (fun g hg hs=>by rcases hs with hs|hs;exact own_neB X3.out BB1.out (by decide) g hg hs;exact own_neB X3.out BB2.out (by decide) g hg hs)).base hNB) (by rw[HHi.out];exact SRow.nil _ _) (by rw[HHi.out];exact(IRow.kept X4.out k6 (fun g hg hs=>by rcases hs with hs|hs;exact own_neB X4.out BB1.out (by decide) g hg hs;exact own_neB X4.out BB2.out (by decide) g hg hs)).base hNB),?_⟩
   ·rw[HS.out];rfl
   ·exact(K1.out.trans KX.out).then k6 fun i hi e=>by omega
end Go.Proofs.YtfgjehecjgebdaaGreat
/- Nodes: Level, Between. -/
namespace Go.Proofs.YtfgjehecjgebdaaGreat
open Go.RowKit
set_option maxHeartbeats 4000000
set_option maxRecDepth 100000
def IsNds (w:World) (B:Nat) (v:Value) (ns:List Nd):Prop:=∃g c,v = .slice (some ⟨g,0,none⟩) ns.length c∧B≤g∧g < w.heap.size ∧ ∀i (h:i < ns.length), ∃v0 v1 v2 v3,w.cell? ⟨g,i * 4,none⟩=some v0∧w.cell? ⟨g,i * 4 + 1,none⟩=some v1∧w.cell? ⟨g,i * 4 + 2,none⟩=some v2∧w.cell? ⟨g,i * 4 + 3,none⟩=some v3∧IsNd w B (.agg #[v0,v1,v2,v3]) ns[i]
theorem IsNds.base {w B B' v ns} (h:IsNds w B v ns) (hb:B'≤B):IsNds w B' v ns:=by
 obtain⟨g,c,rfl,hB,hg,h⟩:=h
 refine⟨g,c,rfl,Nat.le_trans hb hB,hg,fun i hi=>?_⟩
 obtain⟨v0,v1,v2,v3,h0,h1,h2,h3,hn⟩:=h i hi
 exact⟨v0,v1,v2,v3,h0,h1,h2,h3,hn.base hb⟩
theorem IsNd.agg {w B v n} (h:IsNd w B v n):∃l A1 n1 c1 A2 n2 c2 A3 n3 c3,v = .agg #[.bool l,.slice A1 n1 c1,.slice A2 n2 c2,.slice A3 n3 c3]:=by
 obtain⟨Ak,ck,Av,cv,Ai,ci,rfl,_⟩:=h
 exact⟨_,_,_,_,_,_,_,_,_,_,rfl⟩
theorem NdBetween_calls {w B va vb a b} (ha:IsNd w B va a) (hb:IsNd w B vb b) (hB:B≤w.heap.size) (k:Bs) (hk:k.length≤24) (fa:a.Fit) (fb:b.Fit) (hab:b.leaf=a.leaf) (hl:a.len + b.len≤20) (ho:(nJoin a k b).over=true) :
  Calls Tryz.prog 129 #[va,.string (ba k),vb] w fun e w'=>e = .returned (Ss (nBetween a k b))∧Kept (fun _=>False) w w':=by
 have HJ:=Lib.hid fun w' (kk:Kept (fun _=>False) w w')=>NdJoin_calls (ha.kept kk) (hb.kept kk) (Nat.le_trans hB kk.size) k fa fb hab
 obtain⟨fj, -, -⟩:=Nd.Fit.join fa fb hk hab hl
 have HO:=Lib.hid ho;have HF:=Lib.hid fj
 obtain⟨l,Ak,a1,ck,Av,a2,cv,Ai,a3,ci,rfl,HE,H,H1,H2,H3⟩:=ha.opened
 obtain⟨l',Ak',a1',ck',Av',a2',cv',Ai',a3',ci',rfl,HE',H',H1',H2',H3'⟩:=hb.opened
 obtain⟨s,hs⟩:∃s,s=ba k:=⟨_,rfl⟩
 rw[←hs] at HJ⊢
 have HBB:=Lib.hid hB
 clear hs fa fb hB hab ha hb ho hk hl fj
 go_enter Tryz.func129,Tryz.ntmps129
 go_wp2_with fail
 refine(HJ.out _ (by repeat (first|exact Kept.refl _ _|refine Kept.alloc ?_ _))).mono ?_
 rintro e w1 ⟨v1,rfl,h1',k1⟩
 have h1:IsNd w1 w.heap.size v1 _:=h1'.base (by simp;omega)
 clear h1'
 have K1:=Lib.hid ((((Kept.refl (fun _=>False) w).alloc _).alloc _).trans k1)
 have C2:=Lib.hid (NdSplit_calls h1 K1.out.size HF.out.sm HO.out HF.out.sh)
 clear h1 k1
 go_wp2_with fail
 refine C2.out.mono ?_
 rintro e w2 ⟨x,y,rfl,hx,hy,k2⟩
 have K2:=Lib.hid (K1.out.trans k2)
 obtain⟨x0,X1,n1,c1,X2,n2,c2,X3,n3,c3,rfl⟩:=hx.agg
 obtain⟨y0,Y1,m1,d1,Y2,m2,d2,Y3,m3,d3,rfl⟩:=hy.agg
 obtain⟨t,ht⟩:∃t,t=ba (nJoin a k b).mid:=⟨_,rfl⟩
 have HT:Hid (Value.string t=Ss (nBetween a k b)):=by rw[ht];exact rfl
 have e:Ss (nJoin a k b).mid = .string t:=by rw[ht];rfl
 rw[e]
 clear hx hy k2 C2 e ht
 go_wp2
 go_ret
 refine⟨by rw[←HT.out];rfl,?_⟩
 exact((K2.out.alloc _).alloc _)
def LevelTo (ns:List Nd) (B:Nat) (w:World) (e:Ending) (w':World):Prop:=∃v',e = .returned v'∧IsNds w' B v' ns∧Kept (fun _=>False) w w'
theorem NdLevel_calls {w B va vb a b} (ha:IsNd w B va a) (hb:IsNd w B vb b) (hB:B≤w.heap.size) (k:Bs) (hk:k.length≤24) (fa:a.Fit) (fb:b.Fit) (hab:b.leaf=a.leaf) (hl:a.len + b.len≤20) :
  Calls Tryz.prog 128 #[va,.string (ba k),vb] w (LevelTo (nLevel a k b) w.heap.size w):=by
 have HJ:=Lib.hid fun w' (kk:Kept (fun _=>False) w w')=>NdJoin_calls (ha.kept kk) (hb.kept kk) (Nat.le_trans hB kk.size) k fa fb hab
 obtain⟨fj, -, -⟩:=Nd.Fit.join fa fb hk hab hl
 have HF:=Lib.hid fj
 obtain⟨l,Ak,a1,ck,Av,a2,cv,Ai,a3,ci,rfl,HE,H,H1,H2,H3⟩:=ha.opened
 obtain⟨l',Ak',a1',ck',Av',a2',cv',Ai',a3',ci',rfl,HE',H',H1',H2',H3'⟩:=hb.opened
 obtain⟨s,hs⟩:∃s,s=ba k:=⟨_,rfl⟩
 rw[←hs] at HJ⊢
 have HBB:=Lib.hid hB
 obtain⟨j,hj⟩:∃j,j=nJoin a k b:=⟨_,rfl⟩
 have HLV:Hid (nLevel a k b=if j.over then [j.lo,j.hi] else [j]):=by show _=_;rw[hj];rfl
 rw[←hj] at HJ HF
 clear hs fa fb hB hab ha hb hk hl fj hj
 go_enter Tryz.func128,Tryz.ntmps128
 go_wp2_with fail
 refine(HJ.out _ (by repeat (first|exact Kept.refl _ _|refine Kept.alloc ?_ _))).mono ?_
 rintro e w1 ⟨v1,rfl,h1',k1⟩
 have h1:IsNd w1 w.heap.size v1 _:=h1'.base (by simp;omega)
 clear h1'
 have K1:=Lib.hid ((((Kept.refl (fun _=>False) w).alloc _).alloc _).trans k1)
 obtain⟨x0,X1,n1,c1,X2,n2,c2,X3,n3,c3,rfl⟩:=h1.agg
 have HJN:=Lib.hid h1
 have C2:=Lib.hid fun w' (kk:Kept (fun _=>False) w1 w')=>NdOver_calls (h1.kept kk)
 cases ho:j.over
 ·rw[ho] at C2 HLV
  have HO:=Lib.hid ho
  clear h1 k1 ho
  go_wp2_with fail
  refine(C2.out _ (by repeat (first|exact Kept.refl _ _|refine Kept.alloc ?_ _))).mono ?_
  rintro e w2 ⟨rfl,k2⟩
  have K2:=Lib.hid (((Kept.refl (fun _=>False) w1).alloc _).trans k2)
  have hb1:=k2.heap (heap_new w1 _) id
  obtain⟨d0,d1,d2,d3⟩:=nd_cells hb1
  clear hb1 k2 C2
  go_wp2
  go_ret
  refine⟨_,rfl,?_,(K1.out.trans K2.out).alloc _⟩
  rw[HLV.out]
  refine⟨_,_,rfl,by have:=K1.out.size;have:=K2.out.size;omega,by simp,fun i hi=>?_⟩
  obtain rfl:i=0:=by simpa using hi
  obtain⟨e0,e1,e2,e3⟩:=nd_cells (heap_new w2 (.cells #[.bool x0,.slice X1 n1 c1,.slice X2 n2 c2,.slice X3 n3 c3] 148))
  exact⟨_,_,_,_,e0,e1,e2,e3,HJN.out.kept (K2.out.alloc _)⟩
 ·rw[ho] at C2 HLV
  have C3:=Lib.hid fun w' (kk:Kept (fun _=>False) w1 w')=>NdSplit_calls (h1.kept kk) (Nat.le_trans K1.out.size kk.size) HF.out.sm ho HF.out.sh
  obtain⟨t,ht⟩:∃t,t=ba j.mid:=⟨_,rfl⟩
  have e:Ss j.mid = .string t:=by rw[ht];rfl
  unfold SplitTo at C3
  rw[e] at C3
  clear h1 k1 ho ht e
  go_wp2_with fail
  refine(C2.out _ (by repeat (first|exact Kept.refl _ _|refine Kept.alloc ?_ _))).mono ?_
  rintro e w2 ⟨rfl,k2⟩
  have K2:=Lib.hid (((Kept.refl (fun _=>False) w1).alloc _).trans k2)
  have hb1:=k2.heap (heap_new w1 _) id
  obtain⟨d0,d1,d2,d3⟩:=nd_cells hb1
  clear hb1 k2 C2
  go_wp2_with fail
  refine(C3.out _ K2.out).mono ?_
  rintro e w3 ⟨x,y,rfl,hx,hy,k3⟩
  have K3:=Lib.hid (K1.out.trans (K2.out.trans k3))
  have HX:=Lib.hid hx;have HY:=Lib.hid hy
  obtain⟨p0,P1,p1,q1,P2,p2,q2,P3,p3,q3,rfl⟩:=hx.agg
  obtain⟨y0,Y1,r1,s1,Y2,r2,s2,Y3,r3,s3,rfl⟩:=hy.agg
  clear hx hy k3 C3 d0 d1 d2 d3
  go_wp2
  go_ret
  have K4:Kept (fun _=>False) w3 (((w3.alloc (.cells #[.bool p0,.slice P1 p1 q1,.slice P2 p2 q2,.slice P3 p3 q3] 148)).alloc (.cells #[.bool y0,.slice Y1 r1 s1,.slice Y2 r2 s2,.slice Y3 r3 s3] 148)).alloc (.cells #[.bool p0,.slice P1 p1 q1,.slice P2 p2 q2,.slice P3 p3 q3,.bool y0,.slice Y1 r1 s1,.slice Y2 r2 s2,.slice Y3 r3 s3] 148)):=(((Kept.refl _ w3).alloc _).alloc _).alloc _
  have hb:(((w3.alloc (.cells #[.bool p0,.slice P1 p1 q1,.slice P2 p2 q2,.slice P3 p3 q3] 148)).alloc (.cells #[.bool y0,.slice Y1 r1 s1,.slice Y2 r2 s2,.slice Y3 r3 s3] 148)).alloc (.cells #[.bool p0,.slice P1 p1 q1,.slice P2 p2 q2,.slice P3 p3 q3,.bool y0,.slice Y1 r1 s1,.slice Y2 r2 s2,.slice Y3 r3 s3] 148)).heap[w3.heap.size + 1 + 1]? = some (.cells #[.bool p0,.slice P1 p1 q1,.slice P2 p2 q2,.slice P3 p3 q3,.bool y0,.slice Y1 r1 s1,.slice Y2 r2 s2,.slice Y3 r3 s3] 148 (0,0)):=heap_newAt (by simp) _
  refine⟨_,rfl,?_,K3.out.trans K4⟩
  rw[HLV.out]
  refine⟨_,_,rfl,by have:=K1.out.size;have:=K2.out.size;have:=K3.out.size;omega,lt_heap hb,fun i hi=>?_⟩
  have hi2:i < 2:=hi
  rcases (show i=0∨i=1 by omega) with rfl|rfl
  ·exact⟨_,_,_,_,(cell_heap hb 0).trans rfl,(cell_heap hb 1).trans rfl,(cell_heap hb 2).trans rfl,(cell_heap hb 3).trans rfl,(HX.out.kept K4).base (by have:=K1.out.size;have:=K2.out.size;omega)⟩
  ·exact⟨_,_,_,_,(cell_heap hb 4).trans rfl,(cell_heap hb 5).trans rfl,(cell_heap hb 6).trans rfl,(cell_heap hb 7).trans rfl,(HY.out.kept K4).base (by have:=K1.out.size;have:=K2.out.size;omega)⟩
end Go.Proofs.YtfgjehecjgebdaaGreat
