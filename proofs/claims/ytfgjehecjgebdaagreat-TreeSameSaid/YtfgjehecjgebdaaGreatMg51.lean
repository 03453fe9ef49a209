/- The laws of 09: awake. -/
import Derived.Test.YtfgjehecjgebdaaGreatMg47
namespace Go.Proofs.YtfgjehecjgebdaaGreat
open Go.RowKit Go.Maps Go.ChangeMaps
attribute [local go_sem] Oper.semAt_some
def awS (j:Nat):ByteArray:=⟨#[UInt8.ofNat (97 + j)]⟩
theorem awS_ba (j:Nat):awS j=ba (awK j):=rfl
set_option maxRecDepth 100000 in
set_option maxHeartbeats 4000000 in
theorem awake9_calls (w:World):Calls Tryz.prog 31 #[] w fun e w'=>e = .returned (.bool true)∧Kept (fun _=>False) w w':=by
 have HB:=Lib.hid (fun w=>Begin_calls (p:=20) (by omega) (by omega) w)
 have HA:=Lib.hid aw_all
 go_enter Tryz.func31,Tryz.ntmps31
 go_wp2_with fail
 refine(HB.out w).mono ?_
 rintro e w1 ⟨q,rfl,tw1,k1,hq, -⟩
 have T1:=Lib.hid tw1;have K1:=Lib.hid k1;have HQ:=Lib.hid hq
 clear tw1 k1 hq HB
 go_wp2_with fail
 obtain⟨N,hN⟩:∃N,N=w1.heap.size:=⟨_,rfl⟩
 obtain⟨w2,hw2⟩:∃w2,w2=w1.alloc (.cells #[.string ⟨#[97]⟩,.string ⟨#[98]⟩,.string ⟨#[99]⟩,.string ⟨#[100]⟩,.string ⟨#[101]⟩] 9):=⟨_,rfl⟩
 rw[←hw2, ←hN]
 have K2:Hid (Kept (fun _=>False) w1 w2):=by rw[hw2];exact(Kept.refl _ _).alloc _
 have HBN:Hid (w2.heap[N]? = some (.cells #[.string ⟨#[97]⟩,.string ⟨#[98]⟩,.string ⟨#[99]⟩,.string ⟨#[100]⟩,.string ⟨#[101]⟩] 9 (0,0))):=by show _=_;rw[hw2,hN];exact heap_new w1 _
 have T2:=Lib.hid (T1.out.keptF K2.out)
 have HS:Hid (q.c < N∧q.m < N∧q.t < N):=by have:=T1.out.small;rw[hN];exact this
 clear hw2 hN
 go_loopw [4,18] (fun _ i wr=>∃j:Nat,j≤5∧i = .int .i64 j∧Hid (TW wr q (awA j).1 (awA j).2)∧Hid (Kept (fun k=>k=q.c∨k=q.m∨k=q.t) w2 wr)) (fun _ i _=>5 - (RowKit.intOf i).toNat)
 case atStart=>exact⟨0,by omega,rfl,T2.out,Kept.refl _ _⟩
 case round =>
  obtain⟨j,hj,rfl,TR,KR⟩:=hrel
  by_cases hlt:j < 5
  ·have hbn:=KR.out.heap HBN.out (by have:=HS.out;omega)
   obtain⟨sj,hsj⟩:∃s,s=awS j:=⟨_,rfl⟩
   have q1:wr.cell? ⟨N,j,none⟩=some (.string sj):=by
    rw[cell_heap hbn,hsj]
    rcases (show j=0∨j=1∨j=2∨j=3∨j=4 by omega) with rfl|rfl|rfl|rfl|rfl<;>rfl
   have hsz:sj.size=1:=by rw[hsj];rfl
   have CP:=Lib.hid (TreePut_calls TR.out (awK j) (awK j ++ awK j))
   have e2:ba (awK j ++ awK j)=sj ++ sj:=by rw[hsj,awS_ba,ba_append]
   rw[e2, ←awS_ba, ←hsj] at CP
   have HA0:=Lib.hid (HA.out.1 j hlt)
   clear hbn hsj e2
   go_wp2_with fail
   refine CP.out.mono ?_
   rintro e w3 ⟨rfl,tw3,k3⟩
   rw[HA0.out]
   have T3:Hid (TW w3 q (awA (j + 1)).1 (awA (j + 1)).2):=tw3
   have K3:=Lib.hid (KR.out.trans k3)
   clear tw3 k3 CP q1 hsz
   go_wp2_with fail
   go_roundw
   case rel=>exact⟨j + 1,by omega,by go_num,T3.out,K3.out⟩
   case measure=>simp[RowKit.intOf];omega
  ·obtain rfl:j=5:=by omega
   obtain⟨-,h1,h2,h3⟩:=HA.out
   obtain⟨X,hX⟩:∃X,X=(awA 5).1:=⟨_,rfl⟩
   have TR3:Hid (TW wr q X 3):=by
    have h:=TR.out
    rw[h1, ←hX] at h
    exact h
   rw[←hX] at h2 h3
   have CR:=Lib.hid (TreeRoot_calls TR3.out)
   have CL:=Lib.hid (TreeLoadX_calls TR3.out 3)
   have CG:=Lib.hid fun w' (kk:Kept (fun _=>False) wr w')=>TreeGet_calls (TR3.out.keptF kk) (awK 3)
   rw[h2] at CL
   rw[h3] at CG
   unfold LoadTo at CL
   unfold GetTo at CG
   have KW:Hid (Kept (fun _=>False) w wr):=(K1.out.trans K2.out).then KR.out fun i hi e=>by
    have:=HQ.out.t;have:=HQ.out.c;have:=HQ.out.m;omega
   clear h1 h2 h3 hX HA TR
   go_wp2_with fail
   refine CR.out.mono ?_
   rintro e w3 ⟨rfl,rfl⟩
   clear CR
   go_wp2_with fail
   refine CL.out.mono ?_
   rintro e w4 ⟨k4,v,rfl,hn⟩
   obtain⟨l,A1,n1,c1,A2,n2,c2,A3,n3,c3,rfl,HE,N1,R1, -, -⟩:=hn.opened
   obtain⟨e0,e1, -,e3⟩:=HE.out
   simp only[List.length_cons,List.length_nil] at e0 e1 e3
   subst e0 e1 e3
   obtain⟨g,cg,ev⟩:=own_form R1.out (by simp)
   injection ev with ev1 ev2 ev3
   subst ev1
   clear ev2 ev3
   have q1:w4.cell? ⟨g,0,none⟩=some (.string ⟨#[100]⟩):=by rw[SRow.at_ R1.out (show 0 < [awK 3].length by simp)];rfl
   have lg:g < w4.heap.size:=own_lt R1.out rfl
   have K4:=Lib.hid k4
   have CN:=Lib.hid fun w' (kk:Kept (fun _=>False) w4 w')=>NdLen_calls (N1.out.kept kk)
   clear k4 hn CL HE R1
   go_wp2_with fail
   refine(CG.out _ (K4.out.alloc _)).mono ?_
   rintro e w5 ⟨rfl,k5⟩
   have K5:=Lib.hid (((Kept.refl (fun _=>False) w4).alloc (.cells #[.bool false,.slice (some ⟨g,0,none⟩) 1 c1,.slice A2 n2 c2,.slice A3 2 c3] 148)).trans k5)
   have HB5:=Lib.hid (k5.heap (heap_new w4 (.cells #[.bool false,.slice (some ⟨g,0,none⟩) 1 c1,.slice A2 n2 c2,.slice A3 2 c3] 148)) id)
   obtain⟨d0,d1,d2,d3⟩:=nd_cells HB5.out
   have q5:w5.cell? ⟨g,0,none⟩=some (.string ⟨#[100]⟩):=(World.cell?_of_block (K5.out.block g lg id)).trans q1
   have lg5:g < w5.heap.size:=Nat.lt_of_lt_of_le lg K5.out.size
   have CN5:=Lib.hid (CN.out w5 K5.out)
   rw[show ba (awK 3 ++ awK 3)=⟨#[100,100]⟩ from rfl]
   dsimp only[Nd.len] at CN5
   clear k5 CG q1 lg CN
   go_wp2_with fail
   refine CN5.out.mono ?_
   rintro e w6 ⟨rfl,k6⟩
   have K6:=Lib.hid k6
   obtain⟨d0',d1',d2',d3'⟩:=nd_cells (k6.heap HB5.out id)
   have q6:w6.cell? ⟨g,0,none⟩=some (.string ⟨#[100]⟩):=(World.cell?_of_block (K6.out.block g lg5 id)).trans q5
   clear k6 CN5 d0 d1 d2 d3 q5
   go_wp2_with fail
   refine bodyPost_ret (v:=.bool true) (by simp[results,Tryz.f31,go_sem]) rfl ?_
   exact⟨rfl,((KW.out.trans K4.out).trans K5.out).trans K6.out⟩
end Go.Proofs.YtfgjehecjgebdaaGreat
