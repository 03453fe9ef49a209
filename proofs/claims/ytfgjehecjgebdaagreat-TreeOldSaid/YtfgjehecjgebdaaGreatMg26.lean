/- Nodes: Level, Between. -/
import Derived.Test.YtfgjehecjgebdaaGreatMg23
import Derived.Test.YtfgjehecjgebdaaGreatMg24
namespace Go.Proofs.YtfgjehecjgebdaaGreat
open Go.RowKit
set_option maxHeartbeats 4000000
set_option maxRecDepth 100000
def IsNds (w:World) (B:Nat) (v:Value) (ns:List Nd):Prop:=∃g c,v = .slice (some ⟨g,0,none⟩) ns.length c∧B≤g∧g < w.heap.size ∧ ∀i (h:i < ns.length), ∃v0 v1 v2 v3,w.cell? ⟨g,i * 4,none⟩=some v0∧w.cell? ⟨g,i * 4 + 1,none⟩=some v1∧w.cell? ⟨g,i * 4 + 2,none⟩=some v2∧w.cell? ⟨g,i * 4 + 3,none⟩=some v3∧IsNd w B (.agg #[v0,v1,v2,v3]) ns[i]
theorem IsNds.base {w B B' v ns} (h:IsNds w B v ns) (hb:B'≤B):IsNds w B' v ns:=by
 obtain⟨g,c,rfl,hB,hg,h⟩:=h
 refine⟨g,c,rfl,Nat.le_trans hb hB,hg,fun i hi=>?_⟩
 obtain⟨v0,v1,v2,v3,h0,h1,h2,h3,hn⟩:=h i hi
 exact⟨v0,v1,v2,v3,h0,h1,h2,h3,hn.base hb⟩
theorem IsNd.agg {w B v n} (h:IsNd w B v n):∃l A1 n1 c1 A2 n2 c2 A3 n3 c3,v = .agg #[.bool l,.slice A1 n1 c1,.slice A2 n2 c2,.slice A3 n3 c3]:=by
 obtain⟨Ak,ck,Av,cv,Ai,ci,rfl,_⟩:=h
 exact⟨_,_,_,_,_,_,_,_,_,_,rfl⟩
theorem NdBetween_calls {w B va vb a b} (ha:IsNd w B va a) (hb:IsNd w B vb b) (hB:B≤w.heap.size) (k:Bs) (hk:k.length≤24) (fa:a.Fit) (fb:b.Fit) (hab:b.leaf=a.leaf) (hl:a.len + b.len≤20) (ho:(nJoin a k b).over=true) :
  Calls Tryz.prog 129 #[va,.string (ba k),vb] w fun e w'=>e = .returned (Ss (nBetween a k b))∧Kept (fun _=>False) w w':=by
 have HJ:=Lib.hid fun w' (kk:Kept (fun _=>False) w w')=>NdJoin_calls (ha.kept kk) (hb.kept kk) (Nat.le_trans hB kk.size) k fa fb hab
 obtain⟨fj, -, -⟩:=Nd.Fit.join fa fb hk hab hl
 have HO:=Lib.hid ho;have HF:=Lib.hid fj
 obtain⟨l,Ak,a1,ck,Av,a2,cv,Ai,a3,ci,rfl,HE,H,H1,H2,H3⟩:=ha.opened
 obtain⟨l',Ak',a1',ck',Av',a2',cv',Ai',a3',ci',rfl,HE',H',H1',H2',H3'⟩:=hb.opened
 obtain⟨s,hs⟩:∃s,s=ba k:=⟨_,rfl⟩
 rw[←hs] at HJ⊢
 have HBB:=Lib.hid hB
 clear hs fa fb hB hab ha hb ho hk hl fj
 go_enter Tryz.func129,Tryz.ntmps129
 go_wp2_with fail
 refine(HJ.out _ (by repeat (first|exact Kept.refl _ _|refine Kept.alloc ?_ _))).mono ?_
 rintro e w1 ⟨v1,rfl,h1',k1⟩
 have h1:IsNd w1 w.heap.size v1 _:=h1'.base (by simp;omega)
 clear h1'
 have K1:=Lib.hid ((((Kept.refl (fun _=>False) w).alloc _).alloc _).trans k1)
 have C2:=Lib.hid (NdSplit_calls h1 K1.out.size HF.out.sm HO.out HF.out.sh)
 clear h1 k1
 go_wp2_with fail
 refine C2.out.mono ?_
 rintro e w2 ⟨x,y,rfl,hx,hy,k2⟩
 have K2:=Lib.hid (K1.out.trans k2)
 obtain⟨x0,X1,n1,c1,X2,n2,c2,X3,n3,c3,rfl⟩:=hx.agg
 obtain⟨y0,Y1,m1,d1,Y2,m2,d2,Y3,m3,d3,rfl⟩:=hy.agg
 obtain⟨t,ht⟩:∃t,t=ba (nJoin a k b).mid:=⟨_,rfl⟩
 have HT:Hid (Value.string t=Ss (nBetween a k b)):=by rw[ht];exact rfl
 have e:Ss (nJoin a k b).mid = .string t:=by rw[ht];rfl
 rw[e]
 clear hx hy k2 C2 e ht
 go_wp2
 go_ret
 refine⟨by rw[←HT.out];rfl,?_⟩
 exact((K2.out.alloc _).alloc _)
def LevelTo (ns:List Nd) (B:Nat) (w:World) (e:Ending) (w':World):Prop:=∃v',e = .returned v'∧IsNds w' B v' ns∧Kept (fun _=>False) w w'
theorem NdLevel_calls {w B va vb a b} (ha:IsNd w B va a) (hb:IsNd w B vb b) (hB:B≤w.heap.size) (k:Bs) (hk:k.length≤24) (fa:a.Fit) (fb:b.Fit) (hab:b.leaf=a.leaf) (hl:a.len + b.len≤20) :
  Calls Tryz.prog 128 #[va,.string (ba k),vb] w (LevelTo (nLevel a k b) w.heap.size w):=by
 have HJ:=Lib.hid fun w' (kk:Kept (fun _=>False) w w')=>NdJoin_calls (ha.kept kk) (hb.kept kk) (Nat.le_trans hB kk.size) k fa fb hab
 obtain⟨fj, -, -⟩:=Nd.Fit.join fa fb hk hab hl
 have HF:=Lib.hid fj
 obtain⟨l,Ak,a1,ck,Av,a2,cv,Ai,a3,ci,rfl,HE,H,H1,H2,H3⟩:=ha.opened
 obtain⟨l',Ak',a1',ck',Av',a2',cv',Ai',a3',ci',rfl,HE',H',H1',H2',H3'⟩:=hb.opened
 obtain⟨s,hs⟩:∃s,s=ba k:=⟨_,rfl⟩
 rw[←hs] at HJ⊢
 have HBB:=Lib.hid hB
 obtain⟨j,hj⟩:∃j,j=nJoin a k b:=⟨_,rfl⟩
 have HLV:Hid (nLevel a k b=if j.over then [j.lo,j.hi] else [j]):=by show _=_;rw[hj];rfl
 rw[←hj] at HJ HF
 clear hs fa fb hB hab ha hb hk hl fj hj
 go_enter Tryz.func128,Tryz.ntmps128
 go_wp2_with fail
 refine(HJ.out _ (by repeat (first|exact Kept.refl _ _|refine Kept.alloc ?_ _))).mono ?_
 rintro e w1 ⟨v1,rfl,h1',k1⟩
 have h1:IsNd w1 w.heap.size v1 _:=h1'.base (by simp;omega)
 clear h1'
 have K1:=Lib.hid ((((Kept.refl (fun _=>False) w).alloc _).alloc _).trans k1)
 obtain⟨x0,X1,n1,c1,X2,n2,c2,X3,n3,c3,rfl⟩:=h1.agg
 have HJN:=Lib.hid h1
 have C2:=Lib.hid fun w' (kk:Kept (fun _=>False) w1 w')=>NdOver_calls (h1.kept kk)
 cases ho:j.over
 ·rw[ho] at C2 HLV
  have HO:=Lib.hid ho
  clear h1 k1 ho
  go_wp2_with fail
  refine(C2.out _ (by repeat (first|exact Kept.refl _ _|refine Kept.alloc ?_ _))).mono ?_
  rintro e w2 ⟨rfl,k2⟩
  have K2:=Lib.hid (((Kept.refl (fun _=>False) w1).alloc _).trans k2)
  have hb1:=k2.heap (heap_new w1 _) id
  obtain⟨d0,d1,d2,d3⟩:=nd_cells hb1
  clear hb1 k2 C2
  go_wp2
  go_ret
  refine⟨_,rfl,?_,(K1.out.trans K2.out).alloc _⟩
  rw[HLV.out]
  refine⟨_,_,rfl,by have:=K1.out.size;have:=K2.out.size;omega,by simp,fun i hi=>?_⟩
  obtain rfl:i=0:=by simpa using hi
  obtain⟨e0,e1,e2,e3⟩:=nd_cells (heap_new w2 (.cells #[.bool x0,.slice X1 n1 c1,.slice X2 n2 c2,.slice X3 n3 c3] 148))
  exact⟨_,_,_,_,e0,e1,e2,e3,HJN.out.kept (K2.out.alloc _)⟩
 ·rw[ho] at C2 HLV
  have C3:=Lib.hid fun w' (kk:Kept (fun _=>False) w1 w')=>NdSplit_calls (h1.kept kk) (Nat.le_trans K1.out.size kk.size) HF.out.sm ho HF.out.sh
  obtain⟨t,ht⟩:∃t,t=ba j.mid:=⟨_,rfl⟩
  have e:Ss j.mid = .string t:=by rw[ht];rfl
  unfold SplitTo at C3
  rw[e] at C3
  clear h1 k1 ho ht e
  go_wp2_with fail
  refine(C2.out _ (by repeat (first|exact Kept.refl _ _|refine Kept.alloc ?_ _))).mono ?_
  rintro e w2 ⟨rfl,k2⟩
  have K2:=Lib.hid (((Kept.refl (fun _=>False) w1).alloc _).trans k2)
  have hb1:=k2.heap (heap_new w1 _) id
  obtain⟨d0,d1,d2,d3⟩:=nd_cells hb1
  clear hb1 k2 C2
  go_wp2_with fail
  refine(C3.out _ K2.out).mono ?_
  rintro e w3 ⟨x,y,rfl,hx,hy,k3⟩
  have K3:=Lib.hid (K1.out.trans (K2.out.trans k3))
  have HX:=Lib.hid hx;have HY:=Lib.hid hy
  obtain⟨p0,P1,p1,q1,P2,p2,q2,P3,p3,q3,rfl⟩:=hx.agg
  obtain⟨y0,Y1,r1,s1,Y2,r2,s2,Y3,r3,s3,rfl⟩:=hy.agg
  clear hx hy k3 C3 d0 d1 d2 d3
  go_wp2
  go_ret
  have K4:Kept (fun _=>False) w3 (((w3.alloc (.cells #[.bool p0,.slice P1 p1 q1,.slice P2 p2 q2,.slice P3 p3 q3] 148)).alloc (.cells #[.bool y0,.slice Y1 r1 s1,.slice Y2 r2 s2,.slice Y3 r3 s3] 148)).alloc (.cells #[.bool p0,.slice P1 p1 q1,.slice P2 p2 q2,.slice P3 p3 q3,.bool y0,.slice Y1 r1 s1,.slice Y2 r2 s2,.slice Y3 r3 s3] 148)):=(((Kept.refl _ w3).alloc _).alloc _).alloc _
  have hb:(((w3.alloc (.cells #[.bool p0,.slice P1 p1 q1,.slice P2 p2 q2,.slice P3 p3 q3] 148)).alloc (.cells #[.bool y0,.slice Y1 r1 s1,.slice Y2 r2 s2,.slice Y3 r3 s3] 148)).alloc (.cells #[.bool p0,.slice P1 p1 q1,.slice P2 p2 q2,.slice P3 p3 q3,.bool y0,.slice Y1 r1 s1,.slice Y2 r2 s2,.slice Y3 r3 s3] 148)).heap[w3.heap.size + 1 + 1]? = some (.cells #[.bool p0,.slice P1 p1 q1,.slice P2 p2 q2,.slice P3 p3 q3,.bool y0,.slice Y1 r1 s1,.slice Y2 r2 s2,.slice Y3 r3 s3] 148 (0,0)):=heap_newAt (by simp) _
  refine⟨_,rfl,?_,K3.out.trans K4⟩
  rw[HLV.out]
  refine⟨_,_,rfl,by have:=K1.out.size;have:=K2.out.size;have:=K3.out.size;omega,lt_heap hb,fun i hi=>?_⟩
  have hi2:i < 2:=hi
  rcases (show i=0∨i=1 by omega) with rfl|rfl
  ·exact⟨_,_,_,_,(cell_heap hb 0).trans rfl,(cell_heap hb 1).trans rfl,(cell_heap hb 2).trans rfl,(cell_heap hb 3).trans rfl,(HX.out.kept K4).base (by have:=K1.out.size;have:=K2.out.size;omega)⟩
  ·exact⟨_,_,_,_,(cell_heap hb 4).trans rfl,(cell_heap hb 5).trans rfl,(cell_heap hb 6).trans rfl,(cell_heap hb 7).trans rfl,(HY.out.kept K4).base (by have:=K1.out.size;have:=K2.out.size;omega)⟩
end Go.Proofs.YtfgjehecjgebdaaGreat
