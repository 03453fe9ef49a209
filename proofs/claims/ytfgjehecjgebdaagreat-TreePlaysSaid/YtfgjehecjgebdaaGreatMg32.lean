/- Pages: parse. -/
import Derived.Test.YtfgjehecjgebdaaGreatMg31
import Derived.Test.YtfgjehecjgebdaaGreatMg14
namespace Go.Proofs.YtfgjehecjgebdaaGreat
open Go.RowKit
def pA (p:Nat) (t:List UInt8):Nat×InSt:=iN p (t,0)
def pB (p:Nat) (t:List UInt8):Nat×InSt:=iN 1099511627776 (pA p t).2
def pC (p:Nat) (t:List UInt8):Nat×InSt:=iN 1099511627776 (pB p t).2
def pD (p:Nat) (t:List UInt8):List UInt8×InSt:=iS 16 (pC p t).2
def supOf (p gen:Nat) (t:List UInt8):Option (Sup×List Nat) :=
 if (iEnd (pD p t).2).2 ≠ 0∨(pB p t).1 < 1 then none
 else if fine p (ba (pD p t).1)=false then none
 else if 1≤(pA p t).1∧stAt (parsed p (ba (pD p t).1)) ((pA p t).1 - 1:Int) ≠ 1 then none
 else some (⟨gen,(pA p t).1 - 1,(pB p t).1,(pC p t).1⟩,parsed p (ba (pD p t).1))
def sup0:Sup:=⟨0,0,0,0⟩
def ParseR (o:Option (Sup×List Nat)) (w:World) (e:Ending) (w':World):Prop :=
 Kept (fun _=>False) w w'∧match o with
  | none=>e = .returned (.tuple #[supV sup0,.pointer none,.int .i64 17])
  | some (s,l)=>∃b c,w.heap.size≤b∧w.heap.size≤c∧e = .returned (.tuple #[supV s,.pointer (some ⟨b,0,none⟩),.int .i64 0])∧IsSp w' b c l
def PgParsePost (p gen:Nat) (t:List UInt8) (w:World) (e:Ending) (w':World):Prop:=ParseR (supOf p gen t) w e w'
structure PB (w:World) (n p g gen mk:Nat) (d:ByteArray):Prop where
 lay:w.heap[n]? = some (.cells #[.int .i64 p,.int .i64 g] 52 (0,0))
 sec:w.heap[n + 1]? = some (.cells #[.int .i64 gen,.int .u8 mk,.string d] 132 (0,0))
 res:w.heap[n + 2]? = some (.cells #[.int .i64 0,.int .i64 0,.int .i64 0,.int .i64 0] 78 (0,0))
theorem PB.kept {S:Nat→Prop} {w w' n p g gen mk d} (h:PB w n p g gen mk d) (k:Kept S w w') (hs:∀i,S i→n + 2 < i):PB w' n p g gen mk d :=
 ⟨k.heap h.lay fun e=>by have:=hs _ e;omega,k.heap h.sec fun e=>by have:=hs _ e;omega,k.heap h.res fun e=>by have:=hs _ e;omega⟩
theorem PB.l0 {w n p g gen mk d} (h:PB w n p g gen mk d):w.cell? ⟨n,0,none⟩=some (.int .i64 p):=(cell_heap h.lay 0).trans rfl
theorem PB.s0 {w n p g gen mk d} (h:PB w n p g gen mk d):w.cell? ⟨n + 1,0,none⟩=some (.int .i64 gen):=(cell_heap h.sec 0).trans rfl
theorem new_kept {w w':World} {i:Nat} {O:Obj} (k:Kept (· = i) (w.alloc O) w') (hi:i < w.heap.size):w'.heap[w.heap.size]? = some O:=k.heap (heap_new w O) (by omega)
theorem new_keptD {w w':World} {i:Nat} {O:Obj} (k:Kept (· = i) (w.alloc O).drew w') (hi:i < w.heap.size):w'.heap[w.heap.size]? = some O:=k.heap (w:=(w.alloc O).drew) (heap_new w O) (by omega)
theorem new_cells {w:World} {N:Nat} {v0 v1 v2 v3:Value} {T:TypeId} (h:w.heap[N]? = some (.cells #[v0,v1,v2,v3] T (0,0))) :
  w.cell? ⟨N,0,none⟩=some v0∧w.cell? ⟨N,1,none⟩=some v1∧w.cell? ⟨N,2,none⟩=some v2∧w.cell? ⟨N,3,none⟩=some v3∧w.frozen? ⟨N,0,none⟩=false∧w.frozen? ⟨N,1,none⟩=false∧w.frozen? ⟨N,2,none⟩=false∧w.frozen? ⟨N,3,none⟩=false :=
 ⟨(cell_heap h 0).trans rfl,(cell_heap h 1).trans rfl,(cell_heap h 2).trans rfl,(cell_heap h 3).trans rfl,free_heap h 0,free_heap h 1,free_heap h 2,free_heap h 3⟩
theorem set4 {w:World} {q:Nat} {T:TypeId} {z0 z1 z2 z3:Value} (hz:w.heap[q]? = some (.cells #[z0,z1,z2,z3] T (0,0))) (v0 v1 v2 v3:Value) :
  ((((w.setCell ⟨q,0,none⟩ v0).setCell ⟨q,1,none⟩ v1).setCell ⟨q,2,none⟩ v2).setCell ⟨q,3,none⟩ v3).heap[q]? = some (.cells #[v0,v1,v2,v3] T (0,0)):=by
 rw[heap_set (heap_set (heap_set (heap_set hz _ _) _ _) _ _) _ _]
 rfl
def Met (w1 wx:World) (i gen a b c:Nat) (s3:InSt) (u:Nat):Prop :=
 i < u∧wx.heap[u]? = some (.cells #[.int .i64 gen,.int .i64 ((a:Int) - 1),.int .i64 b,.int .i64 c] 78 (0,0))∧IsIn wx i s3∧Kept (· = i) w1 wx
theorem met_a {w1 u3:World} {i gen a b c:Nat} {s3:InSt} (ha:IntKind.i64.wrap ((a:Int) - 1)=(a:Int) - 1) (I:IsIn u3 i s3) (K:Kept (· = i) w1 u3) :
  Met w1 (u3.alloc (.cells #[.int .i64 gen,.int .i64 (IntKind.i64.wrap ((a:Int) - 1)),.int .i64 b,.int .i64 c] 78)) i gen a b c s3 u3.heap.size:=by
 rw[ha]
 exact⟨lt_heap I,heap_new _ _,heap_old I _,K.alloc _⟩
theorem met_b {w1 u3:World} {i gen a b c q:Nat} {s3:InSt} (ha:IntKind.i64.wrap ((a:Int) - 1)=(a:Int) - 1) (I:IsIn u3 i s3) (K:Kept (· = i) w1 u3) (hq:w1.heap.size≤q) (hi:i < q)
  (hz:u3.heap[q]? = some (.cells #[.int .i64 0,.int .i64 0,.int .i64 0,.int .i64 0] 78 (0,0))) :
  Met w1 ((((u3.setCell ⟨q,0,none⟩ (.int .i64 gen)).setCell ⟨q,1,none⟩ (.int .i64 (IntKind.i64.wrap ((a:Int) - 1)))).setCell ⟨q,2,none⟩ (.int .i64 b)).setCell ⟨q,3,none⟩ (.int .i64 c)) i gen a b c s3 q:=by
 rw[ha]
 have hne:i ≠ q:=by omega
 refine⟨hi,?_,heap_set_other (heap_set_other (heap_set_other (heap_set_other I hne) hne) hne) hne,(((K.setCell (.inr hq) _).setCell (.inr hq) _).setCell (.inr hq) _).setCell (.inr hq) _⟩
 rw[heap_set (heap_set (heap_set (heap_set hz _ _) _ _) _ _) _ _]
 rfl
theorem inN_enters:Enters Tryz.prog 120:=enters_of Tryz.func120 (by kernel_rfl) rfl
set_option maxHeartbeats 40000000 in
set_option maxRecDepth 100000 in
theorem PgParse_calls {p g:Nat} (hl:LayGood p g) (gen mk:Nat) (t:List UInt8) (ht:t.length≤44) (w:World) :
  Calls Tryz.prog 82 #[layV p g,secOf ⟨gen,mk,t⟩] w (PgParsePost p gen t w):=by
 obtain⟨p1,p2,g1,g2⟩:=hl
 obtain⟨d,hd⟩:∃d,d=ba t:=⟨_,rfl⟩
 obtain⟨⟨a,s1⟩,ha⟩:∃r,pA p t=r:=⟨_,rfl⟩
 obtain⟨⟨b,s2⟩,hb⟩:∃r,pB p t=r:=⟨_,rfl⟩
 obtain⟨⟨c,s3⟩,hc⟩:∃r,pC p t=r:=⟨_,rfl⟩
 obtain⟨⟨x,s4⟩,hx⟩:∃r,pD p t=r:=⟨_,rfl⟩
 have ha':iN p (t,0)=(a,s1):=ha
 have hb':iN 1099511627776 s1=(b,s2):=by rw[←hb,pB,ha]
 have hc':iN 1099511627776 s2=(c,s3):=by rw[←hc,pC,hb]
 have hx':iS 16 s3=(x,s4):=by rw[←hx,pD,hc]
 have l1:=iN_le p (t,0)
 have l2:=iN_le 1099511627776 s1
 have l3:=iN_le 1099511627776 s2
 rw[ha'] at l1
 rw[hb'] at l2
 rw[hc'] at l3
 simp only at l1 l2 l3
 have HX16:Hid (x.length≤16):=by
  have h1:=iTake_len (iN 16 s3).1 (iN 16 s3).2
  have h2:=(iN_le 16 s3).1
  have h3:(iS 16 s3).1=(iTake (iN 16 s3).1 (iN 16 s3).2).1:=rfl
  rw[←h3,hx'] at h1
  simp only[Hid]
  simp only at h1
  omega
 have ha128:a≤128:=by omega
 have HB40:Hid (b≤1099511627776):=by simp only[Hid];omega
 have HC40:Hid (c≤1099511627776):=by simp only[Hid];omega
 have C1:Hid (∀(W:World) (i:Nat),IsIn W i (t,0)→Calls Tryz.prog 120 #[.pointer (some ⟨i,0,none⟩),.int .i64 p] W (InPost i (.int .i64 a) s1 W)):=fun W i h=>by
  have:=inN_calls h (by simp only;omega) p (by omega);rw[ha'] at this;exact this
 have C2:Hid (∀(W:World) (i:Nat),IsIn W i s1→Calls Tryz.prog 120 #[.pointer (some ⟨i,0,none⟩),.int .i64 1099511627776] W (InPost i (.int .i64 b) s2 W)):=fun W i h=>by
  have:=inN_calls h (by omega) 1099511627776 (by omega);rw[hb'] at this;exact this
 have C3:Hid (∀(W:World) (i:Nat),IsIn W i s2→Calls Tryz.prog 120 #[.pointer (some ⟨i,0,none⟩),.int .i64 1099511627776] W (InPost i (.int .i64 c) s3 W)):=fun W i h=>by
  have:=inN_calls h (by omega) 1099511627776 (by omega);rw[hc'] at this;exact this
 have C4:Hid (∀(W:World) (i:Nat),IsIn W i s3→Calls Tryz.prog 105 #[.pointer (some ⟨i,0,none⟩),.int .i64 16] W (InPost i (.string (ba x)) s4 W)):=fun W i h=>by
  have:=inS_calls h (by omega) 16 (by omega);rw[hx'] at this;exact this
 have HSO:Hid (supOf p gen t=if (iEnd s4).2 ≠ 0∨b < 1 then none
   else if fine p (ba x)=false then none
   else if 1≤a∧stAt (parsed p (ba x)) (a - 1:Int) ≠ 1 then none
   else some (⟨gen,a - 1,b,c⟩,parsed p (ba x))):=by
  simp only[Hid,supOf,ha,hb,hc,hx]
 have CR:Hid (∀W,Calls Tryz.prog 104 #[.string d] W (ReadPost t W)):=fun W=>by rw[hd];exact Read_calls t W
 clear ha hb hc hx ha' hb' hc' hx' l1 l2 l3 ht g1 g2
 unfold layV
 simp only[secOf,secV]
 rw[←hd]
 clear hd
 go_enter Tryz.func82,Tryz.ntmps82
 go_wp2_with fail
 obtain⟨W,hW⟩:∃W,W=((w.alloc (.cells #[.int .i64 p,.int .i64 g] 52)).alloc (.cells #[.int .i64 gen,.int .u8 mk,.string d] 132)).alloc (.cells #[.int .i64 0,.int .i64 0,.int .i64 0,.int .i64 0] 78):=⟨_,rfl⟩
 rw[←hW]
 have KW:Hid (Kept (fun _=>False) w W):=by rw[hW];exact(((Kept.refl _ _).alloc _).alloc _).alloc _
 have hpb:PB W w.heap.size p g gen mk d:=by
  rw[hW]
  exact⟨heap_old (heap_old (heap_new w _) _) _,heap_old (heap_newAt (by simp) _) _,heap_newAt (by simp) _⟩
 have hsz:w.heap.size + 2 < W.heap.size:=lt_heap hpb.res
 have HSZ:=Lib.hid hsz
 have HPB:=Lib.hid hpb
 clear hW hsz hpb
 refine(CR.out W).mono ?_
 rintro e w1 ⟨i,hi,rfl,hin,k1⟩
 have hnb:w.heap.size + 2 < i:=by have:=HSZ.out;omega
 have P1:=Lib.hid (HPB.out.kept k1 (fun _ f=>f.elim))
 have K1:Hid (Kept (fun _=>False) w w1):=KW.out.trans k1
 have hil:=lt_heap hin
 have HIN:=Lib.hid hin
 have HNB:=Lib.hid hnb
 have c1:=P1.out.l0
 have c2:=P1.out.s0
 have b1:=lt_heap P1.out.lay
 have b2:=lt_heap P1.out.sec
 clear hin k1 hi hnb HPB KW HSZ
 obtain⟨N,hN⟩:∃N,N=w.heap.size:=⟨_,rfl⟩
 have HN:=Lib.hid hN
 rw[←hN] at c1 c2 b1 b2 HNB P1
 rw[←hN]
 clear hN
 go_wp2_with fail
 have HA1:Hid (IntKind.i64.wrap ((a:Int) - 1)=(a:Int) - 1):=by simp only[Hid];rw[IntKind.wrap_i64];omega
 go_cut [8] from 15 to 26 (fun v wx=>∃u,v = .pointer (some ⟨u,0,none⟩)∧Met w1 wx i gen a b c s3 u)
 case first =>
  go_region_law (first
   | (refine step_call (args := #[.tmp 17,.tmp 19]) rfl inN_enters rfl (by first|(simp[Act.eval];done)|(simp[Act.eval,Act.put];done)) (C1.out _ i (HIN.out.kept (S:=fun _=>False) (by repeat (first|exact Kept.refl _ _|refine Kept.drew ?_|refine Kept.alloc ?_ _)) id)) ?_;rintro e u1 ⟨rfl,i1,k1⟩;have I1:=Lib.hid i1;have K11:Hid (Kept (· = i) w1 u1):=Kept.trans (by repeat (first|exact Kept.refl _ _|refine Kept.drew ?_|refine Kept.alloc ?_ _)) k1;have P11:=P1.out.kept K11.out (by rintro j rfl;exact HNB.out);have d1:=P11.l0;have d2:=P11.s0;have d3:=lt_heap P11.lay;have d4:=lt_heap P11.sec;have hi1:=lt_heap i1;(first|(have z1:=new_kept k1 hil;obtain⟨x0,x1,x2,x3,x4,x5,x6,x7⟩:=new_cells z1;have hz1:=lt_heap z1)|(have z1:=new_keptD k1 hil;obtain⟨x0,x1,x2,x3,x4,x5,x6,x7⟩:=new_cells z1;have hz1:=lt_heap z1)|skip);clear i1 k1 P11;refine⟨_,rfl,?_⟩)
   | (refine step_call (args := #[.tmp 22,.const (.int .i64 1099511627776)]) rfl inN_enters rfl (by first|(simp[Act.eval];done)|(simp[Act.eval,Act.put];done)) (C2.out _ i (I1.out.kept (S:=fun _=>False) (by repeat (first|exact Kept.refl _ _|refine Kept.drew ?_|refine Kept.alloc ?_ _)) id)) ?_;rintro e u2 ⟨rfl,i2,k2⟩;have I2:=Lib.hid i2;have K12:Hid (Kept (· = i) w1 u2):=K11.out.trans (Kept.trans (by repeat (first|exact Kept.refl _ _|refine Kept.drew ?_|refine Kept.alloc ?_ _)) k2);have P12:=P1.out.kept K12.out (by rintro j rfl;exact HNB.out);have e1:=P12.l0;have e2:=P12.s0;have e3:=lt_heap P12.lay;have e4:=lt_heap P12.sec;have hi2:=lt_heap i2;(first|(have z2:=new_kept k2 hi1;obtain⟨y0,y1,y2,y3,y4,y5,y6,y7⟩:=new_cells z2;have hz2:=lt_heap z2)|(have z2:=new_keptD k2 hi1;obtain⟨y0,y1,y2,y3,y4,y5,y6,y7⟩:=new_cells z2;have hz2:=lt_heap z2)|(have z2:=k2.heap z1 (by omega);obtain⟨y0,y1,y2,y3,y4,y5,y6,y7⟩:=new_cells z2;have hz2:=lt_heap z2)|skip);clear i2 k2 P12;refine⟨_,rfl,?_⟩)
   | (refine step_call (args := #[.tmp 24,.const (.int .i64 1099511627776)]) rfl inN_enters rfl (by first|(simp[Act.eval];done)|(simp[Act.eval,Act.put];done)) (C3.out _ i (I2.out.kept (S:=fun _=>False) (by repeat (first|exact Kept.refl _ _|refine Kept.drew ?_|refine Kept.alloc ?_ _)) id)) ?_;rintro e u3 ⟨rfl,i3,k3⟩;have I3:=Lib.hid i3;have K13:Hid (Kept (· = i) w1 u3):=K12.out.trans (Kept.trans (by repeat (first|exact Kept.refl _ _|refine Kept.drew ?_|refine Kept.alloc ?_ _)) k3);have P13:=P1.out.kept K13.out (by rintro j rfl;exact HNB.out);have f1:=P13.l0;have f2:=P13.s0;have f3:=lt_heap P13.lay;have f4:=lt_heap P13.sec;have hi3:=lt_heap i3;(first|(have z3:=new_kept k3 hi2;obtain⟨v0,v1,v2,v3,v4,v5,v6,v7⟩:=new_cells z3;have hz3:=lt_heap z3)|(have z3:=new_keptD k3 hi2;obtain⟨v0,v1,v2,v3,v4,v5,v6,v7⟩:=new_cells z3;have hz3:=lt_heap z3)|(have z3:=k3.heap z2 (by omega);obtain⟨v0,v1,v2,v3,v4,v5,v6,v7⟩:=new_cells z3;have hz3:=lt_heap z3)|skip);clear i3 k3 P13;refine⟨_,rfl,?_⟩))
  all_goals (try go_wp2_with fail)
  all_goals go_meet
  all_goals refine⟨_,rfl,?_⟩
  all_goals first
   | with_reducible exact met_a HA1.out I3.out K13.out
   | with_reducible exact met_b HA1.out I3.out K13.out K12.out.size (by omega) z3
   | with_reducible exact met_b HA1.out I3.out K13.out K11.out.size (by omega) z3
   | with_reducible exact met_b HA1.out I3.out K13.out (Nat.le_refl _) (by omega) z3
 case rest =>
  obtain⟨u,rfl,hiu,hu,hi3,k3⟩:=hcut
  have P2:=Lib.hid (P1.out.kept k3 (by rintro j rfl;exact HNB.out))
  have KU:Hid (Kept (· = i) w1 wc):=k3
  have HU:=Lib.hid hu
  have HIU:=Lib.hid hiu
  have C4':=Lib.hid (C4.out wc i hi3)
  clear hi3 k3 hu hiu c1 c2 b1 b2 hil
  go_wp2_with fail
  refine C4'.out.mono ?_
  rintro e w2 ⟨rfl,i2,k2⟩
  have I2:=Lib.hid i2
  have K2:Hid (Kept (· = i) w1 w2):=KU.out.trans k2
  have U2:=Lib.hid (k2.heap HU.out (by have:=HIU.out;omega))
  clear i2 k2
  go_wp2_with fail
  refine(End_calls I2.out).mono ?_
  rintro e w3 ⟨rfl,_,k4⟩
  have K3:Hid (Kept (· = i) w1 w3):=K2.out.trans k4
  have u3:=k4.heap U2.out (by have:=HIU.out;omega)
  have P3:=Lib.hid (P1.out.kept K3.out (by rintro j rfl;exact HNB.out))
  have U3:=Lib.hid u3
  have x1:w3.cell? ⟨u,1,none⟩=some (.int .i64 ((a:Int) - 1)):=(cell_heap u3 1).trans rfl
  have x2:w3.cell? ⟨u,2,none⟩=some (.int .i64 b):=(cell_heap u3 2).trans rfl
  clear k4 u3
  obtain⟨er,her⟩:∃er,er=(iEnd s4).2:=⟨_,rfl⟩
  rw[←her] at HSO⊢
  clear her
  have HNW:Hid (w.heap.size≤N + 1 + 1):=by have:=HN.out;simp only[Hid];omega
  have KF3:Hid (Kept (fun _=>False) w w3):=K1.out.then K3.out (by have:=HN.out;have:=HNB.out;intro j hj e;omega)
  by_cases he:er=0
  ·by_cases hb1:b < 1
   ·have ht:decide ((b:Int) < 1)=true:=by simp;omega
    have he':(er != 0)=false:=by simpa using he
    have hor:er ≠ 0∨b < 1:=.inr hb1
    have HOR:=Lib.hid hor
    clear he hb1 hor
    have r0:w3.cell? ⟨N + 1 + 1,0,none⟩=some (.int .i64 0):=(cell_heap P3.out.res 0).trans rfl
    have f0:w3.frozen? ⟨N + 1 + 1,0,none⟩=false:=free_heap P3.out.res 0
    have r1:w3.cell? ⟨N + 1 + 1,1,none⟩=some (.int .i64 0):=(cell_heap P3.out.res 1).trans rfl
    have f1:w3.frozen? ⟨N + 1 + 1,1,none⟩=false:=free_heap P3.out.res 1
    have r2:w3.cell? ⟨N + 1 + 1,2,none⟩=some (.int .i64 0):=(cell_heap P3.out.res 2).trans rfl
    have f2:w3.frozen? ⟨N + 1 + 1,2,none⟩=false:=free_heap P3.out.res 2
    have r3:w3.cell? ⟨N + 1 + 1,3,none⟩=some (.int .i64 0):=(cell_heap P3.out.res 3).trans rfl
    have f3:w3.frozen? ⟨N + 1 + 1,3,none⟩=false:=free_heap P3.out.res 3
    go_wp2_with fail
    refine bodyPost_ret (v:=.tuple #[supV sup0,.pointer none,.int .i64 17]) ?_ rfl ?_
    ·have hh:=set4 P3.out.res (.int .i64 0) (.int .i64 0) (.int .i64 0) (.int .i64 0)
     have g0:=(cell_heap hh 0).trans rfl
     have g1:=(cell_heap hh 1).trans rfl
     have g2:=(cell_heap hh 2).trans rfl
     have g3:=(cell_heap hh 3).trans rfl
     simp[results,Tryz.f82,go_sem,g0,g1,g2,g3,supV,sup0]
    ·refine⟨((((KF3.out.setCell (.inr HNW.out) _).setCell (.inr HNW.out) _).setCell (.inr HNW.out) _).setCell (.inr HNW.out) _),?_⟩
     rw[HSO.out,if_pos HOR.out]
   ·have ht:decide ((b:Int) < 1)=false:=by simp;omega
    have he':(er != 0)=false:=by simpa using he
    have HOR:Hid (¬(er ≠ 0∨b < 1)):=by simp only[Hid];omega
    have CP:=Lib.hid (Parse_calls p (ba x) w3 (by omega) p2 (by have:=HX16.out;rw[ba_size];unfold maxLen;omega))
    have q0:=P3.out.l0
    clear he hb1
    go_wp2_with fail
    refine CP.out.mono ?_
    rintro e w4 ⟨k4,hres⟩
    have KF4:Hid (Kept (fun _=>False) w w4):=KF3.out.trans k4
    have P4:=Lib.hid (P3.out.kept k4 (fun _ f=>f.elim))
    have u4:=k4.heap U3.out id
    have y0:w4.cell? ⟨u,0,none⟩=some (.int .i64 gen):=(cell_heap u4 0).trans rfl
    have y1:w4.cell? ⟨u,1,none⟩=some (.int .i64 ((a:Int) - 1)):=(cell_heap u4 1).trans rfl
    have y2:w4.cell? ⟨u,2,none⟩=some (.int .i64 b):=(cell_heap u4 2).trans rfl
    have y3:w4.cell? ⟨u,3,none⟩=some (.int .i64 c):=(cell_heap u4 3).trans rfl
    have HSZ4:=Lib.hid (show w.heap.size≤w3.heap.size from KF3.out.size)
    clear k4 u4 q0 x1 x2 ht
    have r0:w4.cell? ⟨N + 1 + 1,0,none⟩=some (.int .i64 0):=(cell_heap P4.out.res 0).trans rfl
    have f0:w4.frozen? ⟨N + 1 + 1,0,none⟩=false:=free_heap P4.out.res 0
    have r1:w4.cell? ⟨N + 1 + 1,1,none⟩=some (.int .i64 0):=(cell_heap P4.out.res 1).trans rfl
    have f1:w4.frozen? ⟨N + 1 + 1,1,none⟩=false:=free_heap P4.out.res 1
    have r2:w4.cell? ⟨N + 1 + 1,2,none⟩=some (.int .i64 0):=(cell_heap P4.out.res 2).trans rfl
    have f2:w4.frozen? ⟨N + 1 + 1,2,none⟩=false:=free_heap P4.out.res 2
    have r3:w4.cell? ⟨N + 1 + 1,3,none⟩=some (.int .i64 0):=(cell_heap P4.out.res 3).trans rfl
    have f3:w4.frozen? ⟨N + 1 + 1,3,none⟩=false:=free_heap P4.out.res 3
    rcases hres with⟨hf,rfl⟩|⟨hf,bb,cc,hbb,hcc,rfl,hsp⟩
    ·have HF:=Lib.hid hf
     clear hf
     go_wp2_with fail
     refine bodyPost_ret (v:=.tuple #[supV sup0,.pointer none,.int .i64 17]) ?_ rfl ?_
     ·have hh:=set4 P4.out.res (.int .i64 0) (.int .i64 0) (.int .i64 0) (.int .i64 0)
      have g0:=(cell_heap hh 0).trans rfl
      have g1:=(cell_heap hh 1).trans rfl
      have g2:=(cell_heap hh 2).trans rfl
      have g3:=(cell_heap hh 3).trans rfl
      simp[results,Tryz.f82,go_sem,g0,g1,g2,g3,supV,sup0]
     ·refine⟨((((KF4.out.setCell (.inr HNW.out) _).setCell (.inr HNW.out) _).setCell (.inr HNW.out) _).setCell (.inr HNW.out) _),?_⟩
      rw[HSO.out,if_neg HOR.out,if_pos HF.out]
    ·have HF:Hid (¬fine p (ba x)=false):=by simp only[Hid];rw[hf];simp
     have HSP:=Lib.hid hsp
     have HBB:=Lib.hid hbb
     have HCC:=Lib.hid hcc
     clear hf hsp hbb hcc
     obtain⟨ro,hro⟩:∃ro:Int,ro=(a:Int) - 1:=⟨_,rfl⟩
     rw[←hro] at y1 HSO
     have HRO:=Lib.hid hro
     by_cases ha1:1≤a
     ·have hg:decide ((0:Int)≤ro)=true:=by simp;have:=HRO.out;omega
      clear hro
      have CS:=Lib.hid (State_calls HSP.out ro)
      by_cases hst:stAt (parsed p (ba x)) ro=1
      ·rw[hst] at CS
       have HN3:Hid (¬(1≤a∧stAt (parsed p (ba x)) ro ≠ 1)):=by simp only[Hid];rintro⟨_,h⟩;exact h hst
       clear hst
       go_wp2_with (go_at_call 66;refine CS.out.mono ?_;rintro e w5 ⟨rfl,rfl⟩)
       refine bodyPost_ret (v:=.tuple #[supV ⟨gen,ro,b,c⟩,.pointer (some ⟨bb,0,none⟩),.int .i64 0]) ?_ rfl ?_
       ·have hh:=set4 P4.out.res (.int .i64 gen) (.int .i64 ro) (.int .i64 b) (.int .i64 c)
        have g0:=(cell_heap hh 0).trans rfl
        have g1:=(cell_heap hh 1).trans rfl
        have g2:=(cell_heap hh 2).trans rfl
        have g3:=(cell_heap hh 3).trans rfl
        simp[results,Tryz.f82,go_sem,g0,g1,g2,g3,supV]
       ·refine⟨((((KF4.out.setCell (.inr HNW.out) _).setCell (.inr HNW.out) _).setCell (.inr HNW.out) _).setCell (.inr HNW.out) _),?_⟩
        rw[HSO.out,if_neg HOR.out,if_neg HF.out,if_neg HN3.out]
        refine⟨bb,cc,Nat.le_trans HSZ4.out HBB.out,Nat.le_trans HSZ4.out HCC.out,rfl,?_⟩
        have h1:=HSP.out
        have hr:=P4.out.res
        have n1:bb ≠ N + 1 + 1:=fun e=>ne_type h1.head hr (by decide) e
        have n2:cc ≠ N + 1 + 1:=fun e=>ne_type h1.row hr (by decide) e
        exact⟨heap_set_other (heap_set_other (heap_set_other (heap_set_other h1.head n1) n1) n1) n1,heap_set_other (heap_set_other (heap_set_other (heap_set_other h1.row n2) n2) n2) n2,h1.le,h1.len⟩
      ·have ht:(stAt (parsed p (ba x)) ro != 1)=true:=by simpa using hst
       have HN3:Hid (1≤a∧stAt (parsed p (ba x)) ro ≠ 1):=⟨ha1,hst⟩
       generalize stAt (parsed p (ba x)) ro=sv at *
       clear hst
       go_wp2_with (go_at_call 66;refine CS.out.mono ?_;rintro e w5 ⟨rfl,rfl⟩)
       refine bodyPost_ret (v:=.tuple #[supV sup0,.pointer none,.int .i64 17]) ?_ rfl ?_
       ·have hh:=set4 P4.out.res (.int .i64 0) (.int .i64 0) (.int .i64 0) (.int .i64 0)
        have g0:=(cell_heap hh 0).trans rfl
        have g1:=(cell_heap hh 1).trans rfl
        have g2:=(cell_heap hh 2).trans rfl
        have g3:=(cell_heap hh 3).trans rfl
        simp[results,Tryz.f82,go_sem,g0,g1,g2,g3,supV,sup0]
       ·refine⟨((((KF4.out.setCell (.inr HNW.out) _).setCell (.inr HNW.out) _).setCell (.inr HNW.out) _).setCell (.inr HNW.out) _),?_⟩
        rw[HSO.out,if_neg HOR.out,if_neg HF.out,if_pos HN3.out]
     ·have hg:decide ((0:Int)≤ro)=false:=by simp;have:=HRO.out;omega
      clear hro
      have HN3:Hid (¬(1≤a∧stAt (parsed p (ba x)) ro ≠ 1)):=by simp only[Hid];rintro⟨h,_⟩;exact ha1 h
      clear ha1
      go_wp2_with fail
      refine bodyPost_ret (v:=.tuple #[supV ⟨gen,ro,b,c⟩,.pointer (some ⟨bb,0,none⟩),.int .i64 0]) ?_ rfl ?_
      ·have hh:=set4 P4.out.res (.int .i64 gen) (.int .i64 ro) (.int .i64 b) (.int .i64 c)
       have g0:=(cell_heap hh 0).trans rfl
       have g1:=(cell_heap hh 1).trans rfl
       have g2:=(cell_heap hh 2).trans rfl
       have g3:=(cell_heap hh 3).trans rfl
       simp[results,Tryz.f82,go_sem,g0,g1,g2,g3,supV]
      ·refine⟨((((KF4.out.setCell (.inr HNW.out) _).setCell (.inr HNW.out) _).setCell (.inr HNW.out) _).setCell (.inr HNW.out) _),?_⟩
       rw[HSO.out,if_neg HOR.out,if_neg HF.out,if_neg HN3.out]
       refine⟨bb,cc,Nat.le_trans HSZ4.out HBB.out,Nat.le_trans HSZ4.out HCC.out,rfl,?_⟩
       have h1:=HSP.out
       have hr:=P4.out.res
       have n1:bb ≠ N + 1 + 1:=fun e=>ne_type h1.head hr (by decide) e
       have n2:cc ≠ N + 1 + 1:=fun e=>ne_type h1.row hr (by decide) e
       exact⟨heap_set_other (heap_set_other (heap_set_other (heap_set_other h1.head n1) n1) n1) n1,heap_set_other (heap_set_other (heap_set_other (heap_set_other h1.row n2) n2) n2) n2,h1.le,h1.len⟩
  ·have he':(er != 0)=true:=by simpa using he
   have HOR:Hid (er ≠ 0∨b < 1):=.inl he
   clear he
   have r0:w3.cell? ⟨N + 1 + 1,0,none⟩=some (.int .i64 0):=(cell_heap P3.out.res 0).trans rfl
   have f0:w3.frozen? ⟨N + 1 + 1,0,none⟩=false:=free_heap P3.out.res 0
   have r1:w3.cell? ⟨N + 1 + 1,1,none⟩=some (.int .i64 0):=(cell_heap P3.out.res 1).trans rfl
   have f1:w3.frozen? ⟨N + 1 + 1,1,none⟩=false:=free_heap P3.out.res 1
   have r2:w3.cell? ⟨N + 1 + 1,2,none⟩=some (.int .i64 0):=(cell_heap P3.out.res 2).trans rfl
   have f2:w3.frozen? ⟨N + 1 + 1,2,none⟩=false:=free_heap P3.out.res 2
   have r3:w3.cell? ⟨N + 1 + 1,3,none⟩=some (.int .i64 0):=(cell_heap P3.out.res 3).trans rfl
   have f3:w3.frozen? ⟨N + 1 + 1,3,none⟩=false:=free_heap P3.out.res 3
   go_wp2_with fail
   refine bodyPost_ret (v:=.tuple #[supV sup0,.pointer none,.int .i64 17]) ?_ rfl ?_
   ·have hh:=set4 P3.out.res (.int .i64 0) (.int .i64 0) (.int .i64 0) (.int .i64 0)
    have g0:=(cell_heap hh 0).trans rfl
    have g1:=(cell_heap hh 1).trans rfl
    have g2:=(cell_heap hh 2).trans rfl
    have g3:=(cell_heap hh 3).trans rfl
    simp[results,Tryz.f82,go_sem,g0,g1,g2,g3,supV,sup0]
   ·refine⟨((((KF3.out.setCell (.inr HNW.out) _).setCell (.inr HNW.out) _).setCell (.inr HNW.out) _).setCell (.inr HNW.out) _),?_⟩
    rw[HSO.out,if_pos HOR.out]
end Go.Proofs.YtfgjehecjgebdaaGreat
