/- A cursor's next entry. -/
import Derived.Test.YtfgjehecjgebdaaGreatMg49
namespace Go.Proofs.YtfgjehecjgebdaaGreat
open Go.RowKit Go.Maps Go.ChangeMaps
set_option maxHeartbeats 4000000
set_option maxRecDepth 100000
attribute [local go_sem] Oper.semAt_some
def nxV:List KV→Value
 | []=>.tuple #[.agg #[.string ⟨#[]⟩,.string ⟨#[]⟩],.bool false,.int .i64 0]
 | x :: _=>.tuple #[.agg #[Ss x.1,Ss x.2],.bool true,.int .i64 0]
structure CurAt (X:Sto) (H:Nat) (E:List KV) (w:World) (B c t:Nat) (v:Value):Prop where
 cur:∃s,IsCur w B c t v s∧StkOk X H s∧stkE X H s=E
 h:H≤11
def NextTo (X:Sto) (H:Nat) (E:List KV) (w:World) (B c t:Nat) (v:Value) (e:Ending) (w':World):Prop :=
 e = .returned (nxV E) ∧ ∃v',CurAt X H E.tail w' B c t v'∧Kept (CK c v) w w'∧(v'.ownBlock=v.ownBlock ∨ ∀g,v'.ownBlock=some g→w.heap.size≤g)
theorem IsCur.keptR {w w':World} {B c t v s} (h:IsCur w B c t v s) {R:Nat} {hd:Array Value} (hh:w.heap[R]? = some (.cells hd 98 (0,0))) (k:Kept (· = R) w w'):IsCur w' B c t v s:=by
 have hc:R ≠ c:=fun e=>by
  have h1:=h.head
  rw[←e,hh] at h1
  injection h1 with h1
  injection h1 with _ h1 _
  exact absurd h1 (by decide)
 refine⟨k.heap h.head fun e=>hc e.symm,?_,h.ge⟩
 obtain⟨cs,hr,_⟩:=h.stk
 refine h.stk.kept k (fun g hg e=>own_neH hr hh (by decide) g hg e) fun n u hn=>?_
 obtain⟨Ak,ck,Av,cv,Ai,ci,rfl,r1,r2,r3⟩:=hn
 exact⟨Ak,ck,Av,cv,Ai,ci,rfl,SRow.kept r1 k fun g hg e=>own_neH r1 hh (by decide) g hg e,SRow.kept r2 k fun g hg e=>own_neH r2 hh (by decide) g hg e,IRow.kept r3 k fun g hg e=>own_neH r3 hh (by decide) g hg e⟩
theorem nd_rows {w:World} {B:Nat} {l:Bool} {A1 A2 A3:Option Addr} {n1 c1 n2 c2 n3 c3:Nat} {n:Nd} (h:IsNd w B (.agg #[.bool l,.slice A1 n1 c1,.slice A2 n2 c2,.slice A3 n3 c3]) n):SRow w B (.slice A1 n1 c1) n.keys∧SRow w B (.slice A2 n2 c2) n.vals∧IRow w B (.slice A3 n3 c3) n.kids:=by
 obtain⟨Ak,ck,Av,cv,Ai,ci,e,h1,h2,h3⟩:=h
 unfold ndV at e
 injection e with e
 injection e with e
 injection e with e0 e
 injection e with e1 e
 injection e with e2 e
 injection e with e3 e
 rw[e1,e2,e3]
 exact⟨h1,h2,h3⟩
theorem ready_snoc {s0:List Fr} {f:Fr} (h:Ready (s0 ++ [f])):f.1.leaf=true∧f.2 < f.1.keys.length:=by
 obtain⟨s1,f1,e,h1,h2⟩:=h
 obtain⟨-,e⟩:=List.append_inj' e rfl
 injection e with e
 subst e
 exact⟨h1,h2⟩
theorem snoc_cases {α : Type} (l:List α):l = [] ∨ ∃a x,l=a ++ [x]:=by
 rcases List.eq_nil_or_concat l with h|⟨a,x,h⟩
 ·exact .inl h
 ·exact .inr ⟨a,x,by rw[h,List.concat_eq_append]⟩
theorem CurNext_calls {w q X r B c v H E} (tw:TW w q X r) (cu:CurAt X H E w B c q.t v) (hq:q.In (· < B)) :
  Calls Tryz.prog 49 #[.pointer (some ⟨c,0,none⟩)] w (NextTo X H E w B c q.t v):=by
 obtain⟨⟨s,hc,hs,hE⟩,hH⟩:=cu
 have HT:=Lib.hid fun w' v' s' (c':IsCur w B c q.t v' s') (k':Kept (CK c v') w w')=>tw.keptC c' hq k'
 have HTW:=Lib.hid tw;have HC:=Lib.hid hc;have HQ:=Lib.hid hq;have HS:=Lib.hid hs;have HE:=Lib.hid hE
 have HSL:Hid (s.length≤12):=by have:=stk_len s H hs;show _≤_;omega
 obtain⟨t,ht⟩:∃t,t=q.t:=⟨_,rfl⟩
 have HTE:=Lib.hid ht
 rw[←ht] at HC⊢
 clear hc hs hE tw hq ht
 go_enter Tryz.func49,Tryz.ntmps49
 go_wp2
 obtain⟨R,hR⟩:∃R,R=w.heap.size:=⟨_,rfl⟩
 obtain⟨w0,hw0⟩:∃w0,w0=w.alloc (.cells #[.string ⟨#[]⟩,.string ⟨#[]⟩] 98):=⟨_,rfl⟩
 have K0:Hid (Kept (fun _=>False) w w0):=by rw[hw0];exact(Kept.refl _ _).alloc _
 have HR0:Hid (w0.heap[R]? = some (.cells #[.string ⟨#[]⟩,.string ⟨#[]⟩] 98 (0,0))):=by show _=_;rw[hw0,hR];exact heap_new w _
 rw[←hw0, ←hR]
 have HRR:=Lib.hid hR
 have HRC:Hid (R ≠ c):=by have:=lt_heap HC.out.head;show _ ≠ _;omega
 clear hw0 hR
 go_loopg [5] (s.length + 1) (fun g _ wr=>∃(s':List Fr) (v':Value),Hid (IsCur wr B c t v' s')∧Hid (StkOk X H s'∧stkE X H s'=E∧(Ready s'∨s'.length + 1≤g))∧Hid (Kept (CK c v) w wr∧(v'.ownBlock=v.ownBlock ∨ ∀g,v'.ownBlock=some g→w.heap.size≤g))∧Hid (wr.heap[R]? = some (.cells #[.string ⟨#[]⟩,.string ⟨#[]⟩] 98 (0,0))))
 case atStart=>exact⟨s,v,HC.out.keptF K0.out,⟨HS.out,HE.out,.inr (Nat.le_refl _)⟩,⟨K0.out.mono fun _ _=>False.elim,.inl rfl⟩,HR0.out⟩
 case round =>
  obtain⟨s',v',cr,hs',hk,hr⟩:=hrel
  obtain⟨A6,c6,rfl⟩:=cr.out.stk.slice
  have hrl:=lt_heap hr.out
  have rf:∀i,wr.frozen? ⟨R,i,none⟩=false:=fun i=>free_heap hr.out i
  have r0:wr.cell? ⟨R,0,none⟩=some (.string ⟨#[]⟩):=(cell_heap hr.out 0).trans rfl
  have r1:wr.cell? ⟨R,1,none⟩=some (.string ⟨#[]⟩):=(cell_heap hr.out 1).trans rfl
  obtain⟨a0,a1,af,acl⟩:=cr.out.cells
  rcases snoc_cases s' with rfl|⟨s0,f,rfl⟩
  ·have HE0:Hid (E = []):=hs'.out.2.1.symm
   go_wp2
   have hb:((wr.setCell ⟨R,0,none⟩ (.string ⟨#[]⟩)).setCell ⟨R,1,none⟩ (.string ⟨#[]⟩)).heap[R]? = some (.cells #[.string ⟨#[]⟩,.string ⟨#[]⟩] 98 (0,0)):=by rw[heap_set (heap_set hr.out 0 _) 1 _];rfl
   have q0:=(cell_heap hb 0).trans rfl
   have q1:=(cell_heap hb 1).trans rfl
   have kk:Kept (fun k=>k=R) wr ((wr.setCell ⟨R,0,none⟩ (.string ⟨#[]⟩)).setCell ⟨R,1,none⟩ (.string ⟨#[]⟩)):=((Kept.refl _ _).set1 0 _).set1 1 _
   refine bodyPost_ret (v:=.tuple #[.agg #[.string ⟨#[]⟩,.string ⟨#[]⟩],.bool false,.int .i64 0]) (by simp[results,Tryz.f49,go_sem,q0,q1]) rfl ?_
   refine⟨by rw[HE0.out];rfl,_,⟨⟨[],cr.out.keptR hr.out kk,hs'.out.1,by rw[HE0.out];rfl⟩,hH⟩,hk.out.1.then kk fun i hi e=>?_,hk.out.2⟩
   have:=HRR.out
   omega
  ·obtain⟨n,hn⟩:∃n,n=s0.length:=⟨_,rfl⟩
   rw[show(s0 ++ [f]).length=n + 1 by rw[hn];simp] at cr hk a1
   obtain⟨g5,v0,v1,v2,v3,rfl,hcap,hgl,HN,p0,p1,p2,p3,p4,pf,hgc,hnd,HST⟩:=cur_top cr.out hn
   obtain⟨l,A1,n1,c1,A2,n2,c2,A3,n3,c3,e,HNE,N1,R1,R2,R3⟩:=HN.out.opened
   injection e with e
   injection e with e
   injection e with e0 e
   injection e with e1 e
   injection e with e2 e
   injection e with e3 e
   subst e0 e1 e2 e3
   clear e
   obtain⟨fn,fa⟩:=f
   dsimp only at p4 HN HNE N1 R1 R2 R3 HST
   have HNN:=Lib.hid hn
   have n12:n≤12:=by have:=stk_len _ H hs'.out.1;simp at this;omega
   clear hn
   go_wp2_with fail
   go_quiet (fail)
   go_wp2_with fail
   have CL:=Lib.hid fun w' (kk:Kept (fun _=>False) wr w')=>NdLen_calls (N1.out.kept kk)
   go_region_held3 (fun w'=>w'.cell? ⟨g5,n * 5,none⟩=some (.bool l)∧w'.cell? ⟨g5,n * 5 + 1,none⟩=some (.slice A1 n1 c1)∧w'.cell? ⟨g5,n * 5 + 2,none⟩=some (.slice A2 n2 c2)∧w'.cell? ⟨g5,n * 5 + 3,none⟩=some (.slice A3 n3 c3)∧w'.cell? ⟨g5,n * 5 + 4,none⟩=some (.int .i64 (fa:Nat))) (go_keep)
    (first
     | (go_at_call 86;refine(CL.out _ (by repeat (first|exact Kept.refl _ _|refine Kept.drew ?_|refine Kept.drewN ?_ _))).mono ?_;rintro e w7 ⟨rfl,k7⟩;have K7:Hid (Kept (fun _=>False) wr w7):=Kept.trans (by repeat (first|exact Kept.refl _ _|refine Kept.drew ?_|refine Kept.drewN ?_ _)) k7;have x0:w7.cell? ⟨g5,n * 5,none⟩=some (.bool l):=(World.cell?_of_block (K7.out.block g5 hgl not_false)).trans p0;have x1:w7.cell? ⟨g5,n * 5 + 1,none⟩=some (.slice A1 n1 c1):=(World.cell?_of_block (K7.out.block g5 hgl not_false)).trans p1;have x2:w7.cell? ⟨g5,n * 5 + 2,none⟩=some (.slice A2 n2 c2):=(World.cell?_of_block (K7.out.block g5 hgl not_false)).trans p2;have x3:w7.cell? ⟨g5,n * 5 + 3,none⟩=some (.slice A3 n3 c3):=(World.cell?_of_block (K7.out.block g5 hgl not_false)).trans p3;have x4:w7.cell? ⟨g5,n * 5 + 4,none⟩=some (.int .i64 (fa:Nat)):=(World.cell?_of_block (K7.out.block g5 hgl not_false)).trans p4;clear k7))
   have C7:=Lib.hid (cr.out.keptF K7.out)
   have hr7:=Lib.hid (K7.out.heap hr.out not_false)
   have K07:=Lib.hid (hk.out.1.trans (K7.out.mono fun _ _=>False.elim))
   clear p0 p1 p2 p3 p4 pf HST hnd R1 R2 R3 N1 HN CL hgl a0 a1 af acl r0 r1 rf hrl
   obtain⟨g',u0,u1,u2,u3,eg, -,hgl,HN,p0,p1,p2,p3,p4,pf, -,hnd,HST⟩:=cur_top C7.out HNN.out
   obtain⟨eg, -⟩:=Addr.mk.inj (Option.some.inj eg)
   subst eg
   rw[p0] at x0
   rw[p1] at x1
   rw[p2] at x2
   rw[p3] at x3
   obtain rfl:=Option.some.inj x0
   obtain rfl:=Option.some.inj x1
   obtain rfl:=Option.some.inj x2
   obtain rfl:=Option.some.inj x3
   dsimp only at p4 HST HN
   clear x0 x1 x2 x3 x4
   have hrl:=lt_heap hr7.out
   have rf:∀i,w7.frozen? ⟨R,i,none⟩=false:=fun i=>free_heap hr7.out i
   have r0:w7.cell? ⟨R,0,none⟩=some (.string ⟨#[]⟩):=(cell_heap hr7.out 0).trans rfl
   have r1:w7.cell? ⟨R,1,none⟩=some (.string ⟨#[]⟩):=(cell_heap hr7.out 1).trans rfl
   obtain⟨a0,a1,af,acl⟩:=C7.out.cells
   obtain⟨nl,hnl⟩:∃m,m=fn.len:=⟨_,rfl⟩
   rw[←hnl]
   have HNL:=Lib.hid hnl
   clear hnl
   have hcap2:n≤c6:=by omega
   have hcap3:(n:Int)≤(c6:Int):=by omega
   have HRG:Hid (g5 ≠ R):=by
    obtain⟨cs,hrw, -⟩:=C7.out.stk
    exact own_neH hrw hr7.out (by decide) g5 rfl
   have hwn:IntKind.i64.wrap (n:Int)=(n:Int):=by rw[IntKind.wrap_i64];omega
   by_cases hpop:nl≤fa
   ·have NP:=Lib.hid (next_pop hs'.out.1 (by have:=HNL.out;simp only;omega))
    go_wp2_with fail
    refine wp_region_z 14 (fun w'=>w'.cell? ⟨c,1,none⟩=some (.slice (some ⟨g5,0,none⟩) (n + 1) c6)) (by kernel_rfl) a1 (fun hC=>?_)
    refine tz 0 (h:=?_)
    (try simp only[lits])
    refine tz 1 (h:=?_)
    (try simp only[lits])
    refine tz 2 (h:=?_)
    (try simp only[lits])
    refine tz 3 (h:=?_)
    (try simp only[lits])
    refine tz 4 (h:=?_)
    (try simp only[lits])
    refine tz 5 (h:=?_)
    (try simp only[lits])
    refine tz 6 (h:=?_)
    (try simp only[lits])
    refine tz 7 (h:=?_)
    (try simp only[lits])
    refine tz 8 (h:=?_)
    (try simp only[lits])
    refine tz 9 (h:=?_)
    (try simp only[lits])
    refine tz 10 (h:=?_)
    (try simp only[lits])
    refine tz 11 (h:=?_)
    (try simp only[lits])
    refine wpAnyZ_one (i:=12) (by kernel_rfl) rfl (fun K hK=>?_)
    go_simp
    refine hK.out _ _ (fun _=>hC) ?_
    clear hK
    (try simp only[lits])
    refine wpAnyZ_one (i:=13) (by kernel_rfl) rfl (fun K hK=>?_)
    go_simp
    refine hK.out _ _ (fun _=>hC) ?_
    clear hK
    (try simp only[lits])
    refine wpAnyZ_one (i:=14) (by kernel_rfl) rfl (fun K hK=>?_)
    go_simp
    refine hK.out _ _ (fun h=>by cases h) ?_
    clear hK hC
    (try simp only[lits])
    refine wpAnyZ_done (by kernel_rfl) ?_ _
    have HG:Hid (n + 2≤gk):=by
     rcases hs'.out.2.2 with h|h
     ·obtain⟨h1,h2⟩:=ready_snoc h
      have:=HNL.out
      simp only[Nd.len] at *
      rw[h1] at this
      simp at this
      omega
     ·have:=HNN.out
      rw[List.length_append,List.length_singleton] at h
      show _≤_
      omega
    obtain⟨cp,kp⟩:=cur_pop C7.out HNN.out
    have C8:=Lib.hid (cp.keptF (Kept.refl _ _).drew)
    have K8:=Lib.hid (ck_then K07.out hk.out.2 kp.drew (v2:=.slice (some ⟨g5,0,none⟩) n c6) (.inl rfl))
    have HR8:=Lib.hid (heap_set_other (a:=⟨c,1,none⟩) (v:=.slice (some ⟨g5,0,none⟩) n c6) hr7.out HRC.out)
    have HE8:Hid (StkOk X H s0∧stkE X H s0=E∧(Ready s0∨s0.length + 1≤gk - 1)):=⟨NP.out.1,NP.out.2.trans hs'.out.2.1,.inr (by have:=HG.out;have:=HNN.out;omega)⟩
    clear cp kp
    go_wp2
    go_roundg (gk - 1)
    case measure=>have:=HG.out;omega
    case rel=>exact⟨s0,_,C8,HE8,K8,HR8⟩
   ·by_cases hl:l=true
    ·subst hl
     have NX:=Lib.hid (next_leaf hs'.out.1 (by have:=HNL.out;simp only;omega) HNE.out.1.symm)
     obtain⟨x1,x2,x3,x4⟩:=NX.out
     dsimp only at x3 x4
     obtain⟨rk,rv, -⟩:=nd_rows HN.out
     obtain⟨gx,ck',ek⟩:=own_form rk (by omega)
     injection ek with ek1 ek2 ek3
     subst ek1
     obtain⟨gv,cv',ev⟩:=own_form rv (by omega)
     injection ev with ev1 ev2 ev3
     subst ev1
     have hk1:fa < n1:=by have:=HNE.out.2.1;omega
     have hk2:fa < n2:=by have:=HNE.out.2.2.1;omega
     obtain⟨kx,hkx⟩:∃x,x=ba (fn.keys.getD fa []):=⟨_,rfl⟩
     obtain⟨vx,hvx⟩:∃x,x=ba (fn.vals.getD fa []):=⟨_,rfl⟩
     have y1:w7.cell? ⟨gx,fa,none⟩=some (.string kx):=by rw[SRow.at_ rk x3,hkx];simp[Ss,List.getD,x3]
     have y2:w7.cell? ⟨gv,fa,none⟩=some (.string vx):=by rw[SRow.at_ rv x4,hvx];simp[Ss,List.getD,x4]
     have HKX:=Lib.hid hkx;have HVX:=Lib.hid hvx
     have hgx:=own_lt rk rfl
     have hgv:=own_lt rv rfl
     have hf9:fa≤100:=by have:=((stkOk_snoc s0 (fn,fa) H).1 hs'.out.1).2.2.1.sm.k;simp only at this;omega
     clear ek2 ek3 ev2 ev3 hkx hvx x1 x2 x3 x4 rk rv
     go_wp2_with fail
     refine wp_region_z 24 (fun w'=>w'.cell? ⟨g5,n * 5 + 1,none⟩=some (.slice (some ⟨gx,0,none⟩) n1 c1)∧w'.cell? ⟨g5,n * 5 + 2,none⟩=some (.slice (some ⟨gv,0,none⟩) n2 c2)∧w'.cell? ⟨g5,n * 5 + 4,none⟩=some (.int .i64 (fa:Nat))∧w'.cell? ⟨gx,fa,none⟩=some (.string kx)∧w'.cell? ⟨gv,fa,none⟩=some (.string vx)) (by kernel_rfl) ⟨p1,p2,p4,y1,y2⟩ (fun hC=>?_)
     refine tz 0 (h:=?_)
     (try simp only[lits])
     refine tz 1 (h:=?_)
     (try simp only[lits])
     refine tz 2 (h:=?_)
     (try simp only[lits])
     refine tz 3 (h:=?_)
     (try simp only[lits])
     refine tz 4 (h:=?_)
     (try simp only[lits])
     refine tz 5 (h:=?_)
     (try simp only[lits])
     refine tz 6 (h:=?_)
     (try simp only[lits])
     refine tz 7 (h:=?_)
     (try simp only[lits])
     refine tz 8 (h:=?_)
     (try simp only[lits])
     refine tz 9 (h:=?_)
     (try simp only[lits])
     refine tz 10 (h:=?_)
     (try simp only[lits])
     refine tz 11 (h:=?_)
     (try simp only[lits])
     refine tz 12 (h:=?_)
     (try simp only[lits])
     refine tz 13 (h:=?_)
     (try simp only[lits])
     refine tz 14 (h:=?_)
     (try simp only[lits])
     refine tz 15 (h:=?_)
     (try simp only[lits])
     refine tz 16 (h:=?_)
     (try simp only[lits])
     refine tz 17 (h:=?_)
     (try simp only[lits])
     refine tz 18 (h:=?_)
     (try simp only[lits])
     refine tz 19 (h:=?_)
     (try simp only[lits])
     refine tz 20 (h:=?_)
     (try simp only[lits])
     refine tz 21 (h:=?_)
     (try simp only[lits])
     refine tz 22 (h:=?_)
     (try simp only[lits])
     refine wpAnyZ_one (i:=23) (by kernel_rfl) rfl (fun K hK=>?_)
     go_simp
     have kA:=Lib.hid (((Kept.refl (fun _=>False) w7).alloc (.cells #[.string ⟨#[]⟩,.string ⟨#[]⟩] 98)).drew)
     have hCa:Hid (∀W:World,Kept (fun _=>False) w7 W→W.cell? ⟨g5,n * 5 + 1,none⟩=some (.slice (some ⟨gx,0,none⟩) n1 c1)∧W.cell? ⟨g5,n * 5 + 2,none⟩=some (.slice (some ⟨gv,0,none⟩) n2 c2)∧W.cell? ⟨g5,n * 5 + 4,none⟩=some (.int .i64 (fa:Nat))∧W.cell? ⟨gx,fa,none⟩=some (.string kx)∧W.cell? ⟨gv,fa,none⟩=some (.string vx)):=fun W kk =>
      ⟨(World.cell?_of_block (kk.block g5 hgl not_false)).trans p1,(World.cell?_of_block (kk.block g5 hgl not_false)).trans p2,(World.cell?_of_block (kk.block g5 hgl not_false)).trans p4,(World.cell?_of_block (kk.block gx hgx not_false)).trans y1,(World.cell?_of_block (kk.block gv hgv not_false)).trans y2⟩
     refine hK.out _ _ (fun _=>hCa.out _ kA.out) ?_
     clear hK hC
     (try simp only[lits])
     refine wpAnyZ_one (i:=24) (by kernel_rfl) rfl (fun K hK=>?_)
     go_simp
     refine hK.out _ _ (fun h=>by cases h) ?_
     clear hK
     (try simp only[lits])
     refine wpAnyZ_done (by kernel_rfl) ?_ _
     go_wp2
     have hr9:=heap_set_other (a:=⟨g5,n * 5 + 4,none⟩) (v:=.int .i64 ((fa + 1:Nat):Int)) hr7.out (fun e=>HRG.out e.symm)
     obtain⟨c9,k9⟩:=HST.out
     have kk:Kept (fun k=>k=R) (w7.setCell ⟨g5,n * 5 + 4,none⟩ (.int .i64 ((fa + 1:Nat):Int))) (((w7.setCell ⟨g5,n * 5 + 4,none⟩ (.int .i64 ((fa + 1:Nat):Int))).setCell ⟨R,0,none⟩ (.string kx)).setCell ⟨R,1,none⟩ (.string vx)):=((Kept.refl _ _).set1 0 _).set1 1 _
     have kz:Kept (fun _=>False) (((w7.setCell ⟨g5,n * 5 + 4,none⟩ (.int .i64 ((fa + 1:Nat):Int))).setCell ⟨R,0,none⟩ (.string kx)).setCell ⟨R,1,none⟩ (.string vx)) (((((w7.setCell ⟨g5,n * 5 + 4,none⟩ (.int .i64 ((fa + 1:Nat):Int))).setCell ⟨R,0,none⟩ (.string kx)).setCell ⟨R,1,none⟩ (.string vx)).alloc (.cells #[.string kx,.string vx] 98)).drew):=((Kept.refl _ _).alloc _).drew
     have hb:=kz.heap (heap_set (heap_set hr9 0 (.string kx)) 1 (.string vx)) not_false
     have q0:=(cell_heap hb 0).trans rfl
     have q1:=(cell_heap hb 1).trans rfl
     rw[show(((fa + 1:Nat)):Int)=(fa:Int) + 1 from rfl] at q0 q1
     obtain⟨k10,o10⟩:=ck_then K07.out hk.out.2 k9 (v2:=.slice (some ⟨g5,0,none⟩) (n + 1) c6) (.inl rfl)
     have k11:=k10.then kk fun i hi e=>by have:=HRR.out;omega
     have hE1:=hs'.out.2.1.symm.trans NX.out.2.1
     refine bodyPost_ret (v:=.tuple #[.agg #[.string kx,.string vx],.bool true,.int .i64 0]) (by simp[results,Tryz.f49,go_sem,q0,q1]) rfl ?_
     rw[hE1]
     refine⟨by rw[HKX.out,HVX.out];rfl,_,⟨⟨_,(c9.keptR hr9 kk).keptF kz,NX.out.1,rfl⟩,hH⟩,k11.trans (kz.mono fun _ _=>False.elim),o10⟩
    ·have hl':l=false:=by simpa using hl
     subst hl'
     clear hl
     have NX:=Lib.hid (next_inner hs'.out.1 (by have:=HNL.out;simp only;omega) HNE.out.1.symm)
     obtain⟨x1,x2,j,x3,⟨lo,hi,x4⟩,x5,x6,x7,x8⟩:=NX.out
     dsimp only at x1 x2 x4 x5 x6 x7 x8
     obtain⟨-, -,ri⟩:=nd_rows HN.out
     obtain⟨g3,c3',e3⟩:=own_form ri (by omega)
     injection e3 with e3 _ _
     subst e3
     have hk1:fa < n3:=by have:=HNE.out.2.2.2;omega
     have hf9:fa≤100:=by have:=(hs'.out.1);have:=((stkOk_snoc s0 (fn,fa) H).1 hs'.out.1).2.2.1.sm.i;simp only at this;omega
     obtain⟨kid,hkid⟩:∃x,x=fn.kids.getD fa 0:=⟨_,rfl⟩
     have y1:w7.cell? ⟨g3,fa,none⟩=some (.int .i64 (kid:Nat)):=by rw[IRow.atI ri x1,hkid];simp[x1]
     rw[←hkid] at x2 x4 x6 x7 x8 NX
     have HX:=Lib.hid (And.intro x6 (And.intro x7 x8))
     have h12:(s0 ++ [((fn,fa + 1):Fr)]).length + j + 1≤12:=by omega
     clear hkid x1 x3 x5 x6 x7 x8 NX ri
     go_wp2_with fail
     go_quiet (fail)
     go_wp2_with fail
     obtain⟨g9,_,_,_,_,e9, -, -, -, -, -, -, -, -, -, -, -,H9⟩:=cur_top (C7.out.keptF ((Kept.refl _ w7).drewN nq)) HNN.out
     obtain⟨e9, -⟩:=Addr.mk.inj (Option.some.inj e9)
     subst e9
     obtain⟨c9,k9⟩:=H9.out
     have K9:=Lib.hid (ck_then (K07.out.trans ((Kept.refl _ w7).drewN nq)) hk.out.2 k9 (v2:=.slice (some ⟨g5,0,none⟩) (n + 1) c6) (.inl rfl))
     have C9:=Lib.hid c9
     have T9:Hid (TW ((w7.drewN nq).setCell ⟨g5,n * 5 + 4,none⟩ (.int .i64 ((fa + 1:Nat):Int))) q X r):=HT.out _ _ _ (by rw[←HTE.out];exact HC.out) K9.out.1
     rw[HTE.out] at C9
     have CD:=Lib.hid (CurDown_calls T9.out C9.out HQ.out [] x2 x4 h12)
     rw[←HTE.out] at CD
     have R9:=Lib.hid (heap_set_other (a:=⟨g5,n * 5 + 4,none⟩) (v:=.int .i64 ((fa + 1:Nat):Int)) (((Kept.refl (fun _=>False) w7).drewN nq).heap hr7.out not_false) (fun e=>HRG.out e.symm))
     clear c9 k9 H9
     refine CD.out.mono ?_
     rintro e w9 ⟨rfl,v9,c9,k9,o9⟩
     have K10:=Lib.hid (ck_then K9.out.1 K9.out.2 k9 o9)
     have C10:=Lib.hid c9
     have R10:=Lib.hid (k9.heap R9.out (fun e=>by
      rcases e with e|e
      ·exact HRC.out e
      ·exact HRG.out (Option.some.inj e)))
     have HG:Hid (n + 2≤gk):=by
      rcases hs'.out.2.2 with h|h
      ·have h1:=(ready_snoc h).1
       dsimp only at h1
       rw[←HNE.out.1] at h1
       cases h1
      ·have:=HNN.out
       rw[List.length_append,List.length_singleton] at h
       show _≤_
       omega
     have HE10:=Lib.hid (And.intro HX.out.1 (And.intro (HX.out.2.1.trans hs'.out.2.1) (Or.inl (b:=(s0 ++ [((fn,fa + 1):Fr)] ++ dwnC X [] j (X.nd kid)).length + 1≤gk - 1) HX.out.2.2)))
     clear c9 k9 o9 CD
     go_wp2
     go_roundg (gk - 1)
     case measure=>have:=HG.out;omega
     case rel=>exact⟨_,v9,C10,HE10,K10,R10⟩
end Go.Proofs.YtfgjehecjgebdaaGreat
