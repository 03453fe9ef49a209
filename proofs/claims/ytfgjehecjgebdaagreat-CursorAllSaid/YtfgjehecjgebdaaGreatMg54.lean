/- CursorAll's walk. -/
import Derived.Test.YtfgjehecjgebdaaGreatMg53
namespace Go.Proofs.YtfgjehecjgebdaaGreat
open Go.RowKit Go.Maps Go.ChangeMaps
set_option maxRecDepth 100000
attribute [local go_sem] Oper.semAt_some
set_option maxHeartbeats 8000000 in
theorem cursorAll_walk {A:Option Addr} {len cap b0 off:Nat} {K N:Nat→Int} {S V:Nat→ByteArray} {w:World} (hm:len≤maxLen) (hA:Acts4 w A len b0 off K N S V) (fs:ByteArray) (hfs:fs.size≤maxLen) :
  Calls Tryz.prog 8 #[.slice A len cap,.string fs] w fun e w'=>e = .returned (.bool true)∧Kept (fun _=>False) w w':=by
 have CB:=Lib.hid (Build_calls (cap:=cap) hm hA)
 obtain⟨E,hE⟩:∃E,E=buildE K S V (min len 60):=⟨_,rfl⟩
 have HEL:Hid (E.length≤60):=by have:=buildE_len K S V (min len 60);show _≤_;rw[hE];omega
 rw[←hE] at CB
 have CC:=Lib.hid (fun w=>Cut_calls fs 30 w hfs (by omega))
 obtain⟨k,hk⟩:∃p,p=cutB fs 30:=⟨_,rfl⟩
 rw[cutB_ba, ←hk] at CC
 obtain⟨ks,hks⟩:∃s,s=ba k:=⟨_,rfl⟩
 have HKS:=Lib.hid hks
 rw[←hks] at CC
 obtain⟨L,hL⟩:∃L,L=fromE E k:=⟨_,rfl⟩
 have HLL:Hid (L.length≤60):=by have:=List.length_filter_le (fun e:KV => !decide (e.1 < k)) E;have:=HEL.out;show _≤_;rw[hL];exact Nat.le_trans ‹(E.filter _).length≤_› this
 have HLE:=Lib.hid hL
 clear hA hE hk hks hL hm hfs
 go_enter Tryz.func8,Tryz.ntmps8
 go_wp2_with fail
 refine CB.out.mono ?_
 rintro e w1 ⟨q,l,X,root,rfl,tw,te,el,hq,hlo,k1⟩
 obtain⟨Al,cl,rfl⟩:=el.en.slice
 have T1:=Lib.hid tw;have TT:=Lib.hid te;have E1:=Lib.hid el.en;have K1:=Lib.hid k1
 clear tw te el hq hlo k1 CB
 go_wp2_with fail
 refine(CC.out _).mono ?_
 rintro e w2 ⟨rfl,rfl⟩
 clear CC
 go_wp2_with fail
 refine(awake10_calls w1).mono ?_
 rintro e w2 ⟨rfl,k2⟩
 have T2:=Lib.hid (T1.out.keptF k2);have E2:=Lib.hid (E1.out.keptF k2);have K2:=Lib.hid (K1.out.trans k2)
 have CA:=Lib.hid (CurAt_calls T2.out TT.out.ti k)
 rw[←HKS.out, ←HLE.out] at CA
 clear k2 T1 E1 K1
 go_wp2_with fail
 refine CA.out.mono ?_
 rintro e w3 ⟨c,v,H,rfl,ca,k3,hv⟩
 obtain⟨B,hB⟩:∃B,B=w2.heap.size:=⟨_,rfl⟩
 have HB:=Lib.hid hB
 rw[←hB] at ca
 have C3:=Lib.hid ca;have HV:Hid (∀g,v.ownBlock=some g→B≤g):=by rw[hB];exact hv
 have HQ:Hid (q.In (· < B)):=by rw[hB];exact T2.out.low
 have T3:=Lib.hid (T2.out.keptF k3)
 have KW3:=Lib.hid k3
 have CR:=Lib.hid (refRange_calls (E2.out.keptF k3) (by have:=HEL.out;omega) k [] 1000)
 have HRG:Hid ((E.filter (inRg k [])).take (1000:Int).toNat=L):=by
  have h1:=rg_eq TT.out.ti.up k []
  have h2:upto [] (fromE E k)=fromE E k:=by rw[takeWhile_filter (show UpE (fromE E k) from TT.out.ti.up.filter _)];exact filt_all fun e _=>by simp
  show _=_
  rw[←h1,h2, ←HLE.out]
  exact List.take_of_length_le (by have:=HLL.out;show _≤1000;omega)
 rw[←HKS.out,HRG.out,show ba []=⟨#[]⟩ from rfl] at CR
 clear ca k3 hv CA hB E2 T2
 go_wp2_with fail
 refine CR.out.mono ?_
 rintro e w4 ⟨v4,rfl,er4,k4⟩
 obtain⟨A4,c4,rfl⟩:=er4.en.slice
 have R4:=Lib.hid er4
 have C4:Hid (CurAt X H L w4 B c q.t v):=by
  obtain⟨⟨s,h1,h2,h3⟩,h4⟩:=C3.out
  exact⟨⟨s,h1.keptF k4,h2,h3⟩,h4⟩
 have T4:=Lib.hid (T3.out.keptF k4)
 have K4:=Lib.hid ((K2.out.trans KW3.out).trans k4)
 have KB4:Hid (w.heap.size≤B∧B≤w4.heap.size):=⟨by have:=K2.out.size;have:=HB.out;omega,by have:=HB.out;have:=KW3.out.size;have:=k4.size;omega⟩
 obtain⟨n,hn⟩:∃n,n=L.length:=⟨_,rfl⟩
 have HN:=Lib.hid hn
 have hn60:n≤60:=by have:=HLL.out;omega
 rw[←hn] at R4⊢
 clear er4 k4 CR C3 T3 KW3 K2 hn
 go_wp2_with fail
 have NXT:Hid (∀(W:World) (L':List KV) (v':Value),CurAt X H L' W B c q.t v'→(∀g,v'.ownBlock=some g→B≤g)→ERow W 0 (.slice A4 n c4) L→Kept (fun _=>False) w W→Kept (fun k=>B≤k) w4 W →
   Calls Tryz.prog 49 #[.pointer (some ⟨c,0,none⟩)] W fun e W'=>e = .returned (nxV L') ∧ ∃v2,CurAt X H L'.tail W' B c q.t v2∧(∀g,v2.ownBlock=some g→B≤g)∧ERow W' 0 (.slice A4 n c4) L∧Kept (fun _=>False) w W'∧Kept (fun k=>B≤k) w4 W'∧(∀(g:Nat) (hd:Array Value) (T:TypeId),(T=75∨T=98)→W.heap[g]? = some (.cells hd T (0,0))→W'.heap[g]? = some (.cells hd T (0,0)))):=fun W L' v' ca hv er kw kb=>by
  have tw:=T4.out.keptS kb fun g hg e=>by have:=HQ.out g hg;omega
  refine(CurNext_calls tw ca HQ.out).mono ?_
  rintro e W' ⟨h1,v2,c2,k2,o2⟩
  obtain⟨⟨s,hc, -, -⟩, -⟩:=ca
  obtain⟨cs,hr, -⟩:=hc.stk
  have hge:∀i,CK c v' i→B≤i:=fun i e=>by
   rcases e with rfl|e
   ·exact hc.ge
   ·exact hv i e
  refine⟨h1,v2,c2,fun g hg=>?_,er.kept k2 fun g hg e=>?_,kw.then k2 fun i hi e=>?_,kb.then k2 fun i hi e=>hge i e,fun g hd T hT hg=>k2.heap hg fun e=>?_⟩
  ·rcases o2 with e|e
   ·exact hv g (e ▸ hg)
   ·have:=e g hg;have:=KB4.out;have:=kb.size;omega
  ·rcases e with e|e
   ·exact own_neH er hc.head (by decide) g hg e
   ·exact own_neT er hr (by decide) g hg e
  ·have:=hge i e;have:=KB4.out;omega
  ·rcases e with e|e
   ·have h1:=hc.head
    rw[←e,hg] at h1
    injection h1 with h1
    injection h1 with _ h1 _
    rcases hT with rfl|rfl<;>exact absurd h1 (by decide)
   ·exact own_neH hr hg (by rcases hT with rfl|rfl<;>decide) g e rfl
 have CKF:Hid (∀(W W':World) (L':List KV) (v':Value),CurAt X H L' W B c q.t v'→Kept (fun _=>False) W W'→CurAt X H L' W' B c q.t v'):=fun W W' L' v' ca k=>by
  obtain⟨⟨s,h1,h2,h3⟩,h4⟩:=ca
  exact⟨⟨s,h1.keptF k,h2,h3⟩,h4⟩
 go_loopw [51] (fun i wr=>∃(j:Nat) (v':Value),j≤n∧i = .int .i64 j∧Hid (CurAt X H (L.drop j) wr B c q.t v')∧Hid (∀g,v'.ownBlock=some g→B≤g)∧Hid (ERow wr 0 (.slice A4 n c4) L)∧Hid (Kept (fun _=>False) w wr)∧Hid (Kept (fun k=>B≤k) w4 wr)) (fun i _=>n - (RowKit.intOf i).toNat)
 case atStart=>exact⟨0,v,Nat.zero_le _,rfl,C4.out,HV.out,R4.out.base (Nat.zero_le _),K4.out,Kept.refl _ _⟩
 case round =>
  obtain⟨j,v',hj,rfl,CU,HV',RR,KW,KB⟩:=hrel
  by_cases hlt:j < n
  ·have hjE:j < L.length:=by have:=HN.out;omega
   obtain⟨b,o,c',e,hb,q1,q2⟩:=RR.out.en.at hjE
   injection e with e1 e2 e3
   subst e1
   clear e2 e3
   obtain⟨⟨ek,ev⟩,he⟩:∃x,x=L[j]:=⟨_,rfl⟩
   have HDR:Hid (L.drop j=(ek,ev) :: L.drop (j + 1)):=by show _=_;rw[he];exact List.drop_eq_getElem_cons hjE
   rw[←he] at q1 q2
   dsimp only[Ss] at q1 q2
   have CN:=Lib.hid fun(W:World) (kk:Kept (fun _=>False) wr W)=>NXT.out W _ v' (CKF.out _ _ _ _ CU.out kk) HV'.out (RR.out.keptF kk) (KW.out.trans kk) (KB.out.trans (kk.mono fun _ _=>False.elim))
   rw[HDR.out] at CN
   dsimp only[nxV,Ss,List.tail] at CN
   obtain⟨kx,hkx⟩:∃x,x=ba ek:=⟨_,rfl⟩
   obtain⟨vx,hvx⟩:∃x,x=ba ev:=⟨_,rfl⟩
   rw[←hkx] at q1 CN
   rw[←hvx] at q2 CN
   clear hkx hvx he hjE
   go_wp2_with fail
   refine(CN.out _ ((Kept.refl _ _).alloc _)).mono ?_
   rintro e w7 ⟨rfl,v7,c7,hv7,r7,k7,kb7,hh7⟩
   have hbx:=hh7 wr.heap.size _ _ (.inl rfl) (heap_new wr (.cells #[.string kx,.string vx] 75))
   have b0:w7.cell? ⟨wr.heap.size,0,none⟩=some (.string kx):=(cell_heap hbx 0).trans rfl
   have b1:w7.cell? ⟨wr.heap.size,1,none⟩=some (.string vx):=(cell_heap hbx 1).trans rfl
   have hbl:=lt_heap hbx
   have C7:=Lib.hid c7;have HV7:=Lib.hid hv7;have R7:=Lib.hid r7;have K7:=Lib.hid k7;have KB7:=Lib.hid kb7
   clear c7 hv7 r7 k7 kb7 hh7 CN q1 q2
   go_wp2_with fail
   go_roundw
   case rel=>exact⟨j + 1,v7,by omega,by go_num,CKF.out _ _ _ _ C7.out ((Kept.refl _ _).alloc _),HV7.out,R7.out.keptF ((Kept.refl _ _).alloc _),K7.out.alloc _,KB7.out.alloc _⟩
   case measure=>simp[RowKit.intOf];omega
  ·obtain rfl:j=n:=by omega
   have hL0:L.drop j = []:=List.drop_eq_nil_of_le (by have:=HN.out;omega)
   rw[hL0] at CU
   have CN:=Lib.hid (NXT.out _ _ _ CU.out HV'.out RR.out KW.out KB.out)
   dsimp only[nxV,List.tail] at CN
   go_wp2_with fail
   refine CN.out.mono ?_
   rintro e w7 ⟨rfl,v7,c7,hv7,r7,k7,kb7,hh7⟩
   have CN2:=Lib.hid (NXT.out _ _ _ (CKF.out _ _ _ _ c7 ((Kept.refl _ _).alloc (.cells #[.string ⟨#[]⟩,.string ⟨#[]⟩] 98))) hv7 (r7.keptF ((Kept.refl _ _).alloc _)) (k7.alloc _) (kb7.alloc _))
   dsimp only[nxV,List.tail] at CN2
   clear c7 hv7 r7 k7 kb7 hh7 CN
   go_wp2_with fail
   refine CN2.out.mono ?_
   rintro e w8 ⟨rfl,v8,c8,hv8,r8,k8,kb8,hh8⟩
   have hbx:=hh8 w7.heap.size _ _ (.inr rfl) (heap_new w7 (.cells #[.string ⟨#[]⟩,.string ⟨#[]⟩] 98))
   have b0:w8.cell? ⟨w7.heap.size,0,none⟩=some (.string ⟨#[]⟩):=(cell_heap hbx 0).trans rfl
   have b1:w8.cell? ⟨w7.heap.size,1,none⟩=some (.string ⟨#[]⟩):=(cell_heap hbx 1).trans rfl
   have hbl:=lt_heap hbx
   have K8:=Lib.hid k8
   clear c8 hv8 r8 k8 kb8 hh8 CN2
   go_wp2
   refine bodyPost_ret (v:=.bool true) (by simp[results,Tryz.f8,go_sem]) rfl ?_
   exact⟨rfl,K8.out.alloc _⟩
end Go.Proofs.YtfgjehecjgebdaaGreat
