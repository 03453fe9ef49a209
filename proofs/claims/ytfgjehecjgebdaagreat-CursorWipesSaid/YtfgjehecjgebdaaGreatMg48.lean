/- The laws of 10: Build. -/
import Derived.Test.YtfgjehecjgebdaaGreatMg44
import Derived.Test.YtfgjehecjgebdaaGreatMg46
import Derived.Test.YtfgjehecjgebdaaGreatMg11
import Derived.StillTactics
namespace Go.Proofs.YtfgjehecjgebdaaGreat
open Go.RowKit Go.Maps Go.ChangeMaps
attribute [local go_sem] Oper.semAt_some
def cutB (s:ByteArray) (n:Nat):Bs:=(cutTo s n).data.toList
theorem cutB_ba (s:ByteArray) (n:Nat):cutTo s n=ba (cutB s n):=rfl
theorem cutB_len (s:ByteArray) (n:Nat):(cutB s n).length≤n:=by
 have h:=cutTo_size s n
 rw[cutB_ba,ba_size] at h
 exact h
def buildE (K:Nat→Int) (S V:Nat→ByteArray):Nat→List KV
 | 0 => []
 | n + 1=>if K n=2 then delE (buildE K S V n) (cutB (S n) 24) else insE (buildE K S V n) (cutB (S n) 24) (cutB (V n) 32)
theorem buildE_len (K:Nat→Int) (S V:Nat→ByteArray):∀n,(buildE K S V n).length≤n
 | 0=>by simp[buildE]
 | n + 1=>by
  unfold buildE
  have:=buildE_len K S V n
  split
  ·have:=delE_le (buildE K S V n) (cutB (S n) 24);omega
  ·have:=insE_len (buildE K S V n) (cutB (S n) 24) (cutB (V n) 32);omega
theorem TE.del' {X:Sto} {root:Int} {E:List KV} (t:TE X root E) (k:Bs) (hn:E.length≤116):∃b root' X',delT X root k=(b,0,root',X')∧TE X' root' (delE E k):=by
 rcases delT_ok (k:=k) t.ti with⟨h,h2⟩|⟨h,_⟩
 ·refine⟨_,_,_,h2,?_⟩
  have:delE E k=E:=filt_all fun e he=>by
   have:=List.find?_eq_none.1 h e he
   simpa using this
  rw[this];exact t
 ·obtain⟨r,X',h1,h2⟩:=t.del h hn
  exact⟨_,r,X',h1,h2⟩
def BuildTo (E:List KV) (w:World) (e:Ending) (w':World):Prop :=
 ∃q l X root,e = .returned (.tuple #[.pointer (some ⟨q.t,0,none⟩),l,.bool true])∧TW w' q X root∧TE X root E∧ERow w' w.heap.size l E∧q.In (w.heap.size ≤ ·)∧(∀g,l.ownBlock=some g→q.In (· < g))∧Kept (fun _=>False) w w'
set_option maxRecDepth 100000 in
set_option maxHeartbeats 4000000 in
theorem Build_calls {A:Option Addr} {len cap b0 off:Nat} {K N:Nat→Int} {S V:Nat→ByteArray} {w:World} (hm:len≤maxLen) (hA:Acts4 w A len b0 off K N S V) :
  Calls Tryz.prog 45 #[.slice A len cap] w (BuildTo (buildE K S V (min len 60)) w):=by
 unfold maxLen at hm
 have HA:=Lib.hid hA
 have HBG:=Lib.hid (fun w=>Begin_calls (p:=128) (by omega) (by omega) w)
 obtain⟨R,hR⟩:∃R,R=buildE K S V (min len 60):=⟨_,rfl⟩
 have HR:=Lib.hid hR
 rw[←hR]
 clear hA hR
 go_enter Tryz.func45,Tryz.ntmps45
 go_wp2_with fail
 refine(HBG.out w).mono ?_
 rintro e w1 ⟨q,rfl,tw1,k1,hq, -⟩
 obtain⟨B,hB⟩:∃n,n=w1.heap.size:=⟨_,rfl⟩
 have HB:=Lib.hid hB
 have T1:=Lib.hid tw1;have K1:=Lib.hid k1;have HQ:=Lib.hid hq.all;have QL:Hid (q.In (· < B)):=by rw[hB];exact tw1.low
 have HBB:Hid (w.heap.size≤B):=by rw[hB];exact k1.size
 have NQ:Hid (∀g,B≤g → ¬(g=q.c∨g=q.m∨g=q.t)):=fun g hg e=>by
  have:g < B:=by rcases e with rfl|rfl|rfl<;>exact QL.out _ (by simp)
  omega
 have CQ:Hid (∀a b c:World,Kept (fun _=>False) w a→Kept (fun _=>False) a b→Kept (fun k=>k=q.c∨k=q.m∨k=q.t) b c→Kept (fun _=>False) w c):=fun a b c h1 h2 h3=>(h1.trans h2).then h3 fun i hi e=>by
  have:w.heap.size≤i:=by rcases e with rfl|rfl|rfl<;>exact HQ.out _ (by simp)
  omega
 have BW1:Hid (B≤w1.heap.size):=by show _≤_;omega
 clear tw1 k1 hq hB HBG
 go_wp2_with fail
 go_loopw [7,8] (fun l i wr=>∃(j:Nat) (Al:Option Addr) (lo co:Nat) (X:Sto) (r:Int),j≤60∧j≤len∧i = .int .i64 j∧l = .slice Al lo co∧Hid (lo=(buildE K S V j).length)∧Hid (ERow wr B (.slice Al lo co) (buildE K S V j))∧Hid (TW wr q X r)∧Hid (TE X r (buildE K S V j))∧Hid (Kept (fun _=>False) w wr)∧Hid (B≤wr.heap.size)) (fun _ i _=>60 - (RowKit.intOf i).toNat)
 case atStart=>exact⟨0,none,0,0,_,_,by omega,by omega,rfl,rfl,rfl,ERow.nil _ _,T1.out,TE.blank,K1.out,BW1.out⟩
 case round =>
  obtain⟨j,Al,lo,co,X,r,hj,hjl0,rfl,rfl,HE,ER,TR,TT,KW,BW⟩:=hrel
  obtain⟨E,hE⟩:∃E,E=buildE K S V j:=⟨_,rfl⟩
  have HEL:Hid (E.length≤60):=by have:=buildE_len K S V j;show _≤_;rw[hE];omega
  have HEB:=Lib.hid hE
  rw[←hE] at HE ER TT
  clear hE
  by_cases hin:j < len∧j < 60
  ·obtain⟨hjl,hj60⟩:=hin
   have hA2:=HA.out.kept KW.out
   obtain⟨y0,y1,y2,y3⟩:=hA2.cell j hjl
   have hsz:=hA2.sz j hjl
   have hAd:=hA2.at_ (by omega)
   have hb0:=hA2.lt (by omega)
   have CK1:=Lib.hid (fun w=>(Cut_calls (S j) 24 w hsz.1 (by omega)).mono fun _ _ h=>And.intro h.1 h.2.symm)
   have CV1:=Lib.hid (fun w=>(Cut_calls (V j) 32 w hsz.2 (by omega)).mono fun _ _ h=>And.intro h.1 h.2.symm)
   clear hA2 hsz y1
   subst hAd
   have HSTEP:Hid (buildE K S V (j + 1)=if K j=2 then delE E (cutB (S j) 24) else insE E (cutB (S j) 24) (cutB (V j) 32)):=by show _=_;rw[HEB.out];rfl
   obtain⟨tk,htk⟩:∃t,t=cutB (S j) 24:=⟨_,rfl⟩
   obtain⟨tv,htv⟩:∃t,t=cutB (V j) 32:=⟨_,rfl⟩
   have hk24:tk.length≤24:=by rw[htk];exact cutB_len _ _
   have hv32:tv.length≤32:=by rw[htv];exact cutB_len _ _
   rw[cutB_ba, ←htk] at CK1
   rw[cutB_ba, ←htv] at CV1
   rw[←htk, ←htv] at HSTEP
   obtain⟨kj,hkj⟩:∃z,z=K j:=⟨_,rfl⟩
   rw[←hkj] at y0 HSTEP
   generalize S j=sj at *
   generalize V j=vj at *
   obtain⟨ks,hks⟩:∃s,s=ba tk:=⟨_,rfl⟩
   obtain⟨vs,hvs⟩:∃s,s=ba tv:=⟨_,rfl⟩
   have HK24:=Lib.hid hk24;have HV32:=Lib.hid hv32;have HKS:=Lib.hid hks;have HVS:=Lib.hid hvs
   rw[←hks] at CK1
   rw[←hvs] at CV1
   clear htk htv hkj hks hvs hk24 hv32
   go_wp2_with fail
   refine wp_region_still_lit (by kernel_rfl) (by kernel_rfl) ?_
   repeat still_step
   still_call (CK1.out _)
   repeat still_step
   still_call (CV1.out _)
   repeat still_step
   refine wpStill_nil ?_
   obtain⟨W,hW⟩:∃W,W=wr.drew:=⟨_,rfl⟩
   rw[show({ wr with drawn:=wr.drawn + 1 } : World)=W from hW.symm]
   have KD:Hid (Kept (fun _=>False) wr W):=by rw[hW];exact(Kept.refl _ _).drew
   have z0:W.cell? ⟨b0,off + j * 4,none⟩=some (.int .i64 kj):=by rw[hW];exact y0
   have zb:b0 < W.heap.size:=by rw[hW];exact hb0
   clear y0 y2 y3 CK1 CV1 hW hb0
   have T0:=Lib.hid (TR.out.keptF KD.out)
   have HUP:=Lib.hid TT.out.ti.up
   have HKQ:Hid (∀w':World,Kept (fun k=>k=q.c∨k=q.m∨k=q.t) W w'→ERow w' B (.slice Al lo co) E):=fun w' kk=>(ER.out.keptF KD.out).kept kk fun g hg=>NQ.out g (own_ge ER.out hg)
   by_cases h2:kj=2
   ·obtain⟨bb,r',X',hp,te'⟩:=TT.out.del' tk (by have:=HEL.out;omega)
    have CD:=Lib.hid (TreeDelete_calls T0.out tk)
    rw[hp] at CD
    unfold DelTo at CD
    dsimp only at CD
    have CR:=Lib.hid (fun w' (kk:Kept (fun k=>k=q.c∨k=q.m∨k=q.t) W w')=>refDel9_calls (HKQ.out w' kk).en (by have:=HEL.out;omega) tk)
    have TE':Hid (TE X' r' (buildE K S V (j + 1))):=by show TE _ _ _;rw[HSTEP.out,if_pos h2];exact te'
    have HEJ:Hid (buildE K S V (j + 1)=delE E tk):=by show _=_;rw[HSTEP.out,if_pos h2]
    rw[←HEJ.out] at CR
    rw[←HKS.out] at CD CR
    clear hp te' HSTEP
    go_wp2_with fail
    refine CD.out.mono ?_
    rintro e w5 ⟨rfl,tw5,k5⟩
    have T5:=Lib.hid tw5;have K5:=Lib.hid k5
    clear tw5 k5 CD z0 zb h2
    go_wp2_with fail
    refine(CR.out _ K5.out).mono ?_
    rintro e w6 ⟨v6,rfl,er6,k6⟩
    obtain⟨A6,c6,rfl⟩:=er6.en.slice
    have B5:Hid (B≤w5.heap.size):=Nat.le_trans BW.out (Nat.le_trans KD.out.size K5.out.size)
    have E6:=Lib.hid (er6.base B5.out)
    have T6:=Lib.hid (T5.out.keptF k6)
    have K6:=Lib.hid ((CQ.out _ _ _ KW.out KD.out K5.out).trans k6)
    have B6:Hid (B≤w6.heap.size):=Nat.le_trans B5.out k6.size
    clear er6 k6 CR
    go_wp2_with fail
    go_roundw
    case rel=>exact⟨j + 1,A6,_,c6,X',r',by omega,by omega,by go_num,rfl,rfl,E6.out,T6.out,TE'.out,K6.out,B6.out⟩
    case measure=>simp[RowKit.intOf];omega
   ·obtain⟨r',X',hp,te'⟩:=TT.out.put (k:=tk) (v:=tv) HK24.out HV32.out (by have:=HEL.out;omega)
    have CD:=Lib.hid (TreePut_calls T0.out tk tv)
    rw[hp] at CD
    unfold DoneTo at CD
    dsimp only at CD
    have CR:=Lib.hid (fun w' (kk:Kept (fun k=>k=q.c∨k=q.m∨k=q.t) W w')=>refPut9_calls (HKQ.out w' kk).en (by have:=HEL.out;omega) HUP.out tk tv)
    have TE':Hid (TE X' r' (buildE K S V (j + 1))):=by show TE _ _ _;rw[HSTEP.out,if_neg h2];exact te'
    have HEJ:Hid (buildE K S V (j + 1)=insE E tk tv):=by show _=_;rw[HSTEP.out,if_neg h2]
    rw[←HEJ.out] at CR
    rw[←HKS.out, ←HVS.out] at CD CR
    clear hp te' HSTEP
    go_wp2_with fail
    refine CD.out.mono ?_
    rintro e w5 ⟨rfl,tw5,k5⟩
    have T5:=Lib.hid tw5;have K5:=Lib.hid k5
    clear tw5 k5 CD z0 zb h2
    go_wp2_with fail
    refine(CR.out _ K5.out).mono ?_
    rintro e w6 ⟨v6,rfl,er6,k6⟩
    obtain⟨A6,c6,rfl⟩:=er6.en.slice
    have B5:Hid (B≤w5.heap.size):=Nat.le_trans BW.out (Nat.le_trans KD.out.size K5.out.size)
    have E6:=Lib.hid (er6.base B5.out)
    have T6:=Lib.hid (T5.out.keptF k6)
    have K6:=Lib.hid ((CQ.out _ _ _ KW.out KD.out K5.out).trans k6)
    have B6:Hid (B≤w6.heap.size):=Nat.le_trans B5.out k6.size
    clear er6 k6 CR
    go_wp2_with fail
    go_roundw
    case rel=>exact⟨j + 1,A6,_,c6,X',r',by omega,by omega,by go_num,rfl,rfl,E6.out,T6.out,TE'.out,K6.out,B6.out⟩
    case measure=>simp[RowKit.intOf];omega
  ·have hcase:¬j < len∨(j < len ∧ ¬j < 60):=by omega
   have hmin:Hid (E=R):=by show _=_;rw[HEB.out,HR.out,show min len 60=j by omega]
   clear hin
   rcases hcase with hjl|⟨hjl,hj60⟩
   all_goals
    go_wp2_with fail
    refine bodyPost_ret (v:=.tuple #[.pointer (some ⟨q.t,0,none⟩),.slice Al lo co,.bool true]) (by simp[results,Tryz.f45,go_sem]) rfl ?_
    rw[←hmin.out]
    exact⟨q,_,X,r,rfl,TR.out,TT.out,ER.out.base HBB.out,HQ.out,fun g hg k hk=>Nat.lt_of_lt_of_le (QL.out k hk) (own_ge ER.out hg),KW.out⟩
end Go.Proofs.YtfgjehecjgebdaaGreat
