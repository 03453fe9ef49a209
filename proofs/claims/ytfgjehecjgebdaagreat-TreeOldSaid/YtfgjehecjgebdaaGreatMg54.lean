/- TreeOld: the walk. -/
import Derived.Test.YtfgjehecjgebdaaGreatMg53
import Derived.Test.YtfgjehecjgebdaaGreatMg49
import Derived.Test.YtfgjehecjgebdaaGreatMg34
namespace Go.Proofs.YtfgjehecjgebdaaGreat
open Go.RowKit Go.Maps Go.ChangeMaps
attribute [local go_sem] Oper.semAt_some
theorem TW.opened {w q X r} (h:TW w q X r) {t:Nat} {r':Int} (ht:w.heap[t]? = some (.cells #[.pointer (some ⟨q.st,0,none⟩),.int .i64 r'] 152 (0,0))):TW w { q with t:=t } X r':=⟨h.sto,ht,h.up,h.secs,h.cache,h.txt⟩
theorem and_one (k:Int):(k % 2=1∧bits BinOp.and IntKind.i64 k 1=1)∨(¬k % 2=1∧bits BinOp.and IntKind.i64 k 1=0):=by
 have h:=and_mask k 1 (by omega)
 have h':bits BinOp.and IntKind.i64 k 1=k % 2:=h
 rcases (show k % 2=0∨k % 2=1 by omega) with e|e
 ·exact .inr ⟨by omega,by rw[h',e]⟩
 ·exact .inl ⟨e,by rw[h',e]⟩
set_option maxRecDepth 100000 in
set_option maxHeartbeats 8000000 in
theorem treeOld_walk {A A2:Option Addr} {len cap b0 off len2 cap2 b02 off2:Nat} {K N K2 N2:Nat→Int} {S V S2 V2:Nat→ByteArray} {w:World} (hm:len≤maxLen) (hA:Acts4 w A len b0 off K N S V) (hm2:len2≤maxLen) (hA2:Acts4 w A2 len2 b02 off2 K2 N2 S2 V2) :
  Calls Tryz.prog 7 #[.slice A len cap,.slice A2 len2 cap2] w fun e w'=>e = .returned (.bool true)∧Kept (fun _=>False) w w':=by
 unfold maxLen at hm hm2
 have HA:=Lib.hid hA
 have HA2:=Lib.hid hA2
 have HBG:=Lib.hid (fun w=>Begin_calls (p:=128) (by omega) (by omega) w)
 clear hA hA2
 go_enter Tryz.func7,Tryz.ntmps7
 go_wp2_with fail
 refine(HBG.out w).mono ?_
 rintro e w1 ⟨q,rfl,tw1,k1,hq, -⟩
 have FS1:Hid (FS w w1 q q 128 0 (blankX 128) (-1) []):=⟨rfl,rfl,rfl,tw1,TE.blank.ti,⟨1,_,_,Nat.le_refl _,Ckd.blank (by omega) (by omega)⟩,hq.all,k1⟩
 clear tw1 k1 hq HBG
 go_wp2_with fail
 refine(awake9_calls w1).mono ?_
 rintro e w2 ⟨rfl,k2⟩
 have FS2:=Lib.hid (FS1.out.keptF k2)
 clear k2 FS1
 go_wp2_with fail
 go_loopw [7,8] (fun l i wr=>∃(j:Nat) (E:List KV) (Al:Option Addr) (lo co:Nat) (X:Sto) (r:Int),j≤40∧j≤len∧i = .int .i64 j∧l = .slice Al lo co∧lo≤40∧Hid (lo=E.length∧lo≤j)∧Hid (ERow wr 0 (.slice Al lo co) E)∧Hid (FS w wr q q 128 0 X r E)) (fun _ i _=>40 - (RowKit.intOf i).toNat)
 case atStart=>exact⟨0, [],none,0,0,_,_,by omega,by omega,rfl,rfl,by omega,⟨rfl,Nat.zero_le _⟩,ERow.nil _ _,FS2.out⟩
 case round =>
  obtain⟨j,E,Al,lo,co,X,r,hj,hjl0,rfl,rfl,hlo,HE,ER,HF⟩:=hrel
  by_cases hin:j < len∧j < 40
  ·obtain⟨hjl,hj40⟩:=hin
   have hA2:=HA.out.kept HF.out.kw
   obtain⟨y0,y1,y2,y3⟩:=hA2.cell j hjl
   have hsz:=hA2.sz j hjl
   have hAd:=hA2.at_ (by omega)
   have hb0:=hA2.lt (by omega)
   have CT:=Lib.hid (tidy_calls (K j) (N j) (S j) (V j) hsz.1 hsz.2 wr)
   clear hA2 hsz
   subst hAd
   obtain⟨tk,htk⟩:∃t,t=cutB (S j) 26:=⟨_,rfl⟩
   obtain⟨tv,htv⟩:∃t,t=cutB (V j) 34:=⟨_,rfl⟩
   rw[←htk, ←htv] at CT
   generalize K j=kj at *
   generalize N j=nj at *
   generalize S j=sj at *
   generalize V j=vj at *
   obtain⟨ks,hks⟩:∃s,s=ba tk:=⟨_,rfl⟩
   obtain⟨vs,hvs⟩:∃s,s=ba tv:=⟨_,rfl⟩
   rw[←hks, ←hvs] at CT
   have HKS:=Lib.hid hks;have HVS:=Lib.hid hvs
   clear htk htv hks hvs
   go_wp2_with fail
   refine CT.out.mono ?_
   rintro e w2 ⟨rfl,k2⟩
   obtain⟨G,hG⟩:∃G,G=w2.heap.size:=⟨_,rfl⟩
   obtain⟨W,hW⟩:∃W,W=w2.alloc (.cells #[.int .i64 kj,.int .i64 nj,.string ks,.string vs] 72):=⟨_,rfl⟩
   have KW:Hid (Kept (fun _=>False) wr W):=by rw[hW];exact k2.alloc _
   have HBX:Hid (W.heap[G]? = some (.cells #[.int .i64 kj,.int .i64 nj,.string ks,.string vs] 72 (0,0))):=by show _=_;rw[hW,hG];exact heap_new _ _
   have F5:=Lib.hid (HF.out.keptF KW.out)
   have E5:=Lib.hid (ER.out.keptF KW.out)
   have HFB:Hid (¬q.Any G):=F5.out.tw.far HBX.out (by decide) (by decide) (by decide) (by decide) (by decide) (by decide)
   have HB6:Hid (∀w':World,Kept (fun k=>k=q.c∨k=q.m∨k=q.t) W w'→w'.heap[G]? = some (.cells #[.int .i64 kj,.int .i64 nj,.string ks,.string vs] 72 (0,0))∧ERow w' 0 (.slice Al lo co) E):=fun w' kk=>⟨(TQ.cmt kk).heap HBX.out HFB.out,E5.out.keptQ F5.out.tw (TQ.cmt kk)⟩
   have HE2:Hid (E.length≤40∧lo=E.length∧lo≤j):=⟨by have:=HE.out;omega,HE.out⟩
   have HUP:=Lib.hid F5.out.ti.up
   obtain⟨a0,a1,a2,a3⟩:=act_cells HBX.out
   have hgl:=lt_heap HBX.out
   clear k2 CT y0 y1 y2 y3 hb0 HE ER HF
   go_upto_region 9 with(fail)
   rw[←hW, ←hG]
   clear hW hG KW
   rcases and_one kj with⟨-,g1⟩|⟨-,g1⟩
   ·obtain⟨code,r',X',hp,hres,hst⟩:=putF F5.out.ti tk tv
    have CP:=Lib.hid (TreePut_calls F5.out.tw tk tv)
    rw[hp, ←HKS.out, ←HVS.out] at CP
    unfold DoneTo at CP
    dsimp only at CP
    have HST:=Lib.hid hst
    clear hp hst
    rcases hres with⟨rfl, -, -,ti'⟩|⟨hcode,rfl, -,ti'⟩
    ·have TI':=Lib.hid ti'
     clear ti'
     go_wp2_with fail
     refine CP.out.mono ?_
     rintro e w6 ⟨rfl,tw6,k6⟩
     obtain⟨hb6,er6⟩:=HB6.out w6 k6
     have F6:=Lib.hid (F5.out.step tw6 k6 TI'.out HST.out)
     have CR:=Lib.hid (refPut9_calls er6.en (by have:=HE2.out;omega) HUP.out tk tv)
     rw[←HKS.out, ←HVS.out] at CR
     clear a0 a1 a2 a3 hgl
     obtain⟨a0,a1,a2,a3⟩:=act_cells hb6
     have hgl:=lt_heap hb6
     clear tw6 k6 hb6 er6 CP
     go_wp2_with fail
     refine CR.out.mono ?_
     rintro e w7 ⟨v7,rfl,er7,k7⟩
     obtain⟨A7,c7,rfl⟩:=er7.en.slice
     have E7:=Lib.hid (er7.base (Nat.zero_le _));have F7:=Lib.hid (F6.out.keptF k7)
     have hL7:(insE E tk tv).length≤j + 1:=by have:=insE_len E tk tv;have:=HE2.out;omega
     clear er7 k7 CR
     go_wp2_with fail
     go_roundw
     case rel=>exact⟨j + 1,_,A7,_,c7,X',r',by omega,by omega,by go_num,rfl,by omega,⟨rfl,hL7⟩,E7.out,F7.out⟩
     case measure=>simp[RowKit.intOf];omega
    ·have TI':=Lib.hid ti'
     clear ti'
     rcases hcode with rfl|rfl
     all_goals
      go_wp2_with fail
      refine CP.out.mono ?_
      rintro e w6 ⟨rfl,tw6,k6⟩
      have F6:=Lib.hid (F5.out.step tw6 k6 TI'.out HST.out)
      have E6:=Lib.hid (HB6.out w6 k6).2
      clear tw6 k6 CP
      go_wp2_with fail
      go_roundw
      case rel=>exact⟨j + 1,E,Al,lo,co,X',r',by omega,by omega,by go_num,rfl,hlo,⟨HE2.out.2.1,by have:=HE2.out;omega⟩,E6.out,F6.out⟩
      case measure=>simp[RowKit.intOf];omega
   ·go_wp2_with fail
    go_roundw
    case rel=>exact⟨j + 1,E,Al,lo,co,X,r,by omega,by omega,by go_num,rfl,hlo,⟨HE2.out.2.1,by have:=HE2.out;omega⟩,E5.out,F5.out⟩
    case measure=>simp[RowKit.intOf];omega
  ·have hcase:¬j < len∨(j < len ∧ ¬j < 40):=by omega
   clear hin
   have HE2:Hid (E.length≤40∧lo=E.length):=⟨by have:=HE.out;omega,HE.out.1⟩
   have CRt:=Lib.hid (TreeRoot_calls HF.out.tw)
   have CSt:=Lib.hid (TreeStore_calls HF.out.tw)
   have CK:=Lib.hid (HF.out.ckd (by omega) (by omega))
   have HS2:Hid (∀j,(X.check r 1 1).2.s j < 2):=by
    obtain⟨M,l0,K0,h1,h2⟩:=HF.out.ck
    obtain⟨-, -, -, -,h5, -⟩:=h2.check HF.out.ti HF.out.tw.txt (by omega) (by omega)
    exact h5
   obtain⟨X1,hX1⟩:∃X1,X1=(X.check r 1 1).2:=⟨_,rfl⟩
   rw[←hX1] at CK HS2
   clear hX1
   rcases hcase with hjl|⟨hjl,hj40⟩
   all_goals
    go_wp2_with fail
    refine CRt.out.mono ?_
    rintro e w3 ⟨rfl,rfl⟩
    go_wp2_with fail
    refine CSt.out.mono ?_
    rintro e w3 ⟨rfl,rfl⟩
    go_wp2_with fail
    refine CK.out.mono ?_
    rintro e w3 ⟨rfl,k3,q',f3⟩
    have F3:=Lib.hid f3;have E3:=Lib.hid (ER.out.keptQ HF.out.tw k3)
    clear f3 k3 CK CRt CSt
    go_wp2_with fail
    obtain⟨hlE,hlo2⟩:=HE2.out
    have HLE:=Lib.hid hlo2
    have TI1:=Lib.hid F3.out.ti
    clear hlE hlo2 HF ER HE
    go_loopw [11] (fun i wx=>∃(k:Nat) (X':Sto) (r':Int) (E2:List KV),k≤40∧k≤len2∧i = .int .i64 k∧Hid (FS w wx q q' 128 1 X' r' E2)∧Hid (Stays X1 X')∧Hid (ERow wx 0 (.slice Al lo co) E)) (fun i _=>40 - (RowKit.intOf i).toNat)
    case atStart=>exact⟨0,X1,r,E,by omega,by omega,rfl,F3.out,Stays.refl _,E3.out⟩
    case round =>
     obtain⟨k,X',r',E2,hk,hkl0,rfl,HF,HST,ER⟩:=hrel
     by_cases hin:k < len2∧k < 40
     ·obtain⟨hjl,hj40⟩:=hin
      have hA2:=HA2.out.kept HF.out.kw
      obtain⟨y0,y1,y2,y3⟩:=hA2.cell k hjl
      have hsz:=hA2.sz k hjl
      have hAd:=hA2.at_ (by omega)
      have hb0:=hA2.lt (by omega)
      have CT:=Lib.hid (tidy_calls (K2 k) (N2 k) (S2 k) (V2 k) hsz.1 hsz.2 wr)
      clear hA2 hsz
      subst hAd
      obtain⟨tk,htk⟩:∃t,t=cutB (S2 k) 26:=⟨_,rfl⟩
      obtain⟨tv,htv⟩:∃t,t=cutB (V2 k) 34:=⟨_,rfl⟩
      rw[←htk, ←htv] at CT
      generalize K2 k=kj at *
      generalize N2 k=nj at *
      generalize S2 k=sj at *
      generalize V2 k=vj at *
      obtain⟨ks,hks⟩:∃s,s=ba tk:=⟨_,rfl⟩
      obtain⟨vs,hvs⟩:∃s,s=ba tv:=⟨_,rfl⟩
      rw[←hks, ←hvs] at CT
      have HKS:=Lib.hid hks;have HVS:=Lib.hid hvs
      clear htk htv hks hvs
      go_wp2_with fail
      refine CT.out.mono ?_
      rintro e w2 ⟨rfl,k2⟩
      obtain⟨G,hG⟩:∃G,G=w2.heap.size:=⟨_,rfl⟩
      obtain⟨W,hW⟩:∃W,W=w2.alloc (.cells #[.int .i64 kj,.int .i64 nj,.string ks,.string vs] 72):=⟨_,rfl⟩
      have KW:Hid (Kept (fun _=>False) wr W):=by rw[hW];exact k2.alloc _
      have HBX:Hid (W.heap[G]? = some (.cells #[.int .i64 kj,.int .i64 nj,.string ks,.string vs] 72 (0,0))):=by show _=_;rw[hW,hG];exact heap_new _ _
      have F5:=Lib.hid (HF.out.keptF KW.out)
      have E5:=Lib.hid (ER.out.keptF KW.out)
      obtain⟨a0,a1,a2,a3⟩:=act_cells HBX.out
      have hgl:=lt_heap HBX.out
      clear k2 CT y0 y1 y2 y3 hb0 ER HF
      go_upto_region 18 with(fail)
      rw[←hW, ←hG]
      clear hW hG KW
      rcases and_one kj with⟨-,g1⟩|⟨-,g1⟩
      ·obtain⟨code,r5,X5,hp,hres,hst⟩:=putF F5.out.ti tk tv
       have CP:=Lib.hid (TreePut_calls F5.out.tw tk tv)
       rw[hp,F5.out.qt, ←HKS.out, ←HVS.out] at CP
       unfold DoneTo at CP
       dsimp only at CP
       have HS5:=Lib.hid hst
       have HTI:Hid (∃E5,TI X5 r5 E5):=by
        rcases hres with⟨-, -, -,h⟩|⟨-,h1, -,h⟩
        ·exact⟨_,h⟩
        ·exact⟨_,by rw[h1];exact h⟩
       clear hp hst hres
       go_wp2_with fail
       refine CP.out.mono ?_
       rintro e w6 ⟨rfl,tw6,k6⟩
       obtain⟨E9,ti9⟩:=HTI.out
       have F6:=Lib.hid (F5.out.step tw6 k6 ti9 HS5.out)
       have E6:=Lib.hid (E5.out.keptQ F5.out.tw (TQ.cmt k6))
       clear tw6 k6 CP ti9
       go_wp2_with fail
       go_roundw
       case rel=>exact⟨k + 1,X5,r5,E9,by omega,by omega,by go_num,F6.out,HST.out.trans HS5.out,E6.out⟩
       case measure=>simp[RowKit.intOf];omega
      ·by_cases hl0:0 < lo
       ·obtain⟨rr2,kk,g2,g3,hkk⟩:=and_mod (N:=nj) hl0
        have g6:¬lo=0:=by omega
        have g4:(lo:Int) ≠ 0:=by omega
        have hkL:kk < E.length:=by have:=HLE.out;omega
        obtain⟨b2,o2,c2,e,hb2,p1,p2⟩:=E5.out.en.at hkL
        injection e with e1 e2 e3
        subst e1
        clear e2 e3 p2
        obtain⟨ek,he⟩:∃x,x=E[kk].1:=⟨_,rfl⟩
        rw[←he] at p1
        dsimp only[Ss] at p1
        obtain⟨bb,code,r5,X5,hp,hres,hst⟩:=delF F5.out.ti ek
        have CP:=Lib.hid (TreeDelete_calls F5.out.tw ek)
        obtain⟨kx,hkx⟩:∃x,x=ba ek:=⟨_,rfl⟩
        rw[←hkx] at p1
        rw[hp,F5.out.qt, ←hkx] at CP
        unfold DelTo at CP
        dsimp only at CP
        have HS5:=Lib.hid hst
        have HTI:Hid (∃E5,TI X5 r5 E5):=by
         rcases hres with⟨-, -,h⟩|⟨-, -,h1, -,h⟩
         ·exact⟨_,h⟩
         ·exact⟨_,by rw[h1];exact h⟩
        clear hp hst hres he hkx hkL
        go_wp2_with fail
        refine CP.out.mono ?_
        rintro e w6 ⟨rfl,tw6,k6⟩
        obtain⟨E9,ti9⟩:=HTI.out
        have F6:=Lib.hid (F5.out.step tw6 k6 ti9 HS5.out)
        have E6:=Lib.hid (E5.out.keptQ F5.out.tw (TQ.cmt k6))
        clear tw6 k6 CP ti9
        go_wp2_with fail
        go_roundw
        case rel=>exact⟨k + 1,X5,r5,E9,by omega,by omega,by go_num,F6.out,HST.out.trans HS5.out,E6.out⟩
        case measure=>simp[RowKit.intOf];omega
       ·go_wp2_with fail
        go_roundw
        case rel=>exact⟨k + 1,X',r',E2,by omega,by omega,by go_num,F5.out,HST.out,E5.out⟩
        case measure=>simp[RowKit.intOf];omega
     ·have hcase2:¬k < len2∨(k < len2 ∧ ¬k < 40):=by omega
      clear hin
      have CSt:=Lib.hid (TreeStore_calls HF.out.tw)
      rw[HF.out.qt] at CSt
      rw[HF.out.qst] at CSt
      have HG:=Lib.hid fun k=>getT_old TI1.out HS2.out HST.out k
      rcases hcase2 with hjl2|⟨hjl2,hj402⟩
      all_goals
       go_wp2_with fail
       refine CSt.out.mono ?_
       rintro e w5 ⟨rfl,rfl⟩
       go_wp2_with fail
       refine(TreeOpen_calls q.st r wr).mono ?_
       rintro e w6 ⟨t2,ht2,rfl,htr,k6⟩
       have F6:=Lib.hid (HF.out.keptF k6);have E6:=Lib.hid (ER.out.keptF k6)
       have TO:=Lib.hid (F6.out.tw.opened (t:=t2) (r':=r) (by rw[F6.out.qst];exact htr))
       clear ht2 htr k6 CSt
       go_wp2_with fail
       go_loopw [116] (fun i wy=>∃m:Nat,m≤lo∧i = .int .i64 m∧Hid (Kept (fun _=>False) w6 wy)) (fun i _=>lo - (RowKit.intOf i).toNat)
       case atStart=>exact⟨0,Nat.zero_le _,rfl,Kept.refl _ _⟩
       case round =>
        obtain⟨m,hmm,rfl,KK⟩:=hrel
        by_cases hlt:m < lo
        ·have hjE:m < E.length:=by have:=HLE.out;omega
         obtain⟨b,o,c',e,hb,p1,p2⟩:=(E6.out.keptF KK.out).en.at hjE
         injection e with e1 e2 e3
         subst e1
         clear e2 e3
         obtain⟨⟨ek,ev⟩,he⟩:∃x,x=E[m]:=⟨_,rfl⟩
         have hmE:(ek,ev)∈E:=by rw[he];exact List.getElem_mem hjE
         have hv:valE E ek=(ev,true):=by
          unfold valE
          rw[getE_self TI1.out.up hmE]
         have CG:=Lib.hid fun W (kk:Kept (fun _=>False) w6 W)=>TreeGet_calls (TO.out.keptF kk) ek
         rw[HG.out,hv] at CG
         unfold GetTo at CG
         dsimp only at CG
         rw[←he] at p1 p2
         dsimp only[Ss] at p1 p2
         obtain⟨kx,hkx⟩:∃x,x=ba ek:=⟨_,rfl⟩
         obtain⟨vx,hvx⟩:∃x,x=ba ev:=⟨_,rfl⟩
         rw[←hkx] at p1 CG
         rw[←hvx] at p2 CG
         clear hkx hvx he hmE hv hjE
         go_wp2_with fail
         refine(CG.out _ (KK.out.alloc _)).mono ?_
         rintro e w7 ⟨rfl,k7⟩
         have hbx:=k7.heap (heap_new wr (.cells #[.string kx,.string vx] 75)) not_false
         have x0:w7.cell? ⟨wr.heap.size,0,none⟩=some (.string kx):=(cell_heap hbx 0).trans rfl
         have x1:w7.cell? ⟨wr.heap.size,1,none⟩=some (.string vx):=(cell_heap hbx 1).trans rfl
         have hbl:=lt_heap hbx
         have K7:=Lib.hid ((KK.out.alloc (.cells #[.string kx,.string vx] 75)).trans k7)
         clear k7 CG p1 p2 hb hbx
         go_wp2_with fail
         go_roundw
         case rel=>exact⟨m + 1,by omega,by go_num,K7.out⟩
         case measure=>simp[RowKit.intOf];omega
        ·obtain rfl:m=lo:=by omega
         have TF:=Lib.hid (F6.out.tw.keptF KK.out)
         have CS1:=Lib.hid (TreeStore_calls TF.out)
         have CU:=Lib.hid (StoUndo_calls TF.out.sto)
         rw[F6.out.qt,F6.out.qst] at CS1
         rw[F6.out.qst] at CU
         unfold UndoPost at CU
         go_wp2_with fail
         refine CS1.out.mono ?_
         rintro e w7 ⟨rfl,rfl⟩
         go_wp2_with fail
         refine CU.out.mono ?_
         rintro e w8 ⟨rfl,k8,s8⟩
         have k8':Kept (fun k=>k=q'.c∨k=q'.m∨k=q'.t) wr w8:=k8.mono fun i _ e=>by
          rcases e with e|e
          ·exact .inl e
          ·exact .inr (.inl e)
         obtain⟨ti3,h23⟩:=undo_old TI1.out HS2.out HST.out F6.out.ti.l4
         have hqt:¬(q'.t=q'.c∨q'.t=q'.m):=by
          obtain⟨es,clock,hmp⟩:=TF.out.sto.put.heap
          rintro(e|e)
          ·exact ne_type TF.out.tree TF.out.sto.sp.row (by decide) e
          ·exact map_ne hmp TF.out.tree e
         have TW8:Hid (TW w8 q' { X' with l:=ud X'.l } r'):=⟨by rw[F6.out.qst];exact s8,k8.heap TF.out.tree hqt,TF.out.up,TF.out.secs,TF.out.cache,fun i hi=>by
          have:=h23 i
          unfold Sto.s at this
          simp only at this hi
          omega⟩
         have TI3:=Lib.hid ti3
         have E8:=Lib.hid ((E6.out.keptF KK.out).keptQ TF.out (TQ.cmt k8'))
         have KW8:Hid (Kept (fun _=>False) w w8):=(F6.out.kw.trans KK.out).then (TQ.cmt k8') fun i hi e=>by have:=F6.out.own.any e;omega
         have CS2:=Lib.hid (TreeStore_calls TW8.out)
         rw[F6.out.qt,F6.out.qst] at CS2
         clear k8 k8' s8 h23 ti3 hqt CS1 CU
         go_wp2_with fail
         refine CS2.out.mono ?_
         rintro e w9 ⟨rfl,rfl⟩
         go_wp2_with fail
         refine(TreeOpen_calls q.st r w8).mono ?_
         rintro e w9 ⟨t3,ht3,rfl,htr3,k9⟩
         have CSo:=Lib.hid (Sound9_calls ((TW8.out.keptF k9).opened (t:=t3) (r':=r) (by rw[F6.out.qst];exact htr3)) TI3.out (E8.out.keptF k9).en (by have:=HLE.out;omega))
         have K9:=Lib.hid (KW8.out.trans k9)
         clear ht3 htr3 k9 CS2
         go_wp2_with fail
         refine CSo.out.mono ?_
         rintro e w10 ⟨rfl,k10⟩
         have K10:=Lib.hid (K9.out.trans k10)
         clear k10 CSo
         go_wp2
         refine bodyPost_ret (v:=.bool true) (by simp[results,Tryz.f7,go_sem]) rfl ?_
         exact⟨rfl,K10.out⟩
end Go.Proofs.YtfgjehecjgebdaaGreat
