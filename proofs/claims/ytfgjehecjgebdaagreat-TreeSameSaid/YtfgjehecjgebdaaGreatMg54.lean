/- TreeSame: the walk. -/
import Derived.Test.YtfgjehecjgebdaaGreatMg53
import Derived.Test.YtfgjehecjgebdaaGreatMg51
import Derived.Test.YtfgjehecjgebdaaGreatMg50
import Derived.Test.YtfgjehecjgebdaaGreatMg48
import Derived.Test.YtfgjehecjgebdaaGreatMg11
namespace Go.Proofs.YtfgjehecjgebdaaGreat
open Go.RowKit Go.Maps Go.ChangeMaps
attribute [local go_sem] Oper.semAt_some
set_option maxRecDepth 100000 in
set_option maxHeartbeats 8000000 in
theorem treeSame_walk {A A1:Option Addr} {len cap b0 off len1 cap1 b1 off1:Nat} {S:Nat→ByteArray} {N:Nat→Int} {w:World} (hm:len≤maxLen) (hA:Strs w A len b0 off S) (hm1:len1≤maxLen) (hA1:Nums w A1 len1 b1 off1 N) :
  Calls Tryz.prog 6 #[.slice A len cap,.slice A1 len1 cap1] w fun e w'=>e = .returned (.bool true)∧Kept (fun _=>False) w w':=by
 unfold maxLen at hm hm1
 have HA:=Lib.hid hA
 have HN:=Lib.hid hA1
 have HB:=Lib.hid (fun w=>Begin_calls (p:=128) (by omega) (by omega) w)
 clear hA hA1
 go_enter Tryz.func6,Tryz.ntmps6
 go_wp2_with fail
 refine(HB.out w).mono ?_
 rintro e w1 ⟨q,rfl,tw1,k1,hq, -⟩
 have T1:=Lib.hid tw1;have K1:=Lib.hid k1;have HQ:=Lib.hid hq.all;have QL:=Lib.hid tw1.low
 clear tw1 k1 hq
 go_wp2_with fail
 refine(HB.out w1).mono ?_
 rintro e w2 ⟨q2,rfl,tw2,k2,hq2, -⟩
 have T2:=Lib.hid (T1.out.keptF k2);have U2:=Lib.hid tw2;have K2:=Lib.hid (K1.out.trans k2);have HQ2:=Lib.hid hq2.all;have QL2:=Lib.hid tw2.low;have KS:=Lib.hid k2.size
 clear tw2 k2 hq2
 go_wp2_with fail
 refine(awake9_calls w2).mono ?_
 rintro e w3 ⟨rfl,k3⟩
 have T3:=Lib.hid (T2.out.keptF k3);have U3:=Lib.hid (U2.out.keptF k3);have K3:=Lib.hid (K2.out.trans k3)
 obtain⟨B,hB⟩:∃n,n=w3.heap.size:=⟨_,rfl⟩
 have HBB:=Lib.hid hB
 have LQ:Hid (q.In fun k=>w.heap.size≤k∧k < B):=fun k hk=>⟨HQ.out k hk,by have:=QL.out k hk;have:=KS.out;have:=k3.size;omega⟩
 have LQ2:Hid (q2.In fun k=>w.heap.size≤k∧k < B):=fun k hk=>⟨by have:=HQ2.out k hk;have:=K1.out.size;omega,by have:=QL2.out k hk;have:=k3.size;omega⟩
 have AP:Hid (q2.In fun k=>¬(k=q.c∨k=q.m∨k=q.t)):=fun k hk e=>by
  have h1:=HQ2.out k hk
  have h2:k < w1.heap.size:=by rcases e with rfl|rfl|rfl<;>exact QL.out _ (by simp)
  omega
 have AP2:Hid (q.In fun k=>¬(k=q2.c∨k=q2.m∨k=q2.t)):=fun k hk e=>by
  have h1:=QL.out k hk
  have h2:w1.heap.size≤k:=by rcases e with rfl|rfl|rfl<;>exact HQ2.out _ (by simp)
  omega
 have CQ:Hid (∀a b c:World,Kept (fun _=>False) w a→Kept (fun _=>False) a b→Kept (fun k=>k=q.c∨k=q.m∨k=q.t) b c→Kept (fun _=>False) w c):=fun a b c h1 h2 h3=>(h1.trans h2).then h3 fun i hi e=>by
  have:w.heap.size≤i:=by rcases e with rfl|rfl|rfl<;>exact(LQ.out _ (by simp)).1
  omega
 have CQ2:Hid (∀a b c:World,Kept (fun _=>False) w a→Kept (fun _=>False) a b→Kept (fun k=>k=q2.c∨k=q2.m∨k=q2.t) b c→Kept (fun _=>False) w c):=fun a b c h1 h2 h3=>(h1.trans h2).then h3 fun i hi e=>by
  have:w.heap.size≤i:=by rcases e with rfl|rfl|rfl<;>exact(LQ2.out _ (by simp)).1
  omega
 have NQ:Hid (∀g,B≤g → ¬(g=q.c∨g=q.m∨g=q.t)):=fun g hg e=>by
  have:g < B:=by rcases e with rfl|rfl|rfl<;>exact(LQ.out _ (by simp)).2
  omega
 have NQ2:Hid (∀g,B≤g → ¬(g=q2.c∨g=q2.m∨g=q2.t)):=fun g hg e=>by
  have:g < B:=by rcases e with rfl|rfl|rfl<;>exact(LQ2.out _ (by simp)).2
  omega
 clear k3 hB HB T1 T2 U2 K1 K2 HQ HQ2 QL QL2 KS
 go_wp2_with fail
 go_loopw [9,10,11] (fun l i _ wr=>∃(j:Nat) (E:List KV) (Al:Option Addr) (lo co:Nat) (X:Sto) (r:Int),j≤40∧i = .int .i64 j∧l = .slice Al lo co∧Hid (lo=E.length∧lo≤j∧UpE E ∧ ∀e∈E,e.1.length≤10∧e.2.length≤10)∧Hid (ERow wr B (.slice Al lo co) E)∧Hid (TW wr q X r)∧Hid (TE X r E)∧Hid (TW wr q2 (blankX 128) (-1))∧Hid (Kept (fun _=>False) w wr)∧Hid (B≤wr.heap.size)) (fun _ i _ _=>40 - (RowKit.intOf i).toNat)
 case atStart=>exact⟨0, [],none,0,0,_,_,by omega,rfl,rfl,⟨rfl,Nat.zero_le _,List.Pairwise.nil,fun e h=>absurd h (by simp)⟩,ERow.nil _ _,T3.out,TE.blank,U3.out,K3.out,by show _≤_;rw[HBB.out];exact Nat.le_refl _⟩
 case round =>
  obtain⟨j,E,Al,lo,co,X,r,hj,rfl,rfl,HE,ER,TR,TT,UR,KW,BW⟩:=hrel
  by_cases hin:j < len∧j < 40
  ·obtain⟨hjl,hj40⟩:=hin
   have hA2:=HA.out.kept KW.out
   have hK:=hA2.cell j hjl
   have hAd:=hA2.at_ (by omega)
   have hb0:=hA2.lt (by omega)
   have CC:=Lib.hid (fun w=>Cut_calls (S j) 10 w (hA2.sz j hjl) (by omega))
   clear hA2
   subst hAd
   generalize S j=sj at *
   obtain⟨t,ht⟩:∃t,cutTo sj 10=ba t:=⟨(cutTo sj 10).data.toList,rfl⟩
   have ht10:t.length≤10:=by
    have h:=cutTo_size sj 10
    rw[ht,ba_size] at h
    omega
   rw[ht] at CC
   have CR:=Lib.hid (refPut9_calls ER.out.en (by have:=HE.out;omega) HE.out.2.2.1 t t)
   obtain⟨r',X',hp,te'⟩:=TT.out.put (k:=t) (v:=t) (by omega) (by omega) (by have:=HE.out;omega)
   have TT':=Lib.hid te'
   have CP:=Lib.hid (fun w' (k:Kept (fun _=>False) wr w')=>TreePut_calls (TR.out.keptF k) t t)
   rw[hp] at CP
   unfold DoneTo at CP
   dsimp only at CP
   obtain⟨s,hs⟩:∃s,s=ba t:=⟨_,rfl⟩
   rw[←hs] at CC CR CP
   have HIL:=Lib.hid (insE_len E t t);have HUI:=Lib.hid (upE_ins HE.out.2.2.1 t t)
   have HTN:Hid (∀e∈insE E t t,e.1.length≤10∧e.2.length≤10):=fun e he=>by
    rcases mem_insE he with rfl|⟨h,_⟩
    ·exact⟨ht10,ht10⟩
    ·exact HE.out.2.2.2 e h
   clear hs ht hp te'
   go_wp2_with fail
   refine(CC.out _).mono ?_
   rintro e w5 ⟨rfl,rfl⟩
   clear CC
   go_wp2_with fail
   refine CR.out.mono ?_
   rintro e w6 ⟨v6,rfl,er6,k6⟩
   obtain⟨A6,c6,rfl⟩:=er6.en.slice
   have E6:=Lib.hid (er6.base BW.out);have K6:=Lib.hid k6
   clear er6 k6 CR
   go_wp2_with fail
   refine(CP.out _ K6.out).mono ?_
   rintro e w7 ⟨rfl,tw7,k7⟩
   have T7:=Lib.hid tw7;have K7:=Lib.hid k7
   clear tw7 k7 CP
   have E7:=Lib.hid (E6.out.kept K7.out fun g hg=>NQ.out g (own_ge E6.out hg))
   have U7:=Lib.hid ((UR.out.keptF K6.out).keptS K7.out AP.out)
   have KW7:=Lib.hid (CQ.out _ _ _ KW.out K6.out K7.out)
   have B7:Hid (B≤w7.heap.size):=Nat.le_trans BW.out (Nat.le_trans K6.out.size K7.out.size)
   go_wp2_with fail
   go_roundw
   case rel=>exact⟨j + 1,insE E t t,A6,_,c6,X',r',by omega,by go_num,rfl,⟨rfl,by have:=HIL.out;have:=HE.out;omega,HUI.out,HTN.out⟩,E7.out,T7.out,TT'.out,U7.out,KW7.out,B7.out⟩
   case measure=>simp[RowKit.intOf];omega
  ·have hcase:¬j < len∨(j < len ∧ ¬j < 40):=by omega
   clear hin
   obtain⟨hlo,hlj,hup,htn⟩:=HE.out
   subst hlo
   have HUP:=Lib.hid hup;have HTE:=Lib.hid htn
   have HLJ:Hid (E.length≤40):=Nat.le_trans hlj hj
   have EZ:Hid (ERow (wr.alloc (.cells #[] 75)) wr.heap.size (.slice (some ⟨wr.heap.size,0,none⟩) 0 0) []):=ERow.empty _ rfl
   have OK:=Lib.hid (ER.out.keptF ((Kept.refl (fun _=>False) wr).alloc (.cells #[] 75)))
   have RD:=Lib.hid (Reads.of_own OK.out)
   have HZ:Hid (wr.heap.size≤(wr.alloc (.cells #[] 75)).heap.size):=by show _≤_;simp
   have HLn:Hid (([]:List KV).length + E.length≤100000):=by have:=HLJ.out;show _≤_;simp;omega
   clear hlj hup htn HE
   rcases hcase with hjl|⟨hjl,hj40⟩
   all_goals
    go_wp2_with (at_builtin;(refine app_ent (E := []) (E':=E) rfl (.tmp 61) (.tmp 62) rfl (v:=.slice (some ⟨wr.heap.size,0,none⟩) 0 0) rfl EZ.out _ rfl RD.out HLn.out ?_;intro v' w4 hv' hg' hob;obtain⟨A4,c4,l4,rfl,L4,E4,K4,G4⟩:=ent_step EZ.out (Kept.refl _ _) HZ.out hv' hg' hob;clear hv' hg' hob))
    have K04:Hid (Kept (fun _=>False) wr w4):=((Kept.refl _ wr).alloc _).then K4.out fun i hi e=>by have e':wr.heap.size=i:=Option.some.inj e;omega
    have T4:=Lib.hid (TR.out.keptF K04.out)
    have U4:=Lib.hid (UR.out.keptF K04.out)
    have R4:=Lib.hid (ER.out.keptF K04.out)
    have S4:Hid (EnS w4 (.slice A4 l4 c4) E):=by have h:=E4.out.en;rw[List.nil_append] at h;exact h
    have LN4:Hid (l4=E.length):=L4.out
    have BF4:Hid (∀b o,A4=some ⟨b,o,none⟩→B≤b):=fun b o e=>by
     subst e
     have h1:=own_ge E4.out (g:=b) rfl
     have:=BW.out
     omega
    have KW4:=Lib.hid (KW.out.trans K04.out)
    have B4:Hid (B≤w4.heap.size):=Nat.le_trans BW.out K04.out.size
    have l40:0 + l4≤40:=by have:=LN4.out;have:=HLJ.out;omega
    have hc4:l4≤c4:=own_cap E4.out (by have:=L4.out;simpa using this)
    clear EZ OK RD HZ HLn E4 L4 K4 G4 K04
    go_wp2_with fail
    go_loopw [12,13,14] (fun lf i _ wx=>∃(k:Nat) (L P:List KV) (Af:Option Addr) (ln cl:Nat) (X2:Sto) (r2:Int),k + ln≤40∧i = .int .i64 k∧lf = .slice Af ln cl∧ln≤cl∧Hid (ln=L.length)∧Hid (EnS wx (.slice Af ln cl) L)∧Hid (∀b o,Af=some ⟨b,o,none⟩→B≤b)∧Hid (Rest E P L)∧Hid (TW wx q2 X2 r2)∧Hid (TE X2 r2 P)∧Hid (TW wx q X r)∧Hid (ERow wx B (.slice Al E.length co) E)∧Hid (Kept (fun _=>False) w wx)∧Hid (B≤wx.heap.size)) (fun lf _ _ _=>slN lf)
    case atStart=>exact⟨0,E, [],A4,l4,c4,_,_,l40,rfl,rfl,hc4,LN4.out,S4.out,BF4.out,Rest.start,U4.out,TE.blank,T4.out,R4.out,KW4.out,B4.out⟩
    case round =>
     obtain⟨k,L,P,Af,ln,cl,X2,r2,hk,rfl,rfl,hcl,HLN,SF,BF,RS,UX,UE,TX,RX,KX,BX⟩:=hrel
     clear LN4 S4 BF4 U4 T4 R4 KW4 B4
     by_cases hn0:0 < ln
     ·go_upto_if 72 with(fail)
      go_cut [14] from 64 to 102 (fun v wy=>wy=wr ∧ ∃kk:Nat,v = .int .i64 kk∧kk < ln)
      case first =>
       have HNK:=HN.out.kept KX.out
       by_cases hio:k < len1
       ·have p1:=HNK.cell k hio
        have hAd:=HNK.at_ (by omega)
        have hb1:=HNK.lt (by omega)
        clear HNK
        subst hAd
        obtain⟨rr,kk,g1,g2,hkk⟩:=and_mod (N:=N k) hn0
        have g3:(ln:Int) ≠ 0:=by omega
        go_wp2_with fail
        go_meet
        exact⟨rfl,kk,rfl,hkk⟩
       ·clear HNK
        go_wp2_with fail
        go_meet
        exact⟨rfl,0,rfl,hn0⟩
      case rest =>
       obtain⟨rfl,kk,rfl,hkk⟩:=hcut
       have hkL:kk < L.length:=by have:=HLN.out;omega
       obtain⟨b2,o2,c2,e,hb2,p1,p2⟩:=SF.out.at hkL
       injection e with e1 e2 e3
       subst e1
       clear e2 e3
       obtain⟨⟨ek,ev⟩,he⟩:∃x,x=L[kk]:=⟨_,rfl⟩
       have hmE:(ek,ev)∈E:=(RS.out.mem _).2 (.inr (by rw[he];exact List.getElem_mem hkL))
       have h10:=HTE.out _ hmE
       have RN:=Lib.hid (RS.out.next HUP.out hkL)
       rw[←he] at p1 p2 RN
       dsimp only[Ss] at p1 p2 RN
       obtain⟨r2',X2',hp,te'⟩:=UE.out.put (k:=ek) (v:=ev) (by have:=h10.1;simp only at this;omega) (by have:=h10.2;simp only at this;omega) (by have:=RS.out.len;have:=HLJ.out;omega)
       have TE':=Lib.hid te'
       have CP:=Lib.hid (fun w' (k:Kept (fun _=>False) wc w')=>TreePut_calls (UX.out.keptF k) ek ev)
       rw[hp] at CP
       unfold DoneTo at CP
       dsimp only at CP
       obtain⟨kx,hkx⟩:∃x,x=ba ek:=⟨_,rfl⟩
       obtain⟨vx,hvx⟩:∃x,x=ba ev:=⟨_,rfl⟩
       rw[←hkx] at p1 CP
       rw[←hvx] at p2 CP
       have NB2:Hid (¬(b2=q2.c∨b2=q2.m∨b2=q2.t)):=NQ2.out _ (BF.out _ _ rfl)
       clear hkx hvx he hmE h10 hp te'
       go_wp2_with fail
       go_region_held3 (fun w'=>w'.cell? ⟨b2,o2 + kk * 2,none⟩=some (.string kx)∧w'.cell? ⟨b2,o2 + kk * 2 + 1,none⟩=some (.string vx)) (go_keep)
        (first
         | (go_at_call 36;refine(CP.out _ (by repeat (first|exact Kept.refl _ _|refine Kept.drew ?_))).mono ?_;rintro e w7 ⟨rfl,tw7,k7⟩;have K7:Hid (Kept (fun k=>k=q2.c∨k=q2.m∨k=q2.t) wc w7):=Kept.trans (by repeat (first|exact Kept.refl _ _|refine Kept.drew ?_)) k7;have T7:=Lib.hid tw7;have x0:w7.cell? ⟨b2,o2 + kk * 2,none⟩=some (.string kx):=(World.cell?_of_block (K7.out.block b2 hb2 NB2.out)).trans p1;have x1:w7.cell? ⟨b2,o2 + kk * 2 + 1,none⟩=some (.string vx):=(World.cell?_of_block (K7.out.block b2 hb2 NB2.out)).trans p2;clear tw7 k7))
       go_wp2_with fail
       have S7:=(SF.out.keptS K7.out (fun b off n c e=>by obtain⟨e1, -, -⟩:=Value.slice.inj e;obtain⟨e1, -, -⟩:=Addr.mk.inj (Option.some.inj e1);rw[←e1];exact NB2.out)).part
       have s1:kk≤cl:=by omega
       have s2:kk + 1≤ln:=by omega
       have s4:(kk:Int) + 1≤(ln:Int):=by omega
       have s5:(0:Int)≤(kk:Int) + 1:=by omega
       have s3:IntKind.i64.wrap ((kk:Int) + 1)=(kk:Int) + 1:=by rw[IntKind.wrap_i64];omega
       have s6:(kk:Int)≤(kk:Int) + 1:=by omega
       have s7:((kk:Int) + 1).toNat=kk + 1:=by omega
       have s8:(kk:Int)≤(cl:Int):=by omega
       have HL1:Hid (kk=(L.take kk).length):=by show _=_;rw[List.length_take,Nat.min_eq_left (by omega)]
       have HL2:Hid (ln - (kk + 1)=(L.drop (kk + 1)).length):=by have:=HLN.out;show _=_;rw[List.length_drop];omega
       have P1:=Lib.hid (part_take S7 kk)
       have P2:=Lib.hid (part_drop S7 (kk + 1))
       have hb7:b2 < w7.heap.size:=Nat.lt_of_lt_of_le hb2 K7.out.size
       clear S7 x0 x1
       have HTN:Hid (ln - (kk + 1)=0∨cl ≠ kk + 1):=by show _∨_;omega
       by_cases hce:cl=kk + 1
       all_goals
        refine wp_region_z 9 (fun _=>True) (by kernel_rfl) trivial (fun hC=>?_)
        refine tz 0 (h:=?_)
        (try simp only[lits])
        refine tz 1 (h:=?_)
        (try simp only[lits])
        refine tz 2 (h:=?_)
        (try simp only[lits])
        refine tz 3 (h:=?_)
        (try simp only[lits])
        refine tz 4 (h:=?_)
        (try simp only[lits])
        refine tz 5 (h:=?_)
        (try simp only[lits])
        refine tz 6 (h:=?_)
        (try simp only[lits])
        refine tz 7 (h:=?_)
        (try simp only[lits])
        refine wpAnyZ_one (i:=8) (by kernel_rfl) rfl (fun K hK=>?_)
        refine step_cut (E1:=L.take kk) (E2:=L.drop (kk + 1)) rfl (.tmp 97) (.tmp 101) rfl rfl rfl HL1.out HL2.out hb7 P1.out (by first|exact P2.out|exact(fun j hj=>absurd hj (by rw[←HL2.out];omega))) (by omega) ?_
        intro A8 c8 w8 S8 K8 G8
        refine hK.out _ _ (fun _=>trivial) ?_
        clear hK
        (try simp only[lits])
        refine wpAnyZ_one (i:=9) (by kernel_rfl) rfl (fun K hK=>?_)
        go_simp
        refine hK.out _ _ (fun _=>trivial) ?_
        clear hK
        (try simp only[lits])
        refine wpAnyZ_done (by kernel_rfl) ?_ _
        go_wp2
        have K78:Hid (Kept (fun k=>k=q2.c∨k=q2.m∨k=q2.t) wc w8):=K7.out.trans ((Kept.refl _ _).drew.trans (K8.out.mono fun _ _=>False.elim))
        have U8:=Lib.hid (T7.out.keptF ((Kept.refl (fun _=>False) w7).drew.trans K8.out))
        have T8:=Lib.hid (TX.out.keptS K78.out AP2.out)
        have E8:=Lib.hid (RX.out.kept K78.out fun g hg=>NQ2.out g (own_ge RX.out hg))
        have KW8:=Lib.hid (CQ2.out _ _ _ KX.out (Kept.refl _ _) K78.out)
        have B8:Hid (B≤w8.heap.size):=Nat.le_trans BX.out K78.out.size
        have BF8:Hid (∀b o,A8=some ⟨b,o,none⟩→B≤b):=fun b o e=>by
         rcases G8.out.1 b o e with h|h
         ·rw[h];exact BF.out _ _ rfl
         ·exact Nat.le_trans (Nat.le_trans BX.out K7.out.size) h
        go_roundw
        case rel=>exact⟨k + 1,L.take kk ++ L.drop (kk + 1),insE P ek ev,A8,_,c8,X2',r2',by omega,by go_num,rfl,G8.out.2,by show _=_;rw[List.length_append, ←HL1.out, ←HL2.out],S8.out,BF8.out,RN.out,U8.out,TE'.out,T8.out,E8.out,KW8.out,B8.out⟩
        case measure=>simp[slN];omega
     ·obtain rfl:ln=0:=by omega
      have hL0:L = []:=List.eq_nil_of_length_eq_zero HLN.out.symm
      subst hL0
      have UE2:Hid (TE X2 r2 E):=by rw[←RS.out.done HUP.out];exact UE.out
      have CS1:=Lib.hid (Sound9_calls TX.out TT.out.ti RX.out.en (by have:=HLJ.out;omega))
      have CS2:=Lib.hid (fun w' (k:Kept (fun _=>False) wr w')=>Sound9_calls (UX.out.keptF k) UE2.out.ti (RX.out.keptF k).en (by have:=HLJ.out;omega))
      have E40:0 + E.length≤40:=by have:=HLJ.out;omega
      clear hn0 hcl HLN
      go_wp2_with fail
      refine CS1.out.mono ?_
      rintro e w5 ⟨rfl,k5⟩
      have K5:=Lib.hid k5
      clear k5
      go_wp2_with fail
      refine(CS2.out _ K5.out).mono ?_
      rintro e w6 ⟨rfl,k6⟩
      have K6:=Lib.hid (K5.out.trans k6)
      have T6:=Lib.hid (TX.out.keptF K6.out)
      have R6:=Lib.hid (RX.out.keptF K6.out)
      have KW6:=Lib.hid (KX.out.trans K6.out)
      have B6:Hid (B≤w6.heap.size):=Nat.le_trans BX.out K6.out.size
      clear k6 CS1 CS2 SF BF RS UX UE UE2 K5 K6
      go_wp2_with fail
      go_loopw [9,15,16,17,18] (fun l i _ _ _ wx=>∃(k:Nat) (E':List KV) (A':Option Addr) (l' c':Nat) (X':Sto) (r':Int),k + l'≤40∧i = .int .i64 k∧l = .slice A' l' c'∧Hid (l'=E'.length)∧Hid (ERow wx B (.slice A' l' c') E')∧Hid (TW wx q X' r')∧Hid (TE X' r' E')∧Hid (Kept (fun _=>False) w wx)∧Hid (B≤wx.heap.size)) (fun l _ _ _ _ _=>slN l)
      case atStart=>exact⟨0,E,Al,_,co,X,r,E40,rfl,rfl,rfl,R6.out,T6.out,TT.out,KW6.out,B6.out⟩
      case round =>
       obtain⟨k,E',A',l',c',X',r',hk,rfl,rfl,HLN,RE,TR',TT',KX',BX'⟩:=hrel
       clear R6 T6 KW6 B6
       by_cases hn0:0 < l'
       ·go_upto_if 121 with(fail)
        go_cut [16] from 113 to 159 (fun v wy=>wy=wr ∧ ∃kk:Nat,v = .int .i64 kk∧kk < l')
        case first =>
         have HNK:=HN.out.kept KX'.out
         by_cases hio:k < len1
         ·have p1:=HNK.cell k hio
          have hAd:=HNK.at_ (by omega)
          have hb1:=HNK.lt (by omega)
          clear HNK
          subst hAd
          obtain⟨rr,kk,g1,g2,hkk⟩:=and_mod (N:=N k) hn0
          have g3:(l':Int) ≠ 0:=by omega
          go_wp2_with fail
          go_meet
          exact⟨rfl,kk,rfl,hkk⟩
         ·clear HNK
          go_wp2_with fail
          go_meet
          exact⟨rfl,0,rfl,hn0⟩
        case rest =>
         obtain⟨rfl,kk,rfl,hkk⟩:=hcut
         have hkL:kk < E'.length:=by have:=HLN.out;omega
         obtain⟨b2,o2,c2,e,hb2,p1,p2⟩:=RE.out.en.at hkL
         injection e with e1 e2 e3
         subst e1
         clear e2 e3 p2
         have HDL:=Lib.hid (delE_lt hkL)
         have hgm:=getE_mem (List.getElem_mem hkL)
         obtain⟨ek,he⟩:∃x,x=E'[kk].1:=⟨_,rfl⟩
         rw[←he] at p1 HDL hgm
         dsimp only[Ss] at p1
         obtain⟨r5,X5,hp,te'⟩:=TT'.out.del hgm (by have:=HLN.out;omega)
         have TE':=Lib.hid te'
         have CD:=Lib.hid (TreeDelete_calls TR'.out ek)
         rw[hp] at CD
         unfold DelTo at CD
         dsimp only at CD
         have HLL:Hid (E'.length≤40):=by have:=HLN.out;show _≤_;omega
         have CR:=Lib.hid (fun w' (k:Kept (fun k=>k=q.c∨k=q.m∨k=q.t) wc w')=>refDel9_calls (RE.out.kept k fun g hg=>NQ.out g (own_ge RE.out hg)).en (by have:=HLL.out;omega) ek)
         have NB2:Hid (¬(b2=q.c∨b2=q.m∨b2=q.t)):=NQ.out _ (own_ge RE.out rfl)
         obtain⟨kx,hkx⟩:∃x,x=ba ek:=⟨_,rfl⟩
         rw[←hkx] at p1 CD CR
         clear hkx he hgm hp te' hkL
         go_wp2_with fail
         refine CD.out.mono ?_
         rintro e w7 ⟨rfl,tw7,k7⟩
         have T7:=Lib.hid tw7;have K7:=Lib.hid k7
         have x0:w7.cell? ⟨b2,o2 + kk * 2,none⟩=some (.string kx):=(World.cell?_of_block (K7.out.block b2 hb2 NB2.out)).trans p1
         have hb7:b2 < w7.heap.size:=Nat.lt_of_lt_of_le hb2 K7.out.size
         clear tw7 k7 CD p1
         go_wp2_with fail
         refine(CR.out _ K7.out).mono ?_
         rintro e w8 ⟨v8,rfl,er8,k8⟩
         obtain⟨A8,c8,rfl⟩:=er8.en.slice
         have B7:Hid (B≤w7.heap.size):=Nat.le_trans BX'.out K7.out.size
         have R8:=Lib.hid (er8.base B7.out);have K8:=Lib.hid k8
         have T8:=Lib.hid (T7.out.keptF k8)
         have CS:=Lib.hid (Sound9_calls T8.out TE'.out.ti er8.en (by have:=HLL.out;have:=HDL.out;omega))
         clear er8 k8 CR x0 hb7
         go_wp2_with fail
         refine CS.out.mono ?_
         rintro e w9 ⟨rfl,k9⟩
         have K9:=Lib.hid k9
         clear k9 CS
         have R9:=Lib.hid (R8.out.keptF K9.out)
         have T9:=Lib.hid (T8.out.keptF K9.out)
         have KW9:=Lib.hid ((CQ.out _ _ _ KX'.out (Kept.refl _ _) K7.out).trans (K8.out.trans K9.out))
         have B9:Hid (B≤w9.heap.size):=Nat.le_trans B7.out (K8.out.trans K9.out).size
         go_wp2_with fail
         go_roundw
         case rel=>exact⟨k + 1,delE E' ek,A8,_,c8,X5,r5,by have:=HDL.out;have:=HLN.out;omega,by go_num,rfl,rfl,R9.out,T9.out,TE'.out,KW9.out,B9.out⟩
         case measure=>have:=HDL.out;have:=HLN.out;simp[slN];omega
       ·obtain rfl:l'=0:=by omega
        have hE0:E' = []:=List.eq_nil_of_length_eq_zero HLN.out.symm
        subst hE0
        have hr':=TT'.out.gone
        subst hr'
        have CR:=Lib.hid (TreeRoot_calls TR'.out)
        go_wp2_with fail
        refine CR.out.mono ?_
        rintro e w5 ⟨rfl,rfl⟩
        go_wp2_with fail
        refine bodyPost_ret (v:=.bool true) (by simp[results,Tryz.f6,go_sem]) rfl ?_
        exact⟨rfl,KX'.out⟩
end Go.Proofs.YtfgjehecjgebdaaGreat
