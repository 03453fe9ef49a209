/- TreeFull: the walk. -/
import Derived.Test.YtfgjehecjgebdaaGreatMg53
import Derived.Test.YtfgjehecjgebdaaGreatMg49
import Derived.Test.YtfgjehecjgebdaaGreatMg47
namespace Go.Proofs.YtfgjehecjgebdaaGreat
open Go.RowKit Go.Maps Go.ChangeMaps
attribute [local go_sem] Oper.semAt_some
theorem act_cells {w:World} {g:Nat} {k n:Int} {s t:ByteArray} {T:TypeId} {f} (h:w.heap[g]? = some (.cells #[.int .i64 k,.int .i64 n,.string s,.string t] T f)) :
  w.cell? ⟨g,0,none⟩=some (.int .i64 k)∧w.cell? ⟨g,1,none⟩=some (.int .i64 n)∧w.cell? ⟨g,2,none⟩=some (.string s)∧w.cell? ⟨g,3,none⟩=some (.string t):=by
 refine⟨?_,?_,?_,?_⟩<;>(rw[cell_heap h];rfl)
set_option maxRecDepth 100000 in
set_option maxHeartbeats 8000000 in
theorem treeFull_walk (nn:Int) {A:Option Addr} {len cap b0 off:Nat} {K N:Nat→Int} {S V:Nat→ByteArray} {w:World} (hm:len≤maxLen) (hA:Acts4 w A len b0 off K N S V) :
  Calls Tryz.prog 5 #[.int .i64 nn,.slice A len cap] w fun e w'=>e = .returned (.bool true)∧Kept (fun _=>False) w w':=by
 unfold maxLen at hm
 have HA:=Lib.hid hA
 obtain⟨rr,hrr⟩:∃x:Nat,(x:Int)=nn % 8:=⟨(nn % 8).toNat,by omega⟩
 have and1:bits BinOp.and IntKind.i64 nn 7=rr:=by rw[hrr];exact and_mask nn 3 (by omega)
 have hr8:rr < 8:=by omega
 obtain⟨p,hp⟩:∃p,p=4 + rr:=⟨_,rfl⟩
 have HBG:=Lib.hid (fun w=>Begin_calls (p:=p) (by omega) (by omega) w)
 have HCB:=Lib.hid (Ckd.blank (p:=p) (by omega) (by omega))
 have HP:Hid (p≤128):=by show _≤_;omega
 have hpc:(p:Int)=4 + (rr:Int):=by omega
 have HTI:Hid (TI (blankX p) (-1) []):=by
  obtain⟨-, -, -,h4, -, -⟩:=blank_disk (p:=p) (by omega) (by omega)
  have hs:∀j,(blankX p).s j=0:=fun j=>by
   unfold Sto.s
   rw[h4]
   simp only[List.getD_eq_getElem?_getD,List.getElem?_replicate]
   split<;>rfl
  exact⟨fun j=>by rw[hs];omega,by rw[h4,List.length_replicate];omega,.inl ⟨rfl,rfl,fun x=>by rw[hs];rfl⟩⟩
 rw[hpc] at HBG
 clear hA hrr hp hpc
 go_enter Tryz.func5,Tryz.ntmps5
 go_wp2_with fail
 refine(awake9_calls w).mono ?_
 rintro e w0 ⟨rfl,k0⟩
 have K0:=Lib.hid k0
 clear k0
 go_wp2_with fail
 refine(HBG.out w0).mono ?_
 rintro e w1 ⟨q,rfl,tw1,k1,hq, -⟩
 have FS1:Hid (FS w w1 q q p 0 (blankX p) (-1) []):=⟨rfl,rfl,rfl,tw1,HTI.out,⟨1,_,_,Nat.le_refl _,HCB.out⟩,fun i hi=>Nat.le_trans K0.out.size (hq.all i hi),K0.out.trans k1⟩
 clear tw1 k1 hq K0 HTI HCB HBG and1
 go_wp2_with fail
 go_loopw [7,8] (fun l i wr=>∃(j:Nat) (E:List KV) (Al:Option Addr) (lo co:Nat) (X:Sto) (r:Int) (q':TQ),j≤80∧j≤len∧i = .int .i64 j∧l = .slice Al lo co∧lo≤80∧Hid (lo=E.length∧lo≤j)∧Hid (ERow wr 0 (.slice Al lo co) E)∧Hid (FS w wr q q' p j X r E)) (fun _ i _=>80 - (RowKit.intOf i).toNat)
 case atStart=>exact⟨0, [],none,0,0,_,_,q,by omega,by omega,rfl,rfl,by omega,⟨rfl,Nat.zero_le _⟩,ERow.nil _ _,FS1.out⟩
 case round =>
  obtain⟨j,E,Al,lo,co,X,r,q',hj,hjl0,rfl,rfl,hlo,HE,ER,HF⟩:=hrel
  by_cases hin:j < len∧j < 80
  ·obtain⟨hjl,hj80⟩:=hin
   have hA2:=HA.out.kept HF.out.kw
   obtain⟨y0,y1,y2,y3⟩:=hA2.cell j hjl
   have hsz:=hA2.sz j hjl
   have hAd:=hA2.at_ (by omega)
   have hb0:=hA2.lt (by omega)
   have CT:=Lib.hid (tidy_calls (K j) (N j) (S j) (V j) hsz.1 hsz.2 wr)
   clear hA2 hsz
   subst hAd
   obtain⟨tk,htk⟩:∃t,t=cutB (S j) 26:=⟨_,rfl⟩
   obtain⟨tv,htv⟩:∃t,t=cutB (V j) 34:=⟨_,rfl⟩
   rw[←htk, ←htv] at CT
   generalize K j=kj at *
   generalize N j=nj at *
   generalize S j=sj at *
   generalize V j=vj at *
   obtain⟨ks,hks⟩:∃s,s=ba tk:=⟨_,rfl⟩
   obtain⟨vs,hvs⟩:∃s,s=ba tv:=⟨_,rfl⟩
   rw[←hks, ←hvs] at CT
   have HKS:=Lib.hid hks;have HVS:=Lib.hid hvs
   clear htk htv hks hvs
   go_wp2_with fail
   refine CT.out.mono ?_
   rintro e w2 ⟨rfl,k2⟩
   obtain⟨G,hG⟩:∃G,G=w2.heap.size:=⟨_,rfl⟩
   obtain⟨W,hW⟩:∃W,W=w2.alloc (.cells #[.int .i64 kj,.int .i64 nj,.string ks,.string vs] 72):=⟨_,rfl⟩
   have KW:Hid (Kept (fun _=>False) wr W):=by rw[hW];exact k2.alloc _
   have HBX:Hid (W.heap[G]? = some (.cells #[.int .i64 kj,.int .i64 nj,.string ks,.string vs] 72 (0,0))):=by show _=_;rw[hW,hG];exact heap_new _ _
   have F2:=Lib.hid (HF.out.keptF KW.out)
   have E2:=Lib.hid (ER.out.keptF KW.out)
   obtain⟨a0,a1,a2,a3⟩:=act_cells HBX.out
   have hgl:=lt_heap HBX.out
   have HGL:Hid (q'.In (· < G)):=fun i hi=>by have:=HF.out.tw.low i hi;have:=k2.size;omega
   have HWG:Hid (w.heap.size≤G):=by have:=HF.out.kw.size;have:=k2.size;show _≤_;omega
   have HEG:Hid (∀g,(Value.slice Al lo co).ownBlock=some g → ¬g=G):=fun g hg e=>by have:=own_lt ER.out hg;have:=k2.size;omega
   clear k2 CT y0 y1 y2 y3 hb0
   go_upto_region 11 with(fail)
   rw[←hW, ←hG]
   clear hW hG
   obtain⟨cc,hcc⟩:∃c,c=decide (kj=3∧0 < lo):=⟨_,rfl⟩
   have HCC:=Lib.hid hcc
   clear hcc
   go_cut [47] from 25 to 142 (fun v wx=>v = .bool cc∧wx=W)
   case first =>
    have hcase:(¬kj=3∧cc=false)∨(kj=3 ∧ ¬ 0 < lo∧cc=false)∨(kj=3∧0 < lo∧cc=true):=by
     rw[HCC.out]
     by_cases h1:kj=3<;>by_cases h2:0 < lo<;>simp[h1,h2]
    rcases hcase with⟨h1,rfl⟩|⟨h1,h2,rfl⟩|⟨h1,h2,rfl⟩
    all_goals
     go_wp2_with fail
     go_meet
     exact⟨rfl,rfl⟩
   case rest =>
   obtain⟨rfl,rfl⟩:=hcut
   go_upto_if 47 with(fail)
   go_cut [] from 25 to 142 (fun wx=>∃(kd:Int) (kk:Bs) (kx:ByteArray),Hid (kx=ba kk)∧Hid (wx.heap[G]? = some (.cells #[.int .i64 kd,.int .i64 nj,.string kx,.string vs] 72 (0,0)))∧Hid (FS w wx q q' p j X r E)∧Hid (ERow wx 0 (.slice Al lo co) E))
   case first =>
    cases cc with
    | false =>
     go_wp2_with fail
     go_meet
     exact⟨kj,tk,ks,HKS,HBX,F2,E2⟩
    | true =>
     have hl0:0 < lo:=by have:=HCC.out;simp at this;exact this.2
     obtain⟨rr2,kk,g1,g2,hkk⟩:=and_mod (N:=nj) hl0
     have g3:(lo:Int) ≠ 0:=by omega
     have hkL:kk < E.length:=by have:=HE.out;omega
     obtain⟨b2,o2,c2,e,hb2,p1,p2⟩:=E2.out.en.at hkL
     injection e with e1 e2 e3
     subst e1
     clear e2 e3 p2
     obtain⟨ek,he⟩:∃x,x=E[kk].1:=⟨_,rfl⟩
     rw[←he] at p1
     dsimp only[Ss] at p1
     obtain⟨kx,hkx⟩:∃x,x=ba ek:=⟨_,rfl⟩
     rw[←hkx] at p1
     have HKX:=Lib.hid hkx
     have hfz:∀i,wc.frozen? ⟨G,i,none⟩=false:=fun i=>free_heap HBX.out i
     have hbG:b2 ≠ G:=HEG.out b2 rfl
     clear he hkx hkL
     go_wp2_with fail
     have g6:¬lo=0:=by omega
     have g4:(0:Int)≤(kk:Int):=by omega
     have g5:(kk:Int) < (lo:Int):=by omega
     refine wp_region_z 13 (fun w'=>w'.cell? ⟨G,1,none⟩=some (.int .i64 nj)∧w'.cell? ⟨b2,o2 + kk * 2,none⟩=some (.string kx)) (by kernel_rfl) ⟨a1,p1⟩ (fun hC=>?_)
     refine tz 0 (h:=?_)
     (try simp only[lits])
     refine tz 1 (h:=?_)
     (try simp only[lits])
     refine tz 2 (h:=?_)
     (try simp only[lits])
     refine tz 3 (h:=?_)
     (try simp only[lits])
     refine tz 4 (h:=?_)
     (try simp only[lits])
     refine tz 5 (h:=?_)
     (try simp only[lits])
     refine tz 6 (h:=?_)
     (try simp only[lits])
     refine tz 7 (h:=?_)
     (try simp only[lits])
     refine tz 8 (h:=?_)
     (try simp only[lits])
     refine tz 9 (h:=?_)
     (try simp only[lits])
     refine tz 10 (h:=?_)
     (try simp only[lits])
     refine wpAnyZ_one (i:=11) (by kernel_rfl) rfl (fun K hK=>?_)
     go_simp
     have K5:Kept (· = G) wc (wc.setCell ⟨G,0,none⟩ (.int .i64 2)).drew:=((Kept.refl _ _).set1 0 _).drew
     have hC5:(wc.setCell ⟨G,0,none⟩ (.int .i64 2)).drew.cell? ⟨G,1,none⟩=some (.int .i64 nj)∧(wc.setCell ⟨G,0,none⟩ (.int .i64 2)).drew.cell? ⟨b2,o2 + kk * 2,none⟩=some (.string kx) :=
      ⟨(cell_heap (w:=(wc.setCell ⟨G,0,none⟩ (.int .i64 2)).drew) (heap_set HBX.out 0 (.int .i64 2)) 1).trans rfl,(World.cell?_of_block (K5.block b2 hb2 hbG)).trans p1⟩
     refine hK.out _ _ (fun _=>hC5) ?_
     clear hK hC
     (try simp only[lits])
     refine wpAnyZ_one (i:=12) (by kernel_rfl) rfl (fun K hK=>?_)
     go_simp
     refine hK.out _ _ (fun _=>hC5) ?_
     clear hK
     (try simp only[lits])
     refine wpAnyZ_one (i:=13) (by kernel_rfl) rfl (fun K hK=>?_)
     go_simp
     refine hK.out _ _ (fun h=>by cases h) ?_
     clear hK hC5
     (try simp only[lits])
     refine wpAnyZ_done (by kernel_rfl) ?_ _
     go_wp2_with fail
     go_meet
     have K6:Kept (· = G) wc ((wc.setCell ⟨G,0,none⟩ (.int .i64 2)).setCell ⟨G,2,none⟩ (.string kx)).drew:=(((Kept.refl _ _).set1 0 _).set1 2 _).drew
     exact⟨2,ek,kx,HKX,heap_set (heap_set HBX.out 0 (.int .i64 2)) 2 (.string kx),F2.out.keptG K6 HGL.out HWG.out,E2.out.kept K6 HEG.out⟩
   case rest =>
   obtain⟨kd,kk,kx,HKK,HBK,F4,E4⟩:=hcut
   have CSt:=Lib.hid (TreeStore_calls F4.out.tw)
   have CTx:=Lib.hid (Text_calls F4.out.tw.sto.sp)
   have CRt:=Lib.hid fun w' (kk:Kept (fun _=>False) wc w')=>TreeRoot_calls (F4.out.tw.keptF kk)
   have s0:wc.cell? ⟨q.st,0,none⟩=some (.pointer (some ⟨q'.b,0,none⟩)):=by rw[←F4.out.qst];exact(cell_heap F4.out.tw.sto.head 0).trans rfl
   rw[F4.out.qt] at CSt CRt
   rw[F4.out.qst] at CSt
   obtain⟨tx,htx⟩:∃s,s=bstr (bys X.l):=⟨_,rfl⟩
   have HTX:=Lib.hid htx
   rw[←htx] at CTx
   clear htx
   go_wp2_with fail
   refine CSt.out.mono ?_
   rintro e w4 ⟨rfl,rfl⟩
   go_wp2_with fail
   refine CTx.out.mono ?_
   rintro e w4 ⟨rfl,k4⟩
   have K4:=Lib.hid k4
   go_wp2_with fail
   refine(CRt.out _ K4.out).mono ?_
   rintro e w5 ⟨rfl,rfl⟩
   have F5:=Lib.hid (F4.out.keptF k4);have E5:=Lib.hid (E4.out.keptF k4)
   have HB5:=Lib.hid (k4.heap HBK.out not_false)
   clear k4 CSt CTx CRt F4 E4 HBK s0
   obtain⟨a0,a1,a2,a3⟩:=act_cells HB5.out
   have hgl:=lt_heap HB5.out
   go_upto_block 2 with(fail)
   go_cut [7,12,13] from 25 to 142 (fun l e _ wx=>∃(E':List KV) (A':Option Addr) (l' c':Nat) (X':Sto) (r':Int) (q2:TQ) (code:Int),l = .slice A' l' c'∧e = .int .i64 code∧Hid (l'=E'.length∧l'≤j + 1)∧Hid (ERow wx 0 (.slice A' l' c') E')∧Hid (FS w wx q q2 p (j + 1) X' r' E')∧(code=0∨((code=7∨code=3)∧r'=r∧Hid (X'.l=X.l))))
   case first =>
    have hc5:=F5.out.ck
    have HFB:Hid (¬q'.Any G):=F5.out.tw.far HB5.out (by decide) (by decide) (by decide) (by decide) (by decide) (by decide)
    have HUP:=Lib.hid F5.out.ti.up
    have HB6:Hid (∀w':World,Kept (fun k=>k=q'.c∨k=q'.m∨k=q'.t) w4 w'→w'.heap[G]? = some (.cells #[.int .i64 kd,.int .i64 nj,.string kx,.string vs] 72 (0,0))∧ERow w' 0 (.slice Al lo co) E):=fun w' kk=>⟨(TQ.cmt kk).heap HB5.out HFB.out,E5.out.keptQ F5.out.tw (TQ.cmt kk)⟩
    have HE2:Hid (E.length≤80∧lo=E.length∧lo≤j):=⟨by have:=HE.out;omega,HE.out⟩
    clear hc5
    by_cases h1:kd=1
    ·subst h1
     obtain⟨code,r',X',hp,hres,hst⟩:=putF F5.out.ti kk tv
     have CP:=Lib.hid (TreePut_calls F5.out.tw kk tv)
     rw[hp,F5.out.qt, ←HKK.out, ←HVS.out] at CP
     unfold DoneTo at CP
     dsimp only at CP
     have HST:=Lib.hid hst
     clear hp hst
     rcases hres with⟨rfl, -, -,ti'⟩|⟨hcode,rfl,hXl,ti'⟩
     ·have TI':=Lib.hid ti'
      clear ti'
      go_wp2_with fail
      refine CP.out.mono ?_
      rintro e w6 ⟨rfl,tw6,k6⟩
      obtain⟨hb6,er6⟩:=HB6.out w6 k6
      have F6:=Lib.hid (F5.out.step tw6 k6 TI'.out HST.out)
      have CR:=Lib.hid (refPut9_calls er6.en (by have:=HE2.out;omega) HUP.out kk tv)
      rw[←HKK.out, ←HVS.out] at CR
      clear a0 a1 a2 a3 hgl
      obtain⟨a0,a1,a2,a3⟩:=act_cells hb6
      have hgl:=lt_heap hb6
      clear tw6 k6 hb6 er6 CP
      go_wp2_with fail
      refine CR.out.mono ?_
      rintro e w7 ⟨v7,rfl,er7,k7⟩
      obtain⟨A7,c7,rfl⟩:=er7.en.slice
      have E7:=Lib.hid (er7.base (Nat.zero_le _));have F7:=Lib.hid (F6.out.keptF k7).more
      clear er7 k7 CR
      go_wp2_with fail
      go_meet
      exact⟨_,A7,_,c7,X',r',q',0,rfl,rfl,⟨rfl,by have:=insE_len E kk tv;have:=HE2.out;omega⟩,E7,F7,.inl rfl⟩
     ·have TI':=Lib.hid ti';have HXL:=Lib.hid hXl
      clear ti' hXl
      rcases hcode with rfl|rfl
      all_goals
       go_wp2_with fail
       refine CP.out.mono ?_
       rintro e w6 ⟨rfl,tw6,k6⟩
       have F6:=Lib.hid (F5.out.step tw6 k6 TI'.out HST.out).more
       have E6:=Lib.hid (HB6.out w6 k6).2
       clear tw6 k6 CP
       go_wp2_with fail
       go_meet
      ·exact⟨E,Al,lo,co,X',r',q',7,rfl,rfl,⟨HE2.out.2.1,by have:=HE2.out;omega⟩,E6,F6,.inr ⟨.inl rfl,rfl,HXL⟩⟩
      ·exact⟨E,Al,lo,co,X',r',q',3,rfl,rfl,⟨HE2.out.2.1,by have:=HE2.out;omega⟩,E6,F6,.inr ⟨.inr rfl,rfl,HXL⟩⟩
    ·by_cases h2:kd=2
     ·subst h2
      obtain⟨bb,code,r',X',hp,hres,hst⟩:=delF F5.out.ti kk
      have CP:=Lib.hid (TreeDelete_calls F5.out.tw kk)
      rw[hp,F5.out.qt, ←HKK.out] at CP
      unfold DelTo at CP
      dsimp only at CP
      have HST:=Lib.hid hst
      clear hp hst h1
      rcases hres with⟨rfl,rfl,ti'⟩|⟨rfl,hcode,rfl,hXl,ti'⟩
      ·have TI':=Lib.hid ti'
       clear ti'
       go_wp2_with fail
       refine CP.out.mono ?_
       rintro e w6 ⟨rfl,tw6,k6⟩
       obtain⟨hb6,er6⟩:=HB6.out w6 k6
       have F6:=Lib.hid (F5.out.step tw6 k6 TI'.out HST.out)
       have CR:=Lib.hid (refDel9_calls er6.en (by have:=HE2.out;omega) kk)
       rw[←HKK.out] at CR
       clear a0 a1 a2 a3 hgl
       obtain⟨a0,a1,a2,a3⟩:=act_cells hb6
       have hgl:=lt_heap hb6
       clear tw6 k6 hb6 er6 CP
       go_wp2_with fail
       refine CR.out.mono ?_
       rintro e w7 ⟨v7,rfl,er7,k7⟩
       obtain⟨A7,c7,rfl⟩:=er7.en.slice
       have E7:=Lib.hid (er7.base (Nat.zero_le _));have F7:=Lib.hid (F6.out.keptF k7).more
       clear er7 k7 CR
       go_wp2_with fail
       go_meet
       exact⟨_,A7,_,c7,X',r',q',0,rfl,rfl,⟨rfl,by have:=delE_le E kk;have:=HE2.out;omega⟩,E7,F7,.inl rfl⟩
      ·have TI':=Lib.hid ti';have HXL:=Lib.hid hXl
       clear ti' hXl
       rcases hcode with rfl|rfl
       all_goals
        go_wp2_with fail
        refine CP.out.mono ?_
        rintro e w6 ⟨rfl,tw6,k6⟩
        have F6:=Lib.hid (F5.out.step tw6 k6 TI'.out HST.out).more
        have E6:=Lib.hid (HB6.out w6 k6).2
        clear tw6 k6 CP
        go_wp2_with fail
        go_meet
       ·exact⟨E,Al,lo,co,X',r',q',0,rfl,rfl,⟨HE2.out.2.1,by have:=HE2.out;omega⟩,E6,F6,.inl rfl⟩
       ·exact⟨E,Al,lo,co,X',r',q',7,rfl,rfl,⟨HE2.out.2.1,by have:=HE2.out;omega⟩,E6,F6,.inr ⟨.inl rfl,rfl,HXL⟩⟩
     ·by_cases h4:kd=4
      ·subst h4
       have CSt:=Lib.hid (TreeStore_calls F5.out.tw)
       have CRt:=Lib.hid (TreeRoot_calls F5.out.tw)
       have CK:=Lib.hid (F5.out.ckd (by omega) HP.out)
       rw[F5.out.qt] at CSt CRt
       rw[F5.out.qst] at CSt
       clear h1 h2
       go_wp2_with fail
       refine CSt.out.mono ?_
       rintro e w6 ⟨rfl,rfl⟩
       go_wp2_with fail
       refine CRt.out.mono ?_
       rintro e w6 ⟨rfl,rfl⟩
       go_wp2_with fail
       refine CK.out.mono ?_
       rintro e w6 ⟨rfl,k6,q2,f6⟩
       have F6:=Lib.hid f6;have E6:=Lib.hid (E5.out.keptQ F5.out.tw k6)
       clear f6 k6 CK CSt CRt
       go_wp2_with fail
       go_meet
       exact⟨E,Al,lo,co,_,r,q2,0,rfl,rfl,⟨HE2.out.2.1,by have:=HE2.out;omega⟩,E6,F6,.inl rfl⟩
      ·go_wp2_with fail
       go_meet
       exact⟨E,Al,lo,co,X,r,q',0,rfl,rfl,⟨HE2.out.2.1,by have:=HE2.out;omega⟩,E5,Lib.hid F5.out.more,.inl rfl⟩
   case rest =>
   obtain⟨E',A',l',c',X',r',q2,code,rfl,rfl,HL,E6,F6,hcode⟩:=hcut
   have HL80:Hid (E'.length≤5000):=by have:=HL.out;show _≤_;omega
   have CS:=Lib.hid fun w' (kk:Kept (fun _=>False) wc w')=>Sound9_calls (F6.out.tw.keptF kk) F6.out.ti (E6.out.keptF kk).en HL80.out
   rw[F6.out.qt] at CS
   have hl80:l'≤80:=by have:=HL.out;omega
   rcases hcode with rfl|⟨hcode,rfl,HXL⟩
   ·go_wp2_with fail
    refine(CS.out _ (Kept.refl _ _)).mono ?_
    rintro e w7 ⟨rfl,k7⟩
    have F7:=Lib.hid (F6.out.keptF k7);have E7:=Lib.hid (E6.out.keptF k7)
    clear k7 CS
    go_wp2_with fail
    go_roundw
    case rel=>exact⟨j + 1,E',A',l',c',X',r',q2,by omega,by omega,by go_num,rfl,hl80,HL.out,E7.out,F7.out⟩
    case measure=>simp[RowKit.intOf];omega
   ·have CSt:=Lib.hid (TreeStore_calls F6.out.tw)
    have CTx:=Lib.hid (Text_calls F6.out.tw.sto.sp)
    have CRt:=Lib.hid fun w' (kk:Kept (fun _=>False) wc w')=>TreeRoot_calls (F6.out.tw.keptF kk)
    have s0:wc.cell? ⟨q.st,0,none⟩=some (.pointer (some ⟨q2.b,0,none⟩)):=by rw[←F6.out.qst];exact(cell_heap F6.out.tw.sto.head 0).trans rfl
    rw[F6.out.qt] at CSt CRt
    rw[F6.out.qst] at CSt
    rw[HXL.out, ←HTX.out] at CTx
    rcases hcode with rfl|rfl
    all_goals
     go_wp2_with fail
     refine CSt.out.mono ?_
     rintro e w7 ⟨rfl,rfl⟩
     go_wp2_with fail
     refine CTx.out.mono ?_
     rintro e w7 ⟨rfl,k7⟩
     have K7:=Lib.hid k7
     clear k7
     go_wp2_with fail
     refine(CRt.out _ K7.out).mono ?_
     rintro e w8 ⟨rfl,rfl⟩
     go_wp2_with fail
     refine(CS.out _ K7.out).mono ?_
     rintro e w8 ⟨rfl,k8⟩
     have F7:=Lib.hid (F6.out.keptF (K7.out.trans k8));have E7:=Lib.hid (E6.out.keptF (K7.out.trans k8))
     clear k8 CS CSt CTx CRt
     go_wp2_with fail
     go_roundw
     case rel=>exact⟨j + 1,E',A',l',c',X',r',q2,by omega,by omega,by go_num,rfl,hl80,HL.out,E7.out,F7.out⟩
     case measure=>simp[RowKit.intOf];omega
  ·have hcase:¬j < len∨(j < len ∧ ¬j < 80):=by omega
   clear hin
   rcases hcase with hjl|⟨hjl,hj80⟩
   all_goals
    go_wp2_with fail
    refine bodyPost_ret (v:=.bool true) (by simp[results,Tryz.f5,go_sem]) rfl ?_
    exact⟨rfl,HF.out.kw⟩
end Go.Proofs.YtfgjehecjgebdaaGreat
