/- TreePlays: the walk. -/
import Derived.Test.YtfgjehecjgebdaaGreatMg52
import Derived.Test.YtfgjehecjgebdaaGreatMg53
import Derived.Test.YtfgjehecjgebdaaGreatMg31
namespace Go.Proofs.YtfgjehecjgebdaaGreat
open Go.RowKit Go.Maps Go.ChangeMaps
attribute [local go_sem] Oper.semAt_some
theorem FP.ckd {w wr q n X r E} (h:FP w wr q n X r E) (hn:n≤99):Calls Tryz.prog 21 #[.pointer (some ⟨q.st,0,none⟩),.int .i64 r,.int .i64 1,.int .i64 1] wr fun e w'=>e = .returned (.int .i64 0)∧Kept q.Any wr w' ∧
  ∃q2:TQ,(q2.t=q.t∧q2.st=q.st∧q2.p=q.p∧q2.g=q.g)∧FS w w' q2 q2 128 (n + 1) (X.check r 1 1).2 r E:=by
 obtain⟨N,l0,K,h1,h2⟩:=h.fs.ck
 refine(h.fs.tw.ck h.fs.ti h2 (by omega) (by omega)).mono ?_
 rintro e w' ⟨he,k,vc',tw,ho⟩
 obtain⟨c1,c2,c3, -⟩:=h2.check h.fs.ti h.fs.tw.txt (by omega) (by omega)
 have kw:Kept (fun _=>False) w w':=h.fs.kw.then k fun i hi e=>by have:=h.fs.own.any e;omega
 have hs:=h.fs.kw.size
 refine⟨he,k, { q with vc:=vc' },⟨rfl,rfl,rfl,rfl⟩,⟨rfl,rfl,rfl,tw,c3,⟨N + 1,_,_,by omega,c2⟩,fun i hi=>?_,kw⟩⟩
 rcases hi with e|e|e|e|e|e|e|e
 iterate 7 exact h.fs.own _ (by simp[e])
 rcases ho _ e with e|e
 ·exact h.fs.own _ (by simp[e])
 ·show _≤_;omega
theorem run_sup_root (a b c d:Value) (w:World):(Instr.field 78 (.agg #[a,b,c,d]) 1).run Tryz.prog w = .ok b w:=by kernel_rfl
theorem delE_none {E:List KV} {k:Bs} (h:getE E k=none):delE E k=E:=by
 unfold getE at h
 rw[List.find?_eq_none] at h
 unfold delE
 rw[List.filter_eq_self]
 exact fun a ha=>by simpa using h a ha
set_option maxRecDepth 100000 in
set_option maxHeartbeats 8000000 in
theorem treePlays_walk {A:Option Addr} {len cap b0 off:Nat} {K N:Nat→Int} {S V:Nat→ByteArray} {w:World} (hm:len≤maxLen) (hA:Acts4 w A len b0 off K N S V) :
  Calls Tryz.prog 12 #[.slice A len cap] w fun e w'=>e = .returned (.bool true)∧Kept (fun _=>False) w w':=by
 unfold maxLen at hm
 have HA:=Lib.hid hA
 have HBG:=Lib.hid (fun w=>Begin_calls (p:=128) (by omega) (by omega) w)
 clear hA
 go_enter Tryz.func12,Tryz.ntmps12
 go_wp2_with fail
 refine(HBG.out w).mono ?_
 rintro e w1 ⟨q,rfl,tw1,k1,hq,hg⟩
 have FS1:Hid (FP w w1 q 0 (blankX 128) (-1) []):=FP.blank tw1 hq.p hg hq.all k1
 clear tw1 k1 hq hg HBG
 go_wp2_with fail
 refine(awake9_calls w1).mono ?_
 rintro e w2 ⟨rfl,k2⟩
 have FS2:=Lib.hid (FS1.out.keptF k2)
 clear k2 FS1
 go_wp2_with fail
 go_loopw [3,5,6] (fun t l i wr=>∃(j:Nat) (E:List KV) (Al:Option Addr) (lo co:Nat) (X:Sto) (r:Int) (q':TQ) (T:Nat),j≤100∧j≤len∧i = .int .i64 j∧l = .slice Al lo co∧t = .pointer (some ⟨T,0,none⟩)∧lo≤100∧Hid (lo=E.length∧lo≤j∧q'.t=T)∧Hid (ERow wr 0 (.slice Al lo co) E)∧Hid (FP w wr q' j X r E)) (fun _ _ i _=>100 - (RowKit.intOf i).toNat)
 case atStart=>exact⟨0, [],none,0,0,_,_,q,_,by omega,by omega,rfl,rfl,rfl,by omega,⟨rfl,Nat.zero_le _,rfl⟩,ERow.nil _ _,FS2.out⟩
 case round =>
  obtain⟨j,E,Al,lo,co,X,r,q',T,hj,hjl0,rfl,rfl,rfl,hlo,HE,ER,HF⟩:=hrel
  by_cases hin:j < len∧j < 100
  ·obtain⟨hjl,hj100⟩:=hin
   have hA2:=HA.out.kept HF.out.fs.kw
   obtain⟨y0,y1,y2,y3⟩:=hA2.cell j hjl
   have hsz:=hA2.sz j hjl
   have hAd:=hA2.at_ (by omega)
   have hb0:=hA2.lt (by omega)
   have CT:=Lib.hid (tidy_calls (K j) (N j) (S j) (V j) hsz.1 hsz.2 wr)
   clear hA2 hsz
   subst hAd
   obtain⟨tk,htk⟩:∃t,t=cutB (S j) 26:=⟨_,rfl⟩
   obtain⟨tv,htv⟩:∃t,t=cutB (V j) 34:=⟨_,rfl⟩
   rw[←htk, ←htv] at CT
   generalize K j=kj at *
   generalize N j=nj at *
   generalize S j=sj at *
   generalize V j=vj at *
   obtain⟨ks,hks⟩:∃s,s=ba tk:=⟨_,rfl⟩
   obtain⟨vs,hvs⟩:∃s,s=ba tv:=⟨_,rfl⟩
   rw[←hks, ←hvs] at CT
   have HKS:=Lib.hid hks;have HVS:=Lib.hid hvs
   clear htk htv hks hvs
   go_wp2_with fail
   refine CT.out.mono ?_
   rintro e w2 ⟨rfl,k2⟩
   obtain⟨G,hG⟩:∃G,G=w2.heap.size:=⟨_,rfl⟩
   obtain⟨W,hW⟩:∃W,W=w2.alloc (.cells #[.int .i64 kj,.int .i64 nj,.string ks,.string vs] 72):=⟨_,rfl⟩
   have KW:Hid (Kept (fun _=>False) wr W):=by rw[hW];exact k2.alloc _
   have HBX:Hid (W.heap[G]? = some (.cells #[.int .i64 kj,.int .i64 nj,.string ks,.string vs] 72 (0,0))):=by show _=_;rw[hW,hG];exact heap_new _ _
   have F2:=Lib.hid (HF.out.keptF KW.out)
   have E2:=Lib.hid (ER.out.keptF KW.out)
   obtain⟨a0,a1,a2,a3⟩:=act_cells HBX.out
   have hgl:=lt_heap HBX.out
   have HGL:Hid (q'.In (· < G)):=fun i hi=>by have:=HF.out.fs.tw.low i hi;have:=k2.size;omega
   have HWG:Hid (w.heap.size≤G):=by have:=HF.out.fs.kw.size;have:=k2.size;show _≤_;omega
   have HEG:Hid (∀g,(Value.slice Al lo co).ownBlock=some g → ¬g=G):=fun g hg e=>by have:=own_lt ER.out hg;have:=k2.size;omega
   clear k2 CT y0 y1 y2 y3 hb0
   go_upto_region 9 with(fail)
   rw[←hW, ←hG]
   clear hW hG
   obtain⟨cc,hcc⟩:∃c,c=decide (kj=3∧0 < lo):=⟨_,rfl⟩
   have HCC:=Lib.hid hcc
   clear hcc
   go_cut [53] from 31 to 191 (fun v wx=>v = .bool cc∧wx=W)
   case first =>
    have hcase:(¬kj=3∧cc=false)∨(kj=3 ∧ ¬ 0 < lo∧cc=false)∨(kj=3∧0 < lo∧cc=true):=by
     rw[HCC.out]
     by_cases h1:kj=3<;>by_cases h2:0 < lo<;>simp[h1,h2]
    rcases hcase with⟨h1,rfl⟩|⟨h1,h2,rfl⟩|⟨h1,h2,rfl⟩
    all_goals
     go_wp2_with fail
     go_meet
     exact⟨rfl,rfl⟩
   case rest =>
   obtain⟨rfl,rfl⟩:=hcut
   go_upto_if 53 with(fail)
   go_cut [] from 31 to 191 (fun wx=>∃(kd:Int) (kk:Bs) (kx:ByteArray),Hid (kx=ba kk)∧Hid (wx.heap[G]? = some (.cells #[.int .i64 kd,.int .i64 nj,.string kx,.string vs] 72 (0,0)))∧Hid (FP w wx q' j X r E)∧Hid (ERow wx 0 (.slice Al lo co) E))
   case first =>
    cases cc with
    | false =>
     go_wp2_with fail
     go_meet
     exact⟨kj,tk,ks,HKS,HBX,F2,E2⟩
    | true =>
     have hl0:0 < lo:=by have:=HCC.out;simp at this;exact this.2
     obtain⟨rr2,kk,g1,g2,hkk⟩:=and_mod (N:=nj) hl0
     have g3:(lo:Int) ≠ 0:=by omega
     have hkL:kk < E.length:=by have:=HE.out;omega
     obtain⟨b2,o2,c2,e,hb2,p1,p2⟩:=E2.out.en.at hkL
     injection e with e1 e2 e3
     subst e1
     clear e2 e3 p2
     obtain⟨ek,he⟩:∃x,x=E[kk].1:=⟨_,rfl⟩
     rw[←he] at p1
     dsimp only[Ss] at p1
     obtain⟨kx,hkx⟩:∃x,x=ba ek:=⟨_,rfl⟩
     rw[←hkx] at p1
     have HKX:=Lib.hid hkx
     have hfz:∀i,wc.frozen? ⟨G,i,none⟩=false:=fun i=>free_heap HBX.out i
     have hbG:b2 ≠ G:=HEG.out b2 rfl
     clear he hkx hkL
     go_wp2_with fail
     have g6:¬lo=0:=by omega
     have g4:(0:Int)≤(kk:Int):=by omega
     have g5:(kk:Int) < (lo:Int):=by omega
     refine wp_region_z 13 (fun w'=>w'.cell? ⟨G,1,none⟩=some (.int .i64 nj)∧w'.cell? ⟨b2,o2 + kk * 2,none⟩=some (.string kx)) (by kernel_rfl) ⟨a1,p1⟩ (fun hC=>?_)
     refine tz 0 (h:=?_)
     (try simp only[lits])
     refine tz 1 (h:=?_)
     (try simp only[lits])
     refine tz 2 (h:=?_)
     (try simp only[lits])
     refine tz 3 (h:=?_)
     (try simp only[lits])
     refine tz 4 (h:=?_)
     (try simp only[lits])
     refine tz 5 (h:=?_)
     (try simp only[lits])
     refine tz 6 (h:=?_)
     (try simp only[lits])
     refine tz 7 (h:=?_)
     (try simp only[lits])
     refine tz 8 (h:=?_)
     (try simp only[lits])
     refine tz 9 (h:=?_)
     (try simp only[lits])
     refine tz 10 (h:=?_)
     (try simp only[lits])
     refine wpAnyZ_one (i:=11) (by kernel_rfl) rfl (fun K hK=>?_)
     go_simp
     have K5:Kept (· = G) wc (wc.setCell ⟨G,0,none⟩ (.int .i64 2)).drew:=((Kept.refl _ _).set1 0 _).drew
     have hC5:(wc.setCell ⟨G,0,none⟩ (.int .i64 2)).drew.cell? ⟨G,1,none⟩=some (.int .i64 nj)∧(wc.setCell ⟨G,0,none⟩ (.int .i64 2)).drew.cell? ⟨b2,o2 + kk * 2,none⟩=some (.string kx) :=
      ⟨(cell_heap (w:=(wc.setCell ⟨G,0,none⟩ (.int .i64 2)).drew) (heap_set HBX.out 0 (.int .i64 2)) 1).trans rfl,(World.cell?_of_block (K5.block b2 hb2 hbG)).trans p1⟩
     refine hK.out _ _ (fun _=>hC5) ?_
     clear hK hC
     (try simp only[lits])
     refine wpAnyZ_one (i:=12) (by kernel_rfl) rfl (fun K hK=>?_)
     go_simp
     refine hK.out _ _ (fun _=>hC5) ?_
     clear hK
     (try simp only[lits])
     refine wpAnyZ_one (i:=13) (by kernel_rfl) rfl (fun K hK=>?_)
     go_simp
     refine hK.out _ _ (fun h=>by cases h) ?_
     clear hK hC5
     (try simp only[lits])
     refine wpAnyZ_done (by kernel_rfl) ?_ _
     go_wp2_with fail
     go_meet
     have K6:Kept (· = G) wc ((wc.setCell ⟨G,0,none⟩ (.int .i64 2)).setCell ⟨G,2,none⟩ (.string kx)).drew:=(((Kept.refl _ _).set1 0 _).set1 2 _).drew
     exact⟨2,ek,kx,HKX,heap_set (heap_set HBX.out 0 (.int .i64 2)) 2 (.string kx),F2.out.keptG K6 HGL.out HWG.out,E2.out.kept K6 HEG.out⟩
   case rest =>
   obtain⟨kd,kk,kx,HKK,HBK,F5,E5⟩:=hcut
   obtain⟨a0,a1,a2,a3⟩:=act_cells HBK.out
   have hgl:=lt_heap HBK.out
   have hks:kx.size=kk.length:=by rw[HKK.out,ba_size]
   have hvs:vs.size=tv.length:=by rw[HVS.out,ba_size]
   go_upto_block 2 with(fail)
   go_cut [3,5] from 31 to 191 (fun t l wx=>∃(E':List KV) (A':Option Addr) (l' c':Nat) (X':Sto) (r':Int) (q2:TQ) (T':Nat),l = .slice A' l' c'∧t = .pointer (some ⟨T',0,none⟩)∧Hid (l'=E'.length∧l'≤j + 1∧q2.t=T')∧Hid (wx.heap[G]? = some (.cells #[.int .i64 kd,.int .i64 nj,.string kx,.string vs] 72 (0,0)))∧Hid (ERow wx 0 (.slice A' l' c') E')∧Hid (FP w wx q2 (j + 1) X' r' E'))
   case first =>
    have HFB:Hid (¬q'.Any G):=F5.out.fs.tw.far HBK.out (by decide) (by decide) (by decide) (by decide) (by decide) (by decide)
    have HUP:=Lib.hid F5.out.fs.ti.up
    have HB6:Hid (∀w':World,Kept q'.Any wc w'→w'.heap[G]? = some (.cells #[.int .i64 kd,.int .i64 nj,.string kx,.string vs] 72 (0,0))∧ERow w' 0 (.slice Al lo co) E):=fun w' kk=>⟨kk.heap HBK.out HFB.out,E5.out.keptQ F5.out.fs.tw kk⟩
    have HE2:Hid (E.length≤100∧lo=E.length∧lo≤j∧q'.t=T):=⟨by have:=HE.out;omega,HE.out⟩
    by_cases h1:kd=1
    ·subst h1
     as_aux_lemma =>
     by_cases hbig:24 < kk.length∨32 < tv.length
     ·have hp:putT X r kk tv=(3,r,X):=by unfold putT;rw[if_pos hbig]
      have CP:=Lib.hid (TreePut_calls F5.out.fs.tw kk tv)
      rw[hp,HE2.out.2.2.2, ←HKK.out, ←HVS.out] at CP
      unfold DoneTo at CP
      dsimp only at CP
      clear hp
      have hb2:24 < kx.size∨32 < vs.size:=by omega
      have hb3:(decide ((24:Int) < (kx.size:Int))=false∧decide ((32:Int) < (vs.size:Int))=true)∨decide ((24:Int) < (kx.size:Int))=true:=by
       rw[decide_eq_false_iff_not,decide_eq_true_eq,decide_eq_true_eq];omega
      go_wp2_with fail
      refine CP.out.mono ?_
      rintro e w6 ⟨rfl,tw6,k6⟩
      have F6:Hid (FP w w6 q' (j + 1) X r E):=(FP.mk (F5.out.fs.step tw6 k6 F5.out.fs.ti (Stays.refl X)) F5.out.sec F5.out.rm).more
      obtain⟨hb6,er6⟩:=HB6.out w6 (TQ.cmt k6)
      have HB7:=Lib.hid hb6;have E6:=Lib.hid er6
      clear a0 a1 a2 a3 hgl
      obtain⟨a0,a1,a2,a3⟩:=act_cells hb6
      have hgl:=lt_heap hb6
      clear tw6 k6 hb6 er6 CP hbig hb2 hks hvs
      rcases hb3 with⟨hb3,hb4⟩|hb3
      all_goals
       go_wp2_with fail
       go_meet
       exact⟨E,Al,lo,co,X,r,q',T,rfl,rfl,⟨HE2.out.2.1,by have:=HE2.out;omega,HE2.out.2.2.2⟩,HB7,E6,F6⟩
     ·obtain⟨r',X',hp,hto⟩:=F5.out.put (k:=kk) (v:=tv) (by omega) (by omega) (by omega)
      have HTO:=Lib.hid hto
      have CP:=Lib.hid (TreePut_calls F5.out.fs.tw kk tv)
      rw[hp,HE2.out.2.2.2, ←HKK.out, ←HVS.out] at CP
      unfold DoneTo at CP
      dsimp only at CP
      clear hp hto
      have hb2:decide ((24:Int) < (kx.size:Int))=false:=by rw[decide_eq_false_iff_not];omega
      have hb3:decide ((32:Int) < (vs.size:Int))=false:=by rw[decide_eq_false_iff_not];omega
      go_wp2_with fail
      refine CP.out.mono ?_
      rintro e w6 ⟨rfl,tw6,k6⟩
      obtain⟨hb6,er6⟩:=HB6.out w6 (TQ.cmt k6)
      have F6:=Lib.hid (HTO.out _ tw6 k6)
      have CR:=Lib.hid (refPut9_calls er6.en (by have:=HE2.out;omega) HUP.out kk tv)
      rw[←HKK.out, ←HVS.out] at CR
      have HB7:=Lib.hid hb6
      clear a0 a1 a2 a3 hgl
      obtain⟨a0,a1,a2,a3⟩:=act_cells hb6
      have hgl:=lt_heap hb6
      clear tw6 k6 hb6 er6 CP hbig HTO hks hvs
      go_wp2_with fail
      refine CR.out.mono ?_
      rintro e w7 ⟨v7,rfl,er7,k7⟩
      obtain⟨A7,c7,rfl⟩:=er7.en.slice
      have E7:=Lib.hid (er7.base (Nat.zero_le _));have F7:=Lib.hid (F6.out.keptF k7);have HB8:=Lib.hid (k7.heap HB7.out not_false)
      clear er7 k7 CR
      go_wp2_with fail
      go_meet
      exact⟨_,A7,_,c7,X',r',q',T,rfl,rfl,⟨rfl,by have:=insE_len E kk tv;have:=HE2.out;omega,HE2.out.2.2.2⟩,HB8,E7,F7⟩
    ·by_cases h2:kd=2
     ·subst h2
      as_aux_lemma =>
      have CP:=Lib.hid (TreeDelete_calls F5.out.fs.tw kk)
      obtain⟨bb,r',X',hp,hbb,hto⟩:∃bb r' X',delT X r kk=(bb,0,r',X')∧bb=decide ((delE E kk).length < E.length) ∧ ∀w',TW w' q' X' r'→Kept (fun k=>k=q'.c∨k=q'.m∨k=q'.t) wc w'→FP w w' q' (j + 1) X' r' (delE E kk):=by
       rcases F5.out.del (k:=kk) (by omega) with⟨e1,e2⟩|⟨⟨e,he⟩,r',X',e2,hto⟩
       ·have e3:delE E kk=E:=delE_none e1
        refine⟨false,r,X,e2,by rw[e3];simp,fun w' tw kk=>?_⟩
        rw[e3]
        exact(FP.mk (F5.out.fs.step tw kk F5.out.fs.ti (Stays.refl X)) F5.out.sec F5.out.rm).more
       ·exact⟨true,r',X',e2,by have:=delE_len he;simp;omega,hto⟩
      rw[hp,HE2.out.2.2.2, ←HKK.out] at CP
      unfold DelTo at CP
      dsimp only at CP
      have HTO:=Lib.hid hto
      have CR:=Lib.hid fun(w':World) (er:ERow w' 0 (.slice Al lo co) E)=>refDel9_calls er.en (by have:=HE2.out;omega) kk
      rw[←HKK.out, ←hbb] at CR
      clear hp hto h1 hbb hks hvs
      go_wp2_with fail
      refine CP.out.mono ?_
      rintro e w6 ⟨rfl,tw6,k6⟩
      obtain⟨hb6,er6⟩:=HB6.out w6 (TQ.cmt k6)
      have F6:=Lib.hid (HTO.out _ tw6 k6)
      have CR2:=Lib.hid (CR.out _ er6)
      have HB7:=Lib.hid hb6
      clear a0 a1 a2 a3 hgl
      obtain⟨a0,a1,a2,a3⟩:=act_cells hb6
      have hgl:=lt_heap hb6
      clear tw6 k6 hb6 er6 CP CR HTO
      go_wp2_with fail
      refine CR2.out.mono ?_
      rintro e w7 ⟨v7,rfl,er7,k7⟩
      obtain⟨A7,c7,rfl⟩:=er7.en.slice
      have E7:=Lib.hid (er7.base (Nat.zero_le _));have F7:=Lib.hid (F6.out.keptF k7);have HB8:=Lib.hid (k7.heap HB7.out not_false)
      clear er7 k7 CR2
      go_wp2_with fail
      go_meet
      exact⟨_,A7,_,c7,X',r',q',T,rfl,rfl,⟨rfl,by have:=delE_le E kk;have:=HE2.out;omega,HE2.out.2.2.2⟩,HB8,E7,F7⟩
     ·by_cases h4:kd=4
      ·subst h4
       as_aux_lemma =>
       have CSt:=Lib.hid (TreeStore_calls F5.out.fs.tw)
       have CRt:=Lib.hid (TreeRoot_calls F5.out.fs.tw)
       have CK:=Lib.hid (F5.out.ckd (by omega))
       have HTWO:=Lib.hid (F5.out.fs.two (by omega) (by omega))
       have HFC:=Lib.hid fun w2 q2=>F5.out.ck (w2:=w2) (q2:=q2) (by omega)
       have HSEC:=Lib.hid F5.out.sec
       rw[HE2.out.2.2.2] at CSt CRt
       obtain⟨sq,hsq⟩:∃s,s=q'.st:=⟨_,rfl⟩
       have HSQ:=Lib.hid hsq
       rw[←hsq] at CSt CK
       obtain⟨X1,hX1⟩:∃X1,X1=(X.check r 1 1).2:=⟨_,rfl⟩
       rw[←hX1] at CK HFC HTWO
       clear h1 h2 hks hvs hsq hX1
       go_wp2_with fail
       refine CSt.out.mono ?_
       rintro e w6 ⟨rfl,rfl⟩
       go_wp2_with fail
       refine CRt.out.mono ?_
       rintro e w6 ⟨rfl,rfl⟩
       go_wp2_with fail
       refine CK.out.mono ?_
       rintro e w6 ⟨rfl,k6,q2,⟨d1,d2,d3,d4⟩,f6⟩
       obtain⟨hb6,er6⟩:=HB6.out w6 k6
       have F6:=Lib.hid f6;have HB7:=Lib.hid hb6;have E6:=Lib.hid er6
       have CS2:=Lib.hid (TreeStore_calls f6.tw)
       have CS3:=Lib.hid (PyDevice_calls f6.tw.sto)
       have CS4:=Lib.hid (PyLay_calls f6.tw.sto)
       have CO:=Lib.hid fun w' (kk:Kept (fun _=>False) w6 w')=>(f6.keptF kk).open HTWO.out.1 (by omega) (by rw[HTWO.out.2.2,d3,d4];exact HSEC.out)
       rw[d1,d2,HE2.out.2.2.2] at CS2
       rw[d2] at CS3 CS4
       obtain⟨dq,hdq⟩:∃s,s=q2.d:=⟨_,rfl⟩
       have HD:=Lib.hid (And.intro d3 d4);have HDQ:=Lib.hid hdq
       rw[←hdq] at CS3 CO
       clear f6 k6 CK CSt CRt hb6 er6 d1 d2 d3 d4 hdq
       go_wp2_with fail
       refine CS2.out.mono ?_
       rintro e w7 ⟨rfl,rfl⟩
       go_wp2_with fail
       refine CS3.out.mono ?_
       rintro e w7 ⟨rfl,rfl⟩
       go_wp2_with fail
       refine CS2.out.mono ?_
       rintro e w7 ⟨rfl,rfl⟩
       go_wp2_with fail
       refine CS4.out.mono ?_
       rintro e w7 ⟨rfl,k7⟩
       have CO2:=Lib.hid (CO.out _ k7)
       have K7:=Lib.hid k7
       clear CS2 CS3 CS4 k7 CO
       unfold layV at CO2
       go_wp2_with fail
       refine CO2.out.mono ?_
       rintro e w8 ⟨k8,st,b,c,m,vc',rfl,hs,hfs⟩
       have HFS:=Lib.hid hfs;have K8:=Lib.hid k8
       have CU:=Lib.hid (StoSuper_calls hs)
       have hrt:(Sto.re X1).sup.root=r:=HTWO.out.2.1
       unfold supV at CU
       rw[hrt] at CU
       clear hs hfs k8 CO2 hrt
       go_wp2_with fail
       refine CU.out.mono ?_
       rintro e w9 ⟨rfl,k9⟩
       have CT:=Lib.hid (TreeOpen_calls st r w9)
       have K9:=Lib.hid k9
       clear k9 CU
       go_wp2_with (simp only[run_sup_root])
       refine CT.out.mono ?_
       rintro e w10 ⟨t,ht,rfl,htc,k10⟩
       have kk:=K9.out.trans k10
       have F10:=Lib.hid (HFC.out _ _ (HFS.out t w10 kk (Nat.le_trans K9.out.size ht) htc) HD.out)
       have kx:=K7.out.trans (K8.out.trans kk)
       have HB8:=Lib.hid (kx.heap HB7.out not_false);have E8:=Lib.hid (E6.out.keptF kx)
       clear kk kx htc ht k10 CT
       go_wp2_with fail
       go_meet
       exact⟨E,Al,lo,co,_,r,_,t,rfl,rfl,⟨HE2.out.2.1,by have:=HE2.out;omega,rfl⟩,HB8,E8,F10⟩
      ·clear hks hvs
       go_wp2_with fail
       go_meet
       exact⟨E,Al,lo,co,X,r,q',T,rfl,rfl,⟨HE2.out.2.1,by have:=HE2.out;omega,HE2.out.2.2.2⟩,HBK,E5,Lib.hid F5.out.more⟩
   case rest =>
   obtain⟨E',A',l',c',X',r',q2,T',rfl,rfl,HL,HB6,E6,F6⟩:=hcut
   clear a0 a1 a2 a3 hgl hks hvs
   obtain⟨a0,a1,a2,a3⟩:=act_cells HB6.out
   have hgl:=lt_heap HB6.out
   have HL80:Hid (E'.length≤5000):=by have:=HL.out;show _≤_;omega
   have CS:=Lib.hid fun w' (kk:Kept (fun _=>False) wc w')=>Sound9_calls (F6.out.fs.tw.keptF kk) F6.out.fs.ti (E6.out.keptF kk).en HL80.out
   have CG:=Lib.hid (TreeGet_calls F6.out.fs.tw kk)
   have CR:=Lib.hid fun w' (k:Kept (fun _=>False) wc w')=>refGet_calls (E6.out.keptF k).en (by have:=HL.out;omega) kk
   rw[HL.out.2.2] at CS CG
   rw[←HKK.out,getT_ok F6.out.fs.ti] at CG
   rw[←HKK.out] at CR
   unfold GetTo at CG
   dsimp only at CG
   obtain⟨gs,hgs⟩:∃s,s=ba (valE E' kk).1:=⟨_,rfl⟩
   obtain⟨gb,hgb⟩:∃s,s=(valE E' kk).2:=⟨_,rfl⟩
   rw[←hgs, ←hgb] at CG CR
   clear hgs hgb
   have hl80:l'≤100:=by have:=HL.out;omega
   go_wp2_with fail
   refine CG.out.mono ?_
   rintro e w7 ⟨rfl,k7⟩
   have K7:=Lib.hid k7
   have HB7:=Lib.hid (k7.heap HB6.out not_false)
   clear a0 a1 a2 a3 hgl k7 CG
   obtain⟨a0,a1,a2,a3⟩:=act_cells HB7.out
   have hgl:=lt_heap HB7.out
   go_wp2_with fail
   refine(CR.out _ K7.out).mono ?_
   rintro e w8 ⟨rfl,k8⟩
   have K8:=Lib.hid (K7.out.trans k8)
   clear k8 CR a0 a1 a2 a3 hgl
   go_wp2_with fail
   refine(CS.out _ K8.out).mono ?_
   rintro e w9 ⟨rfl,k9⟩
   have F9:=Lib.hid (F6.out.keptF (K8.out.trans k9));have E9:=Lib.hid (E6.out.keptF (K8.out.trans k9))
   clear k9 CS
   go_wp2_with fail
   go_roundw
   case rel=>exact⟨j + 1,E',A',l',c',X',r',q2,T',by omega,by omega,by go_num,rfl,rfl,hl80,HL.out,E9.out,F9.out⟩
   case measure=>simp[RowKit.intOf];omega
  ·have hcase:¬j < len∨(j < len ∧ ¬j < 100):=by omega
   clear hin
   rcases hcase with hjl|⟨hjl,hj80⟩
   all_goals
    go_wp2_with fail
    refine bodyPost_ret (v:=.bool true) (by simp[results,Tryz.f12,go_sem]) rfl ?_
    exact⟨rfl,HF.out.fs.kw⟩
end Go.Proofs.YtfgjehecjgebdaaGreat
