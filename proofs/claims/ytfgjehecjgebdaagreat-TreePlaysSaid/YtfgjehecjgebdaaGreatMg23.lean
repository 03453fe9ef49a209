/- Stamp: Parse. -/
import Derived.Test.YtfgjehecjgebdaaGreatMg20
import Derived.Test.YtfgjehecjgebdaaGreatMg11
namespace Go.Proofs.YtfgjehecjgebdaaGreat
open Go.RowKit
def StParsePost (t:List UInt8) (w:World) (e:Ending) (w':World):Prop :=
 ∃(x:Sec) (c:Int),e = .returned (.tuple #[secOf x,.int .i64 c])∧Kept (fun _=>False) w w'∧((c=0∧Says t x)∨(c ≠ 0 ∧ ∀x', ¬Says t x'))
theorem says_len {t x} (h:Says t x):t.length=64:=by rw[←h.2];exact h.1.len
theorem says_sum {t x} (h:Says t x):t.take 4=le4 (crcOf (t.drop 4)):=by
 rw[←h.2]
 simp only[secText,summed]
 rw[List.take_left' (le4_len _),List.drop_left' (le4_len _)]
theorem says_in {t x} (h:Says t x):∃r,secIn t=(x.stamp,x.mark,x.data,(r,0)):=by
 obtain⟨r,e⟩:=secIn_text h.1
 rw[h.2] at e
 exact⟨r,e⟩
theorem StParse_len (t:List UInt8) (h:t.length ≠ 64) (w:World):Calls Tryz.prog 146 #[.string (ba t)] w (StParsePost t w):=by
 have hs:=ba_size t
 have HN:Hid (∀x', ¬Says t x'):=fun x' hx=>h (says_len hx)
 generalize ba t=s at *
 have ht:((s.size:Int) != 64)=true:=by rw[bne_iff_ne];omega
 clear h
 go_enter Tryz.func146,Tryz.ntmps146
 go_wp2
 refine bodyPost_ret (v:=.tuple #[secOf ⟨0,0, []⟩,.int .i64 1]) ?_ rfl ?_
 ·have hh:=heap_new w (.cells #[.int .i64 0,.int .u8 0,.string ⟨#[]⟩] 132)
  have c0:=(cell_heap hh 0).trans rfl
  have c1:=(cell_heap hh 1).trans rfl
  have c2:=(cell_heap hh 2).trans rfl
  simp[results,Tryz.f146,go_sem,c0,c1,c2,secOf,secV,ba]
 ·exact⟨⟨0,0, []⟩,1,rfl,(Kept.refl _ _).alloc _,.inr ⟨by omega,HN.out⟩⟩
theorem sec_set {W:World} {r:Nat} {a b c:Value} {T:TypeId} (h:W.heap[r]? = some (.cells #[a,b,c] T (0,0))) (x y z:Value) :
  (((W.setCell ⟨r,0,none⟩ x).setCell ⟨r,1,none⟩ y).setCell ⟨r,2,none⟩ z).heap[r]? = some (.cells #[x,y,z] T (0,0)):=by
 rw[heap_set (heap_set (heap_set h 0 x) 1 y)];rfl
theorem sec_setK {w W:World} {r:Nat} (k:Kept (fun _=>False) w W) (hr:w.heap.size≤r) (x y z:Value) :
  Kept (fun _=>False) w (((W.setCell ⟨r,0,none⟩ x).setCell ⟨r,1,none⟩ y).setCell ⟨r,2,none⟩ z) :=
 ((k.setCell (p:=⟨r,0,none⟩) (.inr hr) x).setCell (p:=⟨r,1,none⟩) (.inr hr) y).setCell (p:=⟨r,2,none⟩) (.inr hr) z
theorem iS_len (s:InSt):(iS 44 s).1.length≤44:=by
 have h:=(iN_le 44 s).1
 have h2:=(iTake_len (iN 44 s).1 (iN 44 s).2).1
 show(iTake (iN 44 s).1 (iN 44 s).2).1.length≤44
 omega
set_option maxRecDepth 100000 in
theorem StParse_main (t:List UInt8) (h:t.length=64) (w:World):Calls Tryz.prog 146 #[.string (ba t)] w (StParsePost t w):=by
 obtain⟨s,hs⟩:∃s,s=ba t:=⟨_,rfl⟩
 have hsz:s.size=64:=by rw[hs,ba_size,h]
 have HE4:Hid (s.extract 0 4=ba (t.take 4)):=by simp only[Hid];rw[hs];exact ba_extract0 _ _
 have HE60:Hid (s.extract 4 64=ba (t.drop 4)):=by
  have:=ba_extractn t 4
  rw[ba_size,h] at this
  simp only[Hid];rw[hs];exact this
 have HDL:Hid ((t.drop 4).length=60):=by simp[Hid,h]
 rw[←hs]
 have HS:=Lib.hid hs
 have HL:=Lib.hid h
 clear hs h
 go_enter Tryz.func146,Tryz.ntmps146
 go_wp2
 obtain⟨W,hW⟩:∃W,W=w.alloc (.cells #[.int .i64 0,.int .u8 0,.string ⟨#[]⟩] 132):=⟨_,rfl⟩
 rw[←hW]
 have HW0:Hid (W.heap[w.heap.size]? = some (.cells #[.int .i64 0,.int .u8 0,.string ⟨#[]⟩] 132 (0,0))):=by rw[hW];exact heap_new w _
 have KW:Hid (Kept (fun _=>False) w W):=by rw[hW];exact(Kept.refl _ _).alloc _
 clear hW
 go_cut [17] from 10 to 17 (fun v wx=>v = .bool (!(t.take 4 == le4 (crcOf (t.drop 4))))∧Kept (fun _=>False) W wx)
 case first =>
  go_region_with (first
   | (go_at_call 112;rw[HE60.out];refine(Of_calls (t.drop 4) (by first|exact heap_new _ _|exact heap_newAt (by simp) _) (by have:=HDL.out;omega)).mono ?_;rintro e w1 ⟨rfl,k1⟩;have K1:=Lib.hid k1;clear k1)
   | (go_at_call 111;refine(Bytes_calls _ (crcOf_lt _) _).mono ?_;rintro e w2 ⟨rfl,k2⟩;have K2:=Lib.hid k2;clear k2))
  all_goals (try go_wp2_with fail)
  all_goals go_meet
  all_goals exact⟨by rw[HE4.out,ba_empty,ba_empty],((show Kept (fun _=>False) W _ by repeat (first|exact Kept.refl _ _|refine Kept.drew ?_|refine Kept.alloc ?_ _)).trans K1.out).trans K2.out⟩
 case rest =>
  obtain⟨rfl,kx⟩:=hcut
  have hr:=kx.heap HW0.out id
  have c0:wc.cell? ⟨w.heap.size,0,none⟩=some (.int .i64 0):=(cell_heap hr 0).trans rfl
  have c1:wc.cell? ⟨w.heap.size,1,none⟩=some (.int .u8 0):=(cell_heap hr 1).trans rfl
  have c2:wc.cell? ⟨w.heap.size,2,none⟩=some (.string ⟨#[]⟩):=(cell_heap hr 2).trans rfl
  have f0:=free_heap hr 0
  have f1:=free_heap hr 1
  have f2:=free_heap hr 2
  have HR:=Lib.hid hr
  have KX:Hid (Kept (fun _=>False) w wc):=KW.out.trans kx
  clear kx hr
  by_cases hsum:t.take 4=le4 (crcOf (t.drop 4))
  ·have hb:(!(t.take 4 == le4 (crcOf (t.drop 4))))=false:=by simp[hsum]
   rw[hb]
   obtain⟨p1,hp1⟩:∃p,p=iN 1099511627776 (t.drop 4,0):=⟨_,rfl⟩
   obtain⟨p2,hp2⟩:∃p,p=iN 255 p1.2:=⟨_,rfl⟩
   obtain⟨p3,hp3⟩:∃p,p=iS 44 p2.2:=⟨_,rfl⟩
   have l0:(t.drop 4).length≤60:=by have:=HDL.out;omega
   have l1:=iN_le 1099511627776 (t.drop 4,0)
   have l2:=iN_le 255 p1.2
   have l3:=iS_len p2.2
   rw[←hp1] at l1
   rw[←hp2] at l2
   rw[←hp3] at l3
   simp only at l1
   have m1:p1.1≤1099511627776:=by omega
   have m2:p2.1≤255:=by omega
   have C1:Hid (∀(W:World) (i:Nat),IsIn W i (t.drop 4,0)→Calls Tryz.prog 120 #[.pointer (some ⟨i,0,none⟩),.int .i64 1099511627776] W (InPost i (.int .i64 p1.1) p1.2 W)):=fun W i h=>by
    rw[hp1];exact inN_calls h (by simp only;omega) 1099511627776 (by omega)
   have C2:Hid (∀(W:World) (i:Nat),IsIn W i p1.2→Calls Tryz.prog 120 #[.pointer (some ⟨i,0,none⟩),.int .i64 255] W (InPost i (.int .i64 p2.1) p2.2 W)):=fun W i h=>by
    rw[hp2];exact inN_calls h (by omega) 255 (by omega)
   have C3:Hid (∀(W:World) (i:Nat),IsIn W i p2.2→Calls Tryz.prog 105 #[.pointer (some ⟨i,0,none⟩),.int .i64 44] W (InPost i (.string (ba p3.1)) p3.2 W)):=fun W i h=>by
    rw[hp3];exact inS_calls h (by omega) 44 (by omega)
   have HIN:Hid (secIn t=(p1.1,p2.1,p3.1,p3.2)):=by
    cases p1 with|mk n1 s1 =>
    cases p2 with|mk n2 s2 =>
    cases p3 with|mk n3 s3 =>
    simp only at hp2 hp3
    simp only[Hid,secIn, ←hp1, ←hp2, ←hp3]
   have HW8:Hid ((p2.1:Int) % 256=p2.1):=by simp only[Hid];omega
   clear hp1 hp2 hp3 l0 l1 l2 hb c0 c1 c2 f0 f1 f2
   obtain⟨n1,s1⟩:=p1
   obtain⟨n2,s2⟩:=p2
   obtain⟨dd,s3⟩:=p3
   obtain⟨rest,ee⟩:=s3
   simp only at m1 m2 l3 C1 C2 C3 HIN HW8
   have M1:=Lib.hid m1
   have M2:=Lib.hid m2
   have L3:=Lib.hid l3
   have hrl:=lt_heap HR.out
   clear m1 m2 l3
   go_wp2_with fail
   rw[HE60.out]
   refine(Read_calls (t.drop 4) wc).mono ?_
   rintro e w4 ⟨i,hi,rfl,hin,k4⟩
   have HI4:=Lib.hid hin
   have KI4:Hid (Kept (fun k=>k=i) wc w4):=k4.mono fun _ _ f=>f.elim
   clear hin k4
   go_wp2_with fail
   refine(C1.out w4 i HI4.out).mono ?_
   rintro e w5 ⟨rfl,hin,k5⟩
   have HI5:=Lib.hid hin
   have KI5:Hid (Kept (fun k=>k=i) wc w5):=KI4.out.trans k5
   clear hin k5
   go_wp2_with fail
   refine(C2.out w5 i HI5.out).mono ?_
   rintro e w6 ⟨rfl,hin,k6⟩
   have HI6:=Lib.hid hin
   have KI6:Hid (Kept (fun k=>k=i) wc w6):=KI5.out.trans k6
   clear hin k6
   go_wp2_with fail
   refine(C3.out w6 i HI6.out).mono ?_
   rintro e w7 ⟨rfl,hin,k7⟩
   have HI7:=Lib.hid hin
   have KI7:Hid (Kept (fun k=>k=i) wc w7):=KI6.out.trans k7
   clear hin k7
   go_wp2_with fail
   rw[HW8.out]
   obtain⟨W8,hW8⟩:∃W8,W8=w7.alloc (.cells #[.int .i64 n1,.int .u8 n2,.string (ba dd)] 132):=⟨_,rfl⟩
   rw[←hW8]
   have hb8:W8.heap[w7.heap.size]? = some (.cells #[.int .i64 n1,.int .u8 n2,.string (ba dd)] 132 (0,0)):=by rw[hW8];exact heap_new w7 _
   have HI8:Hid (IsIn W8 i (rest,ee)):=by rw[hW8];exact heap_old HI7.out _
   have KI8:Hid (Kept (fun k=>k=i) wc W8):=by rw[hW8];exact KI7.out.alloc _
   have hiw:w.heap.size≤i:=Nat.le_trans KX.out.size hi
   have HR8:Hid (W8.heap[w.heap.size]? = some (.cells #[.int .i64 0,.int .u8 0,.string ⟨#[]⟩] 132 (0,0))):=KI8.out.heap HR.out (by omega)
   have KX8:Hid (Kept (fun _=>False) w W8):=KX.out.then KI8.out (by intro k hk e;omega)
   have b0:W8.cell? ⟨w7.heap.size,0,none⟩=some (.int .i64 n1):=(cell_heap hb8 0).trans rfl
   have b1:W8.cell? ⟨w7.heap.size,1,none⟩=some (.int .u8 n2):=(cell_heap hb8 1).trans rfl
   have b2:W8.cell? ⟨w7.heap.size,2,none⟩=some (.string (ba dd)):=(cell_heap hb8 2).trans rfl
   have HB8:=Lib.hid hb8
   have r0:W8.cell? ⟨w.heap.size,0,none⟩=some (.int .i64 0):=(cell_heap HR8.out 0).trans rfl
   have r1:W8.cell? ⟨w.heap.size,1,none⟩=some (.int .u8 0):=(cell_heap HR8.out 1).trans rfl
   have r2:W8.cell? ⟨w.heap.size,2,none⟩=some (.string ⟨#[]⟩):=(cell_heap HR8.out 2).trans rfl
   have f0:=free_heap HR8.out 0
   have f1:=free_heap HR8.out 1
   have f2:=free_heap HR8.out 2
   have HERR:=Lib.hid (Err_calls HI8.out)
   clear hW8 hb8 hi hiw hrl
   obtain⟨sd,hsd⟩:∃x,x=ba dd:=⟨_,rfl⟩
   have HSD:=Lib.hid hsd
   refine HERR.out.mono ?_
   rintro e w9 ⟨rfl,rfl⟩
   simp only
   by_cases he:ee=0
   ·subst he
    by_cases hn1:n1=0
    ·subst hn1
     have HNS:Hid (∀x', ¬Says t x'):=fun x' hx=>by
      obtain⟨r,e⟩:=says_in hx
      rw[HIN.out] at e
      simp only[Prod.mk.injEq] at e
      have:=hx.1.one
      omega
     go_wp2_with fail
     refine bodyPost_ret (v:=.tuple #[secOf ⟨0,0, []⟩,.int .i64 2]) ?_ rfl ?_
     ·have hh:=sec_set HR8.out (.int .i64 0) (.int .u8 0) (.string ⟨#[]⟩)
      have g0:=(cell_heap hh 0).trans rfl
      have g1:=(cell_heap hh 1).trans rfl
      have g2:=(cell_heap hh 2).trans rfl
      simp[results,Tryz.f146,go_sem,g0,g1,g2,secOf,secV,ba]
     ·exact⟨⟨0,0, []⟩,2,rfl,sec_setK KX8.out (Nat.le_refl _) _ _ _,.inr ⟨by omega,HNS.out⟩⟩
    ·have hn1':1≤n1:=by omega
     have hg1:decide ((n1:Int) < 1)=false:=by simp;omega
     have CT:=Lib.hid (StText_calls ⟨n1,n2,dd⟩ M1.out (by have:=M2.out;simp only;omega) L3.out W8)
     have hst:s.toList=t:=by rw[HS.out,ba_empty]
     by_cases hq:secText ⟨n1,n2,dd⟩=t
     ·have HGD:Hid (Says t ⟨n1,n2,dd⟩):=⟨⟨hn1',M1.out,by have:=M2.out;simp only;omega,L3.out⟩,hq⟩
      have hcmp:((ba (secText ⟨n1,n2,dd⟩)).toList == s.toList)=true:=by rw[ba_empty,hst,hq];simp
      clear hq hst
      generalize ba (secText ⟨n1,n2,dd⟩)=tx at *
      go_wp2_with fail
      refine CT.out.mono ?_
      rintro e w9 ⟨rfl,k9⟩
      have HR9:=Lib.hid (k9.heap HR8.out id)
      have HB9:=Lib.hid (k9.heap HB8.out id)
      have KX9:=Lib.hid (KX8.out.trans k9)
      have x0:w9.cell? ⟨w7.heap.size,0,none⟩=some (.int .i64 n1):=(cell_heap HB9.out 0).trans rfl
      have x1:w9.cell? ⟨w7.heap.size,1,none⟩=some (.int .u8 n2):=(cell_heap HB9.out 1).trans rfl
      have x2:w9.cell? ⟨w7.heap.size,2,none⟩=some (.string (ba dd)):=(cell_heap HB9.out 2).trans rfl
      have y0:w9.cell? ⟨w.heap.size,0,none⟩=some (.int .i64 0):=(cell_heap HR9.out 0).trans rfl
      have y1:w9.cell? ⟨w.heap.size,1,none⟩=some (.int .u8 0):=(cell_heap HR9.out 1).trans rfl
      have y2:w9.cell? ⟨w.heap.size,2,none⟩=some (.string ⟨#[]⟩):=(cell_heap HR9.out 2).trans rfl
      have g0:=free_heap HR9.out 0
      have g1:=free_heap HR9.out 1
      have g2:=free_heap HR9.out 2
      clear k9
      go_wp2_with fail
      refine bodyPost_ret (v:=.tuple #[secOf ⟨n1,n2,dd⟩,.int .i64 0]) ?_ rfl ?_
      ·have hh:=sec_set HR9.out (.int .i64 n1) (.int .u8 n2) (.string (ba dd))
       have g0:=(cell_heap hh 0).trans rfl
       have g1:=(cell_heap hh 1).trans rfl
       have g2:=(cell_heap hh 2).trans rfl
       simp[results,Tryz.f146,go_sem,g0,g1,g2,secOf,secV]
      ·exact⟨⟨n1,n2,dd⟩,0,rfl,sec_setK KX9.out (Nat.le_refl _) _ _ _,.inl ⟨rfl,HGD.out⟩⟩
     ·have HNS:Hid (∀x', ¬Says t x'):=fun x' hx=>by
       obtain⟨r,e⟩:=says_in hx
       rw[HIN.out] at e
       simp only[Prod.mk.injEq] at e
       obtain⟨a1,a2,a3,_⟩:=e
       apply hq
       rw[a1,a2,a3]
       exact hx.2
      have hcmp:((ba (secText ⟨n1,n2,dd⟩)).toList == s.toList)=false:=by rw[ba_empty,hst];simpa using hq
      clear hq hst
      generalize ba (secText ⟨n1,n2,dd⟩)=tx at *
      go_wp2_with fail
      refine CT.out.mono ?_
      rintro e w9 ⟨rfl,k9⟩
      have HR9:=Lib.hid (k9.heap HR8.out id)
      have KX9:=Lib.hid (KX8.out.trans k9)
      have y0:w9.cell? ⟨w.heap.size,0,none⟩=some (.int .i64 0):=(cell_heap HR9.out 0).trans rfl
      have y1:w9.cell? ⟨w.heap.size,1,none⟩=some (.int .u8 0):=(cell_heap HR9.out 1).trans rfl
      have y2:w9.cell? ⟨w.heap.size,2,none⟩=some (.string ⟨#[]⟩):=(cell_heap HR9.out 2).trans rfl
      have g0:=free_heap HR9.out 0
      have g1:=free_heap HR9.out 1
      have g2:=free_heap HR9.out 2
      clear k9
      go_wp2_with fail
      refine bodyPost_ret (v:=.tuple #[secOf ⟨0,0, []⟩,.int .i64 2]) ?_ rfl ?_
      ·have hh:=sec_set HR9.out (.int .i64 0) (.int .u8 0) (.string ⟨#[]⟩)
       have g0:=(cell_heap hh 0).trans rfl
       have g1:=(cell_heap hh 1).trans rfl
       have g2:=(cell_heap hh 2).trans rfl
       simp[results,Tryz.f146,go_sem,g0,g1,g2,secOf,secV,ba]
      ·exact⟨⟨0,0, []⟩,2,rfl,sec_setK KX9.out (Nat.le_refl _) _ _ _,.inr ⟨by omega,HNS.out⟩⟩
   ·have ht:(ee != 0)=true:=by simpa using he
    have HNS:Hid (∀x', ¬Says t x'):=fun x' hx=>by
     obtain⟨r,e⟩:=says_in hx
     rw[HIN.out] at e
     simp only[Prod.mk.injEq] at e
     exact he e.2.2.2.2
    go_wp2_with fail
    refine HERR.out.mono ?_
    rintro e w9 ⟨rfl,rfl⟩
    go_wp2_with fail
    refine bodyPost_ret (v:=.tuple #[secOf ⟨0,0, []⟩,.int .i64 ee]) ?_ rfl ?_
    ·have hh:=sec_set HR8.out (.int .i64 0) (.int .u8 0) (.string ⟨#[]⟩)
     have g0:=(cell_heap hh 0).trans rfl
     have g1:=(cell_heap hh 1).trans rfl
     have g2:=(cell_heap hh 2).trans rfl
     simp[results,Tryz.f146,go_sem,g0,g1,g2,secOf,secV,ba]
    ·exact⟨⟨0,0, []⟩,ee,rfl,sec_setK KX8.out (Nat.le_refl _) _ _ _,.inr ⟨he,HNS.out⟩⟩
  ·have hb:(!(t.take 4 == le4 (crcOf (t.drop 4))))=true:=by simpa using hsum
   rw[hb]
   have HNS:Hid (∀x', ¬Says t x'):=fun x' hx=>hsum (says_sum hx)
   clear hb hsum
   go_wp2_with fail
   refine bodyPost_ret (v:=.tuple #[secOf ⟨0,0, []⟩,.int .i64 5]) ?_ rfl ?_
   ·have hh:=sec_set HR.out (.int .i64 0) (.int .u8 0) (.string ⟨#[]⟩)
    have g0:=(cell_heap hh 0).trans rfl
    have g1:=(cell_heap hh 1).trans rfl
    have g2:=(cell_heap hh 2).trans rfl
    simp[results,Tryz.f146,go_sem,g0,g1,g2,secOf,secV,ba]
   ·exact⟨⟨0,0, []⟩,5,rfl,sec_setK KX.out (Nat.le_refl _) _ _ _,.inr ⟨by omega,HNS.out⟩⟩
theorem StParse_calls (t:List UInt8) (w:World):Calls Tryz.prog 146 #[.string (ba t)] w (StParsePost t w):=by
 by_cases h:t.length=64
 ·exact StParse_main t h w
 ·exact StParse_len t h w
end Go.Proofs.YtfgjehecjgebdaaGreat
