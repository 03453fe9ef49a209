/- Stamp: Read, Write. -/
import Derived.Test.YtfgjehecjgebdaaGreatMg23
import Derived.Test.YtfgjehecjgebdaaGreatMg18
namespace Go.Proofs.YtfgjehecjgebdaaGreat
open Go.RowKit
def StReadPost (r:List UInt8×Int) (w:World) (e:Ending) (w':World):Prop :=
 ∃(x:Sec) (ok:Bool),e = .returned (.tuple #[secOf x,.bool ok,.int .i64 r.2])∧Kept (fun _=>False) w w'∧(r.2=0→(ok=true∧Says r.1 x)∨(ok=false ∧ ∀x', ¬Says r.1 x'))
set_option maxRecDepth 100000 in
theorem StRead_calls {w d vs vc D} (h:IsDev w d vs vc D) (a:Int) (hcl:D.cache.length≤1000000) :
  Calls Tryz.prog 119 #[.pointer (some ⟨d,0,none⟩),.int .i64 a] w (StReadPost (D.read a) w):=by
 obtain⟨⟨t,er⟩,hr⟩:∃p,D.read a=p:=⟨_,rfl⟩
 rw[hr]
 have HD:Hid (∀W,Kept (fun _=>False) w W→Calls Tryz.prog 103 #[.pointer (some ⟨d,0,none⟩),.int .i64 a] W (DReadPost (t,er) W)):=fun W hW=>by
  rw[←hr];exact DevRead_calls (h.keptF hW) a hcl
 clear hr h
 go_enter Tryz.func119,Tryz.ntmps119
 go_wp2_with fail
 obtain⟨W,hW⟩:∃W,W=w.alloc (.cells #[.int .i64 0,.int .u8 0,.string ⟨#[]⟩] 132):=⟨_,rfl⟩
 rw[←hW]
 have HW0:Hid (W.heap[w.heap.size]? = some (.cells #[.int .i64 0,.int .u8 0,.string ⟨#[]⟩] 132 (0,0))):=by rw[hW];exact heap_new w _
 have KW:Hid (Kept (fun _=>False) w W):=by rw[hW];exact(Kept.refl _ _).alloc _
 clear hW
 refine(HD.out W KW.out).mono ?_
 rintro e w1 ⟨rfl,k1⟩
 have KX:Hid (Kept (fun _=>False) w w1):=KW.out.trans (Kept.of_below k1)
 have hr:=(Kept.of_below k1).heap HW0.out id
 have c0:w1.cell? ⟨w.heap.size,0,none⟩=some (.int .i64 0):=(cell_heap hr 0).trans rfl
 have c1:w1.cell? ⟨w.heap.size,1,none⟩=some (.int .u8 0):=(cell_heap hr 1).trans rfl
 have c2:w1.cell? ⟨w.heap.size,2,none⟩=some (.string ⟨#[]⟩):=(cell_heap hr 2).trans rfl
 have f0:=free_heap hr 0
 have f1:=free_heap hr 1
 have f2:=free_heap hr 2
 have HR:=Lib.hid hr
 clear hr k1
 by_cases he:er=0
 ·subst he
  have CP:=Lib.hid (StParse_calls t w1)
  generalize ba t=s at *
  go_wp2_with fail
  refine CP.out.mono ?_
  rintro e w2 ⟨⟨xs,xm,xd⟩,c,rfl,k2,hc⟩
  have hr2:=k2.heap HR.out id
  have KX2:Hid (Kept (fun _=>False) w w2):=KX.out.trans k2
  have HC:Hid ((decide (c=0)=true∧Says t ⟨xs,xm,xd⟩)∨(decide (c=0)=false ∧ ∀x', ¬Says t x')):=by
   rcases hc with⟨h1,h2⟩|⟨h1,h2⟩
   ·exact .inl ⟨by simpa using h1,h2⟩
   ·exact .inr ⟨by simpa using h1,h2⟩
  have hce:(c == 0)=decide (c=0):=by simp[BEq.beq]
  have HCE:=Lib.hid hce
  have r0:w2.cell? ⟨w.heap.size,0,none⟩=some (.int .i64 0):=(cell_heap hr2 0).trans rfl
  have r1:w2.cell? ⟨w.heap.size,1,none⟩=some (.int .u8 0):=(cell_heap hr2 1).trans rfl
  have r2:w2.cell? ⟨w.heap.size,2,none⟩=some (.string ⟨#[]⟩):=(cell_heap hr2 2).trans rfl
  have f0:=free_heap hr2 0
  have f1:=free_heap hr2 1
  have f2:=free_heap hr2 2
  have hrl:=lt_heap hr2
  have HR3:=Lib.hid hr2
  clear hr2 k2 hc hce
  simp only[secOf,secV]
  go_wp2_with fail
  refine bodyPost_ret (v:=.tuple #[secOf ⟨xs,xm,xd⟩,.bool (decide (c=0)),.int .i64 0]) ?_ rfl ?_
  ·have hh:=heap_old (sec_set HR3.out (.int .i64 xs) (.int .u8 xm) (.string (ba xd))) (.cells #[.int .i64 xs,.int .u8 xm,.string (ba xd)] 132)
   have g0:=(cell_heap hh 0).trans rfl
   have g1:=(cell_heap hh 1).trans rfl
   have g2:=(cell_heap hh 2).trans rfl
   simp[results,Tryz.f119,go_sem,g0,g1,g2,secOf,secV,HCE.out]
  ·exact⟨⟨xs,xm,xd⟩,decide (c=0),rfl,(sec_setK KX2.out (Nat.le_refl _) _ _ _).alloc _,fun _=>HC.out⟩
 ·have ht:(er != 0)=true:=by simpa using he
  have HE:=Lib.hid he
  go_wp2_with fail
  refine bodyPost_ret (v:=.tuple #[secOf ⟨0,0, []⟩,.bool false,.int .i64 er]) ?_ rfl ?_
  ·have hh:=sec_set HR.out (.int .i64 0) (.int .u8 0) (.string ⟨#[]⟩)
   have g0:=(cell_heap hh 0).trans rfl
   have g1:=(cell_heap hh 1).trans rfl
   have g2:=(cell_heap hh 2).trans rfl
   simp[results,Tryz.f119,go_sem,g0,g1,g2,secOf,secV,ba]
  ·exact⟨⟨0,0, []⟩,false,rfl,sec_setK KX.out (Nat.le_refl _) _ _ _,fun h=>absurd h HE.out⟩
theorem secCheck_good {s:Sec} (h:s.Good):secCheck s.stamp s.data=0:=by
 have:=h.one;have:=h.most;have:=h.data
 simp only[secCheck]
 rw[if_neg (by omega),if_neg (by omega)]
set_option maxRecDepth 100000 in
theorem StWrite_calls {w d vs vc D} (h:IsDev w d vs vc D) (a:Int) (s:Sec) (hs:s.Good) (hcl:D.cache.length≤1000000) :
  Calls Tryz.prog 72 #[.pointer (some ⟨d,0,none⟩),.int .i64 a,secOf s] w (WritePost w d vs vc (D.write a (secText s))):=by
 have HG:=Lib.hid hs
 have H:=Lib.hid h
 obtain⟨st,mk,data⟩:=s
 have HCK:Hid (∀W,Calls Tryz.prog 114 #[.agg #[.int .i64 st,.int .u8 mk,.string (ba data)]] W fun e w'=>e = .returned (.int .i64 0)∧Kept (fun _=>False) W w'):=fun W=>by
  have:=StCheck_calls st mk data W
  rw[secCheck_good hs] at this
  exact this
 have HTX:Hid (∀W,Calls Tryz.prog 115 #[.agg #[.int .i64 st,.int .u8 mk,.string (ba data)]] W fun e w'=>e = .returned (.string (ba (secText ⟨st,mk,data⟩)))∧Kept (fun _=>False) W w'):=fun W=>StText_calls ⟨st,mk,data⟩ hs.most hs.mark hs.data W
 have HWR:Hid (∀W,Kept (fun _=>False) w W→Calls Tryz.prog 70 #[.pointer (some ⟨d,0,none⟩),.int .i64 a,.string (ba (secText ⟨st,mk,data⟩))] W (WritePost W d vs vc (D.write a (secText ⟨st,mk,data⟩)))):=fun W hW=>DevWrite_calls (h.keptF hW) a _ hcl
 clear h hs
 unfold secOf secV
 simp only
 generalize ba data=dt at *
 generalize secText ⟨st,mk,data⟩=tx at *
 go_enter Tryz.func72,Tryz.ntmps72
 go_wp2_with fail
 obtain⟨W,hW⟩:∃W,W=w.alloc (.cells #[.int .i64 st,.int .u8 mk,.string dt] 132):=⟨_,rfl⟩
 rw[←hW]
 have hb:W.heap[w.heap.size]? = some (.cells #[.int .i64 st,.int .u8 mk,.string dt] 132 (0,0)):=by rw[hW];exact heap_new w _
 have KW:Hid (Kept (fun _=>False) w W):=by rw[hW];exact(Kept.refl _ _).alloc _
 clear hW
 refine(HCK.out W).mono ?_
 rintro e w1 ⟨rfl,k1⟩
 have hb1:=k1.heap hb id
 have b0:w1.cell? ⟨w.heap.size,0,none⟩=some (.int .i64 st):=(cell_heap hb1 0).trans rfl
 have b1:w1.cell? ⟨w.heap.size,1,none⟩=some (.int .u8 mk):=(cell_heap hb1 1).trans rfl
 have b2:w1.cell? ⟨w.heap.size,2,none⟩=some (.string dt):=(cell_heap hb1 2).trans rfl
 have K1:Hid (Kept (fun _=>False) w w1):=KW.out.trans k1
 clear k1 hb hb1
 go_wp2_with fail
 refine(HTX.out w1).mono ?_
 rintro e w2 ⟨rfl,k2⟩
 have K2:Hid (Kept (fun _=>False) w w2):=K1.out.trans k2
 clear k2
 go_wp2_with fail
 refine(HWR.out w2 K2.out).mono ?_
 rintro e w3 ⟨rfl,vc3,h3⟩
 have H3:Hid (DevTo w d vs vc w3 vc3 (D.write a tx).2):=DevTo.behind H.out K2.out h3
 clear h3
 go_wp2_with fail
 go_ret
 exact⟨rfl,vc3,H3.out⟩
end Go.Proofs.YtfgjehecjgebdaaGreat
/- Stamp: Latest. -/
namespace Go.Proofs.YtfgjehecjgebdaaGreat
open Go.RowKit
inductive Newest (ta tb:List UInt8):Option (Sec×Bool)→Prop where
 | second (y:Sec):Says tb y→(∀x,Says ta x→x.stamp < y.stamp)→Newest ta tb (some (y,true))
 | first (x:Sec):Says ta x→(∀y,Says tb y→y.stamp≤x.stamp)→Newest ta tb (some (x,false))
 | none:(∀x, ¬Says ta x)→(∀y, ¬Says tb y)→Newest ta tb none
def LatestPost (ra rb:List UInt8×Int) (a b:Int) (w:World) (e:Ending) (w':World):Prop :=
 ∃(x:Sec) (n c:Int),e = .returned (.tuple #[secOf x,.int .i64 n,.int .i64 c])∧Kept (fun _=>False) w w' ∧
  c=(if ra.2 ≠ 0 then ra.2 else rb.2)∧(ra.2=0→rb.2=0 → ∃r,Newest ra.1 rb.1 r∧match r with|some (y,s)=>x=y∧n=(if s then b else a)|none=>n = -1)
set_option maxRecDepth 100000 in
theorem StLatest_calls {w d vs vc D} (h:IsDev w d vs vc D) (a b:Int) (hcl:D.cache.length≤1000000) :
  Calls Tryz.prog 81 #[.pointer (some ⟨d,0,none⟩),.int .i64 a,.int .i64 b] w (LatestPost (D.read a) (D.read b) a b w):=by
 have HD:Hid (∀W n,Kept (fun _=>False) w W→Calls Tryz.prog 119 #[.pointer (some ⟨d,0,none⟩),.int .i64 n] W (StReadPost (D.read n) W)):=fun W n hW=>StRead_calls (h.keptF hW) n hcl
 clear h
 generalize hra:D.read a=ra at *
 generalize hrb:D.read b=rb at *
 have HRA:=Lib.hid hra
 have HRB:=Lib.hid hrb
 clear hra hrb
 go_enter Tryz.func81,Tryz.ntmps81
 go_wp2_with fail
 obtain⟨W,hW⟩:∃W,W=w.alloc (.cells #[.int .i64 0,.int .u8 0,.string ⟨#[]⟩] 132):=⟨_,rfl⟩
 rw[←hW]
 have HW0:Hid (W.heap[w.heap.size]? = some (.cells #[.int .i64 0,.int .u8 0,.string ⟨#[]⟩] 132 (0,0))):=by rw[hW];exact heap_new w _
 have KW:Hid (Kept (fun _=>False) w W):=by rw[hW];exact(Kept.refl _ _).alloc _
 clear hW
 refine(HD.out W a KW.out).mono ?_
 rw[HRA.out]
 rintro e w1 ⟨⟨xs,xm,xd⟩,okx,rfl,k1,hx⟩
 have KX:Hid (Kept (fun _=>False) w w1):=KW.out.trans k1
 have hr:=k1.heap HW0.out id
 have HR:=Lib.hid hr
 have HX:=Lib.hid hx
 clear hr k1 hx
 simp only[secOf,secV]
 obtain⟨ta,ea⟩:=ra
 simp only at HX⊢
 have HXD:Hid (∃q,q=ba xd):=⟨_,rfl⟩
 obtain⟨qx,hqx⟩:=HXD.out
 rw[←hqx]
 have HQX:=Lib.hid hqx
 clear hqx
 by_cases he:ea=0
 ·subst he
  have hrl:=lt_heap HR.out
  go_wp2_with fail
  obtain⟨W2,hW2⟩:∃W2,W2=w1.alloc (.cells #[.int .i64 xs,.int .u8 xm,.string qx] 132):=⟨_,rfl⟩
  rw[←hW2]
  have hb2:W2.heap[w1.heap.size]? = some (.cells #[.int .i64 xs,.int .u8 xm,.string qx] 132 (0,0)):=by rw[hW2];exact heap_new w1 _
  have hr2:W2.heap[w.heap.size]? = some (.cells #[.int .i64 0,.int .u8 0,.string ⟨#[]⟩] 132 (0,0)):=by rw[hW2];exact heap_old HR.out _
  have KX2:Hid (Kept (fun _=>False) w W2):=by rw[hW2];exact KX.out.alloc _
  clear hW2 hrl
  refine(HD.out W2 b KX2.out).mono ?_
  rw[HRB.out]
  rintro e w3 ⟨⟨ys,ym,yd⟩,oky,rfl,k3,hy⟩
  have KX3:Hid (Kept (fun _=>False) w w3):=KX2.out.trans k3
  have hr3:=k3.heap hr2 id
  have hb3:=k3.heap hb2 id
  have HR3:=Lib.hid hr3
  have HY:=Lib.hid hy
  have x0:w3.cell? ⟨w1.heap.size,0,none⟩=some (.int .i64 xs):=(cell_heap hb3 0).trans rfl
  have x1:w3.cell? ⟨w1.heap.size,1,none⟩=some (.int .u8 xm):=(cell_heap hb3 1).trans rfl
  have x2:w3.cell? ⟨w1.heap.size,2,none⟩=some (.string qx):=(cell_heap hb3 2).trans rfl
  have r0:w3.cell? ⟨w.heap.size,0,none⟩=some (.int .i64 0):=(cell_heap hr3 0).trans rfl
  have r1:w3.cell? ⟨w.heap.size,1,none⟩=some (.int .u8 0):=(cell_heap hr3 1).trans rfl
  have r2:w3.cell? ⟨w.heap.size,2,none⟩=some (.string ⟨#[]⟩):=(cell_heap hr3 2).trans rfl
  have f0:=free_heap hr3 0
  have f1:=free_heap hr3 1
  have f2:=free_heap hr3 2
  have hrl:=lt_heap hr3
  have hbl:=lt_heap hb3
  clear k3 hr2 hb2 hr3 hb3 hy
  simp only[secOf,secV]
  obtain⟨tb,eb⟩:=rb
  simp only at HY⊢
  obtain⟨qy,hqy⟩:∃q,q=ba yd:=⟨_,rfl⟩
  rw[←hqy]
  have HQY:=Lib.hid hqy
  clear hqy
  by_cases hb:eb=0
  ·subst hb
   have HX2:=Lib.hid (HX.out (by simp))
   have HY2:=Lib.hid (HY.out (by simp))
   cases oky with
   | true =>
    have hsy:Says tb ⟨ys,ym,yd⟩:=by rcases HY2.out with h|h;exact h.2;exact absurd h.1 (by simp)
    have HSY:=Lib.hid hsy
    clear hsy
    cases okx with
    | true =>
     have hsx:Says ta ⟨xs,xm,xd⟩:=by rcases HX2.out with h|h;exact h.2;exact absurd h.1 (by simp)
     have HSX:=Lib.hid hsx
     clear hsx
     by_cases hlt:xs < ys
     ·have hg:decide ((xs:Int) < (ys:Int))=true:=by simpa using hlt
      have HN:Hid (Newest ta tb (some (⟨ys,ym,yd⟩,true))):=.second _ HSY.out (fun x hx=>by rw[hx.unique HSX.out];exact hlt)
      go_wp2_with fail
      refine bodyPost_ret (v:=.tuple #[.agg #[.int .i64 ys,.int .u8 ym,.string qy],.int .i64 b,.int .i64 0]) ?_ rfl ?_
      ·have hh:=heap_old (sec_set HR3.out (.int .i64 ys) (.int .u8 ym) (.string qy)) (.cells #[.int .i64 ys,.int .u8 ym,.string qy] 132)
       have g0:=(cell_heap hh 0).trans rfl
       have g1:=(cell_heap hh 1).trans rfl
       have g2:=(cell_heap hh 2).trans rfl
       simp[results,Tryz.f81,go_sem,g0,g1,g2]
      ·exact⟨⟨ys,ym,yd⟩,b,0,by rw[HQY.out];rfl,(sec_setK KX3.out (Nat.le_refl _) _ _ _).alloc _,by simp,fun _ _=>⟨_,HN.out,rfl,rfl⟩⟩
     ·have hg:decide ((xs:Int) < (ys:Int))=false:=by simpa using hlt
      have HN:Hid (Newest ta tb (some (⟨xs,xm,xd⟩,false))):=.first _ HSX.out (fun y hy=>by rw[hy.unique HSY.out];simp only;omega)
      go_wp2_with fail
      refine bodyPost_ret (v:=.tuple #[.agg #[.int .i64 xs,.int .u8 xm,.string qx],.int .i64 a,.int .i64 0]) ?_ rfl ?_
      ·have hh:=heap_old (sec_set HR3.out (.int .i64 xs) (.int .u8 xm) (.string qx)) (.cells #[.int .i64 ys,.int .u8 ym,.string qy] 132)
       have g0:=(cell_heap hh 0).trans rfl
       have g1:=(cell_heap hh 1).trans rfl
       have g2:=(cell_heap hh 2).trans rfl
       simp[results,Tryz.f81,go_sem,g0,g1,g2]
      ·exact⟨⟨xs,xm,xd⟩,a,0,by rw[HQX.out];rfl,(sec_setK KX3.out (Nat.le_refl _) _ _ _).alloc _,by simp,fun _ _=>⟨_,HN.out,rfl,rfl⟩⟩
    | false =>
     have HN:Hid (Newest ta tb (some (⟨ys,ym,yd⟩,true))):=.second _ HSY.out (fun x hx=>by rcases HX2.out with h|h;exact absurd h.1 (by simp);exact absurd hx (h.2 x))
     go_wp2_with fail
     refine bodyPost_ret (v:=.tuple #[.agg #[.int .i64 ys,.int .u8 ym,.string qy],.int .i64 b,.int .i64 0]) ?_ rfl ?_
     ·have hh:=heap_old (sec_set HR3.out (.int .i64 ys) (.int .u8 ym) (.string qy)) (.cells #[.int .i64 ys,.int .u8 ym,.string qy] 132)
      have g0:=(cell_heap hh 0).trans rfl
      have g1:=(cell_heap hh 1).trans rfl
      have g2:=(cell_heap hh 2).trans rfl
      simp[results,Tryz.f81,go_sem,g0,g1,g2]
     ·exact⟨⟨ys,ym,yd⟩,b,0,by rw[HQY.out];rfl,(sec_setK KX3.out (Nat.le_refl _) _ _ _).alloc _,by simp,fun _ _=>⟨_,HN.out,rfl,rfl⟩⟩
   | false =>
    cases okx with
    | true =>
     have HN:Hid (Newest ta tb (some (⟨xs,xm,xd⟩,false))):=.first _ (by rcases HX2.out with h|h;exact h.2;exact absurd h.1 (by simp)) (fun y hy=>by rcases HY2.out with h|h;exact absurd h.1 (by simp);exact absurd hy (h.2 y))
     go_wp2_with fail
     refine bodyPost_ret (v:=.tuple #[.agg #[.int .i64 xs,.int .u8 xm,.string qx],.int .i64 a,.int .i64 0]) ?_ rfl ?_
     ·have hh:=heap_old (sec_set HR3.out (.int .i64 xs) (.int .u8 xm) (.string qx)) (.cells #[.int .i64 ys,.int .u8 ym,.string qy] 132)
      have g0:=(cell_heap hh 0).trans rfl
      have g1:=(cell_heap hh 1).trans rfl
      have g2:=(cell_heap hh 2).trans rfl
      simp[results,Tryz.f81,go_sem,g0,g1,g2]
     ·exact⟨⟨xs,xm,xd⟩,a,0,by rw[HQX.out];rfl,(sec_setK KX3.out (Nat.le_refl _) _ _ _).alloc _,by simp,fun _ _=>⟨_,HN.out,rfl,rfl⟩⟩
    | false =>
     have HN:Hid (Newest ta tb none):=.none (by rcases HX2.out with h|h;exact absurd h.1 (by simp);exact h.2) (by rcases HY2.out with h|h;exact absurd h.1 (by simp);exact h.2)
     go_wp2_with fail
     refine bodyPost_ret (v:=.tuple #[.agg #[.int .i64 0,.int .u8 0,.string ⟨#[]⟩],.int .i64 (-1),.int .i64 0]) ?_ rfl ?_
     ·have hh:=heap_old (sec_set HR3.out (.int .i64 0) (.int .u8 0) (.string ⟨#[]⟩)) (.cells #[.int .i64 ys,.int .u8 ym,.string qy] 132)
      have g0:=(cell_heap hh 0).trans rfl
      have g1:=(cell_heap hh 1).trans rfl
      have g2:=(cell_heap hh 2).trans rfl
      simp[results,Tryz.f81,go_sem,g0,g1,g2]
     ·exact⟨⟨0,0, []⟩, -1,0,rfl,(sec_setK KX3.out (Nat.le_refl _) _ _ _).alloc _,by simp,fun _ _=>⟨_,HN.out,rfl⟩⟩
  ·have ht:(eb != 0)=true:=by simpa using hb
   have HE:=Lib.hid hb
   clear hb
   go_wp2_with fail
   refine bodyPost_ret (v:=.tuple #[.agg #[.int .i64 0,.int .u8 0,.string ⟨#[]⟩],.int .i64 (-1),.int .i64 eb]) ?_ rfl ?_
   ·have hh:=heap_old (sec_set HR3.out (.int .i64 0) (.int .u8 0) (.string ⟨#[]⟩)) (.cells #[.int .i64 ys,.int .u8 ym,.string qy] 132)
    have g0:=(cell_heap hh 0).trans rfl
    have g1:=(cell_heap hh 1).trans rfl
    have g2:=(cell_heap hh 2).trans rfl
    simp[results,Tryz.f81,go_sem,g0,g1,g2]
   ·exact⟨⟨0,0, []⟩, -1,eb,rfl,(sec_setK KX3.out (Nat.le_refl _) _ _ _).alloc _,by simp,fun _ h=>absurd h HE.out⟩
 ·have ht:(ea != 0)=true:=by simpa using he
  have c0:w1.cell? ⟨w.heap.size,0,none⟩=some (.int .i64 0):=(cell_heap HR.out 0).trans rfl
  have c1:w1.cell? ⟨w.heap.size,1,none⟩=some (.int .u8 0):=(cell_heap HR.out 1).trans rfl
  have c2:w1.cell? ⟨w.heap.size,2,none⟩=some (.string ⟨#[]⟩):=(cell_heap HR.out 2).trans rfl
  have f0:=free_heap HR.out 0
  have f1:=free_heap HR.out 1
  have f2:=free_heap HR.out 2
  have hrl:=lt_heap HR.out
  have HE:=Lib.hid he
  clear he
  go_wp2_with fail
  refine bodyPost_ret (v:=.tuple #[.agg #[.int .i64 0,.int .u8 0,.string ⟨#[]⟩],.int .i64 (-1),.int .i64 ea]) ?_ rfl ?_
  ·have hh:=heap_old (sec_set HR.out (.int .i64 0) (.int .u8 0) (.string ⟨#[]⟩)) (.cells #[.int .i64 xs,.int .u8 xm,.string qx] 132)
   have g0:=(cell_heap hh 0).trans rfl
   have g1:=(cell_heap hh 1).trans rfl
   have g2:=(cell_heap hh 2).trans rfl
   simp[results,Tryz.f81,go_sem,g0,g1,g2]
  ·exact⟨⟨0,0, []⟩, -1,ea,rfl,(sec_setK KX.out (Nat.le_refl _) _ _ _).alloc _,by simp[HE.out],fun h=>absurd h HE.out⟩
end Go.Proofs.YtfgjehecjgebdaaGreat
