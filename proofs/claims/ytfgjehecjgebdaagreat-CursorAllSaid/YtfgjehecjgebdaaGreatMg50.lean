/- cursor.Range: the entries of a range. -/
import Derived.Test.YtfgjehecjgebdaaGreatMg49
namespace Go.Proofs.YtfgjehecjgebdaaGreat
open Go.RowKit Go.Maps Go.ChangeMaps
set_option maxHeartbeats 4000000
set_option maxRecDepth 100000
attribute [local go_sem] Oper.semAt_some
def CRow (w:World) (B:Nat) (v:Value) (E:List KV):Prop:=w.ownsRow B 98 2 v E.length (eCells E)
theorem CRow.keptF {w w' B v E} (h:CRow w B v E) (k:Kept (fun _=>False) w w'):CRow w' B v E:=k.own h fun _ _=>id
theorem CRow.en {w B v E} (h:CRow w B v E):EnS w v E:=by
 obtain⟨hl,h|⟨g,cap,cur,rfl,hb,hh,h1,h2,h3⟩⟩:=id h
 ·obtain⟨rfl,h0⟩:=h
  have hE:E = []:=List.eq_nil_of_length_eq_zero h0
  subst hE
  exact⟨none,0,rfl,.inl ⟨rfl,rfl⟩⟩
 ·refine⟨_,cap,rfl,.inr ⟨g,0,rfl,own_lt h rfl,fun j hj=>?_⟩⟩
  obtain⟨e1,e2⟩:=eCells_at E j hj
  have c1:=World.ownsRow.cellAt h (j * 2) (by omega)
  have c2:=World.ownsRow.cellAt h (j * 2 + 1) (by omega)
  rw[Nat.zero_add]
  exact⟨c1.trans e1,c2.trans e2⟩
theorem cent_info:(Tryz.prog.info? 98).map (fun i=>(i.zero,i.size,i.bytes))=some (some (.agg #[.string ⟨#[]⟩,.string ⟨#[]⟩]),2,32):=by kernel_rfl
theorem app_cent {w:World} {ops:Array Oper} {rest:List Oper} {o:Oper} {a:Act} {Q:Exit→Act→World→Prop} (hgd:o.guard=none) (s x:Operand)
  (ho:o.op = .call { callee:=.builtin .append,args := #[s,x],argTypes := #[104,104] })
  {v:Value} {E:List KV} (hs:a.eval s=v) {Bv:Nat} (hown:CRow w Bv v E)
  (B:Nat) {A:Option Addr} {c:Nat} {E':List KV} (hx:a.eval x = .slice A E'.length c) (hr:Reads w B 2 A E'.length (eCells E')) (hl:E.length + E'.length≤100000)
  (h:∀v' w',w'.ownsRow 0 98 2 v' (E.length + E'.length) (eCells E ++ eCells E')→w.grownBy w' v.ownBlock→(v'.ownBlock=v.ownBlock∨v'.ownBlock=some w.heap.size)→wpList Tryz.prog ops Q rest (a.put o.dst v') w'):wpList Tryz.prog ops Q (o :: rest) a w:=by
 obtain⟨i,hi,h1',h2,h3⟩:=info_parts cent_info
 exact wpList_append_any w hgd s x 104 ho 0 98 i (.agg #[.string ⟨#[]⟩,.string ⟨#[]⟩]) 2 32 Tryz.underlying104 hi h1' h2 h3 rfl (by decide) v E.length (eCells E) hs (own_base hown fun _ _=>Nat.zero_le _) B A E'.length c (eCells E') hx hr (eCells_one E') (by unfold maxLen;omega) (by omega) (Nat.zero_le _) h
theorem cent_step {w2 W' w':World} {B:Nat} {v v':Value} {E E':List KV} (h:CRow w2 B v E) (k0:Kept (fun _=>False) w2 W') (hB:B≤w2.heap.size) (h1:w'.ownsRow 0 98 2 v' (E.length + E'.length) (eCells E ++ eCells E')) (h2:W'.grownBy w' v.ownBlock)
  (h3:v'.ownBlock=v.ownBlock∨v'.ownBlock=some W'.heap.size):∃A c lo,v' = .slice A lo c∧Hid (lo=(E ++ E').length)∧Hid (CRow w' B (.slice A lo c) (E ++ E'))∧Hid (Kept (fun k=>v.ownBlock=some k) w2 w'):=by
 have hk:=k0.size
 have hr:CRow w' B v' (E ++ E'):=by
  show w'.ownsRow _ _ _ _ _ _
  rw[List.length_append,eCells_app]
  refine own_base h1 fun k hk'=>?_
  rcases h3 with e|e
  ·exact own_ge h (e ▸ hk')
  ·rw[hk'] at e
   injection e with e
   omega
 obtain⟨A,c,rfl⟩:=hr.en.slice
 exact⟨A,c,_,rfl,rfl,hr,(k0.mono fun _ _=>False.elim).trans ⟨h2.os,h2.tape,h2.output,h2.size,fun k hk' hne=>h2.block k hk' fun e=>hne e.symm⟩⟩
def upto (tb:Bs) (L:List KV):List KV:=L.takeWhile fun e=>decide (tb = []∨e.1 < tb)
def RangeTo (R:List KV) (w:World) (e:Ending) (w':World):Prop:=∃v',e = .returned (.tuple #[v',.int .i64 0])∧CRow w' w.heap.size v' R∧Kept (fun _=>False) w w'
theorem CurRange_calls {w q X root E} (tw:TW w q X root) (ti:TI X root E) (hl:E.length≤1000) (k tb:Bs) (most:Int):Calls Tryz.prog 52 #[.pointer (some ⟨q.t,0,none⟩),.string (ba k),.string (ba tb),.int .i64 most] w (RangeTo ((upto tb (fromE E k)).take most.toNat) w):=by
 have CA:=Lib.hid (CurAt_calls tw ti k)
 obtain⟨L0,hL0⟩:∃L,L=fromE E k:=⟨_,rfl⟩
 have HL0:Hid (L0.length≤1000):=by have:=List.length_filter_le (fun e:KV => !decide (e.1 < k)) E;show _≤_;rw[hL0];exact Nat.le_trans this hl
 rw[←hL0] at CA⊢
 obtain⟨R,hR⟩:∃R,R=(upto tb L0).take most.toNat:=⟨_,rfl⟩
 have HR:=Lib.hid hR
 rw[←hR]
 have HT:=Lib.hid tw;have HLO:=Lib.hid tw.low
 obtain⟨ks,hks⟩:∃s,s=ba k:=⟨_,rfl⟩
 obtain⟨ts,hts⟩:∃s,s=ba tb:=⟨_,rfl⟩
 have HTS:=Lib.hid hts
 rw[←hks] at CA⊢
 rw[←hts]
 clear hL0 hR ti tw hl hks hts
 go_enter Tryz.func52,Tryz.ntmps52
 go_wp2_with fail
 refine CA.out.mono ?_
 rintro e w1 ⟨c,v,H,rfl,ca,k1,hv⟩
 obtain⟨B,hB⟩:∃B,B=w.heap.size:=⟨_,rfl⟩
 have HB:=Lib.hid hB
 rw[←hB] at ca
 have C1:=Lib.hid ca;have K1:=Lib.hid k1;have HV:Hid (∀g,v.ownBlock=some g→B≤g):=by rw[hB];exact hv
 have HQ:Hid (q.In (· < B)):=by rw[hB];exact HLO.out
 clear ca k1 hv hB CA
 go_wp2_with fail
 go_loopw [12] (fun o wr=>∃(O L:List KV) (Ao:Option Addr) (lo co:Nat) (v':Value),o = .slice Ao lo co∧lo≤1000∧Hid (lo=O.length∧lo + L.length≤1000)∧Hid (CRow wr B (.slice Ao lo co) O)∧Hid (CurAt X H L wr B c q.t v')∧Hid (∀g,v'.ownBlock=some g→B≤g)∧Hid (Kept (fun _=>False) w wr)∧Hid (O ++ (upto tb L).take (most.toNat - O.length)=R)) (fun o _=>(most - slN o).toNat)
 case atStart=>exact⟨[],L0,none,0,0,v,rfl,by omega,⟨rfl,by simpa using HL0.out⟩,World.ownsRow_nil _ _ _ _,C1.out,HV.out,K1.out,by show _=_;simpa using HR.out.symm⟩
 case round =>
  obtain⟨O,L,Ao,lo,co,v',rfl,hlo,HL,RO,CU,HV',KW,HRR⟩:=hrel
  by_cases hm:(lo:Int) < most
  ·have CN:=Lib.hid (CurNext_calls (HT.out.keptF KW.out) CU.out HQ.out)
   have HNT:Hid (∀w':World,Kept (CK c v') wr w'→Kept (fun _=>False) w w'∧CRow w' B (.slice Ao lo co) O):=fun w' kk=>by
    obtain⟨⟨s,hc, -, -⟩, -⟩:=CU.out
    refine⟨KW.out.then kk fun i hi e=>?_,kk.own RO.out fun g hg e=>?_⟩
    ·have:=HB.out
     rcases e with e|e
     ·have:=hc.ge;omega
     ·have:=HV'.out i e;omega
    ·rcases e with e|e
     ·exact own_neH RO.out hc.head (by decide) g hg e
     ·obtain⟨cs,hr, -⟩:=hc.stk
      exact own_neT RO.out hr (by decide) g hg e
   unfold NextTo at CN
   cases L with
   | nil =>
    dsimp only[nxV] at CN
    go_wp2_with fail
    refine CN.out.mono ?_
    rintro e w2 ⟨rfl,v2,c2,k2,o2⟩
    obtain⟨h1,h2⟩:=HNT.out _ k2
    have K2:=Lib.hid h1;have R2:=Lib.hid h2
    clear h1 h2 c2 k2 o2 CN
    go_wp2_with fail
    refine bodyPost_ret (v:=.tuple #[.slice Ao lo co,.int .i64 0]) (by simp[results,Tryz.f52,go_sem]) rfl ?_
    have hO:O=R:=by have:=HRR.out;simpa[upto] using this
    exact⟨_,rfl,by rw[←hO, ←HB.out];exact R2.out.keptF ((Kept.refl _ _).alloc _),K2.out.alloc _⟩
   | cons x L =>
    obtain⟨xk,xv⟩:=x
    dsimp only[nxV,Ss,List.tail] at CN
    obtain⟨kx,hkx⟩:∃s,s=ba xk:=⟨_,rfl⟩
    obtain⟨vx,hvx⟩:∃s,s=ba xv:=⟨_,rfl⟩
    rw[←hkx, ←hvx] at CN
    have HKX:=Lib.hid hkx;have HVX:=Lib.hid hvx
    have HLT:Hid (Op.bytesLess kx.toList ts.toList=decide (xk < tb)):=by show _=_;rw[hkx,HTS.out];exact bless xk tb
    have HTL:Hid (ts.toList = []↔tb = []):=by
     show _↔_
     rw[HTS.out,ba_empty]
    clear hkx hvx
    by_cases hc:tb = []∨xk < tb
    ·have HC2:=Lib.hid hc
     have hu:Hid (upto tb ((xk,xv) :: L)=(xk,xv) :: upto tb L):=by show _=_;unfold upto;rw[List.takeWhile_cons,if_pos (by simpa using hc)]
     have hcase:(ts.toList = []∧ts.toList.isEmpty=true)∨(¬ts.toList = []∧ts.toList.isEmpty=false∧Op.bytesLess kx.toList ts.toList=true):=by
      by_cases h0:tb = []
      ·have g1:=HTL.out.2 h0
       exact .inl ⟨g1,by rw[g1];rfl⟩
      ·have g1:¬ts.toList = []:=fun e=>h0 (HTL.out.1 e)
       exact .inr ⟨g1,by simpa using g1,by rw[HLT.out];simpa using hc.resolve_left h0⟩
     clear hc
     rcases hcase with⟨g1,g2⟩|⟨g1,g2,g3⟩
     all_goals
      go_wp2_with fail
      refine CN.out.mono ?_
      rintro e w2 ⟨rfl,v2,c2,k2,o2⟩
      obtain⟨h1,h2⟩:=HNT.out _ k2
      have K2:=Lib.hid h1;have R2:=Lib.hid h2;have C2:=Lib.hid c2
      have HV2:Hid (∀g,v2.ownBlock=some g→B≤g):=fun g hg=>by
       rcases o2 with e|e
       ·exact HV'.out g (e ▸ hg)
       ·have:=e g hg;have:=KW.out.size;have:=HB.out;omega
      have HBW:Hid (B≤w2.heap.size):=by have:=K2.out.size;have:=HB.out;show _≤_;omega
      obtain⟨W1,hW1⟩:∃W1,W1=w2.alloc (.cells #[.string kx,.string vx] 98):=⟨_,rfl⟩
      have HW1:=Lib.hid hW1
      have KW1:Hid (Kept (fun _=>False) w2 W1):=by rw[hW1];exact(Kept.refl _ _).alloc _
      have RX:=Lib.hid (reads_kvn (w:=W1) (n:=w2.heap.size + 1) (by rw[HW1.out];simp) HKX.out HVX.out 98)
      have OX:=Lib.hid ((R2.out.keptF KW1.out).keptF ((Kept.refl _ W1).alloc (.cells #[.string kx,.string vx] 98)))
      have KX:=Lib.hid (KW1.out.alloc (.cells #[.string kx,.string vx] 98))
      rw[HW1.out] at RX OX KX
      have HLn:Hid (O.length + 1≤100000):=by have:=HL.out;show _≤_;omega
      clear h1 h2 c2 k2 o2 CN hW1 HW1 KW1
      go_wp2_with (at_builtin;(refine app_cent (E:=O) (E' := [(xk,xv)]) rfl (.tmp 53) (.tmp 55) rfl (v:=.slice Ao lo co) rfl OX.out _ rfl RX.out HLn.out ?_;intro v' w3 hv' hg' hob;obtain⟨A3,c3,l3,rfl,L3,E3,K3⟩:=cent_step R2.out KX.out HBW.out hv' hg' hob;clear hv' hg' hob))
      have hCC:Hid (CurAt X H L w3 B c q.t v2):=by
       obtain⟨⟨s,hc,h1,h2⟩,h3⟩:=C2.out
       refine⟨⟨s,⟨K3.out.heap hc.head (fun e=>own_neH R2.out hc.head (by decide) c e rfl),?_,hc.ge⟩,h1,h2⟩,h3⟩
       obtain⟨cs,hr, -⟩:=hc.stk
       exact hc.stk.kept K3.out (fun g hg e=>own_neT R2.out hr (by decide) g e hg) fun n u hn=>hn.keptR R2.out (by decide) (by decide) K3.out
      have K4:Hid (Kept (fun _=>False) w w3):=K2.out.then K3.out fun i hi e=>by have:=own_ge R2.out e;have:=HB.out;omega
      have hRN:Hid ((O ++ [(xk,xv)]) ++ (upto tb L).take (most.toNat - (O ++ [(xk,xv)]).length)=R):=by
       have h1:=HRR.out
       have h2:=HL.out.1
       show _=_
       rw[hu.out,show most.toNat - O.length=(most.toNat - (O.length + 1)) + 1 by omega,List.take_succ_cons] at h1
       rw[List.length_append,List.length_singleton,List.append_assoc]
       exact h1
      have hl3:l3=lo + 1:=by have h1:=L3.out;have h2:=HL.out.1;rw[List.length_append,List.length_singleton] at h1;omega
      subst hl3
      have HL3:Hid (lo + 1=(O ++ [(xk,xv)]).length∧lo + 1 + L.length≤1000):=⟨L3.out,by have:=HL.out.2;simp only[List.length_cons] at this;omega⟩
      go_roundw
      case rel=>exact⟨O ++ [(xk,xv)],L,A3,_,c3,v2,rfl,by have:=HL3.out.2;omega,HL3,E3,hCC,HV2,K4,hRN⟩
      case measure=>simp only[slN];omega
    ·have HC2:=Lib.hid hc
     have g1:¬ts.toList = []:=fun e=>hc (.inl (HTL.out.1 e))
     have g2:ts.toList.isEmpty=false:=by simpa using g1
     have g3:Op.bytesLess kx.toList ts.toList=false:=by rw[HLT.out];simpa using fun h=>hc (.inr h)
     clear hc
     go_wp2_with fail
     refine CN.out.mono ?_
     rintro e w2 ⟨rfl,v2,c2,k2,o2⟩
     obtain⟨h1,h2⟩:=HNT.out _ k2
     have K2:=Lib.hid h1;have R2:=Lib.hid h2
     clear h1 h2 c2 k2 o2 CN
     go_wp2_with fail
     refine bodyPost_ret (v:=.tuple #[.slice Ao lo co,.int .i64 0]) (by simp[results,Tryz.f52,go_sem]) rfl ?_
     have hO:O=R:=by
      have:=HRR.out
      unfold upto at this
      rw[List.takeWhile_cons,if_neg (by simpa using HC2.out)] at this
      simpa using this
     exact⟨_,rfl,by rw[←hO, ←HB.out];exact R2.out.keptF ((Kept.refl _ _).alloc _),K2.out.alloc _⟩
  ·go_wp2
   refine bodyPost_ret (v:=.tuple #[.slice Ao lo co,.int .i64 0]) (by simp[results,Tryz.f52,go_sem]) rfl ?_
   have hO:O=R:=by
    have h1:=HRR.out
    have h2:=HL.out.1
    rw[show most.toNat - O.length=0 by omega] at h1
    simpa using h1
   exact⟨_,rfl,by rw[←hO, ←HB.out];exact RO.out,KW.out⟩
end Go.Proofs.YtfgjehecjgebdaaGreat
