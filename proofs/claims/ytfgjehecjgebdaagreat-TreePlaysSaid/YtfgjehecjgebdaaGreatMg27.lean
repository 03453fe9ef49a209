/- Nodes: Check. -/
import Derived.Test.YtfgjehecjgebdaaGreatMg21
import Derived.Test.YtfgjehecjgebdaaGreatMg25
namespace Go.Proofs.YtfgjehecjgebdaaGreat
open Go.RowKit
set_option maxHeartbeats 4000000
set_option maxRecDepth 100000
def CheckTo (n:Nd) (w:World) (e:Ending) (w':World):Prop:=∃c:Int,e = .returned (.int .i64 c)∧(c=0↔n.Ok)∧Kept (fun _=>False) w w'
def Nd.form (n:Nd):Bool:=if n.leaf then decide (n.vals.length=n.keys.length∧n.kids.length=0) else decide (2≤n.kids.length∧n.keys.length + 1=n.kids.length∧n.vals.length=0)
theorem Check_over {w B v n} (h:IsNd w B v n) (ho:n.over=true):Calls Tryz.prog 137 #[v] w (CheckTo n w):=by
 have C1:=Lib.hid fun w' (kk:Kept (fun _=>False) w w')=>NdOver_calls (h.kept kk)
 have HO:Hid (¬n.Ok):=fun hk=>by have:=hk.most;rw[ho] at this;cases this
 rw[ho] at C1
 obtain⟨l,A1,n1,c1,A2,n2,c2,A3,n3,c3,rfl⟩:=h.agg
 clear h ho
 go_enter Tryz.func137,Tryz.ntmps137
 go_wp2_with fail
 refine(C1.out _ (by repeat (first|exact Kept.refl _ _|refine Kept.alloc ?_ _))).mono ?_
 rintro e w1 ⟨rfl,k1⟩
 have K1:=Lib.hid (((Kept.refl (fun _=>False) w).alloc _).trans k1)
 clear C1 k1
 go_wp2
 go_ret
 exact⟨3,rfl,⟨(fun h=>by cases h),fun h=>absurd h HO.out⟩,K1.out⟩
theorem Check_form {w B v n} (h:IsNd w B v n) (hs:n.Sm) (ho:n.over=false) (hf:n.form=false):Calls Tryz.prog 137 #[v] w (CheckTo n w):=by
 have C1:=Lib.hid fun w' (kk:Kept (fun _=>False) w w')=>NdOver_calls (h.kept kk)
 have HO:Hid (¬n.Ok):=fun hk=>by
  cases hl:n.leaf
  ·obtain⟨a,b,c⟩:=hk.inner hl
   simp[Nd.form,hl,c] at hf
   omega
  ·obtain⟨a,b⟩:=hk.leaf hl
   simp[Nd.form,hl,a,b] at hf
 rw[ho] at C1
 obtain⟨l,Ak,a1,ck,Av,a2,cv,Ai,a3,ci,rfl,HE,H,H1,H2,H3⟩:=h.opened
 clear h ho
 have e0:=HE.out.1
 have hk1:a1≤100:=by rw[HE.out.2.1];exact hs.k
 have hk2:a2≤100:=by rw[HE.out.2.2.1];exact hs.v
 have hk3:a3≤100:=by rw[HE.out.2.2.2];exact hs.i
 have hff:(if l then decide (a2=a1∧a3=0) else decide (2≤a3∧a1 + 1=a3∧a2=0))=false:=by
  rw[HE.out.1,HE.out.2.1,HE.out.2.2.1,HE.out.2.2.2];exact hf
 clear hf hs e0
 have tail:∀w1,Hid (Kept (fun _=>False) w w1)→CheckTo n w (.returned (.int .i64 2)) w1:=fun w1 k=>⟨2,rfl,⟨(fun h=>by cases h),fun h=>absurd h HO.out⟩,k.out⟩
 have HTl:=Lib.hid tail
 clear tail HO HE H H1 H2 H3
 cases l
 ·simp only[Bool.false_eq_true,if_false,decide_eq_false_iff_not] at hff
  by_cases c1:2≤a3
  ·by_cases c2:a1 + 1=a3
   ·subst c2
    have c3:0 < a2:=by omega
    clear hff
    go_enter Tryz.func137,Tryz.ntmps137
    go_wp2_with fail
    refine(C1.out _ (by repeat (first|exact Kept.refl _ _|refine Kept.alloc ?_ _))).mono ?_
    rintro e w1 ⟨rfl,k1⟩
    have K1:=Lib.hid (((Kept.refl (fun _=>False) w).alloc _).trans k1)
    obtain⟨d0,d1,d2,d3⟩:=nd_cells (k1.heap (heap_new w _) id)
    clear C1 k1
    go_wp2
    go_ret
    exact HTl.out _ K1
   ·obtain⟨r,rfl⟩:∃r,a3=r + 1:=⟨a3 - 1,by omega⟩
    have c4:(a1 == r)=false:=by rw[beq_eq_false_iff_ne];omega
    have c5:(a1 != r)=true:=by rw[bne_iff_ne];omega
    have c6:((a1:Int) == (r:Int))=false:=by rw[beq_eq_false_iff_ne];omega
    have c7:((a1:Int) != (r:Int))=true:=by rw[bne_iff_ne];omega
    have c8:¬(a1=r):=by omega
    clear hff c2
    go_enter Tryz.func137,Tryz.ntmps137
    go_wp2_with fail
    refine(C1.out _ (by repeat (first|exact Kept.refl _ _|refine Kept.alloc ?_ _))).mono ?_
    rintro e w1 ⟨rfl,k1⟩
    have K1:=Lib.hid (((Kept.refl (fun _=>False) w).alloc _).trans k1)
    obtain⟨d0,d1,d2,d3⟩:=nd_cells (k1.heap (heap_new w _) id)
    clear C1 k1
    go_wp2
    go_ret
    exact HTl.out _ K1
  ·have c4:a3 < 2:=by omega
   clear hff c1
   go_enter Tryz.func137,Tryz.ntmps137
   go_wp2_with fail
   refine(C1.out _ (by repeat (first|exact Kept.refl _ _|refine Kept.alloc ?_ _))).mono ?_
   rintro e w1 ⟨rfl,k1⟩
   have K1:=Lib.hid (((Kept.refl (fun _=>False) w).alloc _).trans k1)
   obtain⟨d0,d1,d2,d3⟩:=nd_cells (k1.heap (heap_new w _) id)
   clear C1 k1
   go_wp2
   go_ret
   exact HTl.out _ K1
 ·simp only[if_true,decide_eq_false_iff_not] at hff
  by_cases c1:a2=a1
  ·subst c1
   have c3:0 < a3:=by omega
   clear hff
   go_enter Tryz.func137,Tryz.ntmps137
   go_wp2_with fail
   refine(C1.out _ (by repeat (first|exact Kept.refl _ _|refine Kept.alloc ?_ _))).mono ?_
   rintro e w1 ⟨rfl,k1⟩
   have K1:=Lib.hid (((Kept.refl (fun _=>False) w).alloc _).trans k1)
   obtain⟨d0,d1,d2,d3⟩:=nd_cells (k1.heap (heap_new w _) id)
   clear C1 k1
   go_wp2
   go_ret
   exact HTl.out _ K1
  ·have c4:(a2 == a1)=false:=by rw[beq_eq_false_iff_ne];omega
   have c5:(a2 != a1)=true:=by rw[bne_iff_ne];omega
   have c6:((a2:Int) == (a1:Int))=false:=by rw[beq_eq_false_iff_ne];omega
   have c7:((a2:Int) != (a1:Int))=true:=by rw[bne_iff_ne];omega
   clear hff c1
   go_enter Tryz.func137,Tryz.ntmps137
   go_wp2_with fail
   refine(C1.out _ (by repeat (first|exact Kept.refl _ _|refine Kept.alloc ?_ _))).mono ?_
   rintro e w1 ⟨rfl,k1⟩
   have K1:=Lib.hid (((Kept.refl (fun _=>False) w).alloc _).trans k1)
   obtain⟨d0,d1,d2,d3⟩:=nd_cells (k1.heap (heap_new w _) id)
   clear C1 k1
   go_wp2
   go_ret
   exact HTl.out _ K1
def Nd.kOk (n:Nd) (j:Nat):Prop:=(n.keys.getD j []).length≤24∧(n.leaf=true→(n.vals.getD j []).length≤32)∧(0 < j→n.keys.getD (j - 1) [] < n.keys.getD j [])
theorem up_of_adj {T:List Bs} (h:∀j,0 < j→j < T.length→T.getD (j - 1) [] < T.getD j []):Up T:=by
 unfold Up
 rw[List.pairwise_iff_getElem]
 intro i j hi hj hij
 obtain⟨d,rfl⟩:∃d,j=i + 1 + d:=⟨j - i - 1,by omega⟩
 clear hij
 induction d with
 | zero =>
  have:=h (i + 1) (by omega) hj
  simpa[List.getD,hi,hj] using this
 | succ d ih =>
  have h1:=ih (by omega)
  have h2:=h (i + 1 + (d + 1)) (by omega) hj
  have e:i + 1 + (d + 1) - 1=i + 1 + d:=by omega
  rw[e] at h2
  have h3:T[i + 1 + d] < T[i + 1 + (d + 1)]:=by simpa[List.getD,hj,show i + 1 + d < T.length by omega] using h2
  exact List.lt_trans h1 h3
theorem ok_of {n:Nd} (ho:n.over=false) (hf:n.form=true) (hk:∀j,j < n.keys.length→n.kOk j) (hi:∀i∈n.kids,i < 128):n.Ok:=by
 refine⟨ho,fun hl=>?_,fun hl=>?_,fun k hm=>?_,fun v hm=>?_,up_of_adj fun j h0 hj=>(hk j hj).2.2 h0,hi⟩
 ·simp[Nd.form,hl] at hf
  exact⟨hf.1,hf.2⟩
 ·simp[Nd.form,hl] at hf
  exact hf
 ·obtain⟨j,hj,rfl⟩:=List.mem_iff_getElem.1 hm
  simpa[List.getD,hj] using (hk j hj).1
 ·obtain⟨j,hj,rfl⟩:=List.mem_iff_getElem.1 hm
  cases hl:n.leaf
  ·simp[Nd.form,hl] at hf
   rw[hf.2.2] at hj;simp at hj
  ·simp[Nd.form,hl] at hf
   have hj':j < n.keys.length:=by omega
   simpa[List.getD,hj] using (hk j hj').2.1 hl
theorem ok_to {n:Nd} (h:n.Ok):(∀j,j < n.keys.length→n.kOk j) ∧ ∀i∈n.kids,i < 128:=by
 refine⟨fun j hj=>⟨?_,fun hl=>?_,fun h0=>?_⟩,h.kid⟩
 ·have:=h.kl _ (List.getElem_mem hj)
  simpa[List.getD,hj] using this
 ·have hv:j < n.vals.length:=by rw[(h.leaf hl).1];exact hj
  have:=h.vl _ (List.getElem_mem hv)
  simpa[List.getD,hv] using this
 ·have h1:j - 1 < n.keys.length:=by omega
  have:=List.pairwise_iff_getElem.1 h.up (j - 1) j h1 hj (by omega)
  simpa[List.getD,hj,h1] using this
theorem Check_leaf {w B v n} (h:IsNd w B v n) (hs:n.Sm) (ho:n.over=false) (hf:n.form=true) (hl:n.leaf=true):Calls Tryz.prog 137 #[v] w (CheckTo n w):=by
 have C1:=Lib.hid fun w' (kk:Kept (fun _=>False) w w')=>NdOver_calls (h.kept kk)
 rw[ho] at C1
 obtain⟨l,Ak,a1,ck,Av,a2,cv,Ai,a3,ci,rfl,HE,H,H1,H2,H3⟩:=h.opened
 have hfl:n.vals.length=n.keys.length∧n.kids.length=0:=by simpa[Nd.form,hl] using hf
 obtain rfl:l=true:=by rw[HE.out.1,hl]
 obtain rfl:a3=0:=by rw[HE.out.2.2.2,hfl.2]
 obtain rfl:a2=a1:=by rw[HE.out.2.2.1,HE.out.2.1,hfl.1]
 have ha:a2≤100:=by rw[HE.out.2.1];exact hs.k
 have HO:=Lib.hid ho;have HF:=Lib.hid hf;have HL:=Lib.hid hl;have HFL:=Lib.hid hfl;have HSm:=Lib.hid hs
 clear h ho hf hl hfl hs
 go_enter Tryz.func137,Tryz.ntmps137
 go_wp2_with fail
 refine(C1.out _ (by repeat (first|exact Kept.refl _ _|refine Kept.alloc ?_ _))).mono ?_
 rintro e w1 ⟨rfl,k1⟩
 have K1:=Lib.hid (((Kept.refl (fun _=>False) w).alloc _).trans k1)
 obtain⟨d0,d1,d2,d3⟩:=nd_cells (k1.heap (heap_new w _) id)
 have HBad:Hid (∀(c:Int),c ≠ 0 → ¬n.Ok→CheckTo n w (.returned (.int .i64 c)) w1):=fun c hc hn=>⟨c,rfl,⟨fun h=>absurd h hc,fun h=>absurd h hn⟩,K1.out⟩
 have HGood:Hid (n.Ok→CheckTo n w (.returned (.int .i64 0)) w1):=fun hn=>⟨0,rfl,⟨fun _=>hn,fun _=>rfl⟩,K1.out⟩
 have HKb:Hid (∀k,k < n.keys.length → ¬n.kOk k → ¬n.Ok):=fun k hk hn h=>hn ((ok_to h).1 k hk)
 clear C1 k1
 go_wp2
 go_loop [3,4,56] (fun _ _ i=>∃k:Nat,k≤a2∧i = .int .i64 k∧Hid (∀j,j < k→n.kOk j)) (fun _ _ i=>a2 - (RowKit.intOf i).toNat)
 case atStart=>exact⟨0,Nat.zero_le _,rfl,fun j hj=>absurd hj (by omega)⟩
 case round =>
  obtain⟨k,hk,rfl,hq⟩:=hrel
  by_cases hlt:k < a2
  ·have hx:SRow w1 B _ n.keys:=H1.out.keptF K1.out
   have hk1:k < n.keys.length:=by have:=HE.out.2.1;omega
   obtain⟨gk,ck',ek⟩:=own_form hx (by omega)
   injection ek with e1 e1' e1''
   subst e1
   clear e1' e1''
   have q1:w1.cell? ⟨gk,k,none⟩=some (.string (ba n.keys[k])):=hx.at_ hk1
   have HQ0:Hid (∀j (h:j < n.keys.length),w1.cell? ⟨gk,j,none⟩=some (.string (ba n.keys[j]))):=fun j h=>hx.at_ h
   clear hx
   obtain⟨s,hs⟩:∃s,s=ba n.keys[k]:=⟨_,rfl⟩
   rw[←hs] at q1
   have HSs:=Lib.hid hs
   have HSz:Hid (s.size=(n.keys.getD k []).length):=by show _=_;rw[hs,ba_size];simp[List.getD,hk1]
   clear hs
   have hy:SRow w1 B _ n.vals:=H2.out.keptF K1.out
   have hk2:k < n.vals.length:=by have:=HE.out.2.2.1;omega
   obtain⟨gv,cv',ev⟩:=own_form hy (by omega)
   injection ev with e2 e2' e2''
   subst e2
   clear e2' e2''
   have q2:w1.cell? ⟨gv,k,none⟩=some (.string (ba n.vals[k])):=hy.at_ hk2
   clear hy
   obtain⟨t,ht⟩:∃t,t=ba n.vals[k]:=⟨_,rfl⟩
   have HTz:Hid (t.size=(n.vals.getD k []).length):=by show _=_;rw[ht,ba_size];simp[List.getD,hk2]
   rw[←ht] at q2
   clear ht
   by_cases hb1:24 < s.size
   ·have HB:=Lib.hid (HKb.out k hk1 (fun h=>by have:=h.1;have:=HSz.out;omega))
    go_wp2
    go_ret
    exact HBad.out 3 (by decide) HB.out
   ·by_cases hb2:32 < t.size
    ·have HB:=Lib.hid (HKb.out k hk1 (fun h=>by have:=h.2.1 HL.out;have:=HTz.out;omega))
     go_wp2
     go_ret
     exact HBad.out 3 (by decide) HB.out
    ·by_cases hz:k=0
     ·have HZ:=Lib.hid hz
      have hz1:¬(0 < k):=by omega
      have hz2:¬((0:Int) < (k:Int)):=by omega
      clear hz
      have hq':Hid (∀j,j < k + 1→n.kOk j):=fun j hj=>by
       by_cases hjk:j < k
       ·exact hq.out j hjk
       ·obtain rfl:j=k:=by omega
        exact⟨by have:=HSz.out;omega,(fun _=>by have:=HTz.out;omega),fun h0=>absurd h0 hz1⟩
      go_wp2
      go_round
      case rel=>exact⟨k + 1,by omega,by go_num,hq'⟩
      case measure=>simp[RowKit.intOf];omega
     ·have hp:k - 1 < n.keys.length:=by omega
      have q3:=HQ0.out (k - 1) hp
      have hz1:0 < k:=by omega
      have hz2:(0:Int) < (k:Int):=by omega
      obtain⟨u,hu⟩:∃u,u=ba n.keys[k - 1]:=⟨_,rfl⟩
      rw[←hu] at q3
      have HU:=Lib.hid hu
      have HLt:Hid (Op.bytesLess u.toList s.toList=decide (n.keys.getD (k - 1) [] < n.keys.getD k [])):=by
       show _=_
       rw[bytesLess_eq,HU.out,HSs.out,ba_empty,ba_empty]
       simp[List.getD,hk1,hp]
      obtain⟨p,hpk⟩:∃p,k=p + 1:=⟨k - 1,by omega⟩
      have hpp:k - 1=p:=by omega
      rw[hpp] at q3
      have q4:w1.cell? ⟨gk,((k:Int) - 1).toNat,none⟩=some (.string u):=by rw[show((k:Int) - 1).toNat=p by omega];exact q3
      clear hu hz
      by_cases hb3:n.keys.getD (k - 1) [] < n.keys.getD k []
      ·have hb4:Op.bytesLess u.toList s.toList=true:=by rw[HLt.out];exact decide_eq_true hb3
       have HB3:=Lib.hid hb3
       clear hb3
       subst hpk
       clear hpp
       have hq':Hid (∀j,j < p + 1 + 1→n.kOk j):=fun j hj=>by
        by_cases hjk:j < p + 1
        ·exact hq.out j hjk
        ·obtain rfl:j=p + 1:=by omega
         exact⟨by have:=HSz.out;omega,(fun _=>by have:=HTz.out;omega),fun _=>HB3.out⟩
       go_wp2
       go_round
       case rel=>exact⟨p + 1 + 1,by omega,by go_num,hq'⟩
       case measure=>simp[RowKit.intOf];omega
      ·have hb4:Op.bytesLess u.toList s.toList=false:=by rw[HLt.out];exact decide_eq_false hb3
       have HB:=Lib.hid (HKb.out k hk1 (fun h=>hb3 (h.2.2 hz1)))
       clear hb3
       subst hpk
       clear hpp
       go_wp2
       go_ret
       exact HBad.out 2 (by decide) HB.out
  ·obtain rfl:k=a2:=by omega
   have HOk:Hid n.Ok:=ok_of HO.out HF.out (fun j hj=>hq.out j (by have:=HE.out.2.1;omega)) (fun i hi=>by
    have h0:=HFL.out.2
    rw[List.length_eq_zero_iff] at h0
    rw[h0] at hi;cases hi)
   clear hq
   go_wp2
   go_loop [6,93] (fun _ i=>i = .int .i64 0) (fun _ i=>(0:Nat))
   case atStart=>rfl
   case round =>
    obtain rfl:=hrel
    go_wp2
    go_ret
    exact HGood.out HOk.out
theorem IRow.atI {w B g a c T j} (hr:IRow w B (.slice (some ⟨g,0,none⟩) a c) T) (hj:j < T.length):w.cell? ⟨g,j,none⟩=some (.int .i64 (T[j]:Nat)):=by
 obtain⟨A,c',e,⟨rfl,_⟩|⟨b,off,rfl,hc⟩⟩:=hr.sl
 ·cases e
 ·injection e with e1 e2 e3
  injection e1 with e1
  injection e1 with e1 e4
  subst e1 e4
  have:=hc j hj
  rw[Nat.zero_add] at this
  exact this
theorem Check_inner {w B v n} (h:IsNd w B v n) (hs:n.Sm) (ho:n.over=false) (hf:n.form=true) (hl:n.leaf=false):Calls Tryz.prog 137 #[v] w (CheckTo n w):=by
 have C1:=Lib.hid fun w' (kk:Kept (fun _=>False) w w')=>NdOver_calls (h.kept kk)
 rw[ho] at C1
 obtain⟨l,Ak,a1,ck,Av,a2,cv,Ai,a3,ci,rfl,HE,H,H1,H2,H3⟩:=h.opened
 have hfl:2≤n.kids.length∧n.keys.length + 1=n.kids.length∧n.vals.length=0:=by simpa[Nd.form,hl] using hf
 obtain rfl:l=false:=by rw[HE.out.1,hl]
 obtain rfl:a2=0:=by rw[HE.out.2.2.1,hfl.2.2]
 obtain rfl:a3=a1 + 1:=by rw[HE.out.2.2.2,HE.out.2.1,hfl.2.1]
 have ha:a1≤100:=by rw[HE.out.2.1];exact hs.k
 have ha0:1≤a1:=by have:=hfl;have:=HE.out.2.1;omega
 have ha1:¬(a1 + 1 < 2):=by omega
 have ha2:2≤a1 + 1:=by omega
 have HO:=Lib.hid ho;have HF:=Lib.hid hf;have HL:=Lib.hid hl;have HFL:=Lib.hid hfl;have HSm:=Lib.hid hs
 clear h ho hf hl hfl hs
 go_enter Tryz.func137,Tryz.ntmps137
 go_wp2_with fail
 refine(C1.out _ (by repeat (first|exact Kept.refl _ _|refine Kept.alloc ?_ _))).mono ?_
 rintro e w1 ⟨rfl,k1⟩
 have K1:=Lib.hid (((Kept.refl (fun _=>False) w).alloc _).trans k1)
 obtain⟨d0,d1,d2,d3⟩:=nd_cells (k1.heap (heap_new w _) id)
 have HBad:Hid (∀(c:Int),c ≠ 0 → ¬n.Ok→CheckTo n w (.returned (.int .i64 c)) w1):=fun c hc hn=>⟨c,rfl,⟨fun h=>absurd h hc,fun h=>absurd h hn⟩,K1.out⟩
 have HGood:Hid (n.Ok→CheckTo n w (.returned (.int .i64 0)) w1):=fun hn=>⟨0,rfl,⟨fun _=>hn,fun _=>rfl⟩,K1.out⟩
 have HKb:Hid (∀k,k < n.keys.length → ¬n.kOk k → ¬n.Ok):=fun k hk hn h=>hn ((ok_to h).1 k hk)
 clear C1 k1
 go_wp2
 go_loop [3,4,56] (fun _ _ i=>∃k:Nat,k≤a1∧i = .int .i64 k∧Hid (∀j,j < k→n.kOk j)) (fun _ _ i=>a1 - (RowKit.intOf i).toNat)
 case atStart=>exact⟨0,Nat.zero_le _,rfl,fun j hj=>absurd hj (by omega)⟩
 case round =>
  obtain⟨k,hk,rfl,hq⟩:=hrel
  by_cases hlt:k < a1
  ·have hx:SRow w1 B _ n.keys:=H1.out.keptF K1.out
   have hk1:k < n.keys.length:=by have:=HE.out.2.1;omega
   obtain⟨gk,ck',ek⟩:=own_form hx (by omega)
   injection ek with e1 e1' e1''
   subst e1
   clear e1' e1''
   have q1:w1.cell? ⟨gk,k,none⟩=some (.string (ba n.keys[k])):=hx.at_ hk1
   have HQ0:Hid (∀j (h:j < n.keys.length),w1.cell? ⟨gk,j,none⟩=some (.string (ba n.keys[j]))):=fun j h=>hx.at_ h
   clear hx
   obtain⟨s,hs⟩:∃s,s=ba n.keys[k]:=⟨_,rfl⟩
   rw[←hs] at q1
   have HSs:=Lib.hid hs
   have HSz:Hid (s.size=(n.keys.getD k []).length):=by show _=_;rw[hs,ba_size];simp[List.getD,hk1]
   clear hs
   by_cases hb1:24 < s.size
   ·have HB:=Lib.hid (HKb.out k hk1 (fun h=>by have:=h.1;have:=HSz.out;omega))
    go_wp2
    go_ret
    exact HBad.out 3 (by decide) HB.out
   ·by_cases hz:k=0
    ·have HZ:=Lib.hid hz
     have hz1:¬(0 < k):=by omega
     have hz2:¬((0:Int) < (k:Int)):=by omega
     clear hz
     have hq':Hid (∀j,j < k + 1→n.kOk j):=fun j hj=>by
      by_cases hjk:j < k
      ·exact hq.out j hjk
      ·obtain rfl:j=k:=by omega
       exact⟨by have:=HSz.out;omega,(fun hl=>by rw[HL.out] at hl;cases hl),fun h0=>absurd h0 hz1⟩
     go_wp2
     go_round
     case rel=>exact⟨k + 1,by omega,by go_num,hq'⟩
     case measure=>simp[RowKit.intOf];omega
    ·have hp:k - 1 < n.keys.length:=by omega
     have q3:=HQ0.out (k - 1) hp
     have hz1:0 < k:=by omega
     have hz2:(0:Int) < (k:Int):=by omega
     obtain⟨u,hu⟩:∃u,u=ba n.keys[k - 1]:=⟨_,rfl⟩
     rw[←hu] at q3
     have HU:=Lib.hid hu
     have HLt:Hid (Op.bytesLess u.toList s.toList=decide (n.keys.getD (k - 1) [] < n.keys.getD k [])):=by
      show _=_
      rw[bytesLess_eq,HU.out,HSs.out,ba_empty,ba_empty]
      simp[List.getD,hk1,hp]
     obtain⟨p,hpk⟩:∃p,k=p + 1:=⟨k - 1,by omega⟩
     have hpp:k - 1=p:=by omega
     rw[hpp] at q3
     have q4:w1.cell? ⟨gk,((k:Int) - 1).toNat,none⟩=some (.string u):=by rw[show((k:Int) - 1).toNat=p by omega];exact q3
     clear hu hz
     by_cases hb3:n.keys.getD (k - 1) [] < n.keys.getD k []
     ·have hb4:Op.bytesLess u.toList s.toList=true:=by rw[HLt.out];exact decide_eq_true hb3
      have HB3:=Lib.hid hb3
      clear hb3
      subst hpk
      clear hpp
      have hq':Hid (∀j,j < p + 1 + 1→n.kOk j):=fun j hj=>by
       by_cases hjk:j < p + 1
       ·exact hq.out j hjk
       ·obtain rfl:j=p + 1:=by omega
        exact⟨by have:=HSz.out;omega,(fun hl=>by rw[HL.out] at hl;cases hl),fun _=>HB3.out⟩
      go_wp2
      go_round
      case rel=>exact⟨p + 1 + 1,by omega,by go_num,hq'⟩
      case measure=>simp[RowKit.intOf];omega
     ·have hb4:Op.bytesLess u.toList s.toList=false:=by rw[HLt.out];exact decide_eq_false hb3
      have HB:=Lib.hid (HKb.out k hk1 (fun h=>hb3 (h.2.2 hz1)))
      clear hb3
      subst hpk
      clear hpp
      go_wp2
      go_ret
      exact HBad.out 2 (by decide) HB.out
  ·obtain rfl:k=a1:=by omega
   have HKk:Hid (∀j,j < n.keys.length→n.kOk j):=fun j hj=>hq.out j (by have:=HE.out.2.1;omega)
   clear hq
   go_wp2
   go_loop [6,93] (fun _ i=>∃m:Nat,m≤k + 1∧i = .int .i64 m∧Hid (∀j (h:j < n.kids.length),j < m→n.kids[j] < 128)) (fun _ i=>k + 1 - (RowKit.intOf i).toNat)
   case atStart=>exact⟨0,Nat.zero_le _,rfl,fun j _ hj=>absurd hj (by omega)⟩
   case round =>
    obtain⟨m,hm,rfl,hr⟩:=hrel
    by_cases hlt2:m < k + 1
    ·have hx:IRow w1 B _ n.kids:=H3.out.keptF K1.out
     have hm1:m < n.kids.length:=by have:=HE.out.2.2.2;omega
     obtain⟨gi,ci',ei⟩:=own_form hx (by omega)
     injection ei with e1 e1' e1''
     subst e1
     clear e1' e1''
     have q1:w1.cell? ⟨gi,m,none⟩=some (.int .i64 (n.kids[m]:Nat)):=hx.atI hm1
     clear hx
     obtain⟨x,hxx⟩:∃x,x=n.kids[m]:=⟨_,rfl⟩
     rw[←hxx] at q1
     have HX:=Lib.hid hxx
     clear hxx
     have hx0:¬((x:Int) < 0):=by omega
     by_cases hb:x < 128
     ·have hr':Hid (∀j (h:j < n.kids.length),j < m + 1→n.kids[j] < 128):=fun j h hj=>by
       by_cases hjm:j < m
       ·exact hr.out j h hjm
       ·obtain rfl:j=m:=by omega
        rw[←HX.out];exact hb
      have hb2:(x:Int) < 128:=by omega
      have hb5:¬((128:Int)≤(x:Int)):=by omega
      have hb6:¬(128≤x):=by omega
      clear hr
      go_wp2
      go_round
      case rel=>exact⟨m + 1,by omega,by go_num,hr'⟩
      case measure=>simp[RowKit.intOf];omega
     ·have HB:Hid (¬n.Ok):=fun h=>hb (by rw[HX.out];exact h.kid _ (List.getElem_mem _))
      have hb5:((128:Int)≤(x:Int)):=by omega
      have hb6:128≤x:=by omega
      go_wp2
      go_ret
      exact HBad.out 4 (by decide) HB.out
    ·have HOk:Hid n.Ok:=ok_of HO.out HF.out HKk.out (fun i hi=>by
      obtain⟨j,hj,rfl⟩:=List.mem_iff_getElem.1 hi
      exact hr.out j hj (by have:=HE.out.2.2.2;omega))
     obtain rfl:m=k + 1:=by omega
     clear hr
     go_wp2
     go_ret
     exact HGood.out HOk.out
theorem NdCheck_calls {w B v n} (h:IsNd w B v n) (hs:n.Sm):Calls Tryz.prog 137 #[v] w (CheckTo n w):=by
 cases ho:n.over
 ·cases hf:n.form
  ·exact Check_form h hs ho hf
  ·cases hl:n.leaf
   ·exact Check_inner h hs ho hf hl
   ·exact Check_leaf h hs ho hf hl
 ·exact Check_over h ho
end Go.Proofs.YtfgjehecjgebdaaGreat
