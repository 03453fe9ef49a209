/- The reference's Range and Under. -/
import Derived.Test.YtfgjehecjgebdaaGreatMg51
namespace Go.Proofs.YtfgjehecjgebdaaGreat
open Go.RowKit Go.Maps Go.ChangeMaps
set_option maxHeartbeats 4000000
set_option maxRecDepth 100000
attribute [local go_sem] Oper.semAt_some
def inRg (k tb:Bs) (e:KV):Bool := !decide (e.1 < k) && decide (tb = []∨e.1 < tb)
theorem takeWhile_filter {L:List KV} (hu:UpE L) (tb:Bs):upto tb L=L.filter fun e=>decide (tb = []∨e.1 < tb):=by
 unfold upto
 induction L with
 | nil=>rfl
 | cons a t ih =>
  obtain⟨h1,h2⟩:=List.pairwise_cons.1 hu
  rw[List.takeWhile_cons,List.filter_cons]
  by_cases h:tb = []∨a.1 < tb
  ·rw[if_pos (by simpa using h),if_pos (by simpa using h),ih h2]
  ·rw[if_neg (by simpa using h),if_neg (by simpa using h)]
   refine(filt_none fun e he=>?_).symm
   have h3:=h1 e he
   simp only[not_or] at h
   simpa using ⟨h.1,fun h4=>h.2 (List.lt_trans h3 h4)⟩
theorem rg_eq {E:List KV} (hu:UpE E) (k tb:Bs):upto tb (fromE E k)=E.filter (inRg k tb):=by
 rw[takeWhile_filter (show UpE (fromE E k) from hu.filter _)]
 unfold fromE inRg
 rw[List.filter_filter]
 apply List.filter_congr
 intro x _
 exact Bool.and_comm _ _
theorem take_filter_snoc (P:List KV) (x:KV) (f:KV→Bool) (n:Nat):((P ++ [x]).filter f).take n=if f x=true∧(P.filter f).length < n then (P.filter f).take n ++ [x] else (P.filter f).take n:=by
 rw[List.filter_append,List.filter_cons,List.filter_nil]
 by_cases h:f x=true
 ·rw[if_pos h]
  by_cases h2:(P.filter f).length < n
  ·rw[if_pos ⟨h,h2⟩,List.take_of_length_le (by simp;omega),List.take_of_length_le (by omega)]
  ·rw[if_neg (fun h'=>h2 h'.2),List.take_append_of_le_length (by omega)]
 ·rw[if_neg h,if_neg (fun h'=>h h'.1),List.append_nil]
set_option maxHeartbeats 4000000 in
theorem refRange_calls {w s E} (h:EnS w s E) (hl:E.length≤1000) (k tb:Bs) (most:Int):Calls Tryz.prog 48 #[s,.string (ba k),.string (ba tb),.int .i64 most] w (RefTo ((E.filter (inRg k tb)).take most.toNat) w):=by
 have H:=Lib.hid h
 obtain⟨A,c,rfl⟩:=h.slice
 obtain⟨n,hn⟩:∃n,n=E.length:=⟨_,rfl⟩
 have HN:=Lib.hid hn
 have hn1:n≤1000:=by omega
 obtain⟨ks,hks⟩:∃s,s=ba k:=⟨_,rfl⟩
 obtain⟨ts,hts⟩:∃s,s=ba tb:=⟨_,rfl⟩
 have HK:=Lib.hid hks;have HT:=Lib.hid hts
 have HTL:Hid (ts.toList = []↔tb = []):=by show _↔_;rw[hts,ba_empty]
 rw[←hn] at H⊢
 rw[←hks, ←hts]
 clear hn hks hts h hl
 go_enter Tryz.func48,Tryz.ntmps48
 go_wp2_with fail
 obtain⟨B,hB⟩:∃n,n=w.heap.size:=⟨_,rfl⟩
 have HB:=Lib.hid hB
 have E0:Hid (ERow (w.alloc (.cells #[] 75)) B (.slice (some ⟨B,0,none⟩) 0 0) []):=by show ERow _ _ _ _;rw[hB];exact ERow.empty _ rfl
 obtain⟨w1,hw1⟩:∃w1,w1=w.alloc (.cells #[] 75):=⟨_,rfl⟩
 have K1:Hid (Kept (fun _=>False) w w1):=by rw[hw1];exact(Kept.refl _ _).alloc _
 rw[←hw1] at E0
 rw[←hw1, ←hB]
 clear hw1 hB
 go_loopw [9,15] (fun o i wr=>∃(j:Nat) (O:List KV) (Ao:Option Addr) (lo co:Nat),j≤n∧i = .int .i64 j∧o = .slice Ao lo co∧Hid (lo=O.length∧lo≤j)∧Hid (ERow wr B (.slice Ao lo co) O)∧Hid (Kept (fun _=>False) w wr)∧Hid (O=((E.take j).filter (inRg k tb)).take most.toNat)) (fun _ i _=>n - (RowKit.intOf i).toNat)
 case atStart=>exact⟨0, [],_,0,0,Nat.zero_le _,rfl,rfl,⟨rfl,Nat.zero_le _⟩,E0.out,K1.out,by show _=_;simp⟩
 case round =>
  obtain⟨j,O,Ao,lo,co,hj,rfl,rfl,HL,ER,KW,PG⟩:=hrel
  have HBw:Hid (B≤wr.heap.size):=by have:=HB.out;have:=KW.out.size;show _≤_;omega
  by_cases hlt:j < n
  ·have hjE:j < E.length:=by have:=HN.out;omega
   obtain⟨b,off,c',e,hb,q1,q2⟩:=(H.out.keptF KW.out).at hjE
   injection e with e1 e2 e3
   subst e1
   clear e2 e3
   obtain⟨⟨ek,ev⟩,he⟩:∃x,x=E[j]:=⟨_,rfl⟩
   have HTK:Hid (E.take (j + 1)=E.take j ++ [(ek,ev)]):=by show _=_;rw[he];exact List.take_succ_eq_append_getElem hjE
   rw[←he] at q1 q2
   dsimp only[Ss] at q1 q2
   obtain⟨kx,hkx⟩:∃x,x=ba ek:=⟨_,rfl⟩
   obtain⟨vx,hvx⟩:∃x,x=ba ev:=⟨_,rfl⟩
   rw[←hkx] at q1
   rw[←hvx] at q2
   have HKX:=Lib.hid hkx;have HVX:=Lib.hid hvx
   have L1:Hid (Op.bytesLess kx.toList ks.toList=decide (ek < k)):=by show _=_;rw[hkx,HK.out];exact bless ek k
   have L2:Hid (Op.bytesLess kx.toList ts.toList=decide (ek < tb)):=by show _=_;rw[hkx,HT.out];exact bless ek tb
   have HPN:Hid (((E.take (j + 1)).filter (inRg k tb)).take most.toNat=if inRg k tb (ek,ev)=true∧(lo:Int) < most then O ++ [(ek,ev)] else O):=by
    show _=_
    rw[HTK.out,take_filter_snoc, ←PG.out]
    have h1:((E.take j).filter (inRg k tb)).length < most.toNat↔(lo:Int) < most:=by
     have h2:=HL.out.1
     have h3:=congrArg List.length PG.out
     rw[List.length_take] at h3
     omega
    simp only[h1]
   have hg:(¬(inRg k tb (ek,ev)=true∧(lo:Int) < most)∧((Op.bytesLess kx.toList ks.toList=true)∨(Op.bytesLess kx.toList ks.toList=false ∧ ¬ts.toList = []∧ts.toList.isEmpty=false∧Op.bytesLess kx.toList ts.toList=false)∨(Op.bytesLess kx.toList ks.toList=false∧ts.toList = []∧ts.toList.isEmpty=true ∧ ¬(lo:Int) < most)∨(Op.bytesLess kx.toList ks.toList=false ∧ ¬ts.toList = []∧ts.toList.isEmpty=false∧Op.bytesLess kx.toList ts.toList=true ∧ ¬(lo:Int) < most))) ∨
     ((inRg k tb (ek,ev)=true∧(lo:Int) < most)∧((Op.bytesLess kx.toList ks.toList=false∧ts.toList = []∧ts.toList.isEmpty=true∧(lo:Int) < most)∨(Op.bytesLess kx.toList ks.toList=false ∧ ¬ts.toList = []∧ts.toList.isEmpty=false∧Op.bytesLess kx.toList ts.toList=true∧(lo:Int) < most))):=by
    have t1:=HTL.out
    rw[L1.out,L2.out]
    unfold inRg
    have t2:ts.toList.isEmpty=decide (tb = []):=by
     by_cases h:tb = []
     ·rw[t1.2 h];simp[h]
     ·have:¬ts.toList = []:=fun e=>h (t1.1 e)
      simp[h,this]
    rw[t2]
    by_cases h1:ek < k<;>by_cases h2:tb = []<;>by_cases h3:ek < tb<;>by_cases h4:(lo:Int) < most<;>simp[h1,h2,h3,h4,t1]
   clear he hkx hvx hjE L1 L2
   rcases hg with⟨hno,hg⟩|⟨hyes,hg⟩
   ·rw[if_neg hno] at HPN
    clear hno
    rcases hg with g1|⟨g1,g2,g3,g4⟩|⟨g1,g2,g3,g4⟩|⟨g1,g2,g3,g4,g5⟩
    all_goals
     go_wp2_with fail
     go_roundw
     case rel=>exact⟨j + 1,O,Ao,lo,co,by omega,by go_num,rfl,⟨HL.out.1,by have:=HL.out;omega⟩,ER.out.keptF ((Kept.refl _ _).alloc _),KW.out.alloc _,HPN.out.symm⟩
     case measure=>simp[RowKit.intOf];omega
   ·rw[if_pos hyes] at HPN
    clear hyes
    obtain⟨W1,hW1⟩:∃W1,W1=wr.alloc (.cells #[.string kx,.string vx] 75):=⟨_,rfl⟩
    have HW1:=Lib.hid hW1
    have KW1:Hid (Kept (fun _=>False) wr W1):=by rw[hW1];exact(Kept.refl _ _).alloc _
    have HLn:Hid (O.length + 1≤100000):=by have:=HL.out;show _≤_;omega
    have RX:=Lib.hid (reads_kvn (w:=W1) (n:=wr.heap.size + 1) (by rw[HW1.out];simp) HKX.out HVX.out 75)
    have OX:=Lib.hid ((ER.out.keptF KW1.out).keptF ((Kept.refl _ W1).alloc (.cells #[.string kx,.string vx] 75)))
    have KX:=Lib.hid (KW1.out.alloc (.cells #[.string kx,.string vx] 75))
    rw[HW1.out] at RX OX KX
    have DONE:Hid (∀(w3:World),Kept (fun g=>(Value.slice Ao lo co).ownBlock=some g) wr w3→Kept (fun _=>False) w w3):=fun w3 kk=>KW.out.then kk fun i hi e=>by have:=own_ge ER.out e;have:=HB.out;omega
    clear HW1 hW1
    rcases hg with⟨g1,g2,g3,g4⟩|⟨g1,g2,g3,g4,g5⟩
    all_goals
     go_wp2_with (at_builtin;(refine app_ent (E:=O) (E' := [(ek,ev)]) rfl (.tmp 39) (.tmp 41) rfl (v:=.slice Ao lo co) rfl OX.out _ rfl RX.out HLn.out ?_;intro v' w3 hv' hg' hob;obtain⟨A3,c3,l3,rfl,L3,E3,K3,G3⟩:=ent_step ER.out KX.out HBw.out hv' hg' hob;clear hv' hg' hob))
     go_roundw
     case rel=>exact⟨j + 1,O ++ [(ek,ev)],A3,l3,c3,by omega,by go_num,rfl,⟨L3.out,by have:=L3.out;have:=HL.out;simp at *;omega⟩,E3.out,DONE.out _ K3.out,HPN.out.symm⟩
     case measure=>simp[RowKit.intOf];omega
  ·obtain rfl:j=n:=by omega
   have hO:Hid (O=(E.filter (inRg k tb)).take most.toNat):=by show _=_;rw[PG.out,HN.out,List.take_length]
   go_wp2_with fail
   refine bodyPost_ret (v:=.slice Ao lo co) (by simp[results,Tryz.f48,go_sem]) rfl ?_
   exact⟨_,rfl,by rw[←hO.out, ←HB.out];exact ER.out,KW.out⟩
end Go.Proofs.YtfgjehecjgebdaaGreat
