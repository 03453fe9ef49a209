/- Entries that begin with a text: the cursor's Under, the reference's; same. -/
import Derived.Test.YtfgjehecjgebdaaGreatMg52
namespace Go.Proofs.YtfgjehecjgebdaaGreat
open Go.RowKit Go.Maps Go.ChangeMaps
set_option maxHeartbeats 4000000
set_option maxRecDepth 100000
attribute [local go_sem] Oper.semAt_some
def undE (E:List KV) (p:Bs):List KV:=E.filter fun e=>decide (p <+: e.1)
theorem und_eq {E:List KV} (hu:UpE E) (p:Bs):upto (abv p) (fromE E p)=undE E p:=by
 rw[rg_eq hu]
 unfold undE
 apply List.filter_congr
 intro x _
 unfold inRg
 have h:=abv_beg p x.1
 by_cases h1:x.1 < p<;>by_cases h2:(abv p = []∨x.1 < abv p)<;>simp_all
theorem CurUnder_calls {w q X root E} (tw:TW w q X root) (ti:TI X root E) (hl:E.length≤1000) (p:Bs) (hp:p.length≤10000) (most:Int):Calls Tryz.prog 53 #[.pointer (some ⟨q.t,0,none⟩),.string (ba p),.int .i64 most] w (RangeTo ((undE E p).take most.toNat) w):=by
 have CA:=Lib.hid (fun w=>Above_calls p hp w)
 have CR:=Lib.hid fun w' (k:Kept (fun _=>False) w w')=>CurRange_calls (tw.keptF k) ti hl p (abv p) most
 rw[und_eq ti.up] at CR
 obtain⟨ps,hps⟩:∃s,s=ba p:=⟨_,rfl⟩
 obtain⟨xs,hxs⟩:∃s,s=ba (abv p):=⟨_,rfl⟩
 obtain⟨R,hR⟩:∃R,R=(undE E p).take most.toNat:=⟨_,rfl⟩
 rw[←hps, ←hxs] at CA CR
 rw[←hR] at CR⊢
 rw[←hps]
 clear tw ti hl hp hps hxs hR
 go_enter Tryz.func53,Tryz.ntmps53
 go_wp2_with fail
 refine(CA.out _).mono ?_
 rintro e w1 ⟨rfl,k1⟩
 have K1:=Lib.hid k1
 clear k1 CA
 go_wp2_with fail
 refine(CR.out _ K1.out).mono ?_
 rintro e w2 ⟨v2,rfl,r2,k2⟩
 have R2:=Lib.hid r2;have K2:=Lib.hid k2
 clear r2 k2 CR
 go_wp2
 refine bodyPost_ret (v:=.tuple #[v2,.int .i64 0]) (by simp[results,Tryz.f53,go_sem]) rfl ?_
 exact⟨_,rfl,R2.out.base K1.out.size,K1.out.trans K2.out⟩
theorem undE_snoc (P:List KV) (x:KV) (p:Bs):undE (P ++ [x]) p=if p <+: x.1 then undE P p ++ [x] else undE P p:=by
 unfold undE
 rw[List.filter_append,List.filter_cons,List.filter_nil]
 by_cases h:p <+: x.1
 ·rw[if_pos (by simpa using h),if_pos h]
 ·rw[if_neg (by simpa using h),if_neg h,List.append_nil]
theorem refUnder_calls {w s E} (h:EnS w s E) (hl:E.length≤1000) (p:Bs) (hp:p.length≤10000) (hk:∀e∈E,e.1.length≤10000):Calls Tryz.prog 54 #[s,.string (ba p)] w (RefTo (undE E p) w):=by
 have H:=Lib.hid h
 obtain⟨A,c,rfl⟩:=h.slice
 obtain⟨n,hn⟩:∃n,n=E.length:=⟨_,rfl⟩
 have HN:=Lib.hid hn
 have hn1:n≤1000:=by omega
 have CG:=Lib.hid (fun(k:Bs) (hk:k.length≤10000) w=>Begins_calls k p (by omega) (by omega) w)
 have HKL:=Lib.hid hk
 obtain⟨ps,hps⟩:∃s,s=ba p:=⟨_,rfl⟩
 rw[←hps] at CG
 rw[←hn] at H⊢
 rw[←hps]
 clear hn hps h hl hp hk
 go_enter Tryz.func54,Tryz.ntmps54
 go_wp2_with fail
 obtain⟨B,hB⟩:∃n,n=w.heap.size:=⟨_,rfl⟩
 have HB:=Lib.hid hB
 have E0:Hid (ERow (w.alloc (.cells #[] 75)) B (.slice (some ⟨B,0,none⟩) 0 0) []):=by show ERow _ _ _ _;rw[hB];exact ERow.empty _ rfl
 obtain⟨w1,hw1⟩:∃w1,w1=w.alloc (.cells #[] 75):=⟨_,rfl⟩
 have K1:Hid (Kept (fun _=>False) w w1):=by rw[hw1];exact(Kept.refl _ _).alloc _
 rw[←hw1] at E0
 rw[←hw1, ←hB]
 clear hw1 hB
 go_loopw [5,11] (fun o i wr=>∃(j:Nat) (O:List KV) (Ao:Option Addr) (lo co:Nat),j≤n∧i = .int .i64 j∧o = .slice Ao lo co∧Hid (lo=O.length∧lo≤j)∧Hid (ERow wr B (.slice Ao lo co) O)∧Hid (Kept (fun _=>False) w wr)∧Hid (O=undE (E.take j) p)) (fun _ i _=>n - (RowKit.intOf i).toNat)
 case atStart=>exact⟨0, [],_,0,0,Nat.zero_le _,rfl,rfl,⟨rfl,Nat.zero_le _⟩,E0.out,K1.out,rfl⟩
 case round =>
  obtain⟨j,O,Ao,lo,co,hj,rfl,rfl,HL,ER,KW,PG⟩:=hrel
  have HBw:Hid (B≤wr.heap.size):=by have:=HB.out;have:=KW.out.size;show _≤_;omega
  by_cases hlt:j < n
  ·have hjE:j < E.length:=by have:=HN.out;omega
   obtain⟨b,off,c',e,hb,q1,q2⟩:=(H.out.keptF KW.out).at hjE
   injection e with e1 e2 e3
   subst e1
   clear e2 e3
   obtain⟨⟨ek,ev⟩,he⟩:∃x,x=E[j]:=⟨_,rfl⟩
   have HTK:Hid (E.take (j + 1)=E.take j ++ [(ek,ev)]):=by show _=_;rw[he];exact List.take_succ_eq_append_getElem hjE
   have CG2:=Lib.hid (CG.out ek (by have:=HKL.out _ (List.getElem_mem hjE);rw[←he] at this;exact this))
   rw[←he] at q1 q2
   dsimp only[Ss] at q1 q2
   obtain⟨kx,hkx⟩:∃x,x=ba ek:=⟨_,rfl⟩
   obtain⟨vx,hvx⟩:∃x,x=ba ev:=⟨_,rfl⟩
   rw[←hkx] at q1 CG2
   rw[←hvx] at q2
   have HKX:=Lib.hid hkx;have HVX:=Lib.hid hvx
   have HPN:Hid (undE (E.take (j + 1)) p=if p <+: ek then O ++ [(ek,ev)] else O):=by show _=_;rw[HTK.out,undE_snoc, ←PG.out]
   clear he hkx hvx hjE
   by_cases hg:p <+: ek
   ·rw[if_pos hg] at HPN
    rw[show decide (p <+: ek)=true by simpa using hg] at CG2
    clear hg
    obtain⟨W1,hW1⟩:∃W1,W1=wr.alloc (.cells #[.string kx,.string vx] 75):=⟨_,rfl⟩
    have HW1:=Lib.hid hW1
    have KW1:Hid (Kept (fun _=>False) wr W1):=by rw[hW1];exact(Kept.refl _ _).alloc _
    have HLn:Hid (O.length + 1≤100000):=by have:=HL.out;show _≤_;omega
    have RX:=Lib.hid (reads_kvn (w:=W1) (n:=wr.heap.size + 1) (by rw[HW1.out];simp) HKX.out HVX.out 75)
    have OX:=Lib.hid ((ER.out.keptF KW1.out).keptF ((Kept.refl _ W1).alloc (.cells #[.string kx,.string vx] 75)))
    have KX:=Lib.hid (KW1.out.alloc (.cells #[.string kx,.string vx] 75))
    rw[HW1.out] at RX OX KX
    have DONE:Hid (∀(w3:World),Kept (fun g=>(Value.slice Ao lo co).ownBlock=some g) wr w3→Kept (fun _=>False) w w3):=fun w3 kk=>KW.out.then kk fun i hi e=>by have:=own_ge ER.out e;have:=HB.out;omega
    clear HW1 hW1
    go_wp2_with fail
    refine(CG2.out _).mono ?_
    rintro e w2 ⟨rfl,rfl⟩
    go_wp2_with (at_builtin;(refine app_ent (E:=O) (E' := [(ek,ev)]) rfl (.tmp 19) (.tmp 21) rfl (v:=.slice Ao lo co) rfl OX.out _ rfl RX.out HLn.out ?_;intro v' w3 hv' hg' hob;obtain⟨A3,c3,l3,rfl,L3,E3,K3,G3⟩:=ent_step ER.out KX.out HBw.out hv' hg' hob;clear hv' hg' hob))
    go_roundw
    case rel=>exact⟨j + 1,O ++ [(ek,ev)],A3,l3,c3,by omega,by go_num,rfl,⟨L3.out,by have:=L3.out;have:=HL.out;simp at *;omega⟩,E3.out,DONE.out _ K3.out,HPN.out.symm⟩
    case measure=>simp[RowKit.intOf];omega
   ·rw[if_neg hg] at HPN
    rw[show decide (p <+: ek)=false by simpa using hg] at CG2
    clear hg
    go_wp2_with fail
    refine(CG2.out _).mono ?_
    rintro e w2 ⟨rfl,rfl⟩
    go_wp2_with fail
    go_roundw
    case rel=>exact⟨j + 1,O,Ao,lo,co,by omega,by go_num,rfl,⟨HL.out.1,by have:=HL.out;omega⟩,ER.out.keptF ((Kept.refl _ _).alloc _),KW.out.alloc _,HPN.out.symm⟩
    case measure=>simp[RowKit.intOf];omega
  ·obtain rfl:j=n:=by omega
   have hO:Hid (O=undE E p):=by show _=_;rw[PG.out,HN.out,List.take_length]
   go_wp2_with fail
   refine bodyPost_ret (v:=.slice Ao lo co) (by simp[results,Tryz.f54,go_sem]) rfl ?_
   exact⟨_,rfl,by rw[←hO.out, ←HB.out];exact ER.out,KW.out⟩
theorem same_calls {w l x E} (h1:EnS w l E) (h2:EnS w x E) (hl:E.length≤1000):Calls Tryz.prog 55 #[l,x] w fun e w'=>e = .returned (.bool true)∧Kept (fun _=>False) w w':=by
 have H1:=Lib.hid h1;have H2:=Lib.hid h2
 obtain⟨A,c,rfl⟩:=h1.slice
 obtain⟨A2,c2,rfl⟩:=h2.slice
 obtain⟨n,hn⟩:∃n,n=E.length:=⟨_,rfl⟩
 have HN:=Lib.hid hn
 have hn1:n≤1000:=by omega
 rw[←hn] at H1 H2⊢
 clear hn h1 h2 hl
 go_enter Tryz.func55,Tryz.ntmps55
 go_wp2_with fail
 go_loopw [13] (fun i wr=>∃m:Nat,m≤n∧i = .int .i64 m∧Hid (Kept (fun _=>False) w wr)) (fun i _=>n - (RowKit.intOf i).toNat)
 case atStart=>exact⟨0,Nat.zero_le _,rfl,Kept.refl _ _⟩
 case round =>
  obtain⟨m,hm,rfl,KW⟩:=hrel
  by_cases hlt:m < n
  ·have hjE:m < E.length:=by have:=HN.out;omega
   obtain⟨b1,o1,c',e,hb1,p1,p2⟩:=(H1.out.keptF KW.out).at hjE
   injection e with e1 e2 e3
   subst e1
   clear e2 e3
   obtain⟨b2,o2,c',e,hb2,p3,p4⟩:=(H2.out.keptF KW.out).at hjE
   injection e with e1 e2 e3
   subst e1
   clear e2 e3
   dsimp only[Ss] at p1 p2 p3 p4
   obtain⟨kx,hkx⟩:∃x,x=ba E[m].1:=⟨_,rfl⟩
   obtain⟨vx,hvx⟩:∃x,x=ba E[m].2:=⟨_,rfl⟩
   rw[←hkx] at p1 p3
   rw[←hvx] at p2 p4
   clear hkx hvx
   go_wp2_with fail
   go_quiet (fail)
   go_wp2
   go_roundw
   case rel=>exact⟨m + 1,by omega,by go_num,KW.out.drewN _⟩
   case measure=>simp[RowKit.intOf];omega
  ·obtain rfl:m=n:=by omega
   go_wp2
   go_ret
   exact⟨rfl,KW.out⟩
end Go.Proofs.YtfgjehecjgebdaaGreat
