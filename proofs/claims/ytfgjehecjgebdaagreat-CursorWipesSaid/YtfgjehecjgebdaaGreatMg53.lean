/- The reference's Begins; CursorAbove's walk. -/
import Derived.Test.YtfgjehecjgebdaaGreatMg52
import Derived.Test.YtfgjehecjgebdaaGreatMg50
namespace Go.Proofs.YtfgjehecjgebdaaGreat
open Go.RowKit Go.Maps Go.ChangeMaps
set_option maxHeartbeats 4000000
set_option maxRecDepth 100000
attribute [local go_sem] Oper.semAt_some
theorem Begins_calls (k p:Bs) (hk:k.length≤100000) (hp:p.length≤100000) (w:World):Calls Tryz.prog 51 #[.string (ba k),.string (ba p)] w fun e w'=>e = .returned (.bool (decide (p <+: k)))∧w=w':=by
 obtain⟨ks,hks⟩:∃s,s=ba k:=⟨_,rfl⟩
 obtain⟨ps,hps⟩:∃s,s=ba p:=⟨_,rfl⟩
 obtain⟨nk,hnk⟩:∃n,n=k.length:=⟨_,rfl⟩
 obtain⟨np,hnp⟩:∃n,n=p.length:=⟨_,rfl⟩
 have z1:ks.size=nk:=by rw[hks,ba_size,hnk]
 have z2:ps.size=np:=by rw[hps,ba_size,hnp]
 have HX:Hid (((ks.extract 0 np).toList == ps.toList)=decide (p <+: k)):=by
  show _=_
  rw[hks,hps,ba_extract0,bs_eq,hnp]
  exact decide_eq_decide.2 ⟨fun h=>List.prefix_iff_eq_take.2 h.symm,fun h=>(List.prefix_iff_eq_take.1 h).symm⟩
 have HL:Hid (nk < np → ¬p <+: k):=fun h h'=>by have:=h'.length_le;omega
 rw[←hks, ←hps]
 obtain⟨b,hb⟩:∃b,b=decide (p <+: k):=⟨_,rfl⟩
 rw[←hb] at HX⊢
 have HB:=Lib.hid hb
 have hk1:nk≤100000:=by omega
 have hp1:np≤100000:=by omega
 clear hks hps hnk hnp hb hk hp
 by_cases hle:np≤nk
 ·have g1:=HX.out
  go_enter Tryz.func51,Tryz.ntmps51
  go_wp2
  refine bodyPost_ret (v:=.bool b) (by simp[results,Tryz.f51,go_sem]) rfl ?_
  exact⟨rfl,rfl⟩
 ·have hbf:b=false:=by rw[HB.out];simpa using HL.out (by omega)
  subst hbf
  go_enter Tryz.func51,Tryz.ntmps51
  go_wp2
  refine bodyPost_ret (v:=.bool false) (by simp[results,Tryz.f51,go_sem]) rfl ?_
  exact⟨rfl,rfl⟩
end Go.Proofs.YtfgjehecjgebdaaGreat
/- The reference's Range and Under. -/
namespace Go.Proofs.YtfgjehecjgebdaaGreat
open Go.RowKit Go.Maps Go.ChangeMaps
set_option maxHeartbeats 4000000
set_option maxRecDepth 100000
attribute [local go_sem] Oper.semAt_some
def inRg (k tb:Bs) (e:KV):Bool := !decide (e.1 < k) && decide (tb = []∨e.1 < tb)
theorem takeWhile_filter {L:List KV} (hu:UpE L) (tb:Bs):upto tb L=L.filter fun e=>decide (tb = []∨e.1 < tb):=by
 unfold upto
 induction L with
 | nil=>rfl
 | cons a t ih =>
  obtain⟨h1,h2⟩:=List.pairwise_cons.1 hu
  rw[List.takeWhile_cons,List.filter_cons]
  by_cases h:tb = []∨a.1 < tb
  ·rw[if_pos (by simpa using h),if_pos (by simpa using h),ih h2]
  ·rw[if_neg (by simpa using h),if_neg (by simpa using h)]
   refine(filt_none fun e he=>?_).symm
   have h3:=h1 e he
   simp only[not_or] at h
   simpa using ⟨h.1,fun h4=>h.2 (List.lt_trans h3 h4)⟩
theorem rg_eq {E:List KV} (hu:UpE E) (k tb:Bs):upto tb (fromE E k)=E.filter (inRg k tb):=by
 rw[takeWhile_filter (show UpE (fromE E k) from hu.filter _)]
 unfold fromE inRg
 rw[List.filter_filter]
 apply List.filter_congr
 intro x _
 exact Bool.and_comm _ _
end Go.Proofs.YtfgjehecjgebdaaGreat
/- Entries that begin with a text: the cursor's Under, the reference's; same. -/
namespace Go.Proofs.YtfgjehecjgebdaaGreat
open Go.RowKit Go.Maps Go.ChangeMaps
set_option maxHeartbeats 4000000
set_option maxRecDepth 100000
attribute [local go_sem] Oper.semAt_some
def undE (E:List KV) (p:Bs):List KV:=E.filter fun e=>decide (p <+: e.1)
theorem und_eq {E:List KV} (hu:UpE E) (p:Bs):upto (abv p) (fromE E p)=undE E p:=by
 rw[rg_eq hu]
 unfold undE
 apply List.filter_congr
 intro x _
 unfold inRg
 have h:=abv_beg p x.1
 by_cases h1:x.1 < p<;>by_cases h2:(abv p = []∨x.1 < abv p)<;>simp_all
theorem CurUnder_calls {w q X root E} (tw:TW w q X root) (ti:TI X root E) (hl:E.length≤1000) (p:Bs) (hp:p.length≤10000) (most:Int):Calls Tryz.prog 53 #[.pointer (some ⟨q.t,0,none⟩),.string (ba p),.int .i64 most] w (RangeTo ((undE E p).take most.toNat) w):=by
 have CA:=Lib.hid (fun w=>Above_calls p hp w)
 have CR:=Lib.hid fun w' (k:Kept (fun _=>False) w w')=>CurRange_calls (tw.keptF k) ti hl p (abv p) most
 rw[und_eq ti.up] at CR
 obtain⟨ps,hps⟩:∃s,s=ba p:=⟨_,rfl⟩
 obtain⟨xs,hxs⟩:∃s,s=ba (abv p):=⟨_,rfl⟩
 obtain⟨R,hR⟩:∃R,R=(undE E p).take most.toNat:=⟨_,rfl⟩
 rw[←hps, ←hxs] at CA CR
 rw[←hR] at CR⊢
 rw[←hps]
 clear tw ti hl hp hps hxs hR
 go_enter Tryz.func53,Tryz.ntmps53
 go_wp2_with fail
 refine(CA.out _).mono ?_
 rintro e w1 ⟨rfl,k1⟩
 have K1:=Lib.hid k1
 clear k1 CA
 go_wp2_with fail
 refine(CR.out _ K1.out).mono ?_
 rintro e w2 ⟨v2,rfl,r2,k2⟩
 have R2:=Lib.hid r2;have K2:=Lib.hid k2
 clear r2 k2 CR
 go_wp2
 refine bodyPost_ret (v:=.tuple #[v2,.int .i64 0]) (by simp[results,Tryz.f53,go_sem]) rfl ?_
 exact⟨_,rfl,R2.out.base K1.out.size,K1.out.trans K2.out⟩
theorem undE_snoc (P:List KV) (x:KV) (p:Bs):undE (P ++ [x]) p=if p <+: x.1 then undE P p ++ [x] else undE P p:=by
 unfold undE
 rw[List.filter_append,List.filter_cons,List.filter_nil]
 by_cases h:p <+: x.1
 ·rw[if_pos (by simpa using h),if_pos h]
 ·rw[if_neg (by simpa using h),if_neg h,List.append_nil]
theorem refUnder_calls {w s E} (h:EnS w s E) (hl:E.length≤1000) (p:Bs) (hp:p.length≤10000) (hk:∀e∈E,e.1.length≤10000):Calls Tryz.prog 54 #[s,.string (ba p)] w (RefTo (undE E p) w):=by
 have H:=Lib.hid h
 obtain⟨A,c,rfl⟩:=h.slice
 obtain⟨n,hn⟩:∃n,n=E.length:=⟨_,rfl⟩
 have HN:=Lib.hid hn
 have hn1:n≤1000:=by omega
 have CG:=Lib.hid (fun(k:Bs) (hk:k.length≤10000) w=>Begins_calls k p (by omega) (by omega) w)
 have HKL:=Lib.hid hk
 obtain⟨ps,hps⟩:∃s,s=ba p:=⟨_,rfl⟩
 rw[←hps] at CG
 rw[←hn] at H⊢
 rw[←hps]
 clear hn hps h hl hp hk
 go_enter Tryz.func54,Tryz.ntmps54
 go_wp2_with fail
 obtain⟨B,hB⟩:∃n,n=w.heap.size:=⟨_,rfl⟩
 have HB:=Lib.hid hB
 have E0:Hid (ERow (w.alloc (.cells #[] 75)) B (.slice (some ⟨B,0,none⟩) 0 0) []):=by show ERow _ _ _ _;rw[hB];exact ERow.empty _ rfl
 obtain⟨w1,hw1⟩:∃w1,w1=w.alloc (.cells #[] 75):=⟨_,rfl⟩
 have K1:Hid (Kept (fun _=>False) w w1):=by rw[hw1];exact(Kept.refl _ _).alloc _
 rw[←hw1] at E0
 rw[←hw1, ←hB]
 clear hw1 hB
 go_loopw [5,11] (fun o i wr=>∃(j:Nat) (O:List KV) (Ao:Option Addr) (lo co:Nat),j≤n∧i = .int .i64 j∧o = .slice Ao lo co∧Hid (lo=O.length∧lo≤j)∧Hid (ERow wr B (.slice Ao lo co) O)∧Hid (Kept (fun _=>False) w wr)∧Hid (O=undE (E.take j) p)) (fun _ i _=>n - (RowKit.intOf i).toNat)
 case atStart=>exact⟨0, [],_,0,0,Nat.zero_le _,rfl,rfl,⟨rfl,Nat.zero_le _⟩,E0.out,K1.out,rfl⟩
 case round =>
  obtain⟨j,O,Ao,lo,co,hj,rfl,rfl,HL,ER,KW,PG⟩:=hrel
  have HBw:Hid (B≤wr.heap.size):=by have:=HB.out;have:=KW.out.size;show _≤_;omega
  by_cases hlt:j < n
  ·have hjE:j < E.length:=by have:=HN.out;omega
   obtain⟨b,off,c',e,hb,q1,q2⟩:=(H.out.keptF KW.out).at hjE
   injection e with e1 e2 e3
   subst e1
   clear e2 e3
   obtain⟨⟨ek,ev⟩,he⟩:∃x,x=E[j]:=⟨_,rfl⟩
   have HTK:Hid (E.take (j + 1)=E.take j ++ [(ek,ev)]):=by show _=_;rw[he];exact List.take_succ_eq_append_getElem hjE
   have CG2:=Lib.hid (CG.out ek (by have:=HKL.out _ (List.getElem_mem hjE);rw[←he] at this;exact this))
   rw[←he] at q1 q2
   dsimp only[Ss] at q1 q2
   obtain⟨kx,hkx⟩:∃x,x=ba ek:=⟨_,rfl⟩
   obtain⟨vx,hvx⟩:∃x,x=ba ev:=⟨_,rfl⟩
   rw[←hkx] at q1 CG2
   rw[←hvx] at q2
   have HKX:=Lib.hid hkx;have HVX:=Lib.hid hvx
   have HPN:Hid (undE (E.take (j + 1)) p=if p <+: ek then O ++ [(ek,ev)] else O):=by show _=_;rw[HTK.out,undE_snoc, ←PG.out]
   clear he hkx hvx hjE
   by_cases hg:p <+: ek
   ·rw[if_pos hg] at HPN
    rw[show decide (p <+: ek)=true by simpa using hg] at CG2
    clear hg
    obtain⟨W1,hW1⟩:∃W1,W1=wr.alloc (.cells #[.string kx,.string vx] 75):=⟨_,rfl⟩
    have HW1:=Lib.hid hW1
    have KW1:Hid (Kept (fun _=>False) wr W1):=by rw[hW1];exact(Kept.refl _ _).alloc _
    have HLn:Hid (O.length + 1≤100000):=by have:=HL.out;show _≤_;omega
    have RX:=Lib.hid (reads_kvn (w:=W1) (n:=wr.heap.size + 1) (by rw[HW1.out];simp) HKX.out HVX.out 75)
    have OX:=Lib.hid ((ER.out.keptF KW1.out).keptF ((Kept.refl _ W1).alloc (.cells #[.string kx,.string vx] 75)))
    have KX:=Lib.hid (KW1.out.alloc (.cells #[.string kx,.string vx] 75))
    rw[HW1.out] at RX OX KX
    have DONE:Hid (∀(w3:World),Kept (fun g=>(Value.slice Ao lo co).ownBlock=some g) wr w3→Kept (fun _=>False) w w3):=fun w3 kk=>KW.out.then kk fun i hi e=>by have:=own_ge ER.out e;have:=HB.out;omega
    clear HW1 hW1
    go_wp2_with fail
    refine(CG2.out _).mono ?_
    rintro e w2 ⟨rfl,rfl⟩
    go_wp2_with (at_builtin;(refine app_ent (E:=O) (E' := [(ek,ev)]) rfl (.tmp 19) (.tmp 21) rfl (v:=.slice Ao lo co) rfl OX.out _ rfl RX.out HLn.out ?_;intro v' w3 hv' hg' hob;obtain⟨A3,c3,l3,rfl,L3,E3,K3,G3⟩:=ent_step ER.out KX.out HBw.out hv' hg' hob;clear hv' hg' hob))
    go_roundw
    case rel=>exact⟨j + 1,O ++ [(ek,ev)],A3,l3,c3,by omega,by go_num,rfl,⟨L3.out,by have:=L3.out;have:=HL.out;simp at *;omega⟩,E3.out,DONE.out _ K3.out,HPN.out.symm⟩
    case measure=>simp[RowKit.intOf];omega
   ·rw[if_neg hg] at HPN
    rw[show decide (p <+: ek)=false by simpa using hg] at CG2
    clear hg
    go_wp2_with fail
    refine(CG2.out _).mono ?_
    rintro e w2 ⟨rfl,rfl⟩
    go_wp2_with fail
    go_roundw
    case rel=>exact⟨j + 1,O,Ao,lo,co,by omega,by go_num,rfl,⟨HL.out.1,by have:=HL.out;omega⟩,ER.out.keptF ((Kept.refl _ _).alloc _),KW.out.alloc _,HPN.out.symm⟩
    case measure=>simp[RowKit.intOf];omega
  ·obtain rfl:j=n:=by omega
   have hO:Hid (O=undE E p):=by show _=_;rw[PG.out,HN.out,List.take_length]
   go_wp2_with fail
   refine bodyPost_ret (v:=.slice Ao lo co) (by simp[results,Tryz.f54,go_sem]) rfl ?_
   exact⟨_,rfl,by rw[←hO.out, ←HB.out];exact ER.out,KW.out⟩
end Go.Proofs.YtfgjehecjgebdaaGreat
/- CursorRange's walk. -/
namespace Go.Proofs.YtfgjehecjgebdaaGreat
open Go.RowKit Go.Maps Go.ChangeMaps
set_option maxRecDepth 100000
attribute [local go_sem] Oper.semAt_some
theorem buildE_keys (K:Nat→Int) (S V:Nat→ByteArray):∀n, ∀e∈buildE K S V n,e.1.length≤24
 | 0,e,h=>by simp[buildE] at h
 | n + 1,e,h=>by
  unfold buildE at h
  split at h
  ·exact buildE_keys K S V n e ((List.mem_filter.1 h).1)
  ·rcases mem_insE h with rfl|h
   ·exact cutB_len _ _
   ·exact buildE_keys K S V n e h.1
end Go.Proofs.YtfgjehecjgebdaaGreat
