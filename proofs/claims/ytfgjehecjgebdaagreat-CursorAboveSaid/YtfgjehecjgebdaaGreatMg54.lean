/- The reference's Begins; CursorAbove's walk. -/
import Derived.Test.YtfgjehecjgebdaaGreatMg53
import Derived.Test.YtfgjehecjgebdaaGreatMg48
namespace Go.Proofs.YtfgjehecjgebdaaGreat
open Go.RowKit Go.Maps Go.ChangeMaps
set_option maxHeartbeats 4000000
set_option maxRecDepth 100000
attribute [local go_sem] Oper.semAt_some
theorem Begins_calls (k p:Bs) (hk:k.length≤100000) (hp:p.length≤100000) (w:World):Calls Tryz.prog 51 #[.string (ba k),.string (ba p)] w fun e w'=>e = .returned (.bool (decide (p <+: k)))∧w=w':=by
 obtain⟨ks,hks⟩:∃s,s=ba k:=⟨_,rfl⟩
 obtain⟨ps,hps⟩:∃s,s=ba p:=⟨_,rfl⟩
 obtain⟨nk,hnk⟩:∃n,n=k.length:=⟨_,rfl⟩
 obtain⟨np,hnp⟩:∃n,n=p.length:=⟨_,rfl⟩
 have z1:ks.size=nk:=by rw[hks,ba_size,hnk]
 have z2:ps.size=np:=by rw[hps,ba_size,hnp]
 have HX:Hid (((ks.extract 0 np).toList == ps.toList)=decide (p <+: k)):=by
  show _=_
  rw[hks,hps,ba_extract0,bs_eq,hnp]
  exact decide_eq_decide.2 ⟨fun h=>List.prefix_iff_eq_take.2 h.symm,fun h=>(List.prefix_iff_eq_take.1 h).symm⟩
 have HL:Hid (nk < np → ¬p <+: k):=fun h h'=>by have:=h'.length_le;omega
 rw[←hks, ←hps]
 obtain⟨b,hb⟩:∃b,b=decide (p <+: k):=⟨_,rfl⟩
 rw[←hb] at HX⊢
 have HB:=Lib.hid hb
 have hk1:nk≤100000:=by omega
 have hp1:np≤100000:=by omega
 clear hks hps hnk hnp hb hk hp
 by_cases hle:np≤nk
 ·have g1:=HX.out
  go_enter Tryz.func51,Tryz.ntmps51
  go_wp2
  refine bodyPost_ret (v:=.bool b) (by simp[results,Tryz.f51,go_sem]) rfl ?_
  exact⟨rfl,rfl⟩
 ·have hbf:b=false:=by rw[HB.out];simpa using HL.out (by omega)
  subst hbf
  go_enter Tryz.func51,Tryz.ntmps51
  go_wp2
  refine bodyPost_ret (v:=.bool false) (by simp[results,Tryz.f51,go_sem]) rfl ?_
  exact⟨rfl,rfl⟩
theorem cursorAbove_walk (s t:ByteArray) (hs:s.size≤maxLen) (ht:t.size≤maxLen) (w:World):Calls Tryz.prog 9 #[.string s,.string t] w fun e w'=>e = .returned (.bool true)∧Kept (fun _=>False) w w':=by
 have C1:=Lib.hid (fun w=>Cut_calls s 10 w hs (by omega))
 have C2:=Lib.hid (fun w=>Cut_calls t 10 w ht (by omega))
 obtain⟨p,hp⟩:∃p,p=cutB s 10:=⟨_,rfl⟩
 obtain⟨m,hm⟩:∃m,m=cutB t 10:=⟨_,rfl⟩
 have hp10:p.length≤10:=by rw[hp];exact cutB_len _ _
 have hm10:m.length≤10:=by rw[hm];exact cutB_len _ _
 rw[cutB_ba, ←hp] at C1
 rw[cutB_ba, ←hm] at C2
 have CA:=Lib.hid (fun w=>Above_calls p (by omega) w)
 have CG:=Lib.hid (fun w=>Begins_calls m p (by omega) (by omega) w)
 obtain⟨ps,hps⟩:∃s,s=ba p:=⟨_,rfl⟩
 obtain⟨ms,hms⟩:∃s,s=ba m:=⟨_,rfl⟩
 obtain⟨xs,has⟩:∃s,s=ba (abv p):=⟨_,rfl⟩
 have z1:ps.size=p.length:=by rw[hps,ba_size]
 have z2:ms.size=m.length:=by rw[hms,ba_size]
 have HPS:=Lib.hid hps
 obtain⟨np,hnp⟩:∃n,n=p.length:=⟨_,rfl⟩
 obtain⟨nm,hnm⟩:∃n,n=m.length:=⟨_,rfl⟩
 rw[←hnp] at z1 hp10
 rw[←hnm] at z2 hm10
 have HNP:=Lib.hid hnp
 obtain⟨b1,hb1⟩:∃b,b=decide (m < p):=⟨_,rfl⟩
 obtain⟨b2,hb2⟩:∃b,b=decide (p <+: m):=⟨_,rfl⟩
 rw[←hb2] at CG
 have L1:Hid (Op.bytesLess ms.toList ps.toList=b1):=by show _=_;rw[hms,hps,bless,hb1]
 have HA0:Hid (xs.toList = []↔abv p = []):=by show _↔_;rw[has,ba_empty]
 have HALL:Hid (abv p = [] → ∀b∈p,b=255):=fun h=>by
  rcases abv_form p with⟨_,h2⟩|⟨l,b,m',h1,h2,h3⟩
  ·exact h2
  ·rw[h3] at h;simp at h
 have L2:Hid (abv p ≠ []→Op.bytesLess (ps ++ ms).toList xs.toList=true∧Op.bytesLess ps.toList xs.toList=true∧Op.bytesLess ms.toList xs.toList=(b1 || b2)∧Op.bytesLess xs.toList ps.toList=false∧(xs.toList == ps.toList)=false):=fun h=>by
  have h0:=(abv_iff h p).2 (.inr (List.prefix_refl _))
  rw[hps,hms,has, ←ba_append,bless,bless,bless,bless,bs_eq]
  refine⟨by simpa using (abv_iff h (p ++ m)).2 (.inr (List.prefix_append _ _)),by simpa using h0,?_,by simpa using bs_asymm h0,by simpa using (bs_ne h0).symm⟩
  rw[hb1,hb2, ←Bool.decide_or]
  exact decide_eq_decide.2 (abv_iff h m)
 rw[←hps] at C1 CA CG
 rw[←hms] at C2 CG
 rw[←has] at CA
 clear hp hm hps hms has hnp hnm hb1 hb2 hs ht
 go_enter Tryz.func9,Tryz.ntmps9
 go_wp2_with fail
 refine(C1.out _).mono ?_
 rintro e w1 ⟨rfl,rfl⟩
 go_wp2_with fail
 refine(C2.out _).mono ?_
 rintro e w1 ⟨rfl,rfl⟩
 go_wp2_with fail
 refine(CA.out _).mono ?_
 rintro e w2 ⟨rfl,k2⟩
 have K2:=Lib.hid k2
 go_wp2_with fail
 refine(awake10_calls w2).mono ?_
 rintro e w3 ⟨rfl,k3⟩
 have K3:=Lib.hid (K2.out.trans k3)
 clear k2 k3 C1 C2 CA K2
 by_cases h0:abv p = []
 ·have g1:=HA0.out.2 h0
  have g2:xs.toList.isEmpty=true:=by rw[g1];rfl
  have HALL2:=Lib.hid (HALL.out h0)
  clear h0 HALL L2
  go_wp2_with fail
  go_loopw [19] (fun i wr=>∃j:Nat,j≤np∧i = .int .i64 j∧wr=w3) (fun i _=>np - (RowKit.intOf i).toNat)
  case atStart=>exact⟨0,Nat.zero_le _,rfl,rfl⟩
  case round =>
   obtain⟨j,hj,rfl,rfl⟩:=hrel
   by_cases hlt:j < np
   ·have hkl:j < p.length:=by have:=HNP.out;omega
    have hks:j < ps.size:=by omega
    have hq:(ps[j]'hks).toNat=p[j].toNat:=by have:=HPS.out;subst this;rfl
    have hq3:((ps[j]'hks).toNat:Int)=255:=by rw[hq,HALL2.out _ (List.getElem_mem hkl)];rfl
    clear hq
    go_wp2_with fail
    go_roundw
    case rel=>exact⟨j + 1,by omega,by go_num,trivial⟩
    case measure=>simp[RowKit.intOf];omega
   ·obtain rfl:j=np:=by omega
    go_wp2
    go_ret
    exact⟨rfl,K3.out⟩
 ·have g1:¬xs.toList = []:=fun e=>h0 (HA0.out.1 e)
  have g2:xs.toList.isEmpty=false:=by simpa using g1
  obtain⟨l1,l2,l3,l5,l6⟩:=L2.out h0
  have l4:=L1.out
  have hcc:¬ 9223372036854775807 < np + nm:=by omega
  clear h0 HALL L2
  cases b1<;>cases b2
  all_goals
   simp only[Bool.or_false,Bool.or_true] at l3
   go_wp2_with (go_at_call 51;refine(CG.out _).mono ?_;rintro e w4 ⟨rfl,rfl⟩)
   refine bodyPost_ret (v:=.bool true) (by simp[results,Tryz.f9,go_sem]) rfl ?_
   exact⟨rfl,K3.out⟩
end Go.Proofs.YtfgjehecjgebdaaGreat
