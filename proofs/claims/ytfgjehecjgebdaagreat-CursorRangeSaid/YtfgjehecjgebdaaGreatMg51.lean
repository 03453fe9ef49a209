/- The reference's Begins; CursorAbove's walk. -/
import Derived.Test.YtfgjehecjgebdaaGreatMg50
import Derived.Test.YtfgjehecjgebdaaGreatMg48
namespace Go.Proofs.YtfgjehecjgebdaaGreat
open Go.RowKit Go.Maps Go.ChangeMaps
set_option maxHeartbeats 4000000
set_option maxRecDepth 100000
attribute [local go_sem] Oper.semAt_some
theorem Begins_calls (k p:Bs) (hk:k.length≤100000) (hp:p.length≤100000) (w:World):Calls Tryz.prog 51 #[.string (ba k),.string (ba p)] w fun e w'=>e = .returned (.bool (decide (p <+: k)))∧w=w':=by
 obtain⟨ks,hks⟩:∃s,s=ba k:=⟨_,rfl⟩
 obtain⟨ps,hps⟩:∃s,s=ba p:=⟨_,rfl⟩
 obtain⟨nk,hnk⟩:∃n,n=k.length:=⟨_,rfl⟩
 obtain⟨np,hnp⟩:∃n,n=p.length:=⟨_,rfl⟩
 have z1:ks.size=nk:=by rw[hks,ba_size,hnk]
 have z2:ps.size=np:=by rw[hps,ba_size,hnp]
 have HX:Hid (((ks.extract 0 np).toList == ps.toList)=decide (p <+: k)):=by
  show _=_
  rw[hks,hps,ba_extract0,bs_eq,hnp]
  exact decide_eq_decide.2 ⟨fun h=>List.prefix_iff_eq_take.2 h.symm,fun h=>(List.prefix_iff_eq_take.1 h).symm⟩
 have HL:Hid (nk < np → ¬p <+: k):=fun h h'=>by have:=h'.length_le;omega
 rw[←hks, ←hps]
 obtain⟨b,hb⟩:∃b,b=decide (p <+: k):=⟨_,rfl⟩
 rw[←hb] at HX⊢
 have HB:=Lib.hid hb
 have hk1:nk≤100000:=by omega
 have hp1:np≤100000:=by omega
 clear hks hps hnk hnp hb hk hp
 by_cases hle:np≤nk
 ·have g1:=HX.out
  go_enter Tryz.func51,Tryz.ntmps51
  go_wp2
  refine bodyPost_ret (v:=.bool b) (by simp[results,Tryz.f51,go_sem]) rfl ?_
  exact⟨rfl,rfl⟩
 ·have hbf:b=false:=by rw[HB.out];simpa using HL.out (by omega)
  subst hbf
  go_enter Tryz.func51,Tryz.ntmps51
  go_wp2
  refine bodyPost_ret (v:=.bool false) (by simp[results,Tryz.f51,go_sem]) rfl ?_
  exact⟨rfl,rfl⟩
end Go.Proofs.YtfgjehecjgebdaaGreat
