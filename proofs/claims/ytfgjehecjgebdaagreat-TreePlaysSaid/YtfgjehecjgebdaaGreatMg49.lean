/- The laws' Sound. -/
import Derived.Test.YtfgjehecjgebdaaGreatMg47
import Derived.Test.YtfgjehecjgebdaaGreatMg34
namespace Go.Proofs.YtfgjehecjgebdaaGreat
open Go.RowKit Go.Maps Go.ChangeMaps
attribute [local go_sem] Oper.semAt_some
theorem cnt_count (l:List Nat) (k:Nat):cnt l (k:Int)=l.count k:=by
 unfold cnt
 rw[List.count_eq_length_filter]
 congr 1
 apply List.filter_congr
 intro x _
 by_cases h:x=k
 ·simp[h]
 ·have:¬((x:Int)=(k:Int)):=by omega
  simp[h,this]
set_option maxRecDepth 100000 in
theorem Sound9_none {w q X s} (tw:TW w q X (-1)) (hs:EnS w s []) (h0:X.l.count 1 + X.l.count 2=0) :
  Calls Tryz.prog 44 #[.pointer (some ⟨q.t,0,none⟩),s] w fun e w'=>e = .returned (.int .i64 0)∧w=w':=by
 have CS:=Lib.hid (TreeStore_calls tw)
 have CR:=Lib.hid (TreeRoot_calls tw)
 have C1:=Lib.hid (Count_calls tw.sto.sp 1 (by decide))
 have C2:=Lib.hid (Count_calls tw.sto.sp 2 (by decide))
 have s0:w.cell? ⟨q.st,0,none⟩=some (.pointer (some ⟨q.b,0,none⟩)):=(cell_heap tw.sto.head 0).trans rfl
 obtain⟨A,c,rfl⟩:=hs.slice
 clear tw hs
 go_enter Tryz.func44,Tryz.ntmps44
 obtain⟨u1,hu1⟩:∃u,u=cnt X.l 1:=⟨_,rfl⟩
 obtain⟨u2,hu2⟩:∃u,u=cnt X.l 2:=⟨_,rfl⟩
 rw[←hu1] at C1
 rw[←hu2] at C2
 have hu:u1=0∧u2=0:=by have h1:=cnt_count X.l 1;have h2:=cnt_count X.l 2;exact⟨hu1.trans (h1.trans (by omega)),hu2.trans (h2.trans (by omega))⟩
 obtain⟨rfl,rfl⟩:=hu
 clear hu1 hu2 h0
 go_wp2_with fail
 refine CS.out.mono ?_
 rintro e w1 ⟨rfl,rfl⟩
 go_wp2_with fail
 refine C1.out.mono ?_
 rintro e w1 ⟨rfl,rfl⟩
 go_wp2_with fail
 refine CS.out.mono ?_
 rintro e w1 ⟨rfl,rfl⟩
 go_wp2_with fail
 refine C2.out.mono ?_
 rintro e w1 ⟨rfl,rfl⟩
 go_wp2_with fail
 refine CR.out.mono ?_
 rintro e w1 ⟨rfl,rfl⟩
 go_wp2
 go_ret
 exact⟨rfl,rfl⟩
set_option maxRecDepth 100000 in
theorem Sound9_some {w q X s E} {r h:Nat} (tw:TW w q X (r:Int)) (hs:EnS w s E) (hg:X.gd r) (wf:WF X h (X.nd r) [] none) (hE:E=ents X h (X.nd r)) (hn:E ≠ []) (h0:1 + (pgs X h (X.nd r)).length=X.l.count 1 + X.l.count 2) (hh:h≤4) (hl:E.length≤5000) (hX:X.l.length≤128) :
  Calls Tryz.prog 44 #[.pointer (some ⟨q.t,0,none⟩),s] w fun e w'=>e = .returned (.int .i64 0)∧Kept (fun _=>False) w w':=by
 have CS:=Lib.hid (TreeStore_calls tw)
 have CR:=Lib.hid (TreeRoot_calls tw)
 have C1:=Lib.hid (Count_calls tw.sto.sp 1 (by decide))
 have C2:=Lib.hid (Count_calls tw.sto.sp 2 (by decide))
 have hc1:X.l.count 1≤X.l.length:=List.count_le_length
 have hc2:X.l.count 2≤X.l.length:=List.count_le_length
 have CW:=Lib.hid (walk9_calls h tw r true [] none 1 wf hg (fun e=>by cases e) (by omega) (by rw[←hE];omega) (by omega))
 rw[show ba []=⟨#[]⟩ from rfl,show ba (hiS none)=⟨#[]⟩ from rfl] at CW
 have s0:w.cell? ⟨q.st,0,none⟩=some (.pointer (some ⟨q.b,0,none⟩)):=(cell_heap tw.sto.head 0).trans rfl
 obtain⟨A,c,rfl⟩:=hs.slice
 have HS:=Lib.hid hs
 obtain⟨u1,hu1⟩:∃u,u=cnt X.l 1:=⟨_,rfl⟩
 obtain⟨u2,hu2⟩:∃u,u=cnt X.l 2:=⟨_,rfl⟩
 rw[←hu1] at C1
 rw[←hu2] at C2
 have hu:u1 + u2=1 + (pgs X h (X.nd r)).length∧u1≤128∧u2≤128:=by
  have h1:=cnt_count X.l 1;have h2:=cnt_count X.l 2
  have h3:=hu1.trans h1;have h4:=hu2.trans h2
  exact⟨by omega,by omega,by omega⟩
 obtain⟨hu3,hu4,hu5⟩:=hu
 have HU:=Lib.hid hu3
 obtain⟨n,hnl⟩:∃n,n=E.length:=⟨_,rfl⟩
 have HNL:Hid (n=E.length∧0 < n∧n≤5000):=⟨hnl,by rw[hnl];exact List.length_pos_iff.2 hn,by omega⟩
 have HEE:=Lib.hid hE
 rw[←hnl]
 clear tw hs hu1 hu2 h0 hu3 hn hl hX hc1 hc2 hh wf hg hE hnl
 go_enter Tryz.func44,Tryz.ntmps44
 go_wp2_with fail
 refine CS.out.mono ?_
 rintro e w1 ⟨rfl,rfl⟩
 go_wp2_with fail
 refine C1.out.mono ?_
 rintro e w1 ⟨rfl,rfl⟩
 go_wp2_with fail
 refine CS.out.mono ?_
 rintro e w1 ⟨rfl,rfl⟩
 go_wp2_with fail
 refine C2.out.mono ?_
 rintro e w1 ⟨rfl,rfl⟩
 go_wp2_with fail
 refine CR.out.mono ?_
 rintro e w1 ⟨rfl,rfl⟩
 go_wp2_with fail
 refine CR.out.mono ?_
 rintro e w1 ⟨rfl,rfl⟩
 go_wp2_with fail
 refine CW.out.mono ?_
 rintro e w1 ⟨v,rfl,hv,k⟩
 rw[←HEE.out] at hv
 rw[←HU.out]
 obtain⟨A2,c2,rfl⟩:=hv.en.slice
 rw[←HNL.out.1] at hv⊢
 have HV:=Lib.hid hv
 have K:=Lib.hid k
 have hn0:0 < n∧n≤5000:=HNL.out.2
 clear hv k CW CS CR C1 C2
 go_wp2_with fail
 go_loopw [10,11,62] (fun _ _ i wr=>∃m:Nat,m≤n∧i = .int .i64 m∧Hid (Kept (fun _=>False) w1 wr)) (fun _ _ i _=>n - (RowKit.intOf i).toNat)
 case atStart=>exact⟨0,Nat.zero_le _,rfl,Kept.refl _ _⟩
 case round =>
  obtain⟨m,hm,rfl,KW⟩:=hrel
  by_cases hlt:m < n
  ·have hjE:m < E.length:=by have:=HNL.out.1;omega
   obtain⟨b1,o1,c',e,hb1,p1,p2⟩:=(HS.out.keptF (K.out.trans KW.out)).at hjE
   injection e with e1 e2 e3
   subst e1
   clear e2 e3
   obtain⟨b2,o2,c',e,hb2,p3,p4⟩:=(HV.out.en.keptF KW.out).at hjE
   injection e with e1 e2 e3
   subst e1
   clear e2 e3
   dsimp only[Ss] at p1 p2 p3 p4
   obtain⟨kx,hkx⟩:∃x,x=ba E[m].1:=⟨_,rfl⟩
   obtain⟨vx,hvx⟩:∃x,x=ba E[m].2:=⟨_,rfl⟩
   rw[←hkx] at p1 p3
   rw[←hvx] at p2 p4
   clear hkx hvx
   go_wp2_with fail
   go_quiet (fail)
   go_wp2
   go_roundw
   case rel=>exact⟨m + 1,by omega,by go_num,(KW.out.alloc _).drewN _⟩
   case measure=>simp[RowKit.intOf];omega
  ·obtain rfl:m=n:=by omega
   go_wp2
   go_ret
   exact⟨rfl,K.out.trans KW.out⟩
theorem Sound9_calls {w q X root s E} (tw:TW w q X root) (ti:TI X root E) (hs:EnS w s E) (hl:E.length≤5000) :
  Calls Tryz.prog 44 #[.pointer (some ⟨q.t,0,none⟩),s] w fun e w'=>e = .returned (.int .i64 0)∧Kept (fun _=>False) w w':=by
 rcases ti.sound with⟨rfl,rfl,h0⟩|⟨r,h,rfl,hg,wf,hE,hn,h0,hh⟩
 ·exact(Sound9_none tw hs h0).mono fun e w' he=>by
   obtain⟨h1,h2⟩:=he
   exact⟨h1,by rw[←h2];exact Kept.refl _ _⟩
 ·exact Sound9_some tw hs hg wf hE hn h0 hh hl ti.len
end Go.Proofs.YtfgjehecjgebdaaGreat
