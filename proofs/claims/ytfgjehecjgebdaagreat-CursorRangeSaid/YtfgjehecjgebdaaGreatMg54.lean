/- CursorRange's walk. -/
import Derived.Test.YtfgjehecjgebdaaGreatMg53
namespace Go.Proofs.YtfgjehecjgebdaaGreat
open Go.RowKit Go.Maps Go.ChangeMaps
set_option maxRecDepth 100000
attribute [local go_sem] Oper.semAt_some
theorem buildE_keys (K:Nat→Int) (S V:Nat→ByteArray):∀n, ∀e∈buildE K S V n,e.1.length≤24
 | 0,e,h=>by simp[buildE] at h
 | n + 1,e,h=>by
  unfold buildE at h
  split at h
  ·exact buildE_keys K S V n e ((List.mem_filter.1 h).1)
  ·rcases mem_insE h with rfl|h
   ·exact cutB_len _ _
   ·exact buildE_keys K S V n e h.1
theorem EnS.take {w b o n c E} (h:EnS w (.slice (some ⟨b,o,none⟩) n c) E) (hb:b < w.heap.size) {m:Nat} (hm:m≤E.length):EnS w (.slice (some ⟨b,o,none⟩) m c) (E.take m) :=
 ⟨_,c,by rw[List.length_take,Nat.min_eq_left hm],.inr ⟨b,o,rfl,hb,part_take h.part m⟩⟩
set_option maxHeartbeats 8000000 in
theorem cursorRange_walk {A:Option Addr} {len cap b0 off:Nat} {K N:Nat→Int} {S V:Nat→ByteArray} {w:World} (hm:len≤maxLen) (hA:Acts4 w A len b0 off K N S V) (fs:ByteArray) (hfs:fs.size≤maxLen) (ts:ByteArray) (hts:ts.size≤maxLen) (most:Int) :
  Calls Tryz.prog 10 #[.slice A len cap,.string fs,.string ts,.int .i64 most] w fun e w'=>e = .returned (.bool true)∧Kept (fun _=>False) w w':=by
 have CB:=Lib.hid (Build_calls (cap:=cap) hm hA)
 obtain⟨E,hE⟩:∃E,E=buildE K S V (min len 60):=⟨_,rfl⟩
 have HEL:Hid (E.length≤60):=by have:=buildE_len K S V (min len 60);show _≤_;rw[hE];omega
 have HEK:Hid (∀e∈E,e.1.length≤10000):=fun e he=>by rw[hE] at he;have:=buildE_keys _ _ _ _ e he;omega
 rw[←hE] at CB
 have CC:=Lib.hid (fun w=>Cut_calls fs 30 w hfs (by omega))
 have CD:=Lib.hid (fun w=>Cut_calls ts 30 w hts (by omega))
 obtain⟨k,hk⟩:∃p,p=cutB fs 30:=⟨_,rfl⟩
 obtain⟨tb,htb⟩:∃p,p=cutB ts 30:=⟨_,rfl⟩
 have HK30:Hid (k.length≤10000):=by have:=cutB_len fs 30;show _≤_;rw[hk];omega
 rw[cutB_ba, ←hk] at CC
 rw[cutB_ba, ←htb] at CD
 obtain⟨ks,hks⟩:∃s,s=ba k:=⟨_,rfl⟩
 obtain⟨xs,hxs⟩:∃s,s=ba tb:=⟨_,rfl⟩
 have HKS:=Lib.hid hks;have HXS:=Lib.hid hxs
 rw[←hks] at CC
 rw[←hxs] at CD
 clear hA hE hk htb hks hxs hm hfs hts
 go_enter Tryz.func10,Tryz.ntmps10
 go_wp2_with fail
 refine CB.out.mono ?_
 rintro e w1 ⟨q,l,X,root,rfl,tw,te,el,hq,hlo,k1⟩
 obtain⟨Al,cl,rfl⟩:=el.en.slice
 have T1:=Lib.hid tw;have TT:=Lib.hid te;have E1:=Lib.hid el.en;have K1:=Lib.hid k1
 clear tw te el hq hlo k1 CB
 go_wp2_with fail
 refine(CC.out _).mono ?_
 rintro e w2 ⟨rfl,rfl⟩
 clear CC
 go_wp2_with fail
 refine(CD.out _).mono ?_
 rintro e w2 ⟨rfl,rfl⟩
 clear CD
 go_wp2_with fail
 refine(awake10_calls w1).mono ?_
 rintro e w2 ⟨rfl,k2⟩
 have T2:=Lib.hid (T1.out.keptF k2);have E2:=Lib.hid (E1.out.keptF k2);have K2:=Lib.hid (K1.out.trans k2)
 have UPE:=Lib.hid TT.out.ti.up
 have C1:=Lib.hid (CurRange_calls T2.out TT.out.ti (by have:=HEL.out;omega) k tb most)
 have C2:=Lib.hid fun w' (kk:Kept (fun _=>False) w2 w')=>CurUnder_calls (T2.out.keptF kk) TT.out.ti (by have:=HEL.out;omega) k HK30.out 1000
 have C3:=Lib.hid fun w' (kk:Kept (fun _=>False) w2 w')=>CurUnder_calls (T2.out.keptF kk) TT.out.ti (by have:=HEL.out;omega) k HK30.out most
 have C4:=Lib.hid fun w' (kk:Kept (fun _=>False) w2 w')=>refUnder_calls (E2.out.keptF kk) (by have:=HEL.out;omega) k HK30.out HEK.out
 have C5:=Lib.hid fun w' (kk:Kept (fun _=>False) w2 w')=>refRange_calls (E2.out.keptF kk) (by have:=HEL.out;omega) k tb most
 have HUL:Hid ((undE E k).length≤60):=Nat.le_trans (List.length_filter_le _ _) HEL.out
 rw[rg_eq UPE.out] at C1
 rw[show(undE E k).take (1000:Int).toNat=undE E k from List.take_of_length_le (by have:=HUL.out;show _≤1000;omega)] at C2
 rw[←HKS.out] at C1 C2 C3 C4 C5
 rw[←HXS.out] at C1 C5
 obtain⟨R,hR⟩:∃R,R=(E.filter (inRg k tb)).take most.toNat:=⟨_,rfl⟩
 have HRL:Hid (R.length≤1000):=by
  have h1:=List.length_filter_le (inRg k tb) E
  have h2:=HEL.out
  show _≤_
  rw[hR,List.length_take]
  omega
 obtain⟨U,hU⟩:∃U,U=undE E k:=⟨_,rfl⟩
 rw[←hR] at C1 C5
 rw[←hU] at C2 C3 C4 HUL
 obtain⟨n3,hn3⟩:∃n,n=R.length:=⟨_,rfl⟩
 obtain⟨n,hn⟩:∃n,n=U.length:=⟨_,rfl⟩
 obtain⟨mm,hmm⟩:∃mm:Nat,mm=min most.toNat n:=⟨_,rfl⟩
 have g1:min (max most 0) (n:Int)=(mm:Int):=by omega
 have hmn:mm≤n:=by omega
 have hn60:n≤60:=by have:=HUL.out;omega
 have HTM:Hid (U.take most.toNat=U.take mm):=by
  show _=_
  rw[hmm,hn,List.take_eq_take_iff]
  omega
 rw[HTM.out] at C3
 have hmL:(U.take mm).length=mm:=by rw[List.length_take];omega
 have H3:=Lib.hid hn3;have HN:=Lib.hid hn;have HML:=Lib.hid hmL
 clear k2 T1 E1 K1 hR hU hn3 hn hmm hmL
 go_wp2_with fail
 refine C1.out.mono ?_
 rintro e w3 ⟨v3,rfl,r3,k3⟩
 obtain⟨A3,c3,rfl⟩:=r3.en.slice
 have R3:=Lib.hid r3.en;have K3:=Lib.hid k3
 rw[←H3.out] at R3⊢
 clear r3 k3 C1
 go_wp2_with fail
 refine(C2.out _ K3.out).mono ?_
 rintro e w4 ⟨v4,rfl,r4,k4⟩
 obtain⟨A4,c4,rfl⟩:=r4.en.slice
 have R4:=Lib.hid r4.en
 rw[←HN.out] at R4⊢
 have R34:=Lib.hid (R3.out.keptF k4);have K4:=Lib.hid (K3.out.trans k4)
 clear r4 k4 C2 R3 K3
 go_wp2_with fail
 refine(C3.out _ K4.out).mono ?_
 rintro e w5 ⟨v5,rfl,r5,k5⟩
 obtain⟨A5,c5,rfl⟩:=r5.en.slice
 have R5:=Lib.hid r5.en
 rw[HML.out] at R5⊢
 have R35:=Lib.hid (R34.out.keptF k5);have R45:=Lib.hid (R4.out.keptF k5);have K5:=Lib.hid (K4.out.trans k5)
 clear r5 k5 C3 R34 R4 K4
 go_wp2_with fail
 refine(C4.out _ K5.out).mono ?_
 rintro e w6 ⟨v6,rfl,r6,k6⟩
 have R6:=Lib.hid r6
 have R36:=Lib.hid (R35.out.keptF k6);have R46:=Lib.hid (R45.out.keptF k6);have R56:=Lib.hid (R5.out.keptF k6);have K6:=Lib.hid (K5.out.trans k6)
 have hv6:(∃g cp,v6 = .slice (some ⟨g,0,none⟩) U.length cp∧U.length≤cp)∨(v6 = .slice none 0 0∧U = []):=by
  rcases r6.2 with⟨h1,h2⟩|⟨g,cp,_,h1,_,_,h2,_⟩
  ·exact .inr ⟨h1,List.eq_nil_of_length_eq_zero h2⟩
  ·exact .inl ⟨g,cp,h1,h2⟩
 rw[←HN.out] at hv6
 clear r6 k6 C4 R35 R45 R5 K5
 go_wp2_with fail
 refine(C5.out _ K6.out).mono ?_
 rintro e w7 ⟨v7,rfl,r7,k7⟩
 obtain⟨A7,c7,rfl⟩:=r7.en.slice
 have R7:=Lib.hid r7.en
 rw[←H3.out] at R7⊢
 have R67:=Lib.hid (R6.out.keptF k7);have R37:=Lib.hid (R36.out.keptF k7);have R47:=Lib.hid (R46.out.keptF k7);have R57:=Lib.hid (R56.out.keptF k7);have K7:=Lib.hid (K2.out.trans (K6.out.trans k7))
 clear r7 k7 C5 R36 R46 R56 R6 K6
 have CS1:=Lib.hid (same_calls R37.out R7.out HRL.out)
 have CS2:=Lib.hid fun w' (kk:Kept (fun _=>False) w7 w')=>same_calls (R47.out.keptF kk) (R67.out.en.keptF kk) (by have:=HUL.out;omega)
 have CS3:Hid (∀(w':World) (l:Value),Kept (fun _=>False) w7 w'→EnS w' l (U.take mm)→Calls Tryz.prog 55 #[.slice A5 mm c5,l] w' fun e w''=>e = .returned (.bool true)∧Kept (fun _=>False) w' w''):=fun w' l kk h=>same_calls (R57.out.keptF kk) h (by have:=HML.out;omega)
 go_wp2_with fail
 refine CS1.out.mono ?_
 rintro e w8 ⟨rfl,k8⟩
 have K8:=Lib.hid k8
 clear k8 CS1
 rcases hv6 with⟨g,cp,rfl,hcp⟩|⟨rfl,hU0⟩
 all_goals
  go_wp2_with fail
  refine(CS2.out _ K8.out).mono ?_
  rintro e w9 ⟨rfl,k9⟩
  have K9:=Lib.hid (K8.out.trans k9)
  clear k9 CS2
 ·have h1:(mm:Int)≤(cp:Int):=by omega
  have h2:mm≤cp:=by omega
  have h3:((mm:Int)).toNat=mm:=by omega
  have h4:(0:Int)≤(mm:Int):=by omega
  have CL:=Lib.hid (CS3.out w9 (.slice (some ⟨g,0,none⟩) mm cp) K9.out (by
   have h:=(R67.out.keptF K9.out)
   exact h.en.take (own_lt h rfl) (by have:=HN.out;omega)))
  go_wp2_with fail
  refine CL.out.mono ?_
  rintro e w10 ⟨rfl,k10⟩
  have K10:=Lib.hid (K7.out.trans (K9.out.trans k10))
  go_wp2
  refine bodyPost_ret (v:=.bool true) (by simp[results,Tryz.f10,go_sem]) rfl ?_
  exact⟨rfl,K10.out⟩
 ·have hn0:n=0:=by rw[HN.out,hU0];rfl
  have hm0:mm=0:=by omega
  subst hn0 hm0
  have g5:min (max most 0) (0:Int)=0:=by omega
  clear g1 hmn hn60
  have CL:=Lib.hid (CS3.out w9 (.slice none 0 0) K9.out ⟨none,0,by rw[List.take_zero];rfl,.inl ⟨rfl,List.take_zero⟩⟩)
  go_wp2_with fail
  refine CL.out.mono ?_
  rintro e w10 ⟨rfl,k10⟩
  have K10:=Lib.hid (K7.out.trans (K9.out.trans k10))
  go_wp2
  refine bodyPost_ret (v:=.bool true) (by simp[results,Tryz.f10,go_sem]) rfl ?_
  exact⟨rfl,K10.out⟩
end Go.Proofs.YtfgjehecjgebdaaGreat
