/- The laws' walk: through a tree. -/
import Derived.Test.YtfgjehecjgebdaaGreatMg34
import Derived.Test.YtfgjehecjgebdaaGreatMg43
namespace Go.Proofs.YtfgjehecjgebdaaGreat
open Go.RowKit Go.Maps Go.ChangeMaps
attribute [local go_sem] Oper.semAt_some
def hiS (hi:Option Bs):Bs:=hi.getD []
def WalkTo (X:Sto) (h:Nat) (n:Nd) (far:Nat) (w:World) (e:Ending) (w':World):Prop :=
 ∃v,e = .returned (.tuple #[v,.int .i64 (far + h:Nat),.int .i64 (1 + (pgs X h n).length:Nat),.bool true])∧ERow w' w.heap.size v (ents X h n)∧Kept (fun _=>False) w w'
def KeyIn (lo:Bs) (hi:Option Bs) (k:Bs):Prop:=¬k < lo∧(hiS hi = []∨k < hiS hi)
theorem wf_keyin {X:Sto} {h:Nat} {n:Nd} {lo:Bs} {hi:Option Bs} (w:WF X h n lo hi):∀k∈n.keys,KeyIn lo hi k:=by
 have key:∀k:Bs, ¬k < lo→(∀u,hi=some u→k < u)→KeyIn lo hi k:=fun k h1 h2=>by
  refine⟨h1,?_⟩
  cases hi with
  | none=>exact .inl rfl
  | some u=>exact .inr (h2 u rfl)
 cases h with
 | zero=>exact fun k hk=>key k (w.2.2.2 k hk).1 (w.2.2.2 k hk).2
 | succ h =>
  intro k hk
  obtain⟨h1,h2⟩:=(seg_keys (fun c l u k=>KP.b k) (wf_succ.1 w).2.2).2.2 k hk
  exact key k (bs_asymm h1) h2
theorem flat_le {α β : Type} (f : α → List β) (l:List α) (m:Nat):((l.take m).flatMap f).length≤(l.flatMap f).length:=by
 conv=>rhs;rw[←List.take_append_drop m l]
 rw[List.flatMap_append,List.length_append]
 omega
theorem flat_snoc {α β : Type} (f : α → List β) (l:List α) (m:Nat) (h:m < l.length):(l.take (m + 1)).flatMap f=(l.take m).flatMap f ++ f l[m]:=by
 rw[List.take_succ_eq_append_getElem h,List.flatMap_append]
 simp
theorem flat_at {α β : Type} (f : α → List β) (l:List α) (m:Nat) (h:m < l.length):((l.take m).flatMap f).length + (f l[m]).length≤(l.flatMap f).length:=by
 have:=flat_le f l (m + 1)
 rw[flat_snoc f l m h,List.length_append] at this
 exact this
theorem wf_leaf {X:Sto} {h:Nat} {n:Nd} {lo:Bs} {hi:Option Bs} (w:WF X h n lo hi):n.leaf=decide (h=0):=by
 cases h with
 | zero=>exact w.1
 | succ h=>rw[(wf_succ.1 w).1];rfl
set_option maxRecDepth 100000 in
set_option maxHeartbeats 16000000 in
theorem walk9_step {w q X R} (tw:TW w q X R) (id:Nat) (rt:Bool) (lo:Bs) (hi:Option Bs) (far h:Nat) (wf:WF X h (X.nd id) lo hi) (hg:X.gd id) (hrt:rt=false→(X.nd id).under=false) (hfar:far + h≤12) (hE:(ents X h (X.nd id)).length≤50000) (hP:(pgs X h (X.nd id)).length≤50000)
  (ih:∀h',h=h' + 1 → ∀w',Kept (fun _=>False) w w' → ∀(c:Nat) lo' hi' (far':Nat),KP X h' c lo' hi'→far' + h'≤12→(ents X h' (X.nd c)).length≤50000→(pgs X h' (X.nd c)).length≤50000 →
   Calls Tryz.prog 99 #[.pointer (some ⟨q.t,0,none⟩),.int .i64 c,.bool false,.string (ba lo'),.string (ba (hiS hi')),.int .i64 far'] w' (WalkTo X h' (X.nd c) far' w')) :
  Calls Tryz.prog 99 #[.pointer (some ⟨q.t,0,none⟩),.int .i64 id,.bool rt,.string (ba lo),.string (ba (hiS hi)),.int .i64 far] w (WalkTo X h (X.nd id) far w):=by
 have CL:=Lib.hid (TreeLoadX_calls tw id)
 have eL:X.load id=(X.nd id,0):=Prod.ext rfl hg
 rw[eL] at CL
 unfold LoadTo at CL
 obtain⟨n,hn⟩:∃n,n=X.nd id:=⟨_,rfl⟩
 have HOK:Hid n.Ok:=by rw[hn];exact gd_nd_ok hg
 rw[←hn] at wf hrt CL hE hP⊢
 have HW:=Lib.hid wf
 have KI:Hid (∀j (hj:j < n.keys.length),KeyIn lo hi n.keys[j]):=fun j hj=>wf_keyin wf _ (List.getElem_mem hj)
 have HRT:=Lib.hid hrt
 obtain⟨los,hlo⟩:∃s,s=ba lo:=⟨_,rfl⟩
 obtain⟨his,hhs⟩:∃s,s=ba (hiS hi):=⟨_,rfl⟩
 rw[←hlo, ←hhs]
 have HLO:=Lib.hid hlo;have HHI:=Lib.hid hhs
 have hfr:¬(12 < (far:Int)):=by omega
 have HTW:=Lib.hid tw
 have HFAR:=Lib.hid hfar
 have IH:=Lib.hid ih
 have HEP:Hid ((ents X h n).length≤50000∧(pgs X h n).length≤50000):=⟨hE,hP⟩
 clear tw wf hg hrt hn hlo hhs eL hfar ih hE hP
 go_enter Tryz.func99,Tryz.ntmps99
 go_wp2_with fail
 refine CL.out.mono ?_
 rintro e w1 ⟨k1,v,rfl,hnd⟩
 obtain⟨l,A1,n1,c1,A2,n2,c2,A3,n3,c3,rfl,HE,N1,R1,R2,R3⟩:=hnd.opened
 have hn5:n1≤5:=by
  have h1:=HOK.out.len
  have h2:=HE.out.2.1
  omega
 have K1:=Lib.hid k1
 have CC:=Lib.hid fun w' (kk:Kept (fun _=>False) w1 w')=>NdCheck_calls (N1.out.kept kk) HOK.out.sm
 have CU:=Lib.hid fun w' (kk:Kept (fun _=>False) w1 w')=>NdUnder_calls (N1.out.kept kk)
 clear k1 hnd CL
 go_wp2_with fail
 refine(CC.out _ ((Kept.refl _ w1).alloc _)).mono ?_
 rintro e w3 ⟨c,rfl,hc,k3⟩
 obtain rfl:=hc.2 HOK.out
 have hb3:=k3.heap (heap_new w1 (.cells #[.bool l,.slice A1 n1 c1,.slice A2 n2 c2,.slice A3 n3 c3] 148)) (fun h=>h)
 have HB3:=Lib.hid hb3
 have K3:=Lib.hid (((Kept.refl (fun _=>False) w1).alloc (.cells #[.bool l,.slice A1 n1 c1,.slice A2 n2 c2,.slice A3 n3 c3] 148)).trans k3)
 obtain⟨N,hN⟩:∃N,N=w1.heap.size:=⟨_,rfl⟩
 rw[←hN] at HB3⊢
 have hb3':=HB3.out
 obtain⟨d0,d1,d2,d3⟩:=nd_cells hb3'
 have CU3:=Lib.hid (CU.out w3 K3.out)
 clear hc k3 hb3 hb3' CC CU hN
 have MID:Hid (∀w4,Kept (fun _=>False) w3 w4→w4.heap[N]? = some (.cells #[.bool l,.slice A1 n1 c1,.slice A2 n2 c2,.slice A3 n3 c3] 148 (0,0))∧Kept (fun _=>False) w1 w4):=fun w4 kk=>⟨kk.heap HB3.out (fun h=>h),K3.out.trans kk⟩
 have U4:Hid (rt=false→n.under=false):=HRT.out
 clear HRT
 cases rt
 rotate_left
 have M4:=Lib.hid (MID.out w3 (Kept.refl _ _))
 clear CU3 U4 MID HB3 K3
 obtain⟨w4,hw4⟩:∃w4,w4=w3:=⟨_,rfl⟩
 rw[←hw4] at M4
 subst hw4
 go_wp2_with fail
 rotate_left
 rw[U4.out (by simp)] at CU3
 go_wp2_with fail
 refine CU3.out.mono ?_
 rintro e w4 ⟨rfl,k4⟩
 have M4:=Lib.hid (MID.out w4 k4)
 clear k4 CU3 d0 d1 d2 d3 U4 MID HB3 K3
 obtain⟨d0,d1,d2,d3⟩:=nd_cells M4.out.1
 go_wp2_with fail
 all_goals (
  go_loop [19,62] (fun _ i=>∃j:Nat,j≤n1∧i = .int .i64 j) (fun _ i=>n1 - (RowKit.intOf i).toNat)
  case atStart=>exact⟨0,Nat.zero_le _,rfl⟩
  case round =>
   obtain⟨j,hj,rfl⟩:=hrel
   by_cases hlt:j < n1
   ·have hjk:j < n.keys.length:=by have:=HE.out.2.1;omega
    obtain⟨g,c,ef⟩:=own_form R1.out (by omega)
    injection ef with ef1 ef2 ef3
    subst ef1
    clear ef2 ef3
    have q1:=(R1.out.keptF M4.out.2).at_ hjk
    obtain⟨kx,hkx⟩:∃x,x=ba n.keys[j]:=⟨_,rfl⟩
    have HLT:Hid (Op.bytesLess kx.toList los.toList=false):=by
     show _=_;rw[hkx,HLO.out,bless];exact decide_eq_false (KI.out j hjk).1
    have HKI:=Lib.hid (KI.out j hjk)
    dsimp only[Ss] at q1
    rw[←hkx] at q1
    have g1:=HLT.out
    have HKX:=Lib.hid hkx
    clear hkx HLT
    rcases HKI.out.2 with hh|hh
    ·have g2:his.toList = []:=by rw[HHI.out,hh];simp[ba_empty]
     clear hh
     go_wp2
     go_round
     case rel=>exact⟨j + 1,by omega,by go_num⟩
     case measure=>simp[RowKit.intOf];omega
    ·have g2:¬his.toList = []:=fun e=>by
      rw[HHI.out,ba_empty] at e
      rw[e] at hh
      exact absurd hh (List.not_lt_nil _)
     have g4:his.toList.isEmpty=false:=by simpa using g2
     have g3:Op.bytesLess kx.toList his.toList=true:=by rw[HKX.out,HHI.out,bless];exact decide_eq_true hh
     clear hh
     go_wp2
     go_round
     case rel=>exact⟨j + 1,by omega,by go_num⟩
     case measure=>simp[RowKit.intOf];omega
   ·obtain rfl:j=n1:=by omega
    cases l
    ·obtain⟨h',rfl⟩:∃h',h=h' + 1:=by
      have h1:=wf_leaf HW.out
      rw[←HE.out.1] at h1
      cases h with
      | zero=>simp at h1
      | succ h=>exact⟨h,rfl⟩
     have HSG:=Lib.hid (wf_succ.1 HW.out).2.2
     have HN3:Hid (j + 1=n3∧n3≤6∧1≤j):=by
      have h1:=seg_len HSG.out
      have h2:=HE.out.2.1
      have h3:=HE.out.2.2.2
      have h4:=HOK.out.len
      have h5:=(HOK.out.inner HE.out.1.symm).1
      exact⟨by omega,by omega,by omega⟩
     obtain⟨K,hK⟩:∃K:Int,K=((far + 1 + h':Nat):Int):=⟨_,rfl⟩
     have HK:=Lib.hid hK
     have hK0:0≤K:=by omega
     obtain⟨B,hB⟩:∃B,B=w4.heap.size:=⟨_,rfl⟩
     have HB:=Lib.hid hB
     have HBK:Hid (∀wr,Kept (fun _=>False) w4 wr→B≤wr.heap.size):=fun wr kk=>by have:=HB.out;have:=kk.size;omega
     have hn36:=HN3.out.2.1
     clear hB hK
     go_wp2_with fail
     go_loopw [23,24,25,26,27,28,29,30,31,32,33,105] (fun a d c _ _ _ _ _ _ _ _ i wr=>∃(m:Nat) (Ao:Option Addr) (lo' co:Nat) (dp:Int) (cn:Nat),m≤n3∧i = .int .i64 m∧a = .slice Ao lo' co∧d = .int .i64 dp∧c = .int .i64 cn∧Hid ((m=0∧dp = -1)∨(0 < m∧dp=K))∧Hid (cn=1 + ((n.kids.take m).flatMap fun c=>c :: pgs X h' (X.nd c)).length)∧Hid (ERow wr B (.slice Ao lo' co) ((n.kids.take m).flatMap fun c=>ents X h' (X.nd c)))∧Hid (Kept (fun _=>False) w4 wr)) (fun _ _ _ _ _ _ _ _ _ _ _ i _=>n3 - (RowKit.intOf i).toNat)
     case atStart=>exact⟨0,none,0,0, -1,1,Nat.zero_le _,rfl,rfl,rfl,rfl,.inl ⟨rfl,rfl⟩,rfl,ERow.nil _ _,Kept.refl _ _⟩
     case round =>
      obtain⟨m,Ao,lo',co,dp,cn,hm,rfl,rfl,rfl,rfl,HD,HC,ER,KW⟩:=hrel
      by_cases hlt:m < n3
      ·have hmk:m < n.kids.length:=by have:=HE.out.2.2.2;omega
       have KPm:=Lib.hid (seg_at HSG.out m hmk)
       have EB:=Lib.hid (flat_at (fun c=>ents X h' (X.nd c)) n.kids m hmk)
       have PB:=Lib.hid (flat_at (fun c=>c :: pgs X h' (X.nd c)) n.kids m hmk)
       have ES:=Lib.hid (flat_snoc (fun c=>ents X h' (X.nd c)) n.kids m hmk)
       have PS:=Lib.hid (flat_snoc (fun c=>c :: pgs X h' (X.nd c)) n.kids m hmk)
       have HEE:Hid ((n.kids.flatMap fun c=>ents X h' (X.nd c)).length≤50000):=HEP.out.1
       have HPP:Hid ((n.kids.flatMap fun c=>c :: pgs X h' (X.nd c)).length≤50000):=HEP.out.2
       have KR:=Lib.hid (M4.out.2.trans KW.out)
       obtain⟨g3,c',ef⟩:=own_form R3.out (by omega)
       injection ef with ef1 ef2 ef3
       subst ef1
       clear ef2 ef3
       obtain⟨g1,c,ef⟩:=own_form R1.out (by have:=HN3.out;have:=HE.out.2.1;omega)
       injection ef with ef1 ef2 ef3
       subst ef1
       clear ef2 ef3
       have q0:=(R3.out.keptF KR.out).at_ hmk
       have e1:=(cell_heap (KW.out.heap M4.out.1 (fun h=>h)) 1).trans rfl
       have QK:Hid (∀x (hx:x < n.keys.length),wr.cell? ⟨g1,x,none⟩=some (.string (ba n.keys[x]))):=fun x hx=>(R1.out.keptF KR.out).at_ hx
       obtain⟨kid,hkid⟩:∃x,x=n.kids[m]:=⟨_,rfl⟩
       rw[←hkid] at q0 KPm EB PB ES PS
       clear hkid
       have C0:=Lib.hid (IH.out h' rfl wr ((K1.out.trans M4.out.2).trans KW.out) kid _ _ (far + 1) KPm.out (by have:=HFAR.out;omega) (by have:=EB.out;have:=HEE.out;omega) (by have h1:=PB.out;have h2:=HPP.out;simp only[List.length_cons] at h1;omega))
       have C1:Hid (∀s1 s2,s1=ba (loB lo n.keys m)→s2=ba (hiS (hiB hi n.keys m))→Calls Tryz.prog 99 #[.pointer (some ⟨q.t,0,none⟩),.int .i64 kid,.bool false,.string s1,.string s2,.int .i64 ((far:Int) + 1)] wr (WalkTo X h' (X.nd kid) (far + 1) wr)):=fun s1 s2 h1 h2=>by subst h1 h2;exact C0.out
       have hfar2:(far:Int)≤12:=by have:=HFAR.out;omega
       have HDP:Hid (dp = -1∧m=0∨dp=K∧0 < m):=by have:=HD.out;show _∨_;omega
       clear C0 HD
       have HJ:Hid (j=n.keys.length):=HE.out.2.1
       have hcs:m=0∨(0 < m∧m < j)∨(0 < m∧m=j):=by have:=HN3.out;omega
       rcases hcs with hz|⟨hz,hz'⟩|⟨hz,hz'⟩
       focus
        have z1:¬((0:Int) < (m:Int)):=by omega
        have z2:m < j:=by have:=HN3.out;omega
        have hx1:m < n.keys.length:=by have:=HJ.out;omega
        have q1:=QK.out m hx1
        obtain⟨s2,hs2⟩:∃s,s=ba n.keys[m]:=⟨_,rfl⟩
        rw[←hs2] at q1
        have C:=Lib.hid (C1.out los s2 (by rw[HLO.out];unfold loB;rw[if_pos hz]) (by rw[hs2];unfold hiB hiS;rw[if_pos hx1];simp[List.getD,hx1]))
        have D1:¬(0≤dp):=by have:=HDP.out;omega
        clear hz hs2
        go_wp2_with fail
       rotate_left
       focus
        have z1:(0:Int) < (m:Int):=by omega
        have z3:0≤(m:Int) - 1:=by omega
        have z4:(m:Int) - 1 < (j:Int):=by omega
        have hx0:m - 1 < n.keys.length:=by have:=HJ.out;omega
        have hx1:m < n.keys.length:=by have:=HJ.out;omega
        have q1:=QK.out m hx1
        have q2:=QK.out (m - 1) hx0
        obtain⟨s2,hs2⟩:∃s,s=ba n.keys[m]:=⟨_,rfl⟩
        obtain⟨s1,hs1⟩:∃s,s=ba n.keys[m - 1]:=⟨_,rfl⟩
        rw[←hs2] at q1
        rw[←hs1] at q2
        have C:=Lib.hid (C1.out s1 s2 (by rw[hs1];unfold loB;rw[if_neg (by omega)];simp[List.getD,hx0]) (by rw[hs2];unfold hiB hiS;rw[if_pos hx1];simp[List.getD,hx1]))
        have hdp:dp=K:=by have:=HDP.out;omega
        subst hdp
        clear hz hs2 hs1
        go_wp2_with fail
       rotate_left
       focus
        have z1:(0:Int) < (m:Int):=by omega
        have z2:¬m < j:=by omega
        have z3:0≤(m:Int) - 1:=by omega
        have z4:(m:Int) - 1 < (j:Int):=by omega
        have hx0:m - 1 < n.keys.length:=by have:=HJ.out;omega
        have hx1:¬m < n.keys.length:=by have:=HJ.out;omega
        have q2:=QK.out (m - 1) hx0
        obtain⟨s1,hs1⟩:∃s,s=ba n.keys[m - 1]:=⟨_,rfl⟩
        rw[←hs1] at q2
        have C:=Lib.hid (C1.out s1 his (by rw[hs1];unfold loB;rw[if_neg (by omega)];simp[List.getD,hx0]) (by rw[HHI.out];unfold hiB;rw[if_neg hx1]))
        have hdp:dp=K:=by have:=HDP.out;omega
        subst hdp
        clear hz hz' hs1
        go_wp2_with fail
       all_goals (
        refine C.out.mono ?_
        rintro e w5 ⟨v,rfl,hv,k5⟩
        obtain⟨A5,c5,rfl⟩:=hv.en.slice
        obtain⟨KE,hKE⟩:∃E,E=ents X h' (X.nd kid):=⟨_,rfl⟩
        obtain⟨pm,hpm⟩:∃p,p=1 + (pgs X h' (X.nd kid)).length:=⟨_,rfl⟩
        rw[←HK.out, ←hpm, ←hKE]
        rw[←hKE] at hv
        have HKE:=Lib.hid hKE;have HPM:=Lib.hid hpm
        have hpm2:pm≤60000∧cn≤60000:=by
         have h1:=PB.out;have h2:=HPP.out;have h3:=HC.out
         simp only[List.length_cons] at h1
         exact⟨by omega,by omega⟩
        have HV:=Lib.hid hv
        have OX:=Lib.hid (ER.out.keptF k5)
        have RD:=Lib.hid (Reads.of_own hv)
        have HLn:Hid (((n.kids.take m).flatMap fun c=>ents X h' (X.nd c)).length + KE.length≤100000):=by
         have h1:=EB.out;have h2:=HEE.out;rw[←HKE.out] at h1;show _≤_;omega
        have K5:=Lib.hid k5
        have hB5:Hid (B≤w5.heap.size):=HBK.out _ (KW.out.trans k5)
        clear hKE hpm hv k5 C C1 q0 e1
        go_wp2_with (at_builtin;(refine app_ent (E:=(n.kids.take m).flatMap fun c=>ents X h' (X.nd c)) (E':=KE) rfl (.tmp 153) (.tmp 154) rfl (v:=.slice Ao lo' co) rfl OX.out _ rfl RD.out HLn.out ?_;intro v' w6 hv' hg' hob;obtain⟨A6,c6,l6,rfl,L6,E6,K6,G6⟩:=ent_step OX.out (Kept.refl _ _) hB5.out hv' hg' hob;clear hv' hg' hob))
        rw[HKE.out, ←ES.out] at L6 E6
        go_roundw
        case rel=>exact⟨m + 1,A6,l6,c6,_,cn + pm,by omega,by go_num,rfl,rfl,by go_num,.inr ⟨by omega,rfl⟩,(by have h1:=HC.out;have h2:=HPM.out;have h3:=congrArg List.length PS.out;rw[List.length_append,List.length_cons] at h3;show _=_;omega),E6.out,(KW.out.trans K5.out).then K6.out fun i hi e=>by have:=own_ge OX.out e;have:=HB.out;omega⟩
        case measure=>simp[RowKit.intOf];omega)
      ·obtain rfl:m=n3:=by omega
       go_wp2
       refine bodyPost_ret (v:=.tuple #[.slice Ao lo' co,.int .i64 dp,.int .i64 cn,.bool true]) (by simp[results,Tryz.f99,go_sem]) rfl ?_
       have hl:n.kids.length≤m:=by have:=HE.out.2.2.2;omega
       have h1:=ER.out
       have h2:=HC.out
       rw[List.take_of_length_le hl] at h1 h2
       refine⟨.slice Ao lo' co,?_,h1.base (by have:=HB.out;have:=K1.out.size;have:=M4.out.2.size;omega),(K1.out.trans M4.out.2).trans KW.out⟩
       have h3:dp=((far + (h' + 1):Nat):Int):=by have:=HK.out;have:=HD.out;have:=HN3.out;omega
       have h4:cn=1 + (pgs X (h' + 1) n).length:=h2
       rw[h3,h4]
    ·have h0:h=0:=by
      have h1:=wf_leaf HW.out
      rw[←HE.out.1] at h1
      simpa using h1.symm
     subst h0
     have HLV:Hid (n.vals.length=n.keys.length):=(HW.out.2.1.leaf HE.out.1.symm).1
     have HKL:Hid (n.kvs.length=j):=by show _=_;rw[kvs_len HLV.out];exact HE.out.2.1.symm
     obtain⟨B,hB⟩:∃B,B=w4.heap.size:=⟨_,rfl⟩
     have HB:=Lib.hid hB
     have HBK:Hid (∀wr,Kept (fun _=>False) w4 wr→B≤wr.heap.size):=fun wr kk=>by have:=HB.out;have:=kk.size;omega
     clear hB
     go_wp2_with fail
     go_loopw [20,21,22,84] (fun o _ _ i wr=>∃(m:Nat) (Ao:Option Addr) (lo co:Nat),m≤j∧i = .int .i64 m∧o = .slice Ao lo co∧Hid (lo=m)∧Hid (ERow wr B (.slice Ao lo co) (n.kvs.take m))∧Hid (Kept (fun _=>False) w4 wr)) (fun _ _ _ i _=>j - (RowKit.intOf i).toNat)
     case atStart=>exact⟨0,none,0,0,Nat.zero_le _,rfl,rfl,rfl,ERow.nil _ _,Kept.refl _ _⟩
     case round =>
      obtain⟨m,Ao,lo',co,hm,rfl,rfl,HL,ER,KW⟩:=hrel
      by_cases hlt:m < j
      ·have hmk:m < n.keys.length:=by have:=HE.out.2.1;omega
       have hmv:m < n.vals.length:=by have:=HE.out.2.2.1;have:=HLV.out;omega
       have HTK:Hid (n.kvs.take m ++ [(n.keys[m],n.vals[m])]=n.kvs.take (m + 1)):=by
        show _=_
        rw[List.take_succ_eq_append_getElem (by have:=HKL.out;omega)]
        simp[Nd.kvs]
       have HLn:Hid ((n.kvs.take m).length + 1≤100000∧m≤5):=by have:=HKL.out;rw[List.length_take];exact⟨by omega,by omega⟩
       obtain⟨g,c,ef⟩:=own_form R1.out (by omega)
       injection ef with ef1 ef2 ef3
       subst ef1
       clear ef2 ef3
       obtain⟨g',c',ef⟩:=own_form R2.out (by omega)
       injection ef with ef1 ef2 ef3
       subst ef1
       clear ef2 ef3
       have KR:=Lib.hid (M4.out.2.trans KW.out)
       have q1:=(R1.out.keptF KR.out).at_ hmk
       have q2:=(R2.out.keptF KR.out).at_ hmv
       obtain⟨kx,hkx⟩:∃x,x=n.keys[m]:=⟨_,rfl⟩
       obtain⟨vx,hvx⟩:∃x,x=n.vals[m]:=⟨_,rfl⟩
       rw[←hkx] at q1 HTK
       rw[←hvx] at q2 HTK
       dsimp only[Ss] at q1 q2
       obtain⟨ks,hks⟩:∃x,x=ba kx:=⟨_,rfl⟩
       obtain⟨vs,hvs⟩:∃x,x=ba vx:=⟨_,rfl⟩
       rw[←hks] at q1
       rw[←hvs] at q2
       have e2:=(cell_heap (KW.out.heap M4.out.1 (fun h=>h)) 2).trans rfl
       have hmv':m < n2:=by have:=HE.out.2.2.1;omega
       have hBw:=Lib.hid (HBK.out _ KW.out)
       have RK:=Lib.hid (reads_kv wr hks hvs 75)
       have OX:=Lib.hid (ER.out.keptF ((Kept.refl (fun _=>False) wr).alloc (.cells #[.string ks,.string vs] 75)))
       clear hkx hvx hks hvs hmk hmv
       go_wp2_with (at_builtin;(refine app_ent (E:=n.kvs.take m) (E' := [(kx,vx)]) rfl (.tmp 89) (.tmp 97) rfl (v:=.slice Ao lo' co) rfl OX.out _ rfl RK.out HLn.out.1 ?_;intro v' w3 hv' hg' hob;obtain⟨A3',c3',l3,rfl,L3,E3,K3,G3⟩:=ent_step ER.out ((Kept.refl (fun _=>False) wr).alloc (.cells #[.string ks,.string vs] 75)) hBw.out hv' hg' hob;clear hv' hg' hob))
       rw[HTK.out] at L3 E3
       go_roundw
       case rel=>exact⟨m + 1,A3',l3,c3',by omega,by go_num,rfl,(by have h1:=L3.out;have:=HKL.out;rw[List.length_take] at h1;show _=_;omega),E3.out,KW.out.then K3.out fun i hi e=>by have:=own_ge ER.out e;have:=HB.out;omega⟩
       case measure=>simp[RowKit.intOf];omega
      ·obtain rfl:m=j:=by omega
       go_wp2
       refine bodyPost_ret (v:=.tuple #[.slice Ao lo' co,.int .i64 far,.int .i64 1,.bool true]) (by simp[results,Tryz.f99,go_sem]) rfl ?_
       refine⟨_,rfl,?_,(K1.out.trans M4.out.2).trans KW.out⟩
       have h1:=ER.out
       rw[List.take_of_length_le (by have:=HKL.out;omega)] at h1
       exact h1.base (by have:=HB.out;have:=K1.out.size;have:=M4.out.2.size;omega))
end Go.Proofs.YtfgjehecjgebdaaGreat
/- The laws' walk: through a whole tree. -/
namespace Go.Proofs.YtfgjehecjgebdaaGreat
theorem walk9_calls {q X R} : ∀(h:Nat) {w:World} (_:TW w q X R) (id:Nat) (rt:Bool) (lo:Bs) (hi:Option Bs) (far:Nat) (_:WF X h (X.nd id) lo hi) (_:X.gd id) (_:rt=false→(X.nd id).under=false) (_:far + h≤12) (_:(ents X h (X.nd id)).length≤50000) (_:(pgs X h (X.nd id)).length≤50000),
  Calls Tryz.prog 99 #[.pointer (some ⟨q.t,0,none⟩),.int .i64 id,.bool rt,.string (ba lo),.string (ba (hiS hi)),.int .i64 far] w (WalkTo X h (X.nd id) far w):=by
 intro h
 induction h with
 | zero =>
  intro w tw id rt lo hi far wf hg hr hf hE hP
  exact walk9_step tw id rt lo hi far 0 wf hg hr hf hE hP fun h' e=>by omega
 | succ h ih =>
  intro w tw id rt lo hi far wf hg hr hf hE hP
  refine walk9_step tw id rt lo hi far (h + 1) wf hg hr hf hE hP fun h' e w' k c lo' hi' far' kp hf' hE' hP'=>?_
  obtain rfl:h=h':=by omega
  exact ih (tw.keptF k) c false lo' hi' far' kp.2.2.2 kp.2.1 (fun _=>kp.2.2.1) hf' hE' hP'
end Go.Proofs.YtfgjehecjgebdaaGreat
