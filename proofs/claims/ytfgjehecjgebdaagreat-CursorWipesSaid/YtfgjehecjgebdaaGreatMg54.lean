/- cursor.Wipe; CursorWipes' walk. -/
import Derived.Test.YtfgjehecjgebdaaGreatMg53
import Derived.Test.YtfgjehecjgebdaaGreatMg49
namespace Go.Proofs.YtfgjehecjgebdaaGreat
open Go.RowKit Go.Maps Go.ChangeMaps
set_option maxRecDepth 100000
attribute [local go_sem] Oper.semAt_some
def delAll (E:List KV) (G:List KV):List KV:=G.foldl (fun L e=>delE L e.1) E
theorem delAll_len:∀(G E:List KV),(delAll E G).length≤E.length
 | [],_=>Nat.le_refl _
 | g :: G,E=>Nat.le_trans (delAll_len G (delE E g.1)) (delE_le E g.1)
theorem delAll_snoc (E:List KV) (G:List KV) (e:KV):delAll E (G ++ [e])=delE (delAll E G) e.1:=by unfold delAll;rw[List.foldl_append];rfl
def WipeTo (n:Nat) (E:List KV) (w:World) (q:TQ) (e:Ending) (w':World):Prop :=
 e = .returned (.tuple #[.int .i64 n,.int .i64 0]) ∧ ∃X root,TW w' q X root∧TE X root E∧Kept (fun k=>k=q.c∨k=q.m∨k=q.t) w w'
set_option maxHeartbeats 8000000 in
theorem Wipe_calls {w q X root E} (tw:TW w q X root) (te:TE X root E) (hl:E.length≤60) (p:Bs) (hp:p.length≤10000):Calls Tryz.prog 56 #[.pointer (some ⟨q.t,0,none⟩),.string (ba p)] w (WipeTo (undE E p).length (delAll E (undE E p)) w q):=by
 have CU:=Lib.hid (CurUnder_calls tw te.ti (by omega) p hp 1073741824)
 obtain⟨G,hG⟩:∃G,G=undE E p:=⟨_,rfl⟩
 have hGL:G.length≤60:=by rw[hG];exact Nat.le_trans (List.length_filter_le _ _) hl
 rw[←hG,List.take_of_length_le (by show G.length≤1073741824;omega)] at CU
 rw[←hG]
 have HEL:=Lib.hid hl;have T0:=Lib.hid tw;have TT0:=Lib.hid te
 obtain⟨ps,hps⟩:∃s,s=ba p:=⟨_,rfl⟩
 rw[←hps] at CU⊢
 obtain⟨n,hn⟩:∃n,n=G.length:=⟨_,rfl⟩
 have hn60:n≤60:=by omega
 have HN:=Lib.hid hn
 rw[←hn]
 have QL:=Lib.hid tw.low
 clear tw te hl hp hG hps hGL hn
 go_enter Tryz.func56,Tryz.ntmps56
 go_wp2_with fail
 refine CU.out.mono ?_
 rintro e w1 ⟨v1,rfl,r1,k1⟩
 obtain⟨A1,c1,rfl⟩:=r1.en.slice
 rw[←HN.out] at r1⊢
 have R1:=Lib.hid r1;have K1:=Lib.hid k1;have T1:=Lib.hid (T0.out.keptF k1)
 have NQ:Hid (∀g,w.heap.size≤g → ¬(g=q.c∨g=q.m∨g=q.t)):=fun g hg e=>by
  have:g < w.heap.size:=by rcases e with rfl|rfl|rfl<;>exact QL.out _ (by simp)
  omega
 clear r1 k1 CU
 go_wp2_with fail
 go_loopw [23] (fun i wr=>∃(j:Nat) (X':Sto) (r':Int),j≤n∧i = .int .i64 j∧Hid (CRow wr w.heap.size (.slice A1 n c1) G)∧Hid (TW wr q X' r')∧Hid (TE X' r' (delAll E (G.take j)))∧Hid (Kept (fun k=>k=q.c∨k=q.m∨k=q.t) w wr)) (fun i _=>n - (RowKit.intOf i).toNat)
 case atStart=>exact⟨0,_,_,Nat.zero_le _,rfl,R1.out,T1.out,TT0.out,K1.out.mono fun _ _=>False.elim⟩
 case round =>
  obtain⟨j,X',r',hj,rfl,RR,TR,TT,KW⟩:=hrel
  by_cases hlt:j < n
  ·have hjE:j < G.length:=by have:=HN.out;omega
   obtain⟨b,o,c',e,hb,q1,q2⟩:=RR.out.en.at hjE
   injection e with e1 e2 e3
   subst e1
   clear e2 e3
   obtain⟨⟨ek,ev⟩,he⟩:∃x,x=G[j]:=⟨_,rfl⟩
   have HTK:Hid (delAll E (G.take (j + 1))=delE (delAll E (G.take j)) ek):=by show _=_;rw[List.take_succ_eq_append_getElem hjE,delAll_snoc, ←he]
   rw[←he] at q1 q2
   dsimp only[Ss] at q1 q2
   obtain⟨bb,r5,X5,hp,te'⟩:=TT.out.del' ek (by have:=delAll_len (G.take j) E;have:=HEL.out;omega)
   have TE':Hid (TE X5 r5 (delAll E (G.take (j + 1)))):=by rw[HTK.out];exact te'
   obtain⟨kx,hkx⟩:∃x,x=ba ek:=⟨_,rfl⟩
   obtain⟨vx,hvx⟩:∃x,x=ba ev:=⟨_,rfl⟩
   have CD:=Lib.hid fun w' (kk:Kept (fun _=>False) wr w')=>TreeDelete_calls (TR.out.keptF kk) ek
   rw[hp] at CD
   unfold DelTo at CD
   dsimp only at CD
   rw[←hkx] at q1 CD
   rw[←hvx] at q2
   clear hkx hvx he hjE hp te'
   go_wp2_with fail
   refine(CD.out _ ((Kept.refl _ _).alloc _)).mono ?_
   rintro e w5 ⟨rfl,tw5,k5⟩
   have K5:Hid (Kept (fun k=>k=q.c∨k=q.m∨k=q.t) wr w5):=((Kept.refl _ _).alloc _).trans k5
   have T5:=Lib.hid tw5
   have R5:=Lib.hid (K5.out.own RR.out fun g hg=>NQ.out g (own_ge RR.out hg))
   have KW5:=Lib.hid (KW.out.trans K5.out)
   clear tw5 k5 CD q1 q2 hb
   go_wp2_with fail
   go_roundw
   case rel=>exact⟨j + 1,X5,r5,by omega,by go_num,R5.out,T5.out,TE'.out,KW5.out⟩
   case measure=>simp[RowKit.intOf];omega
  ·obtain rfl:j=n:=by omega
   have TF:Hid (TE X' r' (delAll E G)):=by have h:=TT.out;rw[HN.out,List.take_length] at h;exact h
   go_wp2_with fail
   refine bodyPost_ret (v:=.tuple #[.int .i64 j,.int .i64 0]) (by simp[results,Tryz.f56,go_sem]) rfl ?_
   exact⟨rfl,X',r',TR.out,TF.out,KW.out⟩
set_option maxHeartbeats 8000000 in
theorem cursorWipes_walk {A:Option Addr} {len cap b0 off:Nat} {K N:Nat→Int} {S V:Nat→ByteArray} {w:World} (hm:len≤maxLen) (hA:Acts4 w A len b0 off K N S V) (fs:ByteArray) (hfs:fs.size≤maxLen) :
  Calls Tryz.prog 11 #[.slice A len cap,.string fs] w fun e w'=>e = .returned (.bool true)∧Kept (fun _=>False) w w':=by
 have CB:=Lib.hid (Build_calls (cap:=cap) hm hA)
 obtain⟨E,hE⟩:∃E,E=buildE K S V (min len 60):=⟨_,rfl⟩
 have HEL:Hid (E.length≤60):=by have:=buildE_len K S V (min len 60);show _≤_;rw[hE];omega
 have HEK:Hid (∀e∈E,e.1.length≤10000):=fun e he=>by rw[hE] at he;have:=buildE_keys _ _ _ _ e he;omega
 rw[←hE] at CB
 have CC:=Lib.hid (fun w=>Cut_calls fs 30 w hfs (by omega))
 obtain⟨k,hk⟩:∃p,p=cutB fs 30:=⟨_,rfl⟩
 have HK30:Hid (k.length≤10000):=by have:=cutB_len fs 30;show _≤_;rw[hk];omega
 rw[cutB_ba, ←hk] at CC
 obtain⟨ks,hks⟩:∃s,s=ba k:=⟨_,rfl⟩
 have HKS:=Lib.hid hks
 rw[←hks] at CC
 obtain⟨G,hG⟩:∃G,G=undE E k:=⟨_,rfl⟩
 have HGL:Hid (G.length≤60):=by rw[hG];exact Nat.le_trans (List.length_filter_le _ _) HEL.out
 have HGE:=Lib.hid hG
 obtain⟨n,hn⟩:∃n,n=G.length:=⟨_,rfl⟩
 have hn60:n≤60:=by have:=HGL.out;omega
 have HN:=Lib.hid hn
 clear hA hE hk hks hm hfs hG hn
 go_enter Tryz.func11,Tryz.ntmps11
 go_wp2_with fail
 refine CB.out.mono ?_
 rintro e w1 ⟨q,l,X,root,rfl,tw,te,el,hq,hlo,k1⟩
 obtain⟨Al,cl,rfl⟩:=el.en.slice
 obtain⟨ln,hln⟩:∃n,n=E.length:=⟨_,rfl⟩
 rw[←hln] at el hlo⊢
 have HLN:=Lib.hid hln
 have T1:=Lib.hid tw;have TT:=Lib.hid te;have E1:=Lib.hid el;have K1:=Lib.hid k1;have HQ:=Lib.hid hq;have HLO:=Lib.hid hlo;have QL:=Lib.hid tw.low
 clear tw te el hq hlo k1 CB hln
 go_wp2_with fail
 refine(CC.out _).mono ?_
 rintro e w2 ⟨rfl,rfl⟩
 clear CC
 go_wp2_with fail
 refine(awake10_calls w1).mono ?_
 rintro e w2 ⟨rfl,k2⟩
 have T2:=Lib.hid (T1.out.keptF k2);have E2:=Lib.hid (E1.out.keptF k2);have K2:=Lib.hid (K1.out.trans k2)
 have C4:=Lib.hid (refUnder_calls E2.out.en (by have:=HEL.out;omega) k HK30.out HEK.out)
 have C5:=Lib.hid fun w' (kk:Kept (fun _=>False) w2 w')=>Wipe_calls (T2.out.keptF kk) TT.out HEL.out k HK30.out
 rw[←HKS.out, ←HGE.out] at C4 C5
 rw[←HN.out] at C5
 have NQ:Hid (∀g,w1.heap.size≤g → ¬(g=q.c∨g=q.m∨g=q.t)):=fun g hg e=>by
  have:g < w1.heap.size:=by rcases e with rfl|rfl|rfl<;>exact QL.out _ (by simp)
  omega
 have NL:Hid (∀g,(Value.slice Al ln cl).ownBlock=some g → ¬(g=q.c∨g=q.m∨g=q.t)):=fun g hg e=>by
  have:g < g:=by rcases e with rfl|rfl|rfl<;>exact HLO.out _ hg _ (by simp)
  omega
 have CQ:Hid (∀a b:World,Kept (fun _=>False) w a→Kept (fun k=>k=q.c∨k=q.m∨k=q.t) a b→Kept (fun _=>False) w b):=fun a b h1 h3=>h1.then h3 fun i hi e=>by
  have:w.heap.size≤i:=by rcases e with rfl|rfl|rfl<;>exact HQ.out _ (by simp)
  omega
 have HS12:=Lib.hid k2.size
 clear k2 T1 E1 K1 QL HLO HQ
 go_wp2_with fail
 refine C4.out.mono ?_
 rintro e w3 ⟨v3,rfl,r3,k3⟩
 obtain⟨A3,c3,rfl⟩:=r3.en.slice
 rw[←HN.out] at r3⊢
 have R3:=Lib.hid r3;have K3:=Lib.hid k3;have E3:=Lib.hid (E2.out.keptF k3);have KW3:=Lib.hid (K2.out.trans k3)
 clear r3 k3 C4
 go_wp2_with fail
 refine(C5.out _ K3.out).mono ?_
 rintro e w4 ⟨rfl,X4,r4,tw4,te4,k4⟩
 have T4:=Lib.hid tw4;have TT4:=Lib.hid te4;have KW4:=Lib.hid (CQ.out _ _ KW3.out k4)
 have R4:Hid (ERow w4 w2.heap.size (.slice A3 n c3) G):=R3.out.kept k4 fun g hg=>NQ.out g (by have:=own_ge R3.out hg;have:=HS12.out;omega)
 have E4:Hid (ERow w4 w.heap.size (.slice Al ln cl) E):=E3.out.kept k4 NL.out
 clear tw4 te4 k4 C5 R3 E3 KW3
 go_wp2_with fail
 go_loopw [6,38] (fun l i wr=>∃(j:Nat) (A':Option Addr) (l' c':Nat),j≤n∧i = .int .i64 j∧l = .slice A' l' c'∧Hid (l'=(delAll E (G.take j)).length)∧Hid (EnS wr (.slice A' l' c') (delAll E (G.take j)))∧Hid (Kept (fun _=>False) w4 wr)) (fun _ i _=>n - (RowKit.intOf i).toNat)
 case atStart=>exact⟨0,Al,ln,cl,Nat.zero_le _,rfl,rfl,HLN.out,E4.out.en,Kept.refl _ _⟩
 case round =>
  obtain⟨j,A',l',c',hj,rfl,rfl,HLL,EE,KK⟩:=hrel
  by_cases hlt:j < n
  ·have hjE:j < G.length:=by have:=HN.out;omega
   obtain⟨b,o,c9,e,hb,q1,q2⟩:=(R4.out.en.keptF KK.out).at hjE
   injection e with e1 e2 e3
   subst e1
   clear e2 e3
   obtain⟨⟨ek,ev⟩,he⟩:∃x,x=G[j]:=⟨_,rfl⟩
   have HTK:Hid (delAll E (G.take (j + 1))=delE (delAll E (G.take j)) ek):=by show _=_;rw[List.take_succ_eq_append_getElem hjE,delAll_snoc, ←he]
   rw[←he] at q1 q2
   dsimp only[Ss] at q1 q2
   obtain⟨kx,hkx⟩:∃x,x=ba ek:=⟨_,rfl⟩
   obtain⟨vx,hvx⟩:∃x,x=ba ev:=⟨_,rfl⟩
   have CD:=Lib.hid fun w' (kk:Kept (fun _=>False) wr w')=>refDel9_calls (EE.out.keptF kk) (by have:=delAll_len (G.take j) E;have:=HEL.out;omega) ek
   rw[←HTK.out] at CD
   rw[←hkx] at q1 CD
   rw[←hvx] at q2
   clear hkx hvx he hjE
   go_wp2_with fail
   refine(CD.out _ ((Kept.refl _ _).alloc _)).mono ?_
   rintro e w5 ⟨v5,rfl,er5,k5⟩
   obtain⟨A5,c5,rfl⟩:=er5.en.slice
   have R5:=Lib.hid er5.en
   have K5:=Lib.hid (KK.out.trans (((Kept.refl _ wr).alloc (.cells #[.string kx,.string vx] 75)).trans k5))
   clear er5 k5 CD q1 q2 hb
   go_wp2_with fail
   go_roundw
   case rel=>exact⟨j + 1,A5,_,c5,by omega,by go_num,rfl,rfl,R5.out,K5.out⟩
   case measure=>simp[RowKit.intOf];omega
  ·obtain rfl:j=n:=by omega
   have hT:G.take j=G:=by rw[HN.out,List.take_length]
   rw[hT] at EE
   have CS:=Lib.hid (Sound9_calls (T4.out.keptF KK.out) TT4.out.ti EE.out (by have:=delAll_len G E;have:=HEL.out;omega))
   clear hT HLL
   go_wp2_with fail
   refine CS.out.mono ?_
   rintro e w5 ⟨rfl,k5⟩
   have K5:=Lib.hid (KW4.out.trans (KK.out.trans k5))
   clear k5 CS
   go_wp2
   refine bodyPost_ret (v:=.bool true) (by simp[results,Tryz.f11,go_sem]) rfl ?_
   exact⟨rfl,K5.out⟩
end Go.Proofs.YtfgjehecjgebdaaGreat
