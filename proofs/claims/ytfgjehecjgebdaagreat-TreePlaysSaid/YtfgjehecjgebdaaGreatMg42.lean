/- The laws of 09: Blank, Begin. -/
import Derived.Test.YtfgjehecjgebdaaGreatMg35
import Derived.Test.YtfgjehecjgebdaaGreatMg38
import Derived.Test.YtfgjehecjgebdaaGreatMg41
import Derived.Test.YtfgjehecjgebdaaGreatMg40
namespace Go.Proofs.YtfgjehecjgebdaaGreat
open Go.RowKit Go.Maps Go.ChangeMaps
theorem lay_p4 {p:Nat} (h4:4≤p) (hp:p≤128):LayGood p 4:=⟨by omega,by omega,by omega,by omega⟩
noncomputable def blankX (p:Nat):Sto:=((sto0 p (dev0 (2 + 4 * p + 4))).check (-1) 1 1).2
theorem kp_rep (n:Nat):kp (List.replicate n 0)=List.replicate n 0:=by simp[kp,chg]
theorem blank_disk {p:Nat} (hp:p≤128) (h4:4≤p):((sto0 p (dev0 (2 + 4 * p + 4))).check (-1) 1 1).1=0∧Hale (blankX p).D∧OnDisk p (blankX p).D.secs (List.replicate p 0) ⟨1, -1,1,1⟩ (fun _ => [])∧(blankX p).l=List.replicate p 0 ∧
  (blankX p).D.secs.length=2 + 4 * p + 4∧(blankX p).sup=⟨1, -1,1,1⟩:=by
 have h:=ck_disk (X:=sto0 p (dev0 (2 + 4 * p + 4))) (p:=p) (K:=fun _ => []) (root := -1) (log:=1) (next:=1) ⟨rfl,rfl,rfl⟩ ?_ ?_ ?_ ?_ (by omega) ?_ ?_ ?_ ?_
 ·obtain⟨h1,h2,h3,h4,h5,h6⟩:=h
  have e:kp (sto0 p (dev0 (2 + 4 * p + 4))).l=List.replicate p 0:=kp_rep p
  have e2:ckK (sto0 p (dev0 (2 + 4 * p + 4))) (fun _ => [])=fun _ => []:=by funext i;simp[ckK,sto0]
  have e3:(⟨(sto0 p (dev0 (2 + 4 * p + 4))).sup.gen + 1, -1,(1:Int).toNat,(1:Int).toNat⟩:Sup)=⟨1, -1,1,1⟩:=rfl
  rw[e3] at h6
  rw[e,e2,h6] at h3
  rw[e] at h4
  exact⟨h1,h2,h3,h4,by unfold blankX;rw[h5];simp[sto0,dev0],h6⟩
 ·intro y hy
  have:(sto0 p (dev0 (2 + 4 * p + 4))).D.secs.getD ((sto0 p (dev0 (2 + 4 * p + 4))).sup.gen % 2) []=zero64:=by
   have e:(sto0 p (dev0 (2 + 4 * p + 4))).sup.gen % 2=0:=rfl
   rw[e]
   simp[sto0,dev0,List.getD]
  rw[this] at hy
  exact absurd hy (zero_says y)
 ·intro i hi
  have e:(sto0 p (dev0 (2 + 4 * p + 4))).l.getD i 0=0:=by
   simp only[sto0,List.getD_eq_getElem?_getD,List.getElem?_replicate]
   split<;>rfl
  omega
 ·exact fun x hx=>by rw[(List.mem_replicate.1 hx).2];omega
 ·simp[sto0]
 ·intro i hi;rw[show fresh (sto0 p (dev0 (2 + 4 * p + 4))).l = [] from fresh_rep p] at hi;simp at hi
 ·simp[sto0,dev0]
 ·unfold ckBad
  simp[sto0]
  omega
 ·simp[sto0]
def BlankPost (p:Nat) (w:World) (e:Ending) (w':World):Prop :=
 ∃st b c m d vs vc,e = .returned (.tuple #[.pointer (some ⟨st,0,none⟩),.bool true])∧IsStore w' st b c m d vs vc p 4 (blankX p)∧Kept (fun _=>False) w w'∧w.heap.size≤c∧w.heap.size≤m∧w.heap.size≤st∧w.heap.size≤d∧(∀k,vs.ownBlock=some k∨vc.ownBlock=some k→w.heap.size≤k)∧w.heap.size≤b
set_option maxHeartbeats 4000000 in
set_option maxRecDepth 100000 in
theorem Blank_calls {p:Nat} (hp:p≤128) (h4:4≤p) (w:World):Calls Tryz.prog 32 #[.int .i64 p] w (BlankPost p w):=by
 have HLG:=Lib.hid (lay_p4 h4 hp)
 have HT:Hid (∀W,Calls Tryz.prog 60 #[.agg #[.int .i64 p,.int .i64 4]] W fun e w'=>e = .returned (.int .i64 (2 + 4 * p + 4:Nat))∧Kept (fun _=>False) W w'):=fun W=>LayTotal_calls HLG.out W
 obtain⟨n,hn⟩:∃n,n=2 + 4 * p + 4:=⟨_,rfl⟩
 have HN:Hid (∀W,Calls Tryz.prog 59 #[.int .i64 n] W (NewPost n W)):=fun W=>DevNew_calls n (by omega) (by omega) W
 rw[←hn] at HT
 have HNN:=Lib.hid hn
 have HB:=Lib.hid (blank_disk hp h4)
 have g1:max (n:Int) 1=n:=by omega
 have hn1:1≤n:=by omega
 clear hp h4 hn
 go_enter Tryz.func32,Tryz.ntmps32
 go_wp2_with fail
 refine(HT.out _).mono ?_
 rintro e w2 ⟨rfl,k2⟩
 have K2:Hid (Kept (fun _=>False) w w2):=((Kept.refl _ w).alloc _).trans k2
 have hb2:=k2.heap (heap_new w _) id
 have HB2:=Lib.hid hb2
 have e0:w2.cell? ⟨w.heap.size,0,none⟩=some (.int .i64 p):=(cell_heap hb2 0).trans rfl
 have e1:w2.cell? ⟨w.heap.size,1,none⟩=some (.int .i64 4):=(cell_heap hb2 1).trans rfl
 clear k2 HT hb2
 go_wp2_with fail
 refine(HN.out w2).mono ?_
 rintro e w3 ⟨vs,rfl,hd,k3,hvs⟩
 have K3:Hid (Kept (fun _=>False) w w3):=K2.out.trans k3
 have HD:=Lib.hid hd
 have HVS:=Lib.hid hvs
 obtain⟨d,hdd⟩:∃d,d=w2.heap.size:=⟨_,rfl⟩
 rw[←hdd] at HD HVS
 rw[←hdd]
 have HDD:=Lib.hid hdd
 have hb3:=k3.heap HB2.out id
 have f0:w3.cell? ⟨w.heap.size,0,none⟩=some (.int .i64 p):=(cell_heap hb3 0).trans rfl
 have f1:w3.cell? ⟨w.heap.size,1,none⟩=some (.int .i64 4):=(cell_heap hb3 1).trans rfl
 have HF:Hid (Calls Tryz.prog 61 #[.pointer (some ⟨d,0,none⟩),.agg #[.int .i64 p,.int .i64 4]] w3 fun e w'=>∃st,e = .returned (.tuple #[.pointer (some ⟨st,0,none⟩),.int .i64 0])∧MadeAt w3 d vs (.slice none 0 0) p 4 (blankX p) st w') :=
  Format_calls (show IsDev w3 d vs (.slice none 0 0) (dev0 (2 + 4 * p + 4)) by rw[←HNN.out];exact HD.out) HLG.out (by simp[dev0]) (by simp[dev0]) HB.out.1
 clear hd k3 hvs hdd hb3 e0 e1 HN
 go_wp2_with fail
 refine HF.out.mono ?_
 rintro e w5 ⟨st,rfl,b,c,m,vc',hst,hb,hc,hm,hs,k5,hvc⟩
 have HS:=Lib.hid hs
 have K5:Hid (Kept (fun _=>False) w w5):=by
  refine K3.out.then k5 ?_
  have h2:=K2.out.size
  rintro i hi (e|e|e)
  ·have:=HDD.out;omega
  ·have:=HVS.out i e;have:=HDD.out;omega
  ·simp[Value.ownBlock] at e
 have c0:w5.cell? ⟨st,0,none⟩=some (.pointer (some ⟨b,0,none⟩)):=(cell_heap hs.head 0).trans rfl
 have HFR:Hid (w.heap.size≤c∧w.heap.size≤m∧w.heap.size≤st∧w.heap.size≤d∧(∀k,vs.ownBlock=some k∨vc'.ownBlock=some k→w.heap.size≤k)∧w.heap.size≤b):=by
  have h4:=K3.out.size
  have h2:=K2.out.size
  have:=HDD.out
  refine⟨by omega,by omega,by omega,by omega,?_,by omega⟩
  rintro k (e|e)
  ·have:=HVS.out k e;omega
  ·rcases hvc k e with e|e
   ·simp[Value.ownBlock] at e
   ·omega
 clear hst hb hc hm hs k5 hvc f0 f1 HF
 go_wp2_with fail
 go_quiet (fail)
 go_wp2_with fail
 go_ret2
 exact⟨st,b,c,m,d,vs,vc',rfl,HS.out.keptF ((Kept.refl _ _).drewN _),K5.out.drewN _,HFR.out⟩
structure NewTree (p:Nat) (B:Nat) (q:TQ):Prop where
 p:q.p=p
 t:B≤q.t
 c:B≤q.c
 m:B≤q.m
 all:q.In (B ≤ ·)
def BeginPost9 (p:Nat) (w:World) (e:Ending) (w':World):Prop :=
 ∃q,e = .returned (.tuple #[.pointer (some ⟨q.t,0,none⟩),.bool true])∧TW w' q (blankX p) (-1)∧Kept (fun _=>False) w w'∧NewTree p w.heap.size q∧q.g=4
theorem blank_tw {p:Nat} (hp:p≤128) (h4:4≤p) {w:World} {st b c m d t:Nat} {vs vc:Value} (h:IsStore w st b c m d vs vc p 4 (blankX p)) (root:Int) (ht:w.heap[t]? = some (.cells #[.pointer (some ⟨st,0,none⟩),.int .i64 root] 152 (0,0))):TW w ⟨t,st,b,c,m,d,vs,vc,p,4⟩ (blankX p) root:=by
 obtain⟨h1,h2,h3,h4',h5,h6⟩:=blank_disk hp h4
 refine⟨h,ht,h2.down,by simp only;rw[h5];omega,by rw[h2.cache];simp,fun i hi=>?_⟩
 rw[h4'] at hi
 simp only[List.getD_eq_getElem?_getD,List.getElem?_replicate] at hi
 split at hi<;>simp at hi
set_option maxHeartbeats 4000000 in
theorem Begin_calls {p:Nat} (hp:p≤128) (h4:4≤p) (w:World):Calls Tryz.prog 37 #[.int .i64 p] w (BeginPost9 p w):=by
 have HB:=Lib.hid (fun w=>Blank_calls hp h4 w)
 have HTW:=Lib.hid (fun(w:World) (st b c m d t:Nat) (vs vc:Value) (h:IsStore w st b c m d vs vc p 4 (blankX p)) (root:Int) (ht:w.heap[t]? = some (.cells #[.pointer (some ⟨st,0,none⟩),.int .i64 root] 152 (0,0)))=>blank_tw hp h4 h root ht)
 clear hp h4
 go_enter Tryz.func37,Tryz.ntmps37
 go_wp2_with fail
 refine(HB.out w).mono ?_
 rintro e w1 ⟨st,b,c,m,d,vs,vc,rfl,hs,k1,h1,h2,h3,h4,h5⟩
 have HS:=Lib.hid hs;have K1:=Lib.hid k1;have H12:Hid (w.heap.size≤c∧w.heap.size≤m∧w.heap.size≤st∧w.heap.size≤d∧(∀k,vs.ownBlock=some k∨vc.ownBlock=some k→w.heap.size≤k)∧w.heap.size≤b):=⟨h1,h2,h3,h4,h5⟩
 clear hs k1 h1 h2 h3 h4 h5
 go_wp2_with fail
 refine(TreeOpen_calls st (-1) w1).mono ?_
 rintro e w2 ⟨t,ht,rfl,htr,k2⟩
 have K2:=Lib.hid k2;have HT:=Lib.hid ht;have HTR:=Lib.hid htr
 clear k2 ht htr
 go_wp2_with fail
 refine bodyPost_ret (v:=.tuple #[.pointer (some ⟨t,0,none⟩),.bool true]) (by simp[results,Tryz.f37,go_sem]) rfl ?_
 have:=K1.out.size;have:=HT.out
 exact⟨⟨t,st,b,c,m,d,vs,vc,p,4⟩,rfl,HTW.out _ _ _ _ _ _ _ _ _ (HS.out.keptF K2.out) (-1) HTR.out,K1.out.trans K2.out,⟨rfl,by simp only;omega,H12.out.1,H12.out.2.1,by
  obtain⟨a1,a2,a3,a4,a5,a6⟩:=H12.out
  rintro k (rfl|rfl|rfl|rfl|rfl|rfl|e|e)
  ·show _≤_;omega
  ·exact a3
  ·exact a6
  ·exact a1
  ·exact a2
  ·exact a4
  ·exact a5 _ (.inl e)
  ·exact a5 _ (.inr e)⟩,rfl⟩
end Go.Proofs.YtfgjehecjgebdaaGreat
