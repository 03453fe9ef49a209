/- Nodes: Text. -/
import Derived.Test.YtfgjehecjgebdaaGreatMg21
import Derived.Test.YtfgjehecjgebdaaGreatMg25
import Derived.Test.YtfgjehecjgebdaaGreatMg06
import Derived.Test.YtfgjehecjgebdaaGreatMg12
namespace Go.Proofs.YtfgjehecjgebdaaGreat
open Go.RowKit
set_option maxHeartbeats 4000000
set_option maxRecDepth 100000
structure TxS (w wr:World) (N:Nat) (cs:Array Value) (v:Value) (bs:Bs):Prop where
 out:IsOut wr (N + 1) v bs
 own:∀g,v.ownBlock=some g→N < g
 kept:Kept (fun _=>False) w wr
 blk:wr.heap[N]? = some (.cells cs 148 (0,0))
 hN:N=w.heap.size
theorem TxS.later {w wr W N cs v bs} (h:TxS w wr N cs v bs) (k:Kept (fun _=>False) wr W):TxS w W N cs v bs :=
 ⟨h.out.keptF k,h.own,h.kept.trans k,k.heap h.blk id,h.hN⟩
theorem TxS.to {w wr w2 N cs v v' bs bs'} (h:TxS w wr N cs v bs) (t:OutTo wr (N + 1) v w2 v' bs'):TxS w w2 N cs v' bs':=by
 have hN:=h.hN
 have hs:=h.kept.size
 refine⟨t.out,fun g hg=>?_,h.kept.then t.kept fun i hi e=>?_,t.kept.heap h.blk ?_,h.hN⟩
 ·rcases t.own g hg with e|e
  ·exact h.own g e
  ·have:=lt_heap h.out.head;omega
 ·rcases e with e|e
  ·omega
  ·have:=h.own i e;omega
 ·rintro(e|e)
  ·omega
  ·have:=h.own N e;omega
theorem kvT_take {l:List (Bs×Bs)} {k:Nat} (hk:k < l.length):(l.take (k + 1)).flatMap kvT=(l.take k).flatMap kvT ++ kvT l[k]:=by
 rw[List.take_succ_eq_append_getElem hk,List.flatMap_append,List.flatMap_singleton]
theorem kvs_len {n:Nd} (h:n.vals.length=n.keys.length):n.kvs.length=n.keys.length:=by simp[Nd.kvs,h]
theorem NdText_calls {w B v n} (h:IsNd w B v n) (hf:n.Fit):Calls Tryz.prog 130 #[v] w fun e w'=>e = .returned (.string (ba n.text))∧Kept (fun _=>False) w w':=by
 obtain⟨l,Ak,a1,ck,Av,a2,cv,Ai,a3,ci,rfl,HE,H,H1,H2,H3⟩:=h.opened
 clear h
 have HF:=Lib.hid hf
 have hls:=hf.lens
 by_cases hl:n.leaf=true
 ·obtain rfl:l=true:=by rw[HE.out.1,hl]
  obtain⟨hvk, -⟩:=hf.leaf hl
  have ha:a1≤20:=by rw[HE.out.2.1];omega
  have hkl:=kvs_len hvk
  have HT:Hid (n.text=encNs [1,(a1:Int)] ++ n.kvs.flatMap kvT):=by show _=_;rw[Nd.text,hl,HE.out.2.1];rfl
  have HK:Hid (n.kvs.length=a1):=by show _=_;rw[hkl,HE.out.2.1]
  have HKV:Hid (∀k (h:k < n.kvs.length) (h1:k < n.keys.length) (h2:k < n.vals.length),n.kvs[k]=(n.keys[k],n.vals[k])):=fun k h h1 h2=>by simp[Nd.kvs]
  have HL:=Lib.hid hls;have HVK:=Lib.hid hvk
  clear hl hf hls hvk hkl
  go_enter Tryz.func130,Tryz.ntmps130
  go_wp2_with fail
  have tx0:Hid (TxS w ((w.alloc (.cells #[.bool true,.slice Ak a1 ck,.slice Av a2 cv,.slice Ai a3 ci] 148)).alloc (.cells #[.slice none 0 0] 198)) w.heap.size #[.bool true,.slice Ak a1 ck,.slice Av a2 cv,.slice Ai a3 ci] (.slice none 0 0) []) :=
   ⟨⟨heap_newAt (by simp) _,World.ownsRow_nil _ _ _ _⟩,(fun g hg=>by cases hg),((Kept.refl _ w).alloc _).alloc _,heap_old (heap_new w _) _,rfl⟩
  obtain⟨W,hW⟩:∃W,W=(w.alloc (.cells #[.bool true,.slice Ak a1 ck,.slice Av a2 cv,.slice Ai a3 ci] 148)).alloc (.cells #[.slice none 0 0] 198):=⟨_,rfl⟩
  have hs:w.heap.size + 1 + 1=W.heap.size:=by rw[hW];simp
  rw[←hW] at tx0
  rw[←hW,hs]
  have C1:=Lib.hid (N_calls (l := [1,(a1:Int)]) (cap:=2) ((tx0.out.out).keptF ((Kept.refl _ W).alloc (.cells #[.int .i64 1,.int .i64 a1] 3))) (fun _=>⟨rfl,RowIs.new W [Ii 1,Ii a1] 3⟩) (by intro x hx;simp at hx;omega) (by simp) (by simp))
  obtain⟨N,hN⟩:∃N,N=w.heap.size:=⟨_,rfl⟩
  rw[←hN] at tx0 C1⊢
  clear hW hs hN
  refine C1.out.mono ?_
  rintro e w1 ⟨rfl,v1,t1⟩
  have tx1:=Lib.hid ((tx0.out.later ((Kept.refl _ W).alloc _)).to t1)
  obtain⟨c0,c1,c2,c3⟩:=nd_cells tx1.out.blk
  clear t1 C1
  obtain⟨b0,hb0⟩:∃b,b=encNs [1,(a1:Int)]:=⟨_,rfl⟩
  have hb1:b0.length≤100:=by rw[hb0];have:=encNs_len [1,(a1:Int)] (by intro x hx;simp at hx;omega);simp at this⊢;omega
  rw[←hb0] at HT tx1
  have tx2:Hid (TxS w w1 N #[.bool true,.slice Ak a1 ck,.slice Av a2 cv,.slice Ai a3 ci] v1 (b0 ++ (n.kvs.take 0).flatMap kvT)):=by have h:=tx1.out;show TxS _ _ _ _ _ _;simpa using h
  have HB0:=Lib.hid hb1
  clear hb0 tx1 tx0 hb1
  go_wp2
  go_loopw [4,5,16] (fun _ _ i wr=>∃k:Nat,k≤a1∧i = .int .i64 k ∧ ∃v,Hid (TxS w wr N #[.bool true,.slice Ak a1 ck,.slice Av a2 cv,.slice Ai a3 ci] v (b0 ++ (n.kvs.take k).flatMap kvT))) (fun _ _ i _=>a1 - (RowKit.intOf i).toNat)
  case atStart=>exact⟨0,Nat.zero_le _,rfl,v1,tx2⟩
  case round =>
   obtain⟨k,hk,rfl,v,tx⟩:=hrel
   clear tx2 c0 c1 c2 c3
   by_cases hlt:k < a1
   ·have k1:k < n.keys.length:=by have:=HE.out.2.1;omega
    have k2:k < n.vals.length:=by have:=HE.out.2.1;have:=HVK.out;omega
    have k3:k < a2:=by have:=HE.out.2.2.1;omega
    have hx:SRow wr B _ n.keys:=(H1.out.keptF tx.out.kept)
    have hy:SRow wr B _ n.vals:=(H2.out.keptF tx.out.kept)
    obtain⟨gk,ck',ek⟩:=own_form hx (by omega)
    obtain⟨gv,cv',ev⟩:=own_form hy (by omega)
    injection ek with e1 e1' e1''
    injection ev with e2 e2' e2''
    subst e1 e2
    clear e1' e1'' e2' e2''
    have q1:wr.cell? ⟨gk,k,none⟩=some (.string (ba n.keys[k])):=hx.at_ k1
    have q2:wr.cell? ⟨gv,k,none⟩=some (.string (ba n.vals[k])):=hy.at_ k2
    obtain⟨s,hs⟩:∃s,s=ba n.keys[k]:=⟨_,rfl⟩
    obtain⟨t,ht⟩:∃t,t=ba n.vals[k]:=⟨_,rfl⟩
    have l1:n.keys[k].length≤24:=HF.out.kl _ (List.getElem_mem _)
    have l2:n.vals[k].length≤32:=HF.out.vl _ (List.getElem_mem _)
    obtain⟨c0,c1,c2,c3⟩:=nd_cells tx.out.blk
    have hlen:(b0 ++ (n.kvs.take k).flatMap kvT).length≤2000:=by
     have h1:=kvT_small (n.kvs.take k) (fun p hp=>⟨HF.out.kl _ (List.of_mem_zip (mem_takeB hp)).1,HF.out.vl _ (List.of_mem_zip (mem_takeB hp)).2⟩)
     have h2:(n.kvs.take k).length≤k:=List.length_take_le _ _
     have h3:=HB0.out
     rw[List.length_append];omega
    have C2:=Lib.hid (S_calls (l := [n.keys[k],n.vals[k]]) (cap:=2) (tx.out.out.keptF ((Kept.refl _ wr).alloc (.cells #[.string (ba n.keys[k]),.string (ba n.vals[k])] 9))) (fun _=>⟨rfl,RowIs.new wr [St n.keys[k],St n.vals[k]] 9⟩) (by intro x hx;simp at hx;rcases hx with rfl|rfl<;>omega) (by simp) (by omega))
    have HE2:Hid (b0 ++ (n.kvs.take (k + 1)).flatMap kvT=b0 ++ (n.kvs.take k).flatMap kvT ++ encSs [n.keys[k],n.vals[k]]):=by
     show _=_
     rw[kvT_take (by rw[HK.out];exact hlt),HKV.out k (by rw[HK.out];exact hlt) k1 k2,List.append_assoc];rfl
    rw[←hs] at q1
    rw[←ht] at q2
    rw[←hs, ←ht] at C2
    clear hx hy hs ht l1 l2 hlen
    go_wp2_with fail
    refine C2.out.mono ?_
    rintro e w2 ⟨rfl,v2,t2⟩
    have tx3:=Lib.hid ((tx.out.later ((Kept.refl _ wr).alloc _)).to t2)
    rw[←HE2.out] at tx3
    clear t2 C2 q1 q2 c0 c1 c2 c3
    go_wp2
    go_roundw
    case rel=>exact⟨k + 1,by omega,by go_num,v2,tx3⟩
    case measure=>simp[RowKit.intOf];omega
   ·obtain rfl:k=a1:=by omega
    have C3:=Lib.hid (OutText_calls tx.out.out)
    have HTX:Hid (ba (b0 ++ (n.kvs.take k).flatMap kvT)=ba n.text∧Kept (fun _=>False) w wr):=⟨by rw[HT.out,List.take_of_length_le (by rw[HK.out];exact Nat.le_refl _)],tx.out.kept⟩
    clear tx
    go_wp2_with fail
    refine C3.out.mono ?_
    rintro e w2 ⟨rfl,rfl⟩
    rw[HTX.out.1]
    clear C3
    go_wp2
    go_ret
    exact⟨rfl,HTX.out.2⟩
 ·obtain rfl:l=false:=by rw[HE.out.1];simpa using hl
  have hl:n.leaf=false:=by simpa using hl
  obtain⟨hvk, -⟩:=hf.inner hl
  have ha:a3≤20:=by rw[HE.out.2.2.2];omega
  have HT:Hid (n.text=encNs [2,(a3:Int)] ++ encNs (n.kids.map fun i:Nat=>(i:Int)) ++ encSs n.keys):=by show _=_;rw[Nd.text,hl,HE.out.2.2.2];rfl
  have HL:=Lib.hid hls;have HVK:=Lib.hid hvk
  clear hl hf hls hvk
  go_enter Tryz.func130,Tryz.ntmps130
  go_wp2_with fail
  have tx0:Hid (TxS w ((w.alloc (.cells #[.bool false,.slice Ak a1 ck,.slice Av a2 cv,.slice Ai a3 ci] 148)).alloc (.cells #[.slice none 0 0] 198)) w.heap.size #[.bool false,.slice Ak a1 ck,.slice Av a2 cv,.slice Ai a3 ci] (.slice none 0 0) []) :=
   ⟨⟨heap_newAt (by simp) _,World.ownsRow_nil _ _ _ _⟩,(fun g hg=>by cases hg),((Kept.refl _ w).alloc _).alloc _,heap_old (heap_new w _) _,rfl⟩
  obtain⟨W,hW⟩:∃W,W=(w.alloc (.cells #[.bool false,.slice Ak a1 ck,.slice Av a2 cv,.slice Ai a3 ci] 148)).alloc (.cells #[.slice none 0 0] 198):=⟨_,rfl⟩
  rw[←hW] at tx0
  rw[←hW]
  obtain⟨N,hN⟩:∃N,N=w.heap.size:=⟨_,rfl⟩
  rw[←hN] at tx0⊢
  clear hW hN
  obtain⟨c0,c1,c2,c3⟩:=nd_cells tx0.out.blk
  refine wp_region_held_drew (S:=(fun w'=>w'.cell? ⟨N,1,none⟩=some (.slice Ak a1 ck)∧w'.cell? ⟨N,3,none⟩=some (.slice Ai a3 ci))) (by kernel_rfl) ⟨c1,c3⟩ (fun hHeld=>?_)
  clear c0 c1 c2 c3
  refine tk 0 (h:=?_)
  (try simp only[lits])
  refine tk 1 (h:=?_)
  (try simp only[lits])
  refine tk 2 (h:=?_)
  (try simp only[lits])
  refine tk 5 (h:=?_)
  (try simp only[lits])
  refine tk 6 (h:=?_)
  (try simp only[lits])
  refine tk 8 (h:=?_)
  (try simp only[lits])
  refine tk 9 (h:=?_)
  (try simp only[lits])
  have tx1:=Lib.hid (tx0.out.later ((Kept.refl _ W).drew.alloc (.cells #[.int .i64 2,.int .i64 a3] 3)))
  have hs0:Hid (∀ {w' v bs},TxS w w' N #[.bool false,.slice Ak a1 ck,.slice Av a2 cv,.slice Ai a3 ci] v bs→w'.cell? ⟨N,1,none⟩=some (.slice Ak a1 ck)∧w'.cell? ⟨N,3,none⟩=some (.slice Ai a3 ci)):=fun h=>by
   obtain⟨_,c1,_,c3⟩:=nd_cells h.blk
   exact⟨c1,c3⟩
  have C1:=Lib.hid (N_calls (l := [2,(a3:Int)]) (cap:=2) tx1.out.out (fun _=>⟨rfl,RowIs.new W.drew [Ii 2,Ii a3] 3⟩) (by intro x hx;simp at hx;omega) (by simp) (by simp))
  refine wpAnyH_ready (rs := [3]) (by kernel_rfl) (by simp) ?_
  refine AllReadyH.cons rfl (fun K hK=>?_) AllReadyH.nil
  go_simp
  refine hK.out _ _ (hs0.out tx1.out) (fun hHeld=>?_)
  clear hK
  (try simp only[lits])
  refine wpAnyH_ready (rs := [4]) (by kernel_rfl) (by simp) ?_
  refine AllReadyH.cons rfl (fun K hK=>?_) AllReadyH.nil
  go_simp
  refine C1.out.mono ?_
  rintro e w1 ⟨rfl,v1,t1⟩
  have tx2:=Lib.hid (tx1.out.to t1)
  obtain⟨b0,hb0⟩:∃b,b=encNs [2,(a3:Int)]:=⟨_,rfl⟩
  have hb1:b0.length≤100:=by rw[hb0];have:=encNs_len [2,(a3:Int)] (by intro x hx;simp at hx;omega);simp at this⊢;omega
  have hk0:0 < n.kids.length:=by have:=HVK.out;omega
  rw[←hb0] at HT tx2
  rw[List.nil_append] at tx2
  refine hK.out _ _ (hs0.out tx2.out) (fun hHeld=>?_)
  have C2:Hid (Calls Tryz.prog 116 #[.pointer (some ⟨N + 1,0,none⟩),.slice Ai a3 ci] w1 (UPost (N + 1) v1 (b0 ++ encNs (n.kids.map fun i:Nat=>(i:Int))) w1)):=by
   have hi:IRow w1 B (.slice Ai a3 ci) n.kids:=H3.out.keptF tx2.out.kept
   obtain⟨g,c',e⟩:=own_form hi hk0
   injection e with e1 e2 _
   subst e1
   have hlen:(n.kids.map fun i:Nat=>(i:Int)).length=a3:=by rw[List.length_map];exact e2.symm
   have h:=N_calls (A:=some ⟨g,0,none⟩) (l:=n.kids.map fun i:Nat=>(i:Int)) (cap:=ci) tx2.out.out (fun _=>⟨rfl,by
    have:=RowIs.of_own (w:=w1) (base:=B) (e:=3) (g:=g) (cap:=ci) (n:=n.kids.length) (xs:=n.kids.map I) (by rw[←e2];exact e2 ▸ hi)
    have e3:(n.kids.map fun i:Nat=>(i:Int)).map Ii=n.kids.map I:=by rw[List.map_map];rfl
    rw[e3];exact this⟩) (by
     intro x hx
     obtain⟨i,hi,rfl⟩:=List.mem_map.1 hx
     have:=HF.out.kid i hi
     omega) (by have:=HL.out;simp;omega) (by omega)
   rw[hlen] at h
   exact h
  clear hK hb0 t1 C1 tx1 tx0
  (try simp only[lits])
  refine wpAnyH_ready (rs := [7]) (by kernel_rfl) (by simp) ?_
  refine AllReadyH.cons rfl (fun K hK=>?_) AllReadyH.nil
  go_simp
  refine C2.out.mono ?_
  rintro e w2 ⟨rfl,v2,t2⟩
  have tx3:=Lib.hid (tx2.out.to t2)
  obtain⟨b1,hb2⟩:∃b,b=b0 ++ encNs (n.kids.map fun i:Nat=>(i:Int)):=⟨_,rfl⟩
  have hb3:b1.length≤1000:=by
   rw[hb2,List.length_append]
   have h1:=encNs_small n.kids (fun i hi=>by have:=HF.out.kid i hi;omega)
   have:=HL.out
   omega
  rw[←hb2] at HT tx3
  refine hK.out _ _ (hs0.out tx3.out) (fun hHeld=>?_)
  have C3:Hid (Calls Tryz.prog 109 #[.pointer (some ⟨N + 1,0,none⟩),.slice Ak a1 ck] w2 (UPost (N + 1) v2 (b1 ++ encSs n.keys) w2)):=by
   have hi:SRow w2 B (.slice Ak a1 ck) n.keys:=H1.out.keptF tx3.out.kept
   have e2:a1=n.keys.length:=HE.out.2.1
   by_cases h0:0 < n.keys.length
   ·obtain⟨g,c',e⟩:=own_form hi h0
    injection e with e1 _ _
    subst e1
    have h:=S_calls (A:=some ⟨g,0,none⟩) (l:=n.keys) (cap:=ck) tx3.out.out (fun _=>⟨rfl,RowIs.of_own (w:=w2) (base:=B) (e:=9) (g:=g) (cap:=ck) (n:=n.keys.length) (xs:=n.keys.map St) (by rw[←e2];exact e2 ▸ hi)⟩) (by
      intro x hx
      have:=HF.out.kl x hx
      omega) (by have:=HL.out;omega) (by omega)
    rw[←e2] at h
    exact h
   ·have h:=S_calls (A:=Ak) (g:=0) (l:=n.keys) (cap:=ck) tx3.out.out (fun h=>absurd h h0) (by
      intro x hx
      have:=HF.out.kl x hx
      omega) (by have:=HL.out;omega) (by omega)
    rw[←e2] at h
    exact h
  clear hK hb2 t2 C2 tx2
  (try simp only[lits])
  refine wpAnyH_ready (rs := [10]) (by kernel_rfl) (by simp) ?_
  refine AllReadyH.cons rfl (fun K hK=>?_) AllReadyH.nil
  go_simp
  refine C3.out.mono ?_
  rintro e w3 ⟨rfl,v3,t3⟩
  have tx4:=Lib.hid (tx3.out.to t3)
  rw[←HT.out] at tx4
  have C4:=Lib.hid (OutText_calls tx4.out.out)
  refine hK.out _ _ (hs0.out tx4.out) (fun hHeld=>?_)
  obtain⟨s,hs⟩:∃s,s=ba n.text:=⟨_,rfl⟩
  have HS:=Lib.hid hs
  rw[←hs] at C4
  clear hK t3 C3 tx3 hs
  (try simp only[lits])
  refine wpAnyH_ready (rs := [11]) (by kernel_rfl) (by simp) ?_
  refine AllReadyH.cons rfl (fun K hK=>?_) AllReadyH.nil
  go_simp
  refine C4.out.mono ?_
  rintro e w4 ⟨rfl,rfl⟩
  refine hK.out _ _ (hs0.out tx4.out) (fun hHeld=>?_)
  clear hK
  (try simp only[lits])
  refine tk 12 (h:=?_)
  (try simp only[lits])
  refine wpAnyH_done (by kernel_rfl) ?_ _
  go_wp2
  go_ret
  exact⟨by rw[HS.out];rfl,tx4.out.kept⟩
end Go.Proofs.YtfgjehecjgebdaaGreat
