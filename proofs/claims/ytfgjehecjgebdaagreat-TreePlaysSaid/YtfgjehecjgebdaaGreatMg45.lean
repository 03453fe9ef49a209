/- Plain: a tree of which nothing is stale; the rounds of TreeSame. -/
import Derived.Test.YtfgjehecjgebdaaGreatMg34
import Derived.Test.YtfgjehecjgebdaaGreatMg42
namespace Go.Proofs.YtfgjehecjgebdaaGreat
theorem insE_len (E:List KV) (k v:Bs):(insE E k v).length≤E.length + 1:=by
 induction E with
 | nil=>simp[insE]
 | cons a t ih =>
  unfold insE at *
  simp only[List.filter_cons,List.length_append,List.length_cons] at *
  by_cases h1:a.1 < k
  ·have h2:¬k < a.1:=bs_asymm h1
   simp only[h1,h2,decide_true,decide_false,if_true]
   simp at *
   omega
  ·simp only[h1,decide_false]
   split<;>split<;>simp at * <;> omega
end Go.Proofs.YtfgjehecjgebdaaGreat
/- Plain: a tree over a checkpoint. -/
namespace Go.Proofs.YtfgjehecjgebdaaGreat
set_option maxHeartbeats 1000000
structure Ckd (p N:Nat) (X:Sto) (l0:List Nat) (K:Nat→Bs):Prop where
 hale:Hale X.D
 disk:OnDisk p X.D.secs l0 X.sup K
 st:∀j,X.s j % 2=l0.getD j 0
 len:X.l.length=p
 secs:2 + 4 * p≤X.D.secs.length
 gen:X.sup.gen≤N
theorem Ckd.blank {p:Nat} (hp:p≤128) (h4:4≤p):Ckd p 1 (blankX p) (List.replicate p 0) (fun _ => []):=by
 obtain⟨-,h2,h3,h4',h5,h6⟩:=blank_disk hp h4
 have hz:∀j,(List.replicate p 0).getD j 0=0:=fun j=>by
  simp only[List.getD_eq_getElem?_getD,List.getElem?_replicate]
  split<;>rfl
 exact⟨h2,by rw[h6];exact h3,fun j=>by unfold Sto.s;rw[h4',hz],by rw[h4',List.length_replicate],by rw[h5];omega,by rw[h6];exact Nat.le_refl _⟩
theorem Ckd.stays {p N X X' l0 K} (h:Ckd p N X l0 K) (s:Stays X X'):Ckd p N X' l0 K :=
 ⟨by rw[s.dv.1];exact h.hale,by rw[s.dv.1,s.dv.2];exact h.disk,fun j=>by rw[s.st];exact h.st j,by rw[s.len];exact h.len,by rw[s.dv.1];exact h.secs,by rw[s.dv.2];exact h.gen⟩
theorem Ckd.read {p N X l0 K} (h:Ckd p N X l0 K) {j:Nat} (hj:X.s j=1∨X.s j=3):X.read (j:Int)=(K j,0):=by
 have hl:j < X.l.length:=live_lt (l:=X.l) (x:=j) (by unfold Sto.s at hj;omega)
 have h0:l0.getD j 0=1:=by rw[←h.st];omega
 unfold Sto.read
 rw[stAt_getD hl,Int.toNat_natCast]
 unfold Sto.s at hj
 rw[if_neg (by omega),if_pos (by omega)]
 exact h.disk.read h.hale rfl j h0
theorem TI.bad {X:Sto} {root:Int} {E:List KV} (t:TI X root E):ckBad X root 1 1=0:=by
 unfold ckBad
 rcases t.tr with⟨rfl, -, -⟩|⟨r,h,rfl, -, -, -, -,hc⟩
 ·rw[if_neg (by omega),if_neg (by omega)]
 ·obtain⟨h1,h2⟩:=us_pos hc
  have hr:=h2 r (by simp)
  have hu:=hc r
  have h3:0 < cntP r (r :: pgs X h (X.nd r)):=List.count_pos_iff.2 (by simp)
  rw[hu] at h3
  have hus:X.s r=1∨X.s r=2:=by
   unfold usN at h3
   split at h3
   ·next hh=>unfold us at hh;simpa using hh
   ·omega
  rw[stAt_getD hr.2]
  unfold Sto.s at hus
  rw[if_neg (by omega),if_neg (by omega)]
theorem kp1_of {x:Nat} (h:x < 4):kp1 x=if x=1∨x=2 then 1 else 0:=by
 obtain rfl|rfl|rfl|rfl:x=0∨x=1∨x=2∨x=3:=by omega
 all_goals rfl
theorem Ckd.check {p N X l0 K root E} (h:Ckd p N X l0 K) (t:TI X root E) (hT:∀i,X.l.getD i 0=2→(X.T i).length≤248) (hN:N≤1000) (hp:p≤128) :
  (X.check root 1 1).1=0∧Ckd p (N + 1) (X.check root 1 1).2 (kp X.l) (ckK X K)∧TI (X.check root 1 1).2 root E∧(X.check root 1 1).2.l=kp X.l∧(∀j,(X.check root 1 1).2.s j < 2)∧(X.check root 1 1).2.D.secs.length=X.D.secs.length∧(X.check root 1 1).2.sup=⟨X.sup.gen + 1,root,1,1⟩:=by
 have h4:∀x∈X.l,x < 4:=fun x hx=>by
  obtain⟨j,hj,rfl⟩:=List.getElem_of_mem hx
  have:=t.l4 j
  unfold Sto.s at this
  rw[List.getD_eq_getElem?_getD,List.getElem?_eq_getElem hj] at this
  exact this
 have hold:∀y,Says (X.D.secs.getD (X.sup.gen % 2) []) y→y.stamp≤X.sup.gen:=by
  intro y hy
  have hs:Says (X.D.secs.getD (X.sup.gen % 2) []) ⟨X.sup.gen,0,supB X.sup l0⟩:=⟨h.disk.sec hp,h.disk.one.symm⟩
  rw[hy.unique hs]
  exact Nat.le_refl _
 have hpg:∀i,X.l.getD i 0=1→(K i).length≤248 ∧ ∀k,k < 4→X.D.secs.getD (2 + 4 * i + k) []=((fullB (K i)).drop (64 * k)).take 64:=fun i hi=>h.disk.page i (by rw[←h.st];unfold Sto.s;rw[hi])
 obtain⟨c1,c2,c3,c4,c5,c6⟩:=ck_disk (X:=X) (p:=p) (K:=K) (root:=root) (log:=1) (next:=1) h.hale hold hpg h4 h.len hp (fun i hi=>hT i (mem_fresh.1 hi).2) h.secs t.bad (by have:=h.gen;omega)
 generalize X.check root 1 1=Y at *
 obtain⟨e,Y⟩:=Y
 dsimp only at *
 have hs:∀j,Y.s j=if X.s j=1∨X.s j=2 then 1 else 0:=fun j=>by
  unfold Sto.s
  rw[c4,kp_map h4,getD_map0 kp1 rfl]
  exact kp1_of (t.l4 j)
 have ck:Ckd p (N + 1) Y (kp X.l) (ckK X K):=⟨c2,by rw[c6] at c3⊢;exact c3,fun j=>by rw[hs, ←c4];show _=Y.s j;rw[hs];split<;>rfl,by rw[c4,kp_map h4,List.length_map];exact h.len,by rw[c5];exact h.secs,by rw[c6];have:=h.gen;simp only;omega⟩
 have hu:∀j,usN (Y.s j)=usN (X.s j):=fun j=>by
  rw[hs]
  have:=t.l4 j
  obtain e|e|e|e:X.s j=0∨X.s j=1∨X.s j=2∨X.s j=3:=by omega
  all_goals (rw[e];rfl)
 have hld:∀j,X.s j=1∨X.s j=2→Y.load (j:Int)=X.load j:=fun j hj=>by
  have hr:Y.read (j:Int)=X.read j:=by
   rw[ck.read (.inl (by rw[hs,if_pos hj]))]
   unfold ckK
   rcases hj with hj|hj
   ·rw[h.read (.inl hj),if_neg (by unfold Sto.s at hj;omega)]
   ·have hl:j < X.l.length:=live_lt (l:=X.l) (x:=j) (by unfold Sto.s at hj;omega)
    unfold Sto.s at hj
    rw[if_pos hj]
    unfold Sto.read
    rw[stAt_getD hl,hj,Int.toNat_natCast]
    rfl
  unfold Sto.load
  rw[hr]
 refine⟨c1,ck,⟨fun j=>by rw[hs];split<;>omega,by rw[ck.len];exact hp,?_⟩,c4,fun j=>by rw[hs];split<;>omega,c5,c6⟩
 rcases t.tr with⟨h1,h2,h3⟩|⟨r,hh,h1,h2,h3,h4',h5,h6⟩
 ·exact .inl ⟨h1,h2,fun x=>by rw[hu];exact h3 x⟩
 ·have hus:∀c∈r :: pgs X hh (X.nd r),X.s c=1∨X.s c=2:=fun c hc=>by
   have h3:0 < cntP c (r :: pgs X hh (X.nd r)):=List.count_pos_iff.2 hc
   rw[h6 c] at h3
   unfold usN at h3
   split at h3
   ·next hh=>unfold us at hh;simpa using hh
   ·omega
  obtain⟨q1,q2,q3⟩:=frame (X:=X) (Y:=Y) (h:=hh) (n:=X.nd r) fun c hc=>hld c (hus c (by simp[hc]))
  have hr:=hld r (hus r (by simp))
  have en:Y.nd r=X.nd r:=by unfold Sto.nd;rw[hr]
  exact .inr ⟨r,hh,h1,by unfold Sto.gd;rw[hr];exact h2,by rw[en];exact q3 _ _ h3,by rw[en];exact h4',by rw[en,q1];exact h5,fun x=>by rw[en,q2,hu];exact h6 x⟩
end Go.Proofs.YtfgjehecjgebdaaGreat
