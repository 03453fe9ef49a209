/- Plain: how many leaves a tree has, and how many others. -/
import Derived.Test.YtfgjehecjgebdaaGreatMg34
namespace Go.Proofs.YtfgjehecjgebdaaGreat
set_option maxHeartbeats 1000000
noncomputable def lfc (X:Sto) (P:List Nat):Nat:=(P.filter fun c=>(X.nd c).leaf).length
noncomputable def inc (X:Sto) (P:List Nat):Nat:=(P.filter fun c => !(X.nd c).leaf).length
theorem lfc_inc (X:Sto) (P:List Nat):lfc X P + inc X P=P.length:=by
 unfold lfc inc
 induction P with
 | nil=>rfl
 | cons a t ih =>
  rw[List.filter_cons,List.filter_cons]
  cases (X.nd a).leaf
  ·simp only[Bool.not_false,if_true,Bool.false_eq_true,if_false,List.length_cons];omega
  ·simp only[Bool.not_true,if_true,Bool.false_eq_true,if_false,List.length_cons];omega
theorem lfc_app (X:Sto) (P Q:List Nat):lfc X (P ++ Q)=lfc X P + lfc X Q:=by unfold lfc;rw[List.filter_append,List.length_append]
theorem inc_app (X:Sto) (P Q:List Nat):inc X (P ++ Q)=inc X P + inc X Q:=by unfold inc;rw[List.filter_append,List.length_append]
theorem lfc_cons (X:Sto) (c:Nat) (P:List Nat):lfc X (c :: P)=(if (X.nd c).leaf then 1 else 0) + lfc X P:=by
 unfold lfc
 rw[List.filter_cons]
 cases (X.nd c).leaf<;>simp<;>omega
theorem inc_cons (X:Sto) (c:Nat) (P:List Nat):inc X (c :: P)=(if (X.nd c).leaf then 0 else 1) + inc X P:=by
 unfold inc
 rw[List.filter_cons]
 cases (X.nd c).leaf<;>simp<;>omega
theorem flat_counts {X:Sto} {h a b m:Nat} {f:Nat→List KV} {cs:List Nat} (hc:∀c∈cs,9 * inc X (c :: pgs X h (X.nd c)) + b≤a * lfc X (c :: pgs X h (X.nd c))∧m≤lfc X (c :: pgs X h (X.nd c))∧2 * lfc X (c :: pgs X h (X.nd c))≤(f c).length) :
  9 * inc X (cs.flatMap fun c=>c :: pgs X h (X.nd c)) + cs.length * b≤a * lfc X (cs.flatMap fun c=>c :: pgs X h (X.nd c))∧cs.length * m≤lfc X (cs.flatMap fun c=>c :: pgs X h (X.nd c))∧2 * lfc X (cs.flatMap fun c=>c :: pgs X h (X.nd c))≤(cs.flatMap f).length:=by
 induction cs with
 | nil=>simp[lfc,inc]
 | cons c cs ih =>
  obtain⟨h1,h2,h3⟩:=hc c (by simp)
  obtain⟨i1,i2,i3⟩:=ih fun c' hc'=>hc c' (by simp[hc'])
  rw[List.flatMap_cons,List.flatMap_cons,lfc_app,inc_app,List.length_append,List.length_cons,Nat.add_mul,Nat.add_mul,Nat.mul_add,Nat.mul_add,Nat.mul_add,Nat.one_mul,Nat.one_mul]
  exact⟨by omega,by omega,by omega⟩
theorem counts {X:Sto} : ∀(h:Nat) {c:Nat} {l u},WF X h (X.nd c) l u→(X.nd c).under=false→h≤2 →
  9 * inc X (c :: pgs X h (X.nd c))≤(if h=0 then 0 else h + 2) * lfc X (c :: pgs X h (X.nd c))∧3 ^ h≤lfc X (c :: pgs X h (X.nd c))∧2 * lfc X (c :: pgs X h (X.nd c))≤(ents X h (X.nd c)).length
 | 0,c,_,_,w,hu,_=>by
  have hl:=w.1
  have h2:=not_under.1 hu
  rw[hl] at h2
  have h3:=kvs_len (w.2.1.leaf hl).1
  have h4:(X.nd c).len=(X.nd c).keys.length:=by simp[Nd.len,hl]
  have e1:lfc X (c :: pgs X 0 (X.nd c))=1:=by rw[show pgs X 0 (X.nd c) = [] from rfl,lfc_cons,hl];rfl
  have e2:inc X (c :: pgs X 0 (X.nd c))=0:=by rw[show pgs X 0 (X.nd c) = [] from rfl,inc_cons,hl];rfl
  rw[e1,e2]
  refine⟨by simp,by simp,?_⟩
  show 2 * 1≤(X.nd c).kvs.length
  simp only[if_true] at h2
  omega
 | h + 1,c,_,_,w,hu,hh=>by
  have hl:=w.1
  have h2:=not_under.1 hu
  rw[hl] at h2
  have hk:3≤(X.nd c).kids.length:=by simpa[Nd.len,hl] using h2
  obtain⟨f1,f2,f3⟩:=flat_counts (X:=X) (h:=h) (a:=if h=0 then 0 else h + 2) (b:=0) (m:=3 ^ h) (f:=fun c=>ents X h (X.nd c)) (cs:=(X.nd c).kids) fun c' hc'=>by
   obtain⟨l,u,k⟩:=seg_all (K:=KP X h) w.2.2 c' hc'
   obtain⟨i1,i2,i3⟩:=counts h k.2.2.2 k.2.2.1 (by omega)
   exact⟨by omega,i2,i3⟩
  have e1:lfc X (c :: pgs X (h + 1) (X.nd c))=lfc X ((X.nd c).kids.flatMap fun c=>c :: pgs X h (X.nd c)):=by rw[lfc_cons,hl];simp[pgs]
  have e2:inc X (c :: pgs X (h + 1) (X.nd c))=1 + inc X ((X.nd c).kids.flatMap fun c=>c :: pgs X h (X.nd c)):=by rw[inc_cons,hl];simp[pgs]
  rw[e1,e2]
  have h9:3 * 3 ^ h≤(X.nd c).kids.length * 3 ^ h:=Nat.mul_le_mul_right _ hk
  refine⟨?_,by rw[Nat.pow_succ];omega,f3⟩
  rcases (show h=0∨h=1 by omega) with rfl|rfl
  ·simp only[if_true,Nat.pow_zero] at *
   simp only[Nat.zero_add,Nat.reduceAdd,Nat.add_one_ne_zero,if_false]
   omega
  ·simp only[Nat.reduceAdd,Nat.pow_one,Nat.add_one_ne_zero,if_false] at *
   omega
theorem counts_root {X:Sto} {h r:Nat} {l u} (w:WF X h (X.nd r) l u) (ok:(X.nd r).Ok) (hh:h≤3) :
  9 * inc X (r :: pgs X h (X.nd r))≤4 * lfc X (r :: pgs X h (X.nd r)) + 9∧((h=0∧lfc X (r :: pgs X h (X.nd r))=1∧inc X (r :: pgs X h (X.nd r))=0)∨(2 * 3 ^ (h - 1)≤lfc X (r :: pgs X h (X.nd r))∧2 * lfc X (r :: pgs X h (X.nd r))≤(ents X h (X.nd r)).length)):=by
 cases h with
 | zero =>
  have hl:=w.1
  have e1:lfc X (r :: pgs X 0 (X.nd r))=1:=by rw[show pgs X 0 (X.nd r) = [] from rfl,lfc_cons,hl];rfl
  have e2:inc X (r :: pgs X 0 (X.nd r))=0:=by rw[show pgs X 0 (X.nd r) = [] from rfl,inc_cons,hl];rfl
  rw[e1,e2]
  exact⟨by omega,.inl ⟨rfl,rfl,rfl⟩⟩
 | succ h =>
  have hl:=w.1
  have hk:=(ok.inner hl).1
  obtain⟨f1,f2,f3⟩:=flat_counts (X:=X) (h:=h) (a:=4) (b:=0) (m:=3 ^ h) (f:=fun c=>ents X h (X.nd c)) (cs:=(X.nd r).kids) fun c' hc'=>by
   obtain⟨l,u,k⟩:=seg_all (K:=KP X h) w.2.2 c' hc'
   obtain⟨i1,i2,i3⟩:=counts h k.2.2.2 k.2.2.1 (by omega)
   refine⟨?_,i2,i3⟩
   have:(if h=0 then 0 else h + 2) * lfc X (c' :: pgs X h (X.nd c'))≤4 * lfc X (c' :: pgs X h (X.nd c')):=Nat.mul_le_mul_right _ (by split<;>omega)
   omega
  have e1:lfc X (r :: pgs X (h + 1) (X.nd r))=lfc X ((X.nd r).kids.flatMap fun c=>c :: pgs X h (X.nd c)):=by rw[lfc_cons,hl];simp[pgs]
  have e2:inc X (r :: pgs X (h + 1) (X.nd r))=1 + inc X ((X.nd r).kids.flatMap fun c=>c :: pgs X h (X.nd c)):=by rw[inc_cons,hl];simp[pgs]
  rw[e1,e2]
  have h9:2 * 3 ^ h≤(X.nd r).kids.length * 3 ^ h:=Nat.mul_le_mul_right _ hk
  exact⟨by omega,.inr ⟨by rw[Nat.add_sub_cancel];omega,f3⟩⟩
end Go.Proofs.YtfgjehecjgebdaaGreat
/- Plain: what a change makes stale: one leaf, or two. -/
namespace Go.Proofs.YtfgjehecjgebdaaGreat
set_option maxHeartbeats 1000000
structure KeepW (W W':Wk):Prop where
 ld:∀x,W.X.s x ≠ 0→W'.X.s x ≠ 0∧W'.X.load x=W.X.load x
 st:∀x,W'.X.s x % 2=1→W.X.s x=W'.X.s x
theorem KeepW.refl (W:Wk):KeepW W W:=⟨fun _ h=>⟨h,rfl⟩,fun _ _=>rfl⟩
theorem KeepW.trans {A B C:Wk} (h:KeepW A B) (h':KeepW B C):KeepW A C :=
 ⟨fun x hx=>⟨(h'.ld x (h.ld x hx).1).1,(h'.ld x (h.ld x hx).1).2.trans (h.ld x hx).2⟩,fun x hx=>by
  have e:=h'.st x hx
  rw[←e] at hx⊢
  exact h.st x hx⟩
theorem KeepW.add {W W':Wk} (h:KeepW W W') (i:Nat):KeepW W (W'.add i):=⟨h.ld,h.st⟩
theorem add_keepW (W:Wk) (i:Nat):KeepW W (W.add i):=(KeepW.refl W).add i
theorem putP_keepW (W:Wk) (n:Nd):KeepW W (putP W n).2∧(putP W n).2.old=W.old:=by
 unfold putP
 split
 ·exact⟨KeepW.refl W,rfl⟩
 ·cases hk:tkAt W.X.l with
  | none=>exact⟨KeepW.refl W,rfl⟩
  | some i =>
   obtain⟨h1,h2⟩:=tk_some hk
   refine⟨⟨fun x hx=>?_,fun x hx=>?_⟩,rfl⟩
   ·have ne:x ≠ i:=fun e=>hx (by subst e;exact h2)
    have e:(W.X.l.set i 2).getD x 0=W.X.l.getD x 0:=by rw[getD_set h1,if_neg ne]
    refine⟨?_,load_keep (X:=W.X) x rfl (by simp) (.inl e) (.inl (by simp[upd,ne]))⟩
    unfold Sto.s at *
    simp only
    rw[e];exact hx
   ·unfold Sto.s at *
    simp only at hx⊢
    rw[getD_set h1] at hx⊢
    by_cases ne:x=i
    ·rw[if_pos ne] at hx;exact absurd hx (by decide)
    ·rw[if_neg ne]
theorem layP_keepW (W:Wk) (n:Nd):KeepW W (layP W n).2.2∧(layP W n).2.2.old=W.old:=by
 unfold layP
 split
 ·exact putP_keepW W n
 ·obtain⟨a,b⟩:=putP_keepW W n.lo
  split
  ·exact⟨a,b⟩
  ·obtain⟨c,d⟩:=putP_keepW (putP W n.lo).2 n.hi
   exact⟨a.trans c,d.trans b⟩
theorem riseP_keepW:∀(L:List Stp) (W:Wk) (p:Parts),KeepW W (riseP W p L).2.2 ∧ ∀x∈(riseP W p L).2.2.old,x∈W.old ∨ ∃s∈L,x=s.id
 | [],W,p=>⟨KeepW.refl W,fun _ h=>.inl h⟩
 | s :: r,W,p=>by
  obtain⟨a,b⟩:=layP_keepW (W.add s.id) (s.n.repl s.at_ (s.at_ + 1) p.1 p.2)
  have hb:∀x∈(W.add s.id).old,x∈W.old∨x=s.id:=fun x hx=>by
   rcases List.mem_append.1 (show x∈W.old ++ [s.id] from hx) with h|h
   ·exact .inl h
   ·exact .inr (by simpa using h)
  unfold riseP
  split
  ·refine⟨(add_keepW W s.id).trans a,fun x hx=>?_⟩
   rw[b] at hx
   rcases hb x hx with h|h
   ·exact .inl h
   ·exact .inr ⟨s,by simp,h⟩
  ·obtain⟨c,d⟩:=riseP_keepW r (layP (W.add s.id) (s.n.repl s.at_ (s.at_ + 1) p.1 p.2)).2.2 (layP (W.add s.id) (s.n.repl s.at_ (s.at_ + 1) p.1 p.2)).1
   refine⟨((add_keepW W s.id).trans a).trans c,fun x hx=>?_⟩
   rcases d x hx with h|⟨t,ht,h⟩
   ·rw[b] at h
    rcases hb x h with h|h
    ·exact .inl h
    ·exact .inr ⟨s,by simp,h⟩
   ·exact .inr ⟨t,by simp[ht],h⟩
theorem upP_keepW (L:List Stp) (W:Wk) (k v:Bs):KeepW W (upP W k v L).2.2 ∧ ∀x∈(upP W k v L).2.2.old,x∈W.old ∨ ∃s∈L,x=s.id:=by
 cases L with
 | nil=>exact⟨KeepW.refl W,fun _ h=>.inl h⟩
 | cons s r =>
  obtain⟨a,b⟩:=layP_keepW (W.add s.id) (s.n.set k v)
  have hb:∀x∈(W.add s.id).old,x∈W.old∨x=s.id:=fun x hx=>by
   rcases List.mem_append.1 (show x∈W.old ++ [s.id] from hx) with h|h
   ·exact .inl h
   ·exact .inr (by simpa using h)
  simp only[upP]
  split
  ·refine⟨(add_keepW W s.id).trans a,fun x hx=>?_⟩
   rw[b] at hx
   rcases hb x hx with h|h
   ·exact .inl h
   ·exact .inr ⟨s,by simp,h⟩
  ·obtain⟨c,d⟩:=riseP_keepW r (layP (W.add s.id) (s.n.set k v)).2.2 (layP (W.add s.id) (s.n.set k v)).1
   refine⟨((add_keepW W s.id).trans a).trans c,fun x hx=>?_⟩
   rcases d x hx with h|⟨t,ht,h⟩
   ·rw[b] at h
    rcases hb x h with h|h
    ·exact .inl h
    ·exact .inr ⟨s,by simp,h⟩
   ·exact .inr ⟨t,by simp[ht],h⟩
theorem putAll_keepW:∀(l:List Nd) (W:Wk),KeepW W (putAll W l).2.2∧(putAll W l).2.2.old=W.old
 | [],W=>⟨KeepW.refl W,rfl⟩
 | n :: r,W=>by
  obtain⟨a,b⟩:=putP_keepW W n
  unfold putAll
  split
  ·exact⟨a,b⟩
  ·obtain⟨c,d⟩:=putAll_keepW r (putP W n).2
   exact⟨a.trans c,d.trans b⟩
theorem levelP_keepW (W:Wk) (s:Stp) (kid:Nd):KeepW W (levelP W s kid).2.2∧(∀x∈(levelP W s kid).2.2.old,x∈W.old∨(x=lvOther s∧(W.X.load x).1.leaf=kid.leaf))∧((levelP W s kid).2.1=0→(levelP W s kid).1.leaf=false):=by
 unfold levelP
 split
 ·obtain⟨a,b⟩:=putP_keepW W kid
  exact⟨a,fun x hx=>.inl (by rw[←b];exact hx),fun _=>rfl⟩
 ·split
  ·next h=>exact⟨KeepW.refl W,fun x hx=>.inl hx,fun e=>absurd e h⟩
  ·split
   ·exact⟨KeepW.refl W,fun x hx=>.inl hx,fun e=>absurd e (show ¬(17:Int)=0 by decide)⟩
   ·next hl =>
    simp only
    generalize (nLevel _ _ _)=l
    obtain⟨a,b⟩:=putAll_keepW l (W.add (lvOther s))
    have hb:∀x∈(putAll (W.add (lvOther s)) l).2.2.old,x∈W.old∨(x=lvOther s∧(W.X.load x).1.leaf=kid.leaf):=fun x hx=>by
     rw[b] at hx
     rcases List.mem_append.1 (show x∈W.old ++ [lvOther s] from hx) with h|h
     ·exact .inl h
     ·have e:x=lvOther s:=by simpa using h
      exact .inr ⟨e,by rw[e];exact Classical.not_not.1 hl⟩
    split
    ·next h=>exact⟨(add_keepW W _).trans a,hb,fun e=>absurd e h⟩
    ·exact⟨(add_keepW W _).trans a,hb,fun _=>rfl⟩
theorem sinkP_keepW:∀(L:List Stp) (W:Wk) (n:Nd),(∀s∈L,s.n.leaf=false)→KeepW W (sinkP W n L).2.2 ∧ ∃c, ∀x∈(sinkP W n L).2.2.old,W.X.s x ≠ 0→x∈W.old∨(∃s∈L,x=s.id)∨(x=c∧n.leaf=true)∨(W.X.load x).1.leaf=false
 | [],W,n,_=>⟨KeepW.refl W,0,fun _ h _=>.inl h⟩
 | s :: r,W,n,hL=>by
  obtain⟨a,b,c⟩:=levelP_keepW W s n
  have hb:∀x∈(levelP W s n).2.2.old,x∈W.old∨(x=lvOther s∧n.leaf=true)∨(W.X.load x).1.leaf=false:=fun x hx=>by
   rcases b x hx with h|⟨h1,h2⟩
   ·exact .inl h
   ·cases hn:n.leaf
    ·exact .inr (.inr (by rw[h2,hn]))
    ·exact .inr (.inl ⟨h1,rfl⟩)
  unfold sinkP
  split
  ·refine⟨a,lvOther s,fun x hx _=>?_⟩
   rcases hb x hx with h|h|h
   ·exact .inl h
   ·exact .inr (.inr (.inl h))
   ·exact .inr (.inr (.inr h))
  ·next h0 =>
   obtain⟨d,c',e⟩:=sinkP_keepW r ((levelP W s n).2.2.add s.id) (levelP W s n).1 fun t ht=>hL t (by simp[ht])
   have k1:=a.add s.id
   refine⟨k1.trans d,lvOther s,fun x hx hs=>?_⟩
   rcases e x hx (k1.ld x hs).1 with h|⟨t,ht,h⟩|⟨h1,h2⟩|h
   ·rcases List.mem_append.1 (show x∈(levelP W s n).2.2.old ++ [s.id] from h) with h|h
    ·rcases hb x h with h|h|h
     ·exact .inl h
     ·exact .inr (.inr (.inl h))
     ·exact .inr (.inr (.inr h))
    ·exact .inr (.inl ⟨s,by simp,by simpa using h⟩)
   ·exact .inr (.inl ⟨t,by simp[ht],h⟩)
   ·rw[c (Classical.not_not.1 h0)] at h2;cases h2
   ·exact .inr (.inr (.inr (by rw[←(k1.ld x hs).2];exact h)))
theorem downT_n {X:Sto} {k:Bs} : ∀(f id:Nat), ∀s∈(downT X k f id).1,s.n=(X.load s.id).1
 | 0,id,s,h=>by simp[downT] at h
 | f + 1,id,s,h=>by
  rw[downT] at h
  split at h
  ·simp at h
  ·split at h
   ·simp only[List.mem_singleton] at h;subst h;rfl
   ·split at h
    ·simp at h
    ·rcases List.mem_cons.1 h with rfl|h
     ·rfl
     ·exact downT_n f _ s h
theorem gv_out (l:List Nat) (i:Nat) (x:Nat):(gvRes l (i:Int)).2.getD x 0=3→l.getD x 0=3∨(x=i∧l.getD x 0=1):=by
 intro h
 by_cases hi:i < l.length
 ·rw[gv_cast l i hi] at h
  split at h
  ·rw[getD_set hi] at h
   split at h
   ·exact absurd h (by decide)
   ·exact .inl h
  ·split at h
   ·next h1 =>
    rw[getD_set hi] at h
    split at h
    ·next e=>exact .inr ⟨e,by rw[e];exact h1⟩
    ·exact .inl h
   ·exact .inl h
 ·unfold gvRes at h
  rw[stAt_cast,List.getElem?_eq_none (by omega)] at h
  exact .inl (by simpa using h)
theorem give_out:∀(ids l:List Nat) (x:Nat),(giveAll l ids).getD x 0=3→l.getD x 0=3∨(x∈ids∧l.getD x 0=1)
 | [],l,x,h=>.inl h
 | i :: ids,l,x,h=>by
  have h':(giveAll (gvRes l (i:Int)).2 ids).getD x 0=3:=h
  rcases give_out ids _ x h' with h1|⟨h1,h2⟩
  ·rcases gv_out l i x h1 with h1|⟨h1,h2⟩
   ·exact .inl h1
   ·exact .inr ⟨by simp[h1],h2⟩
  ·refine .inr ⟨by simp[h1],?_⟩
   by_cases hi:i < l.length
   ·rw[gv_cast l i hi] at h2
    split at h2
    ·rw[getD_set hi] at h2
     split at h2
     ·exact absurd h2 (by decide)
     ·exact h2
    ·split at h2
     ·rw[getD_set hi] at h2
      split at h2
      ·exact absurd h2 (by decide)
      ·exact h2
     ·exact h2
   ·unfold gvRes at h2
    rw[stAt_cast,List.getElem?_eq_none (by omega)] at h2
    simpa using h2
theorem done_stale {X:Sto} {W:Wk} (k:KeepW (wk0 X) W) {r r0:Int} (x:Nat) (h:(doneP W r 0 r0).2.2.s x=3):X.s x=3∨(x∈W.old∧X.s x=1):=by
 unfold doneP at h
 rw[if_pos rfl] at h
 rcases give_out W.old W.X.l x h with h|⟨h,h1⟩
 ·exact .inl ((k.st x (by show W.X.l.getD x 0 % 2=1;rw[h])).trans h)
 ·exact .inr ⟨h,(k.st x (by show W.X.l.getD x 0 % 2=1;rw[h1])).trans h1⟩
theorem putT_stale {X:Sto} {root:Int} {k v:Bs} (h0:(putT X root k v).1=0):∃c, ∀x,(putT X root k v).2.2.s x=3→X.s x=3∨x=c∨(X.nd x).leaf=false:=by
 unfold putT at h0⊢
 split at h0
 ·exact absurd h0 (show ¬(3:Int)=0 by decide)
 ·next h1 =>
  rw[if_neg h1]
  split at h0
  ·next h2 =>
   rw[if_pos h2]
   obtain⟨a,b⟩:=putP_keepW (wk0 X) (leaf0.set k v)
   refine⟨0,fun x hx=>.inl ?_⟩
   have e:(putP (wk0 X) (leaf0.set k v)).1.2=0:=by
    apply Classical.byContradiction
    intro hn
    unfold doneP at h0
    rw[if_neg hn] at h0
    exact hn h0
   rw[e] at hx
   rcases done_stale a x hx with h|⟨h, -⟩
   ·exact h
   ·rw[b] at h;cases h
  ·next h2 =>
   rw[if_neg h2]
   split at h0
   ·next h3=>exact absurd h0 h3
   ·next h3 =>
    rw[if_neg h3]
    have w:=downT_ok (X:=X) (k:=k) 12 root.toNat (Classical.not_not.1 h3)
    have hn:=downT_n (X:=X) (k:=k) 12 root.toNat
    generalize (downT X k 12 root.toNat).1=L at *
    have key:∃c, ∀s∈L.reverse,s.id=c∨(X.nd s.id).leaf=false:=by
     obtain⟨s,r,hr⟩:∃s r,L.reverse=s :: r:=List.exists_cons_of_ne_nil (by simpa using w.ne)
     have hL:L=r.reverse ++ [s]:=by rw[←List.reverse_reverse L,hr];simp
     refine⟨s.id,fun t ht=>?_⟩
     rw[hr] at ht
     rcases List.mem_cons.1 ht with rfl|ht
     ·exact .inl rfl
     ·have h4:=w.inner t (by rw[hL,List.dropLast_concat];simpa using ht)
      have h5:=hn t (by rw[hL];simp[ht])
      exact .inr (by unfold Sto.nd;rw[←h5];exact h4)
    obtain⟨c,hc⟩:=key
    obtain⟨a,b⟩:=upP_keepW L.reverse (wk0 X) k v
    refine⟨c,?_⟩
    simp only at h0⊢
    generalize upP (wk0 X) k v L.reverse=u at *
    have hb:∀x∈u.2.2.old,x=c∨(X.nd x).leaf=false:=fun x hx=>by
     rcases b x hx with h|⟨s,hs,rfl⟩
     ·cases h
     ·exact hc s hs
    split at h0
    ·next h6 =>
     unfold doneP at h0
     rw[if_neg h6] at h0
     exact absurd h0 h6
    ·next h6 =>
     rw[if_neg h6]
     have ht:KeepW u.2.2 (topP u.2.2 u.1).2∧(topP u.2.2 u.1).2.old=u.2.2.old:=by
      unfold topP
      split
      ·exact⟨KeepW.refl _,rfl⟩
      ·exact putP_keepW _ _
     intro x hx
     have e:(topP u.2.2 u.1).1.2=0:=by
      apply Classical.byContradiction
      intro hn
      unfold doneP at h0
      rw[if_neg hn] at h0
      exact hn h0
     rw[e] at hx
     rcases done_stale (a.trans ht.1) x hx with h|⟨h, -⟩
     ·exact .inl h
     ·rw[ht.2] at h;exact .inr (hb x h)
theorem delT_stale {X:Sto} {root:Int} {k:Bs} (h0:(delT X root k).2.1=0):∃c c', ∀x,(delT X root k).2.2.2.s x=3→X.s x=3∨x=c∨x=c'∨(X.nd x).leaf=false:=by
 unfold delT at h0⊢
 split at h0
 ·next h1=>rw[if_pos h1];exact⟨0,0,fun x hx=>.inl hx⟩
 ·next h1 =>
  rw[if_neg h1]
  have h3:(downT X k 12 root.toNat).2=0:=by
   apply Classical.byContradiction
   intro h
   refine h1 ?_
   unfold getT
   by_cases hr:root < 0
   ·rw[if_pos hr];exact .inr rfl
   ·rw[if_neg hr,if_pos h];exact .inr rfl
  have w:=downT_ok (X:=X) (k:=k) 12 root.toNat h3
  have hn:=downT_n (X:=X) (k:=k) 12 root.toNat
  generalize (downT X k 12 root.toNat).1=L at *
  obtain⟨s,r,hr⟩:∃s r,L.reverse=s :: r:=List.exists_cons_of_ne_nil (by simpa using w.ne)
  have hL:L=r.reverse ++ [s]:=by rw[←List.reverse_reverse L,hr];simp
  have hi:∀t∈r,t.n.leaf=false∧t.n=(X.load t.id).1:=fun t ht=>⟨w.inner t (by rw[hL,List.dropLast_concat];simpa using ht),hn t (by rw[hL];simp[ht])⟩
  rw[hr] at h0⊢
  simp only at h0⊢
  obtain⟨a,c',b⟩:=sinkP_keepW r ((wk0 X).add s.id) (s.n.cut k) fun t ht=>(hi t ht).1
  have a:=(add_keepW (wk0 X) s.id).trans a
  have hb:∀x∈(sinkP ((wk0 X).add s.id) (s.n.cut k) r).2.2.old,X.s x=1→x=s.id∨x=c'∨(X.nd x).leaf=false:=fun x hx hs=>by
   rcases b x hx (by show X.s x ≠ 0;omega) with h|⟨t,ht,rfl⟩|⟨h, -⟩|h
   ·exact .inl (by simpa[wk0,Wk.add] using h)
   ·exact .inr (.inr (by unfold Sto.nd;rw[←(hi t ht).2];exact(hi t ht).1))
   ·exact .inr (.inl h)
   ·exact .inr (.inr h)
  refine⟨s.id,c',?_⟩
  generalize sinkP ((wk0 X).add s.id) (s.n.cut k) r=u at *
  have fin:∀(W:Wk) (q:Int),KeepW u.2.2 W→W.old=u.2.2.old → ∀x,(doneP W q 0 root).2.2.s x=3→X.s x=3∨x=s.id∨x=c'∨(X.nd x).leaf=false:=fun W q hk ho x hx=>by
   rcases done_stale (a.trans hk) x hx with h|⟨h,h1⟩
   ·exact .inl h
   ·rw[ho] at h;exact .inr (hb x h h1)
  split at h0
  ·next h6 =>
   unfold doneP at h0
   rw[if_neg h6] at h0
   exact absurd h0 h6
  ·next h6 =>
   rw[if_neg h6]
   split at h0
   ·next h7=>rw[if_pos h7];exact fin _ _ (KeepW.refl _) rfl
   ·next h7 =>
    rw[if_neg h7]
    split at h0
    ·next h8=>rw[if_pos h8];exact fin _ _ (KeepW.refl _) rfl
    ·next h8 =>
     rw[if_neg h8]
     have e:(putP u.2.2 u.1).1.2=0:=by
      apply Classical.byContradiction
      intro hn
      simp only at h0
      unfold doneP at h0
      rw[if_neg hn] at h0
      exact hn h0
     obtain⟨p1,p2⟩:=putP_keepW u.2.2 u.1
     simp only
     rw[e]
     exact fin _ _ p1 p2
end Go.Proofs.YtfgjehecjgebdaaGreat
/- Plain: where the checkpoint's pages are kept too, pages suffice. -/
namespace Go.Proofs.YtfgjehecjgebdaaGreat
set_option maxHeartbeats 1000000
theorem HiE.low {h:Nat} {E:List KV} (q:HiE h E) (he:E.length≤99):h≤3:=by
 rcases q with q|q
 ·omega
 ·apply Classical.byContradiction
  intro hn
  have h7:3 ^ 3≤3 ^ (h - 1):=Nat.pow_le_pow_right (by omega) (by omega)
  have h8:(3:Nat) ^ 3=27:=by decide
  omega
theorem TI.pages {X:Sto} {root:Int} {E:List KV} (t:TI X root E) (he:E.length≤99):∃P,(∀x,cntP x P=usN (X.s x))∧9 * inc X P≤4 * lfc X P + 9∧((lfc X P≤1∧inc X P=0)∨2 * lfc X P≤E.length):=by
 rcases t.tr with⟨rfl,rfl,h0⟩|⟨r,h,rfl,hg,w,hl1,rfl,hc⟩
 ·exact⟨[],fun x=>by rw[h0];rfl,by simp[lfc,inc],.inl (by simp[lfc,inc])⟩
 ·have h3:=(hiE hg w).low he
  obtain⟨a,b⟩:=counts_root w (gd_nd_ok hg) h3
  refine⟨_,hc,a,?_⟩
  rcases b with⟨-,b,c⟩|⟨-,b⟩
  ·exact .inl ⟨by omega,c⟩
  ·exact .inr b
theorem not_short9 {X Y:Sto} {root rootY:Int} {E EY:List KV} {x u v:Nat} (t:TI X root E) (tY:TI Y rootY EY) (hs:Stays Y X) (hY:∀j,Y.s j < 2) (hx:EY.length≤x) (hE:E.length + v≤x + u) (hn:x + u + v≤99∧(x=0∨x + u + v≤98)) (h128:X.l.length=128)
  (hb:∃d:List Nat,d.length≤u + 2 * v ∧ ∀j,X.s j=3→j∈d∨(Y.nd j).leaf=false):¬Short X 9:=by
 rintro⟨fr,f1,f2,f3⟩
 obtain⟨d,d1,d2⟩:=hb
 obtain⟨P,p1,p2,p3⟩:=t.pages (by omega)
 obtain⟨Q,q1,q2,q3⟩:=tY.pages (by omega)
 obtain⟨n1,n2⟩:=us_pos q1
 have s1:(((Q.filter fun c=>(Y.nd c).leaf).filter fun c=>X.s c=3)).length≤lfc Y Q:=List.length_filter_le _ _
 have s2:(((Q.filter fun c=>(Y.nd c).leaf).filter fun c=>X.s c=3)).length≤d.length:=nd_sub ((n1.filter _).filter _) fun c hc=>by
  simp only[List.mem_filter,decide_eq_true_eq] at hc
  rcases d2 c hc.2 with h|h
  ·exact h
  ·rw[hc.1.2] at h;cases h
 have hL:(List.range X.l.length).length≤(P ++ ((Q.filter fun c=>(Y.nd c).leaf).filter fun c=>X.s c=3) ++ (Q.filter fun c => !(Y.nd c).leaf) ++ fr).length:=by
  refine nd_sub List.nodup_range fun c hc=>?_
  simp only[List.mem_append]
  rcases f3 c (List.mem_range.1 hc) with h|h
  ·have h4:=t.l4 c
   by_cases h3:X.s c=3
   ·have hp:=hs.st c
    have hy:=hY c
    have hy1:Y.s c=1:=by omega
    have hq:c∈Q:=by
     have:=q1 c
     rw[hy1] at this
     exact List.count_pos_iff.1 (show 0 < cntP c Q by rw[this];decide)
    cases hl:(Y.nd c).leaf
    ·exact .inl (.inr (List.mem_filter.2 ⟨hq,by simp[hl]⟩))
    ·exact .inl (.inl (.inr (List.mem_filter.2 ⟨List.mem_filter.2 ⟨hq,hl⟩,by simpa using h3⟩)))
   ·have hu:usN (X.s c)=1:=by
     rcases (show X.s c=1∨X.s c=2 by omega) with e|e<;>rw[e]<;>rfl
    have:=p1 c
    rw[hu] at this
    exact .inl (.inl (.inl (List.count_pos_iff.1 (show 0 < cntP c P by rw[this];decide))))
  ·exact .inr h
 have e1:=lfc_inc X P
 have e2:(Q.filter fun c => !(Y.nd c).leaf).length=inc Y Q:=rfl
 simp only[List.length_range,List.length_append,e2,h128] at hL
 have i1:inc X P≤22:=by omega
 have i2:lfc X P + v≤49∨(lfc X P≤1∧inc X P=0):=by omega
 rcases i2 with i2|i2
 ·rcases (show lfc Y Q≤32∨33≤lfc Y Q by omega) with h|h
  ·have i3:inc Y Q≤15:=by omega
   omega
  ·omega
 ·omega
structure Rm (Y X:Sto) (root:Int) (E:List KV) (x u v:Nat):Prop where
 y:∃rY EY,TI Y rY EY∧EY.length≤x
 y2:∀j,Y.s j < 2
 st:Stays Y X
 t:TI X root E
 e:E.length + v≤x + u
 b:∃d:List Nat,d.length≤u + 2 * v ∧ ∀j,X.s j=3→j∈d∨(Y.nd j).leaf=false
 l:X.l.length=128
theorem Rm.ns {Y X:Sto} {root E} {x u v:Nat} (h:Rm Y X root E x u v) (hn:x + u + v≤99∧(x=0∨x + u + v≤98)):¬Short X 9:=by
 obtain⟨rY,EY,a,b⟩:=h.y
 exact not_short9 h.t a h.st h.y2 b h.e hn h.l h.b
theorem Rm.stale {Y X X':Sto} {root E} {x u v:Nat} (h:Rm Y X root E x u v) (hs:Stays X X') {c:List Nat} (hc:∀j,X'.s j=3→X.s j=3∨j∈c∨(X.nd j).leaf=false) {u' v':Nat} (hn:u + 2 * v + c.length≤u' + 2 * v') :
  ∃d:List Nat,d.length≤u' + 2 * v' ∧ ∀j,X'.s j=3→j∈d∨(Y.nd j).leaf=false:=by
 obtain⟨d,d1,d2⟩:=h.b
 refine⟨c ++ d,by rw[List.length_append];omega,fun j hj=>?_⟩
 rcases hc j hj with h1|h1|h1
 ·rcases d2 j h1 with h2|h2
  ·exact .inl (by simp[h2])
  ·exact .inr h2
 ·exact .inl (by simp[h1])
 ·have o1:=hs.st j
  have o2:=h.st.st j
  refine .inr ?_
  unfold Sto.nd at h1⊢
  rw[←h.st.ld j (by omega)]
  exact h1
theorem insE_le1 (E:List KV) (k v:Bs):(insE E k v).length≤E.length + 1:=by
 induction E with
 | nil=>simp[insE]
 | cons a t ih =>
  unfold insE at *
  simp only[List.filter_cons,List.length_append,List.length_cons] at *
  by_cases h1:a.1 < k
  ·have h2:¬k < a.1:=bs_asymm h1
   simp only[h1,h2,decide_true,decide_false,if_true]
   simp at *
   omega
  ·simp only[h1,decide_false]
   split<;>split<;>simp at * <;> omega
theorem delE_len {E:List KV} {k:Bs} {e:KV} (h:getE E k=some e):(delE E k).length + 1≤E.length:=by
 unfold getE at h
 have h1:=List.mem_of_find?_eq_some h
 have h2:=List.find?_some h
 have h3:(delE E k).length < E.length:=List.length_filter_lt_length_iff_exists.2 ⟨e,h1,by simpa using h2⟩
 omega
theorem Rm.put {Y X:Sto} {root E} {x u v:Nat} {k w:Bs} (h:Rm Y X root E x u v) (hn:x + u + v≤99∧(x=0∨x + u + v≤98)) (hk:k.length≤24) (hv:w.length≤32) :
  ∃root' X',putT X root k w=(0,root',X')∧Stays X X'∧Rm Y X' root' (insE E k w) x (u + 1) v:=by
 rcases putT_okH h.t hk hv with⟨X',a,b,h',c,q,d⟩|⟨root',X',a,b,c⟩
 ·have he:E.length≤99:=by have:=h.e;omega
  have:=q.low he
  exact absurd (d.mono (by omega)) (h.ns hn)
 ·obtain⟨g,hg⟩:=putT_stale (X:=X) (root:=root) (k:=k) (v:=w) (by rw[a])
  rw[a] at hg
  refine⟨root',X',a,c,h.y,h.y2,h.st.trans c,b,?_,h.stale c (c := [g]) (fun j hj=>by simpa using hg j hj) (by simp;omega),by rw[c.len];exact h.l⟩
  have:=insE_le1 E k w
  have:=h.e
  omega
theorem Rm.del {Y X:Sto} {root E} {x u v:Nat} {k:Bs} (h:Rm Y X root E x u v) (hn:x + u + v≤99∧(x=0∨x + u + v≤98)) :
  (getE E k=none∧delT X root k=(false,0,root,X))∨((∃e,getE E k=some e) ∧ ∃root' X',delT X root k=(true,0,root',X')∧Stays X X'∧Rm Y X' root' (delE E k) x u (v + 1)):=by
 rcases delT_okH (k:=k) h.t with a|⟨⟨e,he⟩,⟨X',a,b,h',c,q,d⟩|⟨root',X',a,b,c⟩⟩
 ·exact .inl a
 ·have he:E.length≤99:=by have:=h.e;omega
  have:=q.low he
  exact absurd (d.mono (by omega)) (h.ns hn)
 ·obtain⟨g,g',hg⟩:=delT_stale (X:=X) (root:=root) (k:=k) (by rw[a])
  rw[a] at hg
  refine .inr ⟨⟨e,he⟩,root',X',a,c,h.y,h.y2,h.st.trans c,b,?_,h.stale c (c := [g,g']) (fun j hj=>by simpa[or_assoc] using hg j hj) (by simp;omega),by rw[c.len];exact h.l⟩
  have:=delE_len he
  have:=h.e
  omega
end Go.Proofs.YtfgjehecjgebdaaGreat
