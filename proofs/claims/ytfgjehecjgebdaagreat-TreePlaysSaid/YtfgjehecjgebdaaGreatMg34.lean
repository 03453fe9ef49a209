/- The tree over a store, in plain lists. -/
import Derived.Test.YtfgjehecjgebdaaGreatMg21
import Derived.Test.YtfgjehecjgebdaaGreatMg31
namespace Go.Proofs.YtfgjehecjgebdaaGreat
set_option maxHeartbeats 1000000
noncomputable def Sto.load (X:Sto) (id:Int):Nd×Int :=
 if (X.read id).2 ≠ 0 then (nd0,(X.read id).2) else match parseNd (X.read id).1 with
  | some n=>(n,0)
  | none=>(nd0,17)
theorem load_ok {X:Sto} {id:Int} (h:(X.load id).2=0):(X.load id).1.Ok:=by
 unfold Sto.load at *
 split at h
 ·next hn=>exact absurd h hn
 ·next hn =>
  rw[if_neg hn]
  cases hp:parseNd (X.read id).1 with
  | none=>rw[hp] at h;cases h
  | some n=>exact parseNd_ok hp
structure Stp where
 id:Nat
 at_:Nat
 n:Nd
noncomputable def downT (X:Sto) (k:Bs):Nat→Nat→List Stp×Int
 | 0,_=>([],17)
 | f + 1,id =>
  if (X.load id).2 ≠ 0 then ([],(X.load id).2) else
  if (X.load id).1.leaf then ([⟨id,(X.load id).1.find k,(X.load id).1⟩],0) else
  if (downT X k f ((X.load id).1.kids.getD ((X.load id).1.find k) 0)).2 ≠ 0 then ([],(downT X k f ((X.load id).1.kids.getD ((X.load id).1.find k) 0)).2)
  else (⟨id,(X.load id).1.find k,(X.load id).1⟩ :: (downT X k f ((X.load id).1.kids.getD ((X.load id).1.find k) 0)).1,0)
def lastV (L:List Stp) (k:Bs):Bs×Bool:=match L.getLast? with
 | some s=>if k∈s.n.keys then (s.n.vals.getD (lbd s.n.keys k) [],true) else ([],false)
 | none=>([],false)
noncomputable def getT (X:Sto) (root:Int) (k:Bs):(Bs×Bool)×Int :=
 if root < 0 then (([],false),0) else
 if (downT X k 12 root.toNat).2 ≠ 0 then (([],false),(downT X k 12 root.toNat).2) else (lastV (downT X k 12 root.toNat).1 k,0)
theorem find_le (n:Nd) (k:Bs) (hu:Up n.keys):n.find k≤n.keys.length:=by
 unfold Nd.find
 have h1:=lbd_le n.keys k
 by_cases hm:k∈n.keys
 ·have:=((up_mem hu).1 hm).1
  split<;>omega
 ·simp[hm];exact h1
structure WayOk (f:Nat) (k:Bs) (L:List Stp):Prop where
 ne:L ≠ []
 len:L.length≤f
 ok:∀s∈L,s.n.Ok∧s.at_=s.n.find k
 last:∀s,L.getLast? = some s→s.n.leaf=true
 inner:∀s∈L.dropLast,s.n.leaf=false
theorem downT_ok {X:Sto} {k:Bs} : ∀(f id:Nat),(downT X k f id).2=0→WayOk f k (downT X k f id).1
 | 0,id,h=>by simp[downT] at h
 | f + 1,id,h=>by
  rw[downT] at h⊢
  by_cases h1:(X.load id).2 ≠ 0
  ·rw[if_pos h1] at h;exact absurd h h1
  ·rw[if_neg h1] at h⊢
   have hok:=load_ok (X:=X) (id:=id) (by simpa using h1)
   by_cases h2:(X.load id).1.leaf=true
   ·rw[if_pos h2]
    refine⟨by simp,by simp,?_,?_,?_⟩
    ·intro s hs;simp only[List.mem_singleton] at hs;subst hs;exact⟨hok,rfl⟩
    ·intro s hs;simp only[List.getLast?_singleton,Option.some.injEq] at hs;subst hs;exact h2
    ·intro s hs;simp at hs
   ·rw[if_neg h2] at h⊢
    by_cases h3:(downT X k f ((X.load id).1.kids.getD ((X.load id).1.find k) 0)).2 ≠ 0
    ·rw[if_pos h3] at h;exact absurd h h3
    ·rw[if_neg h3]
     have ih:=downT_ok f _ (Classical.not_not.1 h3)
     refine⟨by simp,by have:=ih.len;simpa using this,?_,?_,?_⟩
     ·intro s hs
      rcases List.mem_cons.1 hs with rfl|hs
      ·exact⟨hok,rfl⟩
      ·exact ih.ok s hs
     ·intro s hs
      dsimp only at hs
      rw[List.getLast?_cons_of_ne_nil ih.ne] at hs
      exact ih.last s hs
     ·intro s hs
      dsimp only at hs
      rw[List.dropLast_cons_of_ne_nil ih.ne] at hs
      rcases List.mem_cons.1 hs with rfl|hs
      ·simpa using h2
      ·exact ih.inner s hs
def joinW (pre:List Stp) (r:List Stp×Int):List Stp×Int:=if r.2 ≠ 0 then ([],r.2) else (pre ++ r.1,0)
theorem downT_step {X:Sto} {k:Bs} {f id:Nat} (h0:(X.load id).2=0) (hl:(X.load id).1.leaf=false) (pre:List Stp) :
  joinW pre (downT X k (f + 1) id)=joinW (pre ++ [⟨id,(X.load id).1.find k,(X.load id).1⟩]) (downT X k f ((X.load id).1.kids.getD ((X.load id).1.find k) 0)):=by
 have e:downT X k (f + 1) id=joinW [⟨id,(X.load id).1.find k,(X.load id).1⟩] (downT X k f ((X.load id).1.kids.getD ((X.load id).1.find k) 0)):=by
  rw[downT,if_neg (by simpa using h0),if_neg (by simp[hl])];rfl
 rw[e]
 unfold joinW
 by_cases h:(downT X k f ((X.load id).1.kids.getD ((X.load id).1.find k) 0)).2 ≠ 0
 ·rw[if_pos h,if_pos h,if_pos h]
 ·rw[if_neg h,if_neg h];simp
structure Wk where
 X:Sto
 fresh:List Nat
 old:List Nat
def putP (W:Wk) (n:Nd):(Nat×Int)×Wk :=
 if 248 < n.text.length then ((0,3),W) else match tkAt W.X.l with
  | none=>((0,7),W)
  | some i=>((i,0), { W with X := { W.X with l:=W.X.l.set i 2,T:=upd W.X.T i n.text },fresh:=W.fresh ++ [i] })
abbrev Parts:=List Nat×Bs
def layP (W:Wk) (n:Nd):Parts×Int×Wk :=
 if n.over=false then (([(putP W n).1.1], []),(putP W n).1.2,(putP W n).2)
 else if (putP W n.lo).1.2 ≠ 0 then (([], []),(putP W n.lo).1.2,(putP W n.lo).2)
 else (([(putP W n.lo).1.1,(putP (putP W n.lo).2 n.hi).1.1],n.mid),(putP (putP W n.lo).2 n.hi).1.2,(putP (putP W n.lo).2 n.hi).2)
def topP (W:Wk) (p:Parts):(Nat×Int)×Wk:=if p.1.length=1 then ((p.1.getD 0 0,0),W) else putP W ⟨false, [p.2], [],p.1⟩
def giveAll (l:List Nat) (ids:List Nat):List Nat:=ids.foldl (fun l (i:Nat)=>(gvRes l (i:Int)).2) l
def doneP (W:Wk) (root' e root:Int):Int×Int×Sto:=if e=0 then (0,root', { W.X with l:=giveAll W.X.l W.old }) else (e,root, { W.X with l:=giveAll W.X.l W.fresh })
def Wk.add (W:Wk) (i:Nat):Wk := { W with old:=W.old ++ [i] }
def riseP (W:Wk) (p:Parts):List Stp→Parts×Int×Wk
 | []=>(p,0,W)
 | s :: r =>
  if (layP (W.add s.id) (s.n.repl s.at_ (s.at_ + 1) p.1 p.2)).2.1 ≠ 0 then layP (W.add s.id) (s.n.repl s.at_ (s.at_ + 1) p.1 p.2)
  else riseP (layP (W.add s.id) (s.n.repl s.at_ (s.at_ + 1) p.1 p.2)).2.2 (layP (W.add s.id) (s.n.repl s.at_ (s.at_ + 1) p.1 p.2)).1 r
def upP (W:Wk) (k v:Bs):List Stp→Parts×Int×Wk
 | []=>(([], []),0,W)
 | s :: r=>if (layP (W.add s.id) (s.n.set k v)).2.1 ≠ 0 then layP (W.add s.id) (s.n.set k v) else riseP (layP (W.add s.id) (s.n.set k v)).2.2 (layP (W.add s.id) (s.n.set k v)).1 r
def wk0 (X:Sto):Wk:=⟨X, [], []⟩
def leaf0:Nd:=⟨true, [], [], []⟩
noncomputable def putT (X:Sto) (root:Int) (k v:Bs):Int×Int×Sto :=
 if 24 < k.length∨32 < v.length then (3,root,X) else
 if root < 0 then doneP (putP (wk0 X) (leaf0.set k v)).2 (putP (wk0 X) (leaf0.set k v)).1.1 (putP (wk0 X) (leaf0.set k v)).1.2 root else
 if (downT X k 12 root.toNat).2 ≠ 0 then ((downT X k 12 root.toNat).2,root,X) else
 let u:=upP (wk0 X) k v (downT X k 12 root.toNat).1.reverse
 if u.2.1 ≠ 0 then doneP u.2.2 0 u.2.1 root else doneP (topP u.2.2 u.1).2 (topP u.2.2 u.1).1.1 (topP u.2.2 u.1).1.2 root
def lvLeft (s:Stp):Nat:=s.at_ - 1
def lvOther (s:Stp):Nat:=if lvLeft s=s.at_ then s.n.kids.getD (lvLeft s + 1) 0 else s.n.kids.getD (lvLeft s) 0
def putAll (W:Wk):List Nd→List Nat×Int×Wk
 | []=>([],0,W)
 | n :: r=>if (putP W n).1.2 ≠ 0 then ([],(putP W n).1.2,(putP W n).2) else
  ((putP W n).1.1 :: (putAll (putP W n).2 r).1,(putAll (putP W n).2 r).2.1,(putAll (putP W n).2 r).2.2)
noncomputable def levelP (W:Wk) (s:Stp) (kid:Nd):Nd×Int×Wk :=
 if kid.under=false then (s.n.repl s.at_ (s.at_ + 1) [(putP W kid).1.1] [],(putP W kid).1.2,(putP W kid).2) else
 if (W.X.load (lvOther s)).2 ≠ 0 then (nd0,(W.X.load (lvOther s)).2,W) else
 if (W.X.load (lvOther s)).1.leaf ≠ kid.leaf then (nd0,17,W) else
 let a:=if lvLeft s=s.at_ then kid else (W.X.load (lvOther s)).1
 let b:=if lvLeft s=s.at_ then (W.X.load (lvOther s)).1 else kid
 let key:=s.n.keys.getD (lvLeft s) []
 let l:=nLevel a key b
 let u:=putAll (W.add (lvOther s)) l
 if u.2.1 ≠ 0 then (nd0,u.2.1,u.2.2) else (s.n.repl (lvLeft s) (lvLeft s + 2) u.1 (if l.length=2 then nBetween a key b else []),0,u.2.2)
noncomputable def sinkP (W:Wk) (n:Nd):List Stp→Nd×Int×Wk
 | []=>(n,0,W)
 | s :: r=>if (levelP W s n).2.1 ≠ 0 then levelP W s n else sinkP ((levelP W s n).2.2.add s.id) (levelP W s n).1 r
noncomputable def delT (X:Sto) (root:Int) (k:Bs):Bool×Int×Int×Sto :=
 if (getT X root k).2 ≠ 0∨(getT X root k).1.2=false then (false,(getT X root k).2,root,X) else
 match (downT X k 12 root.toNat).1.reverse with
 | []=>(false,0,root,X)
 | s :: r =>
  let u:=sinkP ((wk0 X).add s.id) (s.n.cut k) r
  if u.2.1 ≠ 0 then (false,doneP u.2.2 0 u.2.1 root) else
  if u.1.leaf=true∧u.1.len=0 then (true,doneP u.2.2 (-1) 0 root) else
  if u.1.leaf=false∧u.1.len=1 then (true,doneP u.2.2 (u.1.kids.getD 0 0) 0 root) else
  (decide ((putP u.2.2 u.1).1.2=0),doneP (putP u.2.2 u.1).2 (putP u.2.2 u.1).1.1 (putP u.2.2 u.1).1.2 root)
end Go.Proofs.YtfgjehecjgebdaaGreat
/- Plain: entries by rising keys, kids between keys. -/
namespace Go.Proofs.YtfgjehecjgebdaaGreat
set_option maxHeartbeats 1000000
abbrev KV:=Bs×Bs
def insE (l:List KV) (k v:Bs):List KV:=l.filter (fun e=>decide (e.1 < k)) ++ (k,v) :: l.filter (fun e=>decide (k < e.1))
def delE (l:List KV) (k:Bs):List KV:=l.filter (fun e=>decide (e.1 ≠ k))
def getE (l:List KV) (k:Bs):Option KV:=l.find? (fun e=>decide (e.1=k))
def UpE (l:List KV):Prop:=l.Pairwise (fun a b=>a.1 < b.1)
theorem bs_tri (a b:Bs):a < b∨a=b∨b < a:=by
 by_cases h:a < b
 ·exact .inl h
 ·by_cases h':b < a
  ·exact .inr (.inr h')
  ·exact .inr (.inl (List.le_antisymm h' h))
theorem bs_ne {a b:Bs} (h:a < b):a ≠ b:=fun e=>by subst e;exact List.lt_irrefl _ h
theorem bs_asymm {a b:Bs} (h:a < b):¬b < a:=fun h'=>List.lt_irrefl _ (List.lt_trans h h')
theorem bs_le_lt {a b c:Bs} (h:¬b < a) (h':b < c):a < c:=by
 rcases bs_tri a b with e|e|e
 ·exact List.lt_trans e h'
 ·exact e ▸ h'
 ·exact absurd e h
theorem bs_lt_le {a b c:Bs} (h:a < b) (h':¬c < b):a < c:=by
 rcases bs_tri b c with e|e|e
 ·exact List.lt_trans h e
 ·exact e ▸ h
 ·exact absurd e h'
theorem bs_nil (a:Bs):¬a < []:=List.not_lt_nil a
def below (k:Bs) (hi:Option Bs):Prop:=∀h,hi=some h→k < h
def inR (lo:Bs) (hi:Option Bs) (k:Bs):Prop:=¬k < lo∧below k hi
theorem filt_all {l:List KV} {p:KV→Bool} (h:∀e∈l,p e=true):l.filter p=l:=List.filter_eq_self.2 h
theorem filt_none {l:List KV} {p:KV→Bool} (h:∀e∈l,p e=false):l.filter p = []:=List.filter_eq_nil_iff.2 fun e he=>by simp[h e he]
theorem insE_mid {A B C:List KV} {k v:Bs} (hA:∀e∈A,e.1 < k) (hC:∀e∈C,k < e.1):insE (A ++ B ++ C) k v=A ++ insE B k v ++ C:=by
 have a1:=filt_all (p:=fun e=>decide (e.1 < k)) (l:=A) fun e he=>by simpa using hA e he
 have a2:=filt_none (p:=fun e=>decide (k < e.1)) (l:=A) fun e he=>by simpa using bs_asymm (hA e he)
 have c1:=filt_none (p:=fun e=>decide (e.1 < k)) (l:=C) fun e he=>by simpa using bs_asymm (hC e he)
 have c2:=filt_all (p:=fun e=>decide (k < e.1)) (l:=C) fun e he=>by simpa using hC e he
 simp only[insE,List.filter_append,a1,a2,c1,c2,List.append_nil,List.nil_append,List.append_assoc,List.cons_append]
theorem delE_mid {A B C:List KV} {k:Bs} (hA:∀e∈A,e.1 < k) (hC:∀e∈C,k < e.1):delE (A ++ B ++ C) k=A ++ delE B k ++ C:=by
 have a1:=filt_all (p:=fun e=>decide (e.1 ≠ k)) (l:=A) fun e he=>by simpa using bs_ne (hA e he)
 have c2:=filt_all (p:=fun e=>decide (e.1 ≠ k)) (l:=C) fun e he=>by simpa using (bs_ne (hC e he)).symm
 simp only[delE,List.filter_append,a1,c2]
theorem find_none {l:List KV} {k:Bs} (h:∀e∈l,e.1 ≠ k):getE l k=none:=List.find?_eq_none.2 fun e he=>by simpa using h e he
theorem getE_mid {A B C:List KV} {k:Bs} (hA:∀e∈A,e.1 < k) (hC:∀e∈C,k < e.1):getE (A ++ B ++ C) k=getE B k:=by
 have a1:=find_none (l:=A) (k:=k) fun e he=>bs_ne (hA e he)
 have c1:=find_none (l:=C) (k:=k) fun e he=>(bs_ne (hC e he)).symm
 unfold getE at *
 rw[List.find?_append,List.find?_append,a1,c1]
 simp
theorem upE_ins {l:List KV} (h:UpE l) (k v:Bs):UpE (insE l k v):=by
 unfold UpE insE at *
 refine List.pairwise_append.2 ⟨h.filter _,List.pairwise_cons.2 ⟨fun e he=>?_,h.filter _⟩,fun a ha b hb=>?_⟩
 ·simpa using (List.mem_filter.1 he).2
 ·have h1:a.1 < k:=by simpa using (List.mem_filter.1 ha).2
  rcases List.mem_cons.1 hb with rfl|hb
  ·exact h1
  ·have h2:k < b.1:=by simpa using (List.mem_filter.1 hb).2
   exact List.lt_trans h1 h2
theorem upE_del {l:List KV} (h:UpE l) (k:Bs):UpE (delE l k):=h.filter _
theorem mem_insE {l:List KV} {k v:Bs} {e:KV} (h:e∈insE l k v):e=(k,v)∨(e∈l∧e.1 ≠ k):=by
 unfold insE at h
 rcases List.mem_append.1 h with h|h
 ·obtain⟨h1,h2⟩:=List.mem_filter.1 h
  exact .inr ⟨h1,bs_ne (by simpa using h2)⟩
 ·rcases List.mem_cons.1 h with h|h
  ·exact .inl h
  ·obtain⟨h1,h2⟩:=List.mem_filter.1 h
   exact .inr ⟨h1,(bs_ne (by simpa using h2)).symm⟩
theorem kvs_keys {n:Nd} (h:n.vals.length=n.keys.length):n.kvs.map (·.1)=n.keys:=by
 unfold Nd.kvs;exact List.map_fst_zip (by omega)
theorem kvs_len {n:Nd} (h:n.vals.length=n.keys.length):n.kvs.length=n.keys.length:=by simp[Nd.kvs,h]
theorem up_kvs {n:Nd} (h:n.vals.length=n.keys.length) (hu:Up n.keys):UpE n.kvs:=by
 have:=kvs_keys h
 unfold Up at hu
 rw[←this] at hu
 exact List.pairwise_map.1 hu
theorem filt_lt:∀ {l:List KV} (_:UpE l) (k:Bs),l.filter (fun e=>decide (e.1 < k))=l.take (lbd (l.map (·.1)) k)
 | [],_,k=>rfl
 | e :: t,h,k=>by
  obtain⟨h1,h2⟩:=List.pairwise_cons.1 h
  simp only[List.map_cons,lbd]
  by_cases he:e.1 < k
  ·rw[if_pos he,List.filter_cons_of_pos (by simpa using he),List.take_succ_cons,filt_lt h2 k]
  ·rw[if_neg he,List.filter_cons_of_neg (by simpa using he),List.take_zero]
   exact filt_none fun x hx=>by
    simp only[decide_eq_false_iff_not]
    intro hlt
    exact he (List.lt_trans (h1 x hx) hlt)
theorem filt_gt:∀ {l:List KV} (_:UpE l) (k:Bs),l.filter (fun e=>decide (k < e.1))=l.drop (lbd (l.map (·.1)) k + if k∈l.map (·.1) then 1 else 0)
 | [],_,k=>by simp
 | e :: t,h,k=>by
  obtain⟨h1,h2⟩:=List.pairwise_cons.1 h
  simp only[List.map_cons,lbd]
  rcases bs_tri e.1 k with he|he|he
  ·rw[if_pos he,List.filter_cons_of_neg (by simpa using bs_asymm he),filt_gt h2 k]
   have:(k∈e.1 :: t.map (·.1))=(k∈t.map (·.1)):=by simp[(bs_ne he).symm]
   simp only[this]
   rw[show lbd (t.map (·.1)) k + 1 + (if k∈t.map (·.1) then 1 else 0)=lbd (t.map (·.1)) k + (if k∈t.map (·.1) then 1 else 0) + 1 by omega,List.drop_succ_cons]
  ·rw[if_neg (by rw[he];exact List.lt_irrefl _),List.filter_cons_of_neg (by rw[he];simp),if_pos (by simp[he])]
   simp only[Nat.zero_add,List.drop_succ_cons,List.drop_zero]
   exact filt_all fun x hx=>by simpa[he] using h1 x hx
  ·rw[if_neg (bs_asymm he),List.filter_cons_of_pos (by simpa using he),if_neg (by
    simp only[List.mem_cons,not_or]
    refine⟨bs_ne he,fun hm=>?_⟩
    obtain⟨x,hx,hxk⟩:=List.mem_map.1 hm
    have:=h1 x hx
    rw[hxk] at this
    exact bs_asymm he this)]
   simp only[Nat.add_zero,List.drop_zero]
   rw[filt_all fun x hx=>by simpa using List.lt_trans he (h1 x hx)]
theorem kvs_take {n:Nd} (i:Nat):(Nd.kvs n).take i=(n.keys.take i).zip (n.vals.take i):=by
 unfold Nd.kvs;exact List.take_zipWith
theorem kvs_drop {n:Nd} (i:Nat):(Nd.kvs n).drop i=(n.keys.drop i).zip (n.vals.drop i):=by
 unfold Nd.kvs;exact List.drop_zipWith
theorem kvs_set {n:Nd} (h:n.vals.length=n.keys.length) (hu:Up n.keys) (k v:Bs):(n.set k v).kvs=insE n.kvs k v:=by
 have hU:=up_kvs h hu
 unfold insE
 rw[filt_lt hU,filt_gt hU,kvs_keys h,kvs_take,kvs_drop]
 have hp:=lbd_le n.keys k
 by_cases hm:k∈n.keys
 ·obtain⟨h1,h2⟩:=(up_mem hu).1 hm
  rw[if_pos hm]
  unfold Nd.set;rw[if_pos hm]
  generalize lbd n.keys k=p at *
  unfold Nd.kvs
  simp only
  have e1:n.keys=n.keys.take p ++ k :: n.keys.drop (p + 1):=by
   rw[←h2]
   have:n.keys.getD p []=n.keys[p]:=by simp[List.getD,h1]
   rw[this,List.getElem_cons_drop,List.take_append_drop]
  have e2:n.vals.set p v=n.vals.take p ++ v :: n.vals.drop (p + 1):=List.set_eq_take_append_cons_drop .. |>.trans (if_pos (by omega))
  rw[e2]
  conv=>lhs;rw[e1]
  rw[List.zip_append (by simp;omega),List.zip_cons_cons]
 ·rw[if_neg hm]
  unfold Nd.set;rw[if_neg hm]
  unfold Nd.kvs insAt
  simp only[Nat.add_zero]
  rw[List.zip_append (by simp;omega),List.zip_cons_cons]
theorem kvs_cut {n:Nd} (h:n.vals.length=n.keys.length) (hu:Up n.keys) (k:Bs):(n.cut k).kvs=delE n.kvs k:=by
 have hU:=up_kvs h hu
 have e:delE n.kvs k=n.kvs.filter (fun e=>decide (e.1 < k)) ++ n.kvs.filter (fun e=>decide (k < e.1)):=by
  have:∀l:List KV,UpE l→delE l k=l.filter (fun e=>decide (e.1 < k)) ++ l.filter (fun e=>decide (k < e.1)):=by
   intro l hl
   induction l with
   | nil=>rfl
   | cons x t ih =>
    obtain⟨h1,h2⟩:=List.pairwise_cons.1 hl
    have ih:=ih h2
    unfold delE at *
    rcases bs_tri x.1 k with hx|hx|hx
    ·rw[List.filter_cons_of_pos (by simpa using bs_ne hx),List.filter_cons_of_pos (by simpa using hx),List.filter_cons_of_neg (by simpa using bs_asymm hx),ih];rfl
    ·rw[List.filter_cons_of_neg (by simpa using hx),List.filter_cons_of_neg (by rw[hx];simp),List.filter_cons_of_neg (by rw[hx];simp),ih]
    ·have hn:∀y∈t,k < y.1:=fun y hy=>List.lt_trans hx (h1 y hy)
     rw[List.filter_cons_of_pos (by simpa using (bs_ne hx).symm),List.filter_cons_of_neg (by simpa using bs_asymm hx),List.filter_cons_of_pos (by simpa using hx),ih,filt_none (p:=fun e=>decide (e.1 < k)) fun y hy=>by simpa using bs_asymm (hn y hy)];rfl
  exact this _ hU
 rw[e,filt_lt hU,filt_gt hU,kvs_keys h,kvs_take,kvs_drop]
 by_cases hm:k∈n.keys
 ·rw[if_pos hm]
  unfold Nd.cut;rw[if_pos hm]
  unfold Nd.kvs cutAt
  simp only
  rw[List.zip_append (by simp;omega)]
 ·rw[if_neg hm]
  unfold Nd.cut;rw[if_neg hm]
  unfold Nd.kvs
  simp only[Nat.add_zero]
  rw[←List.zip_append (by simp;omega),List.take_append_drop,List.take_append_drop]
theorem getE_leaf {n:Nd} (h:n.vals.length=n.keys.length) (hu:Up n.keys) (k:Bs):getE n.kvs k=if k∈n.keys then some (k,n.vals.getD (lbd n.keys k) []) else none:=by
 by_cases hm:k∈n.keys
 ·rw[if_pos hm]
  obtain⟨h1,h2⟩:=(up_mem hu).1 hm
  have hU:=up_kvs h hu
  have e0:n.kvs=n.kvs.take (lbd n.keys k) ++ (k,n.vals.getD (lbd n.keys k) []) :: n.kvs.drop (lbd n.keys k + 1):=by
   have hl:lbd n.keys k < n.kvs.length:=by rw[kvs_len h];exact h1
   have hv:lbd n.keys k < n.vals.length:=by omega
   have:n.kvs[lbd n.keys k]=(k,n.vals.getD (lbd n.keys k) []):=by
    show(n.keys.zip n.vals)[lbd n.keys k]'(by simp;omega)=_
    rw[List.getElem_zip]
    have a:n.keys.getD (lbd n.keys k) []=n.keys[lbd n.keys k]:=by simp[List.getD,h1]
    have b:n.vals.getD (lbd n.keys k) []=n.vals[lbd n.keys k]:=by simp[List.getD,hv]
    rw[b, ←a,h2]
   rw[←this,List.getElem_cons_drop,List.take_append_drop]
  rw[e0]
  unfold getE
  rw[List.find?_append]
  have e1:List.find? (fun e=>decide (e.1=k)) (n.kvs.take (lbd n.keys k))=none:=find_none fun e he=>by
   have:=filt_lt hU k
   rw[kvs_keys h] at this
   rw[←this] at he
   exact bs_ne (by simpa using (List.mem_filter.1 he).2)
  rw[e1]
  simp
 ·rw[if_neg hm]
  exact find_none fun e he hk=>hm (by rw[←kvs_keys h, ←hk];exact List.mem_map_of_mem he)
def Seg (K:Nat→Bs→Option Bs→Prop):List Nat→List Bs→Bs→Option Bs→Prop
 | [],_,_,_=>False
 | c :: cs, [],lo,hi=>K c lo hi∧cs = []
 | c :: cs,k :: ks,lo,hi=>K c lo (some k)∧Seg K cs ks k hi
def SegL (K:Nat→Bs→Option Bs→Prop):List Nat→List Bs→Bs→Bs→Prop
 | [], [],lo,m=>lo=m
 | c :: cs,k :: ks,lo,m=>K c lo (some k)∧SegL K cs ks k m
 | _,_,_,_=>False
def SegR (K:Nat→Bs→Option Bs→Prop):List Bs→List Nat→Option Bs→Option Bs→Prop
 | [],B,u,hi=>u=hi∧B = []
 | k :: ks,B,u,hi=>u=some k∧Seg K B ks k hi
theorem seg_len {K} : ∀ {cs:List Nat} {ks:List Bs} {lo hi},Seg K cs ks lo hi→ks.length + 1=cs.length
 | [],_,_,_,h=>h.elim
 | c :: cs, [],_,_,h=>by rw[h.2];rfl
 | c :: cs,k :: ks,_,_,h=>by have:=seg_len h.2;simp;omega
theorem segL_len {K} : ∀ {cs:List Nat} {ks:List Bs} {lo m},SegL K cs ks lo m→ks.length=cs.length
 | [], [],_,_,_=>rfl
 | [],_ :: _,_,_,h=>h.elim
 | _ :: _, [],_,_,h=>h.elim
 | c :: cs,k :: ks,_,_,h=>by have:=segL_len h.2;simp;omega
theorem seg_app {K} : ∀ {A C:List Nat} {KA KC:List Bs} {lo hi},KA.length=A.length→(Seg K (A ++ C) (KA ++ KC) lo hi ↔ ∃m,SegL K A KA lo m∧Seg K C KC m hi)
 | [],C, [],KC,lo,hi,_=>by simp[SegL]
 | [],_,_ :: _,_,_,_,h=>by simp at h
 | _ :: _,_, [],_,_,_,h=>by simp at h
 | a :: A,C,k :: KA,KC,lo,hi,h=>by
  simp only[List.cons_append,Seg,SegL,seg_app (K:=K) (A:=A) (C:=C) (KA:=KA) (KC:=KC) (lo:=k) (hi:=hi) (by simpa using h)]
  constructor
  ·rintro⟨h1,m,h2,h3⟩;exact⟨m,⟨h1,h2⟩,h3⟩
  ·rintro⟨m,⟨h1,h2⟩,h3⟩;exact⟨h1,m,h2,h3⟩
theorem seg_right {K} : ∀ {C:List Nat} {KC:List Bs} {B:List Nat} {KB:List Bs} {lo hi},KC.length + 1=C.length→(Seg K (C ++ B) (KC ++ KB) lo hi ↔ ∃u,Seg K C KC lo u∧SegR K KB B u hi)
 | [],KC,_,_,_,_,h=>by simp at h
 | c :: C, [],B, [],lo,hi,h=>by
  have hC:C = []:=by cases C with|nil=>rfl|cons=>simp at h
  subst hC
  simp only[Seg,SegR,List.cons_append,List.nil_append,and_true]
  exact⟨fun⟨a,b⟩=>⟨hi,a,rfl,b⟩,fun⟨u,a,b,c⟩=>⟨b ▸ a,c⟩⟩
 | c :: C, [],B,k :: KB,lo,hi,h=>by
  have hC:C = []:=by cases C with|nil=>rfl|cons=>simp at h
  subst hC
  simp only[Seg,SegR,List.cons_append,List.nil_append,and_true]
  exact⟨fun⟨a,b⟩=>⟨some k,a,rfl,b⟩,fun⟨u,a,b,c⟩=>⟨b ▸ a,c⟩⟩
 | c :: C,k :: KC,B,KB,lo,hi,h=>by
  simp only[List.cons_append,Seg,seg_right (K:=K) (C:=C) (KC:=KC) (B:=B) (KB:=KB) (lo:=k) (hi:=hi) (by simpa using h)]
  constructor
  ·rintro⟨h1,u,h2,h3⟩;exact⟨u,⟨h1,h2⟩,h3⟩
  ·rintro⟨u,⟨h1,h2⟩,h3⟩;exact⟨h1,u,h2,h3⟩
theorem seg_mid {K} {A C B:List Nat} {KA KC KB:List Bs} {lo hi} (h1:KA.length=A.length) (h2:KC.length + 1=C.length) :
  Seg K (A ++ C ++ B) (KA ++ KC ++ KB) lo hi ↔ ∃m u,SegL K A KA lo m∧Seg K C KC m u∧SegR K KB B u hi:=by
 rw[List.append_assoc,List.append_assoc,seg_app h1]
 constructor
 ·rintro⟨m,ha,hb⟩
  obtain⟨u,hc,hd⟩:=(seg_right h2).1 hb
  exact⟨m,u,ha,hc,hd⟩
 ·rintro⟨m,u,ha,hc,hd⟩
  exact⟨m,ha,(seg_right h2).2 ⟨u,hc,hd⟩⟩
theorem seg_mono {K K'} : ∀ {cs:List Nat} {ks:List Bs} {lo hi},Seg K cs ks lo hi→(∀c∈cs, ∀l u,K c l u→K' c l u)→Seg K' cs ks lo hi
 | [],_,_,_,h,_=>h.elim
 | c :: cs, [],_,_,h,m=>⟨m c (by simp) _ _ h.1,h.2⟩
 | c :: cs,k :: ks,_,_,h,m=>⟨m c (by simp) _ _ h.1,seg_mono h.2 fun c' hc=>m c' (by simp[hc])⟩
theorem segL_mono {K K'} : ∀ {cs:List Nat} {ks:List Bs} {lo m},SegL K cs ks lo m→(∀c∈cs, ∀l u,K c l u→K' c l u)→SegL K' cs ks lo m
 | [], [],_,_,h,_=>h
 | [],_ :: _,_,_,h,_=>h.elim
 | _ :: _, [],_,_,h,_=>h.elim
 | c :: cs,k :: ks,_,_,h,m=>⟨m c (by simp) _ _ h.1,segL_mono h.2 fun c' hc=>m c' (by simp[hc])⟩
theorem segR_mono {K K'} : ∀ {ks:List Bs} {B:List Nat} {u hi},SegR K ks B u hi→(∀c∈B, ∀l u,K c l u→K' c l u)→SegR K' ks B u hi
 | [],_,_,_,h,_=>h
 | _ :: _,_,_,_,h,m=>⟨h.1,seg_mono h.2 m⟩
theorem seg_all {K} : ∀ {cs:List Nat} {ks:List Bs} {lo hi},Seg K cs ks lo hi → ∀c∈cs, ∃l u,K c l u
 | [],_,_,_,h,_,_=>h.elim
 | c :: cs, [],_,_,h,x,hx=>by
  rw[h.2] at hx
  rcases List.mem_cons.1 hx with rfl|hx
  ·exact⟨_,_,h.1⟩
  ·simp at hx
 | c :: cs,k :: ks,_,_,h,x,hx=>by
  rcases List.mem_cons.1 hx with rfl|hx
  ·exact⟨_,_,h.1⟩
  ·exact seg_all h.2 x hx
theorem seg_keys {K} (hK:∀c l u,K c l u→below l u):∀ {cs:List Nat} {ks:List Bs} {lo hi},Seg K cs ks lo hi→below lo hi∧Up ks ∧ ∀k∈ks,lo < k∧below k hi
 | [],_,_,_,h=>h.elim
 | c :: cs, [],_,_,h=>⟨hK _ _ _ h.1,List.Pairwise.nil,by simp⟩
 | c :: cs,k :: ks,lo,hi,h=>by
  obtain⟨h1,h2,h3⟩:=seg_keys hK h.2
  have h0:=hK _ _ _ h.1 k rfl
  refine⟨fun u hu=>List.lt_trans h0 (h1 u hu),List.pairwise_cons.2 ⟨fun x hx=>(h3 x hx).1,h2⟩,fun x hx=>?_⟩
  rcases List.mem_cons.1 hx with rfl|hx
  ·exact⟨h0,h1⟩
  ·exact⟨List.lt_trans h0 (h3 x hx).1,(h3 x hx).2⟩
theorem segL_keys {K} (hK:∀c l u,K c l u→below l u):∀ {cs:List Nat} {ks:List Bs} {lo m},SegL K cs ks lo m→(¬m < lo) ∧ ∀k∈ks,lo < k ∧ ¬m < k
 | [], [],_,_,h=>by cases h;exact⟨List.lt_irrefl _,by simp⟩
 | [],_ :: _,_,_,h=>h.elim
 | _ :: _, [],_,_,h=>h.elim
 | c :: cs,k :: ks,lo,m,h=>by
  obtain⟨h1,h2⟩:=segL_keys hK h.2
  have h0:=hK _ _ _ h.1 k rfl
  refine⟨fun hl=>h1 (List.lt_trans hl h0),fun x hx=>?_⟩
  rcases List.mem_cons.1 hx with rfl|hx
  ·exact⟨h0,h1⟩
  ·exact⟨List.lt_trans h0 (h2 x hx).1,(h2 x hx).2⟩
theorem seg_in {K} (hK:∀c l u,K c l u→below l u) {E:Nat→List KV} (hE:∀c l u,K c l u → ∀e∈E c,inR l u e.1):∀ {cs:List Nat} {ks:List Bs} {lo hi},Seg K cs ks lo hi → ∀e∈cs.flatMap E,inR lo hi e.1
 | [],_,_,_,h,_,_=>h.elim
 | c :: cs, [],lo,hi,h,e,he=>by
  rw[h.2] at he
  simp only[List.flatMap_cons,List.flatMap_nil,List.append_nil] at he
  exact hE _ _ _ h.1 e he
 | c :: cs,k :: ks,lo,hi,h,e,he=>by
  rw[List.flatMap_cons] at he
  have h0:=hK _ _ _ h.1 k rfl
  obtain⟨h1, -, -⟩:=seg_keys hK h.2
  rcases List.mem_append.1 he with he|he
  ·obtain⟨a,b⟩:=hE _ _ _ h.1 e he
   exact⟨a,fun z hz=>List.lt_trans (b k rfl) (h1 z hz)⟩
  ·obtain⟨a,b⟩:=seg_in hK hE h.2 e he
   exact⟨fun hl=>a (List.lt_trans hl h0),b⟩
theorem segL_in {K} (hK:∀c l u,K c l u→below l u) {E:Nat→List KV} (hE:∀c l u,K c l u → ∀e∈E c,inR l u e.1):∀ {cs:List Nat} {ks:List Bs} {lo m},SegL K cs ks lo m → ∀e∈cs.flatMap E,inR lo (some m) e.1
 | [], [],_,_,_,e,he=>by simp at he
 | [],_ :: _,_,_,h,_,_=>h.elim
 | _ :: _, [],_,_,h,_,_=>h.elim
 | c :: cs,k :: ks,lo,m,h,e,he=>by
  rw[List.flatMap_cons] at he
  have h0:=hK _ _ _ h.1 k rfl
  obtain⟨h1, -⟩:=segL_keys hK h.2
  rcases List.mem_append.1 he with he|he
  ·obtain⟨a,b⟩:=hE _ _ _ h.1 e he
   exact⟨a,fun z hz=>by injection hz with hz;subst hz;exact bs_lt_le (b k rfl) h1⟩
  ·obtain⟨a,b⟩:=segL_in hK hE h.2 e he
   exact⟨fun hl=>a (List.lt_trans hl h0),b⟩
theorem segR_in {K} (hK:∀c l u,K c l u→below l u) {E:Nat→List KV} (hE:∀c l u,K c l u → ∀e∈E c,inR l u e.1) {ks:List Bs} {B:List Nat} {u hi} (h:SegR K ks B u hi):∀e∈B.flatMap E,(∀z,u=some z → ¬e.1 < z)∧below e.1 hi:=by
 cases ks with
 | nil=>obtain⟨_,rfl⟩:=h;simp
 | cons k ks =>
  obtain⟨rfl,h⟩:=h
  intro e he
  obtain⟨a,b⟩:=seg_in hK hE h e he
  exact⟨fun z hz=>by injection hz with hz;subst hz;exact a,b⟩
theorem seg_up {K} (hK:∀c l u,K c l u→below l u) {E:Nat→List KV} (hE:∀c l u,K c l u → ∀e∈E c,inR l u e.1) (hU:∀c l u,K c l u→UpE (E c)):∀ {cs:List Nat} {ks:List Bs} {lo hi},Seg K cs ks lo hi→UpE (cs.flatMap E)
 | [],_,_,_,h=>h.elim
 | c :: cs, [],lo,hi,h=>by
  rw[h.2]
  simp only[List.flatMap_cons,List.flatMap_nil,List.append_nil]
  exact hU _ _ _ h.1
 | c :: cs,k :: ks,lo,hi,h=>by
  rw[List.flatMap_cons]
  refine List.pairwise_append.2 ⟨hU _ _ _ h.1,seg_up hK hE hU h.2,fun a ha b hb=>?_⟩
  exact bs_lt_le ((hE _ _ _ h.1 a ha).2 k rfl) (seg_in hK hE h.2 b hb).1
theorem split_at {K} {cs:List Nat} {ks:List Bs} {lo hi} (h:Seg K cs ks lo hi) {i:Nat} (hi':i≤ks.length):∃A c B KA KB,cs=A ++ [c] ++ B∧ks=KA ++ [] ++ KB∧A.length=i∧KA.length=i∧cs.getD i 0=c:=by
 have hl:=seg_len h
 refine⟨cs.take i,cs[i]'(by omega),cs.drop (i + 1),ks.take i,ks.drop i,?_,?_,?_,?_,?_⟩
 ·rw[List.append_assoc,List.singleton_append,List.getElem_cons_drop,List.take_append_drop]
 ·simp
 ·simp;omega
 ·simp;omega
 ·simp[List.getD,show i < cs.length by omega]
theorem lbd_cnt:∀ {ks:List Bs} (_:Up ks) (k:Bs),(∀x∈ks.take (lbd ks k + if k∈ks then 1 else 0), ¬k < x)∧(∀x∈ks.drop (lbd ks k + if k∈ks then 1 else 0),k < x)
 | [],_,k=>by simp
 | x :: t,h,k=>by
  obtain⟨h1,h2⟩:=List.pairwise_cons.1 h
  simp only[lbd]
  rcases bs_tri x k with he|he|he
  ·have:(k∈x :: t)=(k∈t):=by simp[(bs_ne he).symm]
   simp only[this,if_pos he]
   rw[show lbd t k + 1 + (if k∈t then 1 else 0)=lbd t k + (if k∈t then 1 else 0) + 1 by omega,List.drop_succ_cons,List.take_succ_cons]
   obtain⟨a,b⟩:=lbd_cnt h2 k
   refine⟨fun y hy=>?_,b⟩
   rcases List.mem_cons.1 hy with rfl|hy
   ·exact bs_asymm he
   ·exact a y hy
  ·subst he
   rw[if_neg (List.lt_irrefl _),if_pos (by simp)]
   simp only[Nat.zero_add,List.take_succ_cons,List.take_zero,List.drop_succ_cons,List.drop_zero]
   exact⟨by simp,h1⟩
  ·rw[if_neg (bs_asymm he),if_neg (by
    simp only[List.mem_cons,not_or]
    exact⟨bs_ne he,fun hm=>bs_asymm he (h1 _ hm)⟩)]
   simp only[Nat.add_zero,List.take_zero,List.drop_zero]
   refine⟨by simp,fun y hy=>?_⟩
   rcases List.mem_cons.1 hy with rfl|hy
   ·exact he
   ·exact List.lt_trans he (h1 _ hy)
end Go.Proofs.YtfgjehecjgebdaaGreat
/- Plain: a tree over a store, as it should be. -/
namespace Go.Proofs.YtfgjehecjgebdaaGreat
set_option maxHeartbeats 1000000
noncomputable def Sto.nd (X:Sto) (i:Nat):Nd:=(X.load i).1
def Sto.gd (X:Sto) (i:Nat):Prop:=(X.load i).2=0
noncomputable def ents (X:Sto):Nat→Nd→List KV
 | 0,n=>n.kvs
 | h + 1,n=>n.kids.flatMap fun c=>ents X h (X.nd c)
noncomputable def pgs (X:Sto):Nat→Nd→List Nat
 | 0,_ => []
 | h + 1,n=>n.kids.flatMap fun c=>c :: pgs X h (X.nd c)
def WF (X:Sto):Nat→Nd→Bs→Option Bs→Prop
 | 0,n,lo,hi=>n.leaf=true∧n.Fit∧Up n.keys ∧ ∀k∈n.keys,inR lo hi k
 | h + 1,n,lo,hi=>n.leaf=false∧n.Fit∧Seg (fun c l u=>below l u∧X.gd c∧(X.nd c).under=false∧WF X h (X.nd c) l u) n.kids n.keys lo hi
def KP (X:Sto) (h:Nat) (c:Nat) (l:Bs) (u:Option Bs):Prop:=below l u∧X.gd c∧(X.nd c).under=false∧WF X h (X.nd c) l u
theorem wf_succ {X:Sto} {h:Nat} {n:Nd} {lo hi} : WF X (h + 1) n lo hi↔n.leaf=false∧n.Fit∧Seg (KP X h) n.kids n.keys lo hi:=Iff.rfl
theorem KP.b {X h c l u} (k:KP X h c l u):below l u:=k.1
theorem WF.fit {X:Sto} {h:Nat} {n:Nd} {lo hi} (w:WF X h n lo hi):n.Fit:=by
 cases h with
 | zero=>exact w.2.1
 | succ h=>exact w.2.1
theorem WF.leaf {X:Sto} {h:Nat} {n:Nd} {lo hi} (w:WF X h n lo hi):n.leaf=decide (h=0):=by
 cases h with
 | zero=>rw[w.1];rfl
 | succ h=>rw[w.1];rfl
theorem WF.ents_in {X:Sto} : ∀ {h:Nat} {n:Nd} {lo hi},WF X h n lo hi → ∀e∈ents X h n,inR lo hi e.1
 | 0,n,lo,hi,w,e,he=>by
  have hk:e.1∈n.keys:=by
   rw[←kvs_keys (w.2.1.leaf w.1).1];exact List.mem_map_of_mem he
  exact w.2.2.2 _ hk
 | h + 1,n,lo,hi,w,e,he=>seg_in (K:=KP X h) (fun _ _ _ k=>k.1) (E:=fun c=>ents X h (X.nd c)) (fun _ _ _ k=>WF.ents_in k.2.2.2) w.2.2 e he
theorem WF.up {X:Sto} : ∀ {h:Nat} {n:Nd} {lo hi},WF X h n lo hi→UpE (ents X h n)
 | 0,_,_,_,w=>up_kvs (w.2.1.leaf w.1).1 w.2.2.1
 | h + 1,_,_,_,w=>seg_up (K:=KP X h) (fun _ _ _ k=>k.1) (E:=fun c=>ents X h (X.nd c)) (fun _ _ _ k=>WF.ents_in k.2.2.2) (fun _ _ _ k=>WF.up k.2.2.2) w.2.2
theorem WF.keys_up {X:Sto} {h:Nat} {n:Nd} {lo hi} (w:WF X h n lo hi):Up n.keys ∧ ∀k∈n.keys,inR lo hi k:=by
 cases h with
 | zero=>exact w.2.2
 | succ h =>
  obtain⟨-,h2,h3⟩:=seg_keys (K:=KP X h) (fun _ _ _ k=>k.1) w.2.2
  exact⟨h2,fun k hk=>⟨bs_asymm (h3 k hk).1,(h3 k hk).2⟩⟩
theorem flat_congr {α β} {l:List α} {f g : α → List β} (h:∀c∈l,f c=g c):l.flatMap f=l.flatMap g:=by
 induction l with
 | nil=>rfl
 | cons a t ih=>rw[List.flatMap_cons,List.flatMap_cons,h a (by simp),ih fun c hc=>h c (by simp[hc])]
theorem frame {X Y:Sto} : ∀ {h:Nat} {n:Nd} (_:∀c∈pgs X h n,Y.load c=X.load c),ents Y h n=ents X h n∧pgs Y h n=pgs X h n ∧ ∀lo hi,WF X h n lo hi→WF Y h n lo hi
 | 0,_,_=>⟨rfl,rfl,fun _ _ w=>w⟩
 | h + 1,n,e=>by
  have hc:∀c∈n.kids,Y.load c=X.load c ∧ ∀c'∈pgs X h (X.nd c),Y.load c'=X.load c':=fun c hc =>
   ⟨e c (List.mem_flatMap.2 ⟨c,hc,by simp⟩),fun c' hc'=>e c' (List.mem_flatMap.2 ⟨c,hc,by simp[hc']⟩)⟩
  have hn:∀c∈n.kids,Y.nd c=X.nd c:=fun c h=>by unfold Sto.nd;rw[(hc c h).1]
  refine⟨flat_congr fun c h'=>?_,flat_congr fun c h'=>?_,fun lo hi w=>⟨w.1,w.2.1,seg_mono w.2.2 fun c h' l u k=>?_⟩⟩
  ·rw[hn c h'];exact(frame (hc c h').2).1
  ·rw[hn c h',(frame (hc c h').2).2.1]
  ·refine⟨k.1,?_,?_,?_⟩
   ·unfold Sto.gd;rw[(hc c h').1];exact k.2.1
   ·rw[hn c h'];exact k.2.2.1
   ·rw[hn c h'];exact(frame (hc c h').2).2.2 l u k.2.2.2
theorem half_facts {n:Nd} (hf:n.Fit) (ho:n.over=true):2≤n.half∧n.half < n.len∧(n.leaf=true→n.half < n.keys.length)∧(n.leaf=false→n.half≤n.keys.length∧3≤n.half):=by
 have hm:(if n.leaf then 4 else 6) < n.len:=by simpa[Nd.over] using ho
 unfold Nd.half
 cases hl:n.leaf
 ·have hi:=hf.inner hl
  simp[Nd.len,hl] at hm⊢
  omega
 ·have hi:=hf.leaf hl
  simp[Nd.len,hl] at hm⊢
  omega
theorem WF.halves {X:Sto} {h:Nat} {n:Nd} {lo hi} (w:WF X h n lo hi) (ho:n.over=true) :
  WF X h n.lo lo (some n.mid)∧WF X h n.hi n.mid hi∧lo < n.mid∧below n.mid hi∧ents X h n=ents X h n.lo ++ ents X h n.hi∧pgs X h n=pgs X h n.lo ++ pgs X h n.hi:=by
 obtain⟨f1,f2,f3,f4,f5,f6,f7,f8⟩:=w.fit.halves ho
 obtain⟨g1,g2,g3,g4⟩:=half_facts w.fit ho
 cases h with
 | zero =>
  obtain⟨hl,hf,hu,hr⟩:=w
  have hk:=g3 hl
  have em:n.mid=n.keys[n.half]:=by simp[Nd.mid,hl,List.getD,hk]
  have e0:n.keys=n.keys.take n.half ++ n.mid :: n.keys.drop (n.half + 1):=by rw[em,List.getElem_cons_drop,List.take_append_drop]
  have e1:n.keys.drop n.half=n.mid :: n.keys.drop (n.half + 1):=by rw[em,List.getElem_cons_drop]
  have hu':=hu
  unfold Up at hu'
  rw[e0] at hu'
  obtain⟨u1,u2,u3⟩:=List.pairwise_append.1 hu'
  have hlo:n.lo.keys=n.keys.take n.half:=by simp[Nd.lo,hl]
  have hhi:n.hi.keys=n.keys.drop n.half:=by simp[Nd.hi,hl]
  have h0:(0:Nat) < n.keys.length:=by omega
  have hfirst:n.keys[0]∈n.keys.take n.half:=by
   rw[List.mem_take_iff_getElem];exact⟨0,by omega,rfl⟩
  refine⟨⟨by rw[f4,hl],f1,?_,?_⟩,⟨by rw[f5,hl],f2,?_,?_⟩,?_,?_,?_,?_⟩
  ·rw[hlo];exact u1
  ·rw[hlo]
   intro k hk'
   exact⟨(hr k (mem_takeB hk')).1,fun z hz=>by injection hz with hz;subst hz;exact u3 k hk' _ (by simp)⟩
  ·rw[hhi,e1];exact u2
  ·rw[hhi,e1]
   intro k hk'
   refine⟨?_,(hr k (mem_dropB (by rw[e1];exact hk'))).2⟩
   rcases List.mem_cons.1 hk' with rfl|hk'
   ·exact List.lt_irrefl _
   ·exact bs_asymm ((List.pairwise_cons.1 u2).1 k hk')
  ·exact bs_le_lt (hr _ (mem_takeB hfirst)).1 (u3 _ hfirst _ (by simp))
  ·exact(hr _ f8).2
  ·show n.kvs=n.lo.kvs ++ n.hi.kvs
   unfold Nd.kvs
   simp only[Nd.lo,Nd.hi,hl,if_true]
   rw[←List.zip_append (by simp[(hf.leaf hl).1]),List.take_append_drop,List.take_append_drop]
  ·rfl
 | succ h =>
  obtain⟨hl,hf,hs⟩:=w
  obtain⟨hk,h3⟩:=g4 hl
  have hlk:=(hf.inner hl).1
  have em:n.mid=n.keys[n.half - 1]:=by simp[Nd.mid,hl,List.getD,show n.half - 1 < n.keys.length by omega]
  have e0:n.keys=n.keys.take (n.half - 1) ++ n.mid :: n.keys.drop n.half:=by
   have := @List.getElem_cons_drop Bs n.keys (n.half - 1) (by omega)
   rw[show n.half - 1 + 1=n.half by omega] at this
   rw[em,this,List.take_append_drop]
  have ek:n.kids=n.kids.take n.half ++ n.kids.drop n.half:=(List.take_append_drop _ _).symm
  have hs':=hs
  rw[ek,e0] at hs'
  obtain⟨u,s1,s2⟩:=(seg_right (K:=KP X h) (by simp;omega)).1 hs'
  obtain⟨rfl,s2⟩:=s2
  obtain⟨q1, -, -⟩:=seg_keys (K:=KP X h) (fun _ _ _ k=>k.1) s1
  obtain⟨q2, -, -⟩:=seg_keys (K:=KP X h) (fun _ _ _ k=>k.1) s2
  refine⟨⟨by rw[f4,hl],f1,?_⟩,⟨by rw[f5,hl],f2,?_⟩,q1 _ rfl,q2,?_,?_⟩
  ·simp only[Nd.lo,hl];exact s1
  ·simp only[Nd.hi,hl];exact s2
  ·simp only[ents]
   conv=>lhs;rw[ek]
   rw[List.flatMap_append]
   simp[Nd.lo,Nd.hi,hl]
  ·simp only[pgs]
   conv=>lhs;rw[ek]
   rw[List.flatMap_append]
   simp[Nd.lo,Nd.hi,hl]
theorem WF.join {X:Sto} {h:Nat} {a b:Nd} {lo hi k} (wa:WF X h a lo (some k)) (wb:WF X h b k hi) (h1:lo < k) (h2:below k hi) (hk:k.length≤24) (hn:a.len + b.len≤20) :
  WF X h (nJoin a k b) lo hi∧ents X h (nJoin a k b)=ents X h a ++ ents X h b∧pgs X h (nJoin a k b)=pgs X h a ++ pgs X h b∧(nJoin a k b).len=a.len + b.len:=by
 have hab:b.leaf=a.leaf:=by rw[wa.leaf,wb.leaf]
 obtain⟨f1,f2,f3⟩:=wa.fit.join wb.fit hk hab hn
 cases h with
 | zero =>
  obtain⟨al,af,au,ar⟩:=wa
  obtain⟨bl,bf,bu,br⟩:=wb
  have e1:(nJoin a k b).keys=a.keys ++ b.keys:=by simp[nJoin,al]
  refine⟨⟨by rw[f2,al],f1,?_,?_⟩,?_,rfl,f3⟩
  ·rw[e1]
   exact List.pairwise_append.2 ⟨au,bu,fun x hx y hy=>bs_lt_le ((ar x hx).2 k rfl) (br y hy).1⟩
  ·rw[e1]
   intro x hx
   rcases List.mem_append.1 hx with hx|hx
   ·exact⟨(ar x hx).1,fun z hz=>List.lt_trans ((ar x hx).2 k rfl) (h2 z hz)⟩
   ·exact⟨fun hl=>(br x hx).1 (List.lt_trans hl h1),(br x hx).2⟩
  ·show Nd.kvs (nJoin a k b)=a.kvs ++ b.kvs
   unfold Nd.kvs
   rw[e1]
   exact List.zip_append (af.leaf al).1.symm
 | succ h =>
  obtain⟨al,af,asg⟩:=wa
  obtain⟨bl,bf,bsg⟩:=wb
  refine⟨⟨by rw[f2,al],f1,?_⟩,?_,?_,f3⟩
  ·have e1:(nJoin a k b).keys=a.keys ++ (k :: b.keys):=by simp[nJoin,al]
   have e2:(nJoin a k b).kids=a.kids ++ b.kids:=rfl
   rw[e1,e2]
   exact(seg_right (K:=KP X h) (seg_len asg)).2 ⟨some k,asg,rfl,bsg⟩
  ·simp only[ents,nJoin,List.flatMap_append]
  ·simp only[pgs,nJoin,List.flatMap_append]
end Go.Proofs.YtfgjehecjgebdaaGreat
/- Plain: a change of a tree under way; a node laid. -/
namespace Go.Proofs.YtfgjehecjgebdaaGreat
set_option maxHeartbeats 1000000
theorem stAt_cast (l:List Nat) (j:Nat):stAt l (j:Int)=match l[j]? with|some x=>(x:Int)|none => -1:=by
 unfold stAt
 rw[if_neg (by omega),Int.toNat_natCast];rfl
theorem load_keep {X Y:Sto} (j:Nat) (hD:Y.D=X.D) (hl:Y.l.length=X.l.length) (h:Y.l.getD j 0=X.l.getD j 0∨(X.l.getD j 0 % 2=1∧Y.l.getD j 0 % 2=1∧X.l.getD j 0 < 4∧Y.l.getD j 0 < 4)) (hT:Y.T j=X.T j∨X.l.getD j 0 ≠ 2):Y.load j=X.load j:=by
 have e:Y.read j=X.read j:=by
  unfold Sto.read
  rw[stAt_cast,stAt_cast,Int.toNat_natCast,hD]
  by_cases hj:j < X.l.length
  ·have hj':j < Y.l.length:=by omega
   have e1:X.l.getD j 0=X.l[j]:=by simp[List.getD,hj]
   have e2:Y.l.getD j 0=Y.l[j]:=by simp[List.getD,hj']
   rw[List.getElem?_eq_getElem hj,List.getElem?_eq_getElem hj']
   rw[e1,e2] at h
   rw[e1] at hT
   simp only
   rcases h with h|⟨h1,h2,h3,h4⟩
   ·rw[h]
    by_cases h2:(X.l[j]:Int)=2
    ·rw[if_pos h2,if_pos h2,hT.resolve_right (by omega)]
    ·rw[if_neg h2,if_neg h2]
   ·rw[if_neg (show ¬(Y.l[j]:Int)=2 by omega),if_pos (show(Y.l[j]:Int)=1∨(Y.l[j]:Int)=3 by omega),if_neg (show ¬(X.l[j]:Int)=2 by omega),if_pos (show(X.l[j]:Int)=1∨(X.l[j]:Int)=3 by omega)]
  ·rw[List.getElem?_eq_none (by omega),List.getElem?_eq_none (by omega)]
   simp
 unfold Sto.load
 rw[e]
theorem load_put {X:Sto} {i:Nat} {n:Nd} (hi:i < X.l.length) (hn:n.Ok):Sto.load { X with l:=X.l.set i 2,T:=upd X.T i n.text } i=(n,0):=by
 have e:Sto.read { X with l:=X.l.set i 2,T:=upd X.T i n.text } i=(n.text,0):=by
  unfold Sto.read
  rw[stAt_cast]
  simp[hi,upd]
 unfold Sto.load
 rw[e]
 simp only
 rw[if_neg (by simp),parse_text hn]
structure Ext (W W':Wk) (fr od:List Nat):Prop where
 len:W'.X.l.length=W.X.l.length
 fresh:W'.fresh=W.fresh ++ fr
 old:W'.old=W.old ++ od
 nd:fr.Nodup
 z:∀j∈fr,j < W.X.l.length∧W.X.l.getD j 0=0
 st:∀j,W'.X.l.getD j 0=if j∈fr then 2 else W.X.l.getD j 0
 ld:∀j:Nat,W.X.l.getD j 0 ≠ 0→W'.X.load j=W.X.load j
 dv:W'.X.D=W.X.D∧W'.X.sup=W.X.sup
theorem Ext.refl (W:Wk):Ext W W [] []:=⟨rfl,by simp,by simp,List.nodup_nil,by simp,by simp,fun _ _=>rfl,rfl,rfl⟩
theorem Ext.live {W W':Wk} {fr od} (h:Ext W W' fr od) {j:Nat} (hj:W.X.l.getD j 0 ≠ 0):W'.X.l.getD j 0 ≠ 0:=by
 rw[h.st];split
 ·omega
 ·exact hj
theorem Ext.new {W W':Wk} {fr od} (h:Ext W W' fr od) {j:Nat} (hj:j∈fr):W'.X.l.getD j 0 ≠ 0:=by rw[h.st,if_pos hj];omega
theorem Ext.trans {W W1 W2:Wk} {fr od fr' od'} (h:Ext W W1 fr od) (h':Ext W1 W2 fr' od'):Ext W W2 (fr ++ fr') (od ++ od'):=by
 have hz:∀j∈fr',j ∉ fr∧W.X.l.getD j 0=0:=fun j hj=>by
  have:=(h'.z j hj).2
  rw[h.st] at this
  split at this
  ·omega
  ·next hn=>exact⟨hn,this⟩
 refine⟨h'.len.trans h.len,?_,?_,?_,?_,?_,?_,⟨h'.dv.1.trans h.dv.1,h'.dv.2.trans h.dv.2⟩⟩
 ·rw[h'.fresh,h.fresh,List.append_assoc]
 ·rw[h'.old,h.old,List.append_assoc]
 ·exact List.nodup_append.2 ⟨h.nd,h'.nd,fun a ha b hb e=>(hz b hb).1 (e ▸ ha)⟩
 ·intro j hj
  rcases List.mem_append.1 hj with hj|hj
  ·exact h.z j hj
  ·exact⟨h.len ▸ (h'.z j hj).1,(hz j hj).2⟩
 ·intro j
  rw[h'.st,h.st]
  simp only[List.mem_append]
  by_cases h1:j∈fr<;>by_cases h2:j∈fr'<;>simp[h1,h2]
 ·intro j hj
  rw[h'.ld j (h.live hj),h.ld j hj]
theorem Ext.add {W W':Wk} {fr od} (h:Ext W W' fr od) (i:Nat):Ext W (W'.add i) fr (od ++ [i]) :=
 ⟨h.len,h.fresh,by simp[Wk.add,h.old],h.nd,h.z,h.st,h.ld,h.dv⟩
theorem ext_add (W:Wk) (i:Nat):Ext W (W.add i) [] [i]:=(Ext.refl W).add i
theorem getD_set {l:List Nat} {i j x:Nat} (hi:i < l.length):(l.set i x).getD j 0=if j=i then x else l.getD j 0:=by
 simp only[List.getD,List.getElem?_set]
 by_cases h:j=i
 ·subst h;simp[hi]
 ·rw[if_neg (fun e=>h e.symm),if_neg h]
theorem tk_some {l:List Nat} {i:Nat} (h:tkAt l=some i):i < l.length∧l.getD i 0=0:=by
 obtain⟨h1,h2,_⟩:=List.findIdx?_eq_some_iff_getElem.1 h
 exact⟨h1,by simpa[List.getD,h1] using h2⟩
theorem tk_none {l:List Nat} (h:tkAt l=none):∀j,j < l.length→l.getD j 0 ≠ 0:=by
 intro j hj
 have:=List.findIdx?_eq_none_iff.1 h l[j] (List.getElem_mem hj)
 simpa[List.getD,hj] using this
def FullW (W:Wk):Prop:=∀j,j < W.X.l.length→W.X.l.getD j 0 ≠ 0
theorem putP_ok (W:Wk) {n:Nd} (hn:n.Ok):((putP W n).1.2=7∧(putP W n).2=W∧tkAt W.X.l=none) ∨
  ((putP W n).1.2=0∧Ext W (putP W n).2 [(putP W n).1.1] []∧(putP W n).2.X.nd (putP W n).1.1=n∧(putP W n).2.X.gd (putP W n).1.1):=by
 have hsh:n.Sh:=by
  unfold Nd.Sh
  split
  ·next hl=>exact(hn.leaf hl).1
  ·next hl=>exact(hn.inner (by simpa using hl)).2.1
 have ht:=text_fits hn.most hsh hn.kl hn.vl hn.kid
 unfold putP
 rw[if_neg (by omega)]
 cases hk:tkAt W.X.l with
 | none=>exact .inl ⟨rfl,rfl,rfl⟩
 | some i =>
  obtain⟨h1,h2⟩:=tk_some hk
  refine .inr ⟨rfl,⟨by simp,rfl,by simp,by simp,?_,?_,?_,rfl,rfl⟩,?_,?_⟩
  ·intro j hj;simp only[List.mem_singleton] at hj;subst hj;exact⟨h1,h2⟩
  ·intro j;simp only[List.mem_singleton];exact getD_set h1
  ·intro j hj
   have hji:j ≠ i:=fun e=>by subst e;exact hj h2
   exact load_keep (X:=W.X) j rfl (by simp) (.inl (by simp only;rw[getD_set h1,if_neg hji])) (.inl (by simp[upd,hji]))
  ·unfold Sto.nd;simp only;rw[load_put h1 hn]
  ·unfold Sto.gd;simp only;rw[load_put h1 hn]
theorem putP_new {W W':Wk} {i:Nat} (h:Ext W W' [i] []) {fr od:List Nat} {W2:Wk} (h':Ext W' W2 fr od):W2.X.load i=W'.X.load i:=h'.ld i (h.new (by simp))
theorem layP_spec (W:Wk) {n:Nd} (h1:n.over=false→n.Ok) (h2:n.over=true→n.lo.Ok∧n.hi.Ok):∃fr,fr.length≤2∧Ext W (layP W n).2.2 fr []∧((layP W n).2.1=7∧FullW (layP W n).2.2∨(layP W n).2.1=0 ∧
  ((n.over=false ∧ ∃a,(layP W n).1.1 = [a]∧(layP W n).1.2 = []∧fr = [a]∧(layP W n).2.2.X.nd a=n∧(layP W n).2.2.X.gd a) ∨
   (n.over=true ∧ ∃a b,(layP W n).1.1 = [a,b]∧(layP W n).1.2=n.mid∧fr = [a,b]∧(layP W n).2.2.X.nd a=n.lo∧(layP W n).2.2.X.gd a∧(layP W n).2.2.X.nd b=n.hi∧(layP W n).2.2.X.gd b))):=by
 unfold layP
 by_cases ho:n.over=false
 ·rw[if_pos ho]
  rcases putP_ok W (h1 ho) with⟨e1,e2,e0⟩|⟨e1,e2,e3,e4⟩
  ·exact⟨[],by simp,by rw[e2];exact Ext.refl W,.inl ⟨e1,by rw[e2];exact tk_none e0⟩⟩
  ·exact⟨[(putP W n).1.1],by simp,e2,.inr ⟨e1,.inl ⟨ho,_,rfl,rfl,rfl,e3,e4⟩⟩⟩
 ·rw[if_neg ho]
  have ho':n.over=true:=by simpa using ho
  obtain⟨o1,o2⟩:=h2 ho'
  rcases putP_ok W o1 with⟨e1,e2,e0⟩|⟨e1,e2,e3,e4⟩
  ·rw[if_pos (by rw[e1];decide)]
   exact⟨[],by simp,by rw[e2];exact Ext.refl W,.inl ⟨e1,by rw[e2];exact tk_none e0⟩⟩
  ·rw[if_neg (by rw[e1];decide)]
   rcases putP_ok (putP W n.lo).2 o2 with⟨f1,f2,f0⟩|⟨f1,f2,f3,f4⟩
   ·exact⟨[(putP W n.lo).1.1],by simp,by rw[f2];exact e2,.inl ⟨f1,by simp only;rw[f2];exact tk_none f0⟩⟩
   ·refine⟨[(putP W n.lo).1.1] ++ [(putP (putP W n.lo).2 n.hi).1.1],by simp,e2.trans f2,.inr ⟨f1,.inr ⟨ho',_,_,rfl,rfl,rfl,?_,?_,f3,f4⟩⟩⟩
    ·unfold Sto.nd at *;rw[putP_new e2 f2];exact e3
    ·unfold Sto.gd at *;rw[putP_new e2 f2];exact e4
theorem WF.ok {X:Sto} {h:Nat} {n:Nd} {lo hi} (w:WF X h n lo hi) (ho:n.over=false) (h2:n.leaf=false→2≤n.kids.length):n.Ok :=
 ⟨ho,w.fit.leaf,fun hl=>⟨h2 hl,w.fit.inner hl⟩,w.fit.kl,w.fit.vl,w.keys_up.1,w.fit.kid⟩
theorem not_over {n:Nd} : n.over=false↔n.len≤(if n.leaf then 4 else 6):=by unfold Nd.over;simp
theorem not_under {n:Nd} : n.under=false↔(if n.leaf then 2 else 3)≤n.len:=by unfold Nd.under;simp
theorem WF.ok_halves {X:Sto} {h:Nat} {n:Nd} {lo hi} (w:WF X h n lo hi) (ho:n.over=true) (hn:n.len≤(if n.leaf then 8 else 12)):n.lo.Ok∧n.hi.Ok∧n.lo.under=false∧n.hi.under=false:=by
 obtain⟨w1,w2, -, -, -, -⟩:=w.halves ho
 obtain⟨f1,f2,f3,f4,f5,f6,f7,f8⟩:=w.fit.halves ho
 have hm:(if n.leaf then 4 else 6) < n.len:=by simpa[Nd.over] using ho
 have hh:n.half=(n.len + 1) / 2:=rfl
 refine⟨w1.ok ?_ ?_,w2.ok ?_ ?_,?_,?_⟩
 ·rw[not_over,f4,f6];split at hn<;>simp_all<;>omega
 ·rw[f4];intro hl;have:n.lo.len=n.lo.kids.length:=by simp[Nd.len,f4,hl]
  rw[hl] at hm;simp at hm;omega
 ·rw[not_over,f5,f7];split at hn<;>simp_all<;>omega
 ·rw[f5];intro hl;have:n.hi.len=n.hi.kids.length:=by simp[Nd.len,f5,hl]
  rw[hl] at hm;simp at hm;omega
 ·rw[not_under,f4,f6];split at hm<;>simp_all<;>omega
 ·rw[not_under,f5,f7];split at hm<;>simp_all<;>omega
end Go.Proofs.YtfgjehecjgebdaaGreat
/- Plain: what a change leaves. -/
namespace Go.Proofs.YtfgjehecjgebdaaGreat
set_option maxHeartbeats 1000000
theorem riseP_snoc (s:Stp):∀(L:List Stp) (W:Wk) (p:Parts),riseP W p (L ++ [s])=if (riseP W p L).2.1 ≠ 0 then riseP W p L else layP ((riseP W p L).2.2.add s.id) (s.n.repl s.at_ (s.at_ + 1) (riseP W p L).1.1 (riseP W p L).1.2)
 | [],W,p=>by
  rw[if_neg (show ¬(riseP W p []).2.1 ≠ 0 from fun h=>h rfl)]
  show riseP W p [s]=layP (W.add s.id) (s.n.repl s.at_ (s.at_ + 1) p.1 p.2)
  simp only[riseP]
  split
  ·rfl
  ·next h =>
   have h:=Classical.not_not.1 h
   generalize layP (W.add s.id) (s.n.repl s.at_ (s.at_ + 1) p.1 p.2)=u at h
   obtain⟨u1,u2,u3⟩:=u
   simp only at h
   subst h
   rfl
 | t :: L,W,p=>by
  simp only[List.cons_append,riseP]
  by_cases h:(layP (W.add t.id) (t.n.repl t.at_ (t.at_ + 1) p.1 p.2)).2.1 ≠ 0
  ·simp only[if_pos h]
  ·simp only[if_neg h]
   exact riseP_snoc s L _ _
theorem upP_snoc (s:Stp) (k v:Bs):∀(L:List Stp) (_:L ≠ []) (W:Wk),upP W k v (L ++ [s])=if (upP W k v L).2.1 ≠ 0 then upP W k v L else layP ((upP W k v L).2.2.add s.id) (s.n.repl s.at_ (s.at_ + 1) (upP W k v L).1.1 (upP W k v L).1.2)
 | [],h,_=>absurd rfl h
 | t :: L,_,W=>by
  simp only[List.cons_append,upP]
  by_cases h:(layP (W.add t.id) (t.n.set k v)).2.1 ≠ 0
  ·simp only[if_pos h]
  ·simp only[if_neg h]
   exact riseP_snoc s L _ _
theorem upP_one (s:Stp) (k v:Bs) (W:Wk):upP W k v [s]=layP (W.add s.id) (s.n.set k v):=by
 simp only[upP,riseP]
 split
 ·rfl
 ·next h =>
  have h:=Classical.not_not.1 h
  generalize layP (W.add s.id) (s.n.set k v)=u at h
  obtain⟨u1,u2,u3⟩:=u
  simp only at h
  subst h
  rfl
theorem sinkP_snoc (s:Stp):∀(L:List Stp) (W:Wk) (n:Nd),sinkP W n (L ++ [s])=if (sinkP W n L).2.1 ≠ 0 then sinkP W n L else
  if (levelP (sinkP W n L).2.2 s (sinkP W n L).1).2.1 ≠ 0 then levelP (sinkP W n L).2.2 s (sinkP W n L).1 else ((levelP (sinkP W n L).2.2 s (sinkP W n L).1).1,0,(levelP (sinkP W n L).2.2 s (sinkP W n L).1).2.2.add s.id)
 | [],W,n=>by
  rw[if_neg (show ¬(sinkP W n []).2.1 ≠ 0 from fun h=>h rfl)]
  rfl
 | t :: L,W,n=>by
  simp only[List.cons_append,sinkP]
  by_cases h:(levelP W t n).2.1 ≠ 0
  ·simp only[if_pos h]
  ·simp only[if_neg h]
   exact sinkP_snoc s L _ _
theorem repl_at {n:Nd} {A C B ids:List Nat} {KA KC KB:List Bs} {i j:Nat} {key:Bs} (hk:n.kids=A ++ C ++ B) (hs:n.keys=KA ++ KC ++ KB) (h1:A.length=i) (h2:KA.length=i) (hj:j=i + C.length) (hc:KC.length + 1=C.length) :
  (n.repl i j ids key).kids=A ++ ids ++ B∧(n.repl i j ids key).keys=KA ++ (if ids.length=2 then [key] else []) ++ KB:=by
 have t1:n.kids.take i=A:=by rw[hk,List.append_assoc, ←h1,List.take_left]
 have t2:n.kids.drop j=B:=by rw[hk,hj, ←h1, ←List.length_append,List.drop_left]
 have t3:n.keys.take i=KA:=by rw[hs,List.append_assoc, ←h2,List.take_left]
 have t4:n.keys.drop (j - 1)=KB:=by rw[hs,hj, ←h2, ←hc,show KA.length + (KC.length + 1) - 1=KA.length + KC.length by omega, ←List.length_append,List.drop_left]
 unfold Nd.repl
 simp only[t1,t2,t3,t4,true_and]
 split
 ·unfold insAt
  rw[←h2,List.take_left,List.drop_left]
  simp
 ·simp
def Holds (X:Sto) (W:Wk) (l:List Nat):Prop:=∀c∈l,W.X.l.getD c 0 ≠ 0∧W.X.load c=X.load c
theorem Holds.ext {X:Sto} {W W':Wk} {l fr od} (h:Holds X W l) (e:Ext W W' fr od):Holds X W' l:=fun c hc=>⟨e.live (h c hc).1,(e.ld c (h c hc).1).trans (h c hc).2⟩
theorem Holds.sub {X:Sto} {W:Wk} {l l':List Nat} (h:Holds X W l) (hs:∀c∈l',c∈l):Holds X W l':=fun c hc=>h c (hs c hc)
abbrev cntP (x:Nat) (l:List Nat):Nat:=List.count x l
theorem mono_of {X:Sto} {W:Wk} {h:Nat} {cs:List Nat} (hW:Holds X W (cs.flatMap fun c=>c :: pgs X h (X.nd c))):(∀c∈cs, ∀l u,KP X h c l u→KP W.X h c l u)∧(cs.flatMap fun c=>ents W.X h (W.X.nd c))=(cs.flatMap fun c=>ents X h (X.nd c))∧(cs.flatMap fun c=>c :: pgs W.X h (W.X.nd c))=(cs.flatMap fun c=>c :: pgs X h (X.nd c)):=by
 have hc:∀c∈cs,W.X.load c=X.load c ∧ ∀c'∈pgs X h (X.nd c),W.X.load c'=X.load c':=fun c hc =>
  ⟨(hW c (List.mem_flatMap.2 ⟨c,hc,by simp⟩)).2,fun c' hc'=>(hW c' (List.mem_flatMap.2 ⟨c,hc,by simp[hc']⟩)).2⟩
 have hn:∀c∈cs,W.X.nd c=X.nd c:=fun c h=>by unfold Sto.nd;rw[(hc c h).1]
 refine⟨fun c h' l u k=>⟨k.1,?_,?_,?_⟩,flat_congr fun c h'=>?_,flat_congr fun c h'=>?_⟩
 ·unfold Sto.gd;rw[(hc c h').1];exact k.2.1
 ·rw[hn c h'];exact k.2.2.1
 ·rw[hn c h'];exact(frame (hc c h').2).2.2 l u k.2.2.2
 ·rw[hn c h'];exact(frame (hc c h').2).1
 ·rw[hn c h',(frame (hc c h').2).2.1]
theorem find_inner {n:Nd} (hl:n.leaf=false) (k:Bs):n.find k=lbd n.keys k + if k∈n.keys then 1 else 0:=by
 unfold Nd.find;simp[hl]
theorem find_mid {X:Sto} {h:Nat} {n:Nd} {lo hi} (w:WF X (h + 1) n lo hi) (k:Bs) (hin:inR lo hi k):∃A c B KA KB m u,n.kids=A ++ [c] ++ B∧n.keys=KA ++ [] ++ KB∧A.length=n.find k∧KA.length=n.find k∧n.kids.getD (n.find k) 0=c∧SegL (KP X h) A KA lo m∧KP X h c m u∧SegR (KP X h) KB B u hi∧inR m u k ∧
  (∀e∈A.flatMap fun c=>ents X h (X.nd c),e.1 < k)∧(∀e∈B.flatMap fun c=>ents X h (X.nd c),k < e.1):=by
 obtain⟨hl,hf,hs⟩:=w
 have hu:=(WF.keys_up (X:=X) (h:=h + 1) ⟨hl,hf,hs⟩).1
 have hfi:=find_inner hl k
 have hfl:n.find k≤n.keys.length:=find_le n k hu
 obtain⟨A,c,B,KA,KB,e1,e2,e3,e4,e5⟩:=split_at (K:=KP X h) hs hfl
 have hs':=hs
 rw[e1,e2] at hs'
 obtain⟨m,u,s1,s2,s3⟩:=(seg_mid (K:=KP X h) (by omega) (by simp)).1 hs'
 obtain⟨c1,c2⟩:=lbd_cnt hu k
 rw[←hfi] at c1 c2
 have tA:n.keys.take (n.find k)=KA:=by rw[e2,List.append_nil, ←e4,List.take_left]
 have tB:n.keys.drop (n.find k)=KB:=by rw[e2,List.append_nil, ←e4,List.drop_left]
 rw[tA] at c1
 rw[tB] at c2
 have hm:¬k < m:=by
  rcases List.eq_nil_or_concat KA with rfl|⟨KA',x,rfl⟩
  ·cases A with
   | nil=>cases s1;exact hin.1
   | cons=>simp at e3 e4;omega
  ·have:x=m:=by
    have:∀ {A:List Nat} {K':List Bs} {lo},SegL (KP X h) A (K' ++ [x]) lo m→x=m:=by
     intro A K'
     induction K' generalizing A with
     | nil=>intro lo hq;match A,hq with
      | [a],hq=>exact hq.2
      | a :: b :: A,hq=>exact hq.2.elim
     | cons y K' ih=>intro lo hq;match A,hq with
      | a :: A,hq=>exact ih hq.2
    exact this (by simpa using s1)
   subst this
   exact c1 x (by simp)
 have hku:below k u:=by
  cases KB with
  | nil=>obtain⟨rfl,_⟩:=s3;exact hin.2
  | cons y ys =>
   obtain⟨rfl,_⟩:=s3
   intro z hz;injection hz with hz;subst hz
   exact c2 y (by simp)
 refine⟨A,c,B,KA,KB,m,u,e1,e2,e3,e4,e5,s1,s2.1,s3,⟨hm,hku⟩,fun e he=>?_,fun e he=>?_⟩
 ·have:=segL_in (K:=KP X h) (fun _ _ _ k=>k.1) (E:=fun c=>ents X h (X.nd c)) (fun _ _ _ k=>WF.ents_in k.2.2.2) s1 e he
  exact bs_lt_le (this.2 m rfl) hm
 ·have:=(segR_in (K:=KP X h) (fun _ _ _ k=>k.1) (E:=fun c=>ents X h (X.nd c)) (fun _ _ _ k=>WF.ents_in k.2.2.2) s3 e he).1
  cases u with
  | none =>
   cases KB with
   | nil=>obtain⟨_,rfl⟩:=s3;simp at he
   | cons=>obtain⟨hh,_⟩:=s3;cases hh
  | some z =>
   rcases bs_tri k e.1 with h1|h1|h1
   ·exact h1
   ·exact absurd (h1 ▸ hku z rfl) (this z rfl)
   ·exact absurd (List.lt_trans h1 (hku z rfl)) (this z rfl)
theorem gd_nd_ok {X:Sto} {c:Nat} (h:X.gd c):(X.nd c).Ok:=load_ok h
structure Moved (X:Sto) (h:Nat) (n:Nd) (lo:Bs) (hi:Option Bs) (own:List Nat) (W W1:Wk) (n':Nd) (E:List KV) (fr od:List Nat):Prop where
 ext:Ext W W1 fr od
 wf:WF W1.X h n' lo hi
 en:ents W1.X h n'=E
 ct:∀x,cntP x (pgs W1.X h n') + cntP x od=cntP x (own ++ pgs X h n) + cntP x fr
 lv:∀c∈pgs W1.X h n',W1.X.l.getD c 0 ≠ 0
theorem lv_of {X:Sto} {W W1:Wk} {fr od P Q:List Nat} (e:Ext W W1 fr od) (hQ:Holds X W Q) (hc:∀x,cntP x P + cntP x od=cntP x Q + cntP x fr):∀c∈P,W1.X.l.getD c 0 ≠ 0:=by
 intro c hcP
 have h1:=List.count_pos_iff.2 hcP
 have:=hc c
 by_cases hq:c∈Q
 ·exact e.live (hQ c hq).1
 ·have h0:=List.count_eq_zero.2 hq
  exact e.new (List.count_pos_iff.1 (by unfold cntP at *;omega))
end Go.Proofs.YtfgjehecjgebdaaGreat
/- Plain: Put, below a page. -/
namespace Go.Proofs.YtfgjehecjgebdaaGreat
set_option maxHeartbeats 1000000
theorem replaced {X:Sto} {h:Nat} {n:Nd} {lo hi} {W W1:Wk} {A C B ids:List Nat} {KA KC KB:List Bs} {m:Bs} {u:Option Bs} {i j:Nat} {key:Bs} {fr od:List Nat}
  (w:WF X (h + 1) n lo hi) (hn:n.len≤6) (hk:n.kids=A ++ C ++ B) (hs:n.keys=KA ++ KC ++ KB) (h1:A.length=i) (h2:KA.length=i) (hj:j=i + C.length) (hc:KC.length + 1=C.length)
  (sL:SegL (KP X h) A KA lo m) (sR:SegR (KP X h) KB B u hi) (hW:Holds X W (pgs X (h + 1) n)) (e:Ext W W1 fr od)
  (sI:Seg (KP W1.X h) ids (if ids.length=2 then [key] else []) m u) (hids:∀x∈ids,x < 128) (h12:ids.length=1∨ids.length=2) (hkey:key.length≤24)
  (hct:∀x,cntP x (ids.flatMap fun c=>c :: pgs W1.X h (W1.X.nd c)) + cntP x od=cntP x (C.flatMap fun c=>c :: pgs X h (X.nd c)) + cntP x fr) :
  Moved X (h + 1) n lo hi [] W W1 (n.repl i j ids key) ((A.flatMap fun c=>ents X h (X.nd c)) ++ (ids.flatMap fun c=>ents W1.X h (W1.X.nd c)) ++ (B.flatMap fun c=>ents X h (X.nd c))) fr od∧(n.repl i j ids key).len + C.length=n.len + ids.length∧(n.repl i j ids key).leaf=false:=by
 obtain⟨hl,hf,hsg⟩:=w
 obtain⟨r1,r2⟩:=repl_at (ids:=ids) (key:=key) hk hs h1 h2 hj hc
 have hkl:n.kids.length=A.length + C.length + B.length:=by rw[hk];simp;omega
 obtain⟨f1,f2,f3⟩:=hf.repl hl (i:=i) (j:=j) (by omega) (by omega) hids h12 hkey (by omega)
 have hp:pgs X (h + 1) n=(A.flatMap fun c=>c :: pgs X h (X.nd c)) ++ (C.flatMap fun c=>c :: pgs X h (X.nd c)) ++ (B.flatMap fun c=>c :: pgs X h (X.nd c)):=by
  simp only[pgs];rw[hk,List.flatMap_append,List.flatMap_append]
 have hA:Holds X W1 (A.flatMap fun c=>c :: pgs X h (X.nd c)):=(hW.sub (by intro c hc;rw[hp];simp[hc])).ext e
 have hB:Holds X W1 (B.flatMap fun c=>c :: pgs X h (X.nd c)):=(hW.sub (by intro c hc;rw[hp];simp[hc])).ext e
 obtain⟨a1,a2,a3⟩:=mono_of hA
 obtain⟨b1,b2,b3⟩:=mono_of hB
 have hct':∀x,cntP x (pgs W1.X (h + 1) (n.repl i j ids key)) + cntP x od=cntP x ([] ++ pgs X (h + 1) n) + cntP x fr:=by
  intro x
  have:=hct x
  rw[List.nil_append,hp]
  simp only[pgs]
  rw[r1,List.flatMap_append,List.flatMap_append,a3,b3]
  simp only[cntP,List.count_append] at *
  omega
 refine⟨⟨e,⟨f2,f1,?_⟩,?_,hct',lv_of e hW (by simpa using hct')⟩,?_,f2⟩
 ·rw[r1,r2]
  exact(seg_mid (K:=KP W1.X h) (by omega) (by have:=seg_len sI;omega)).2 ⟨m,u,segL_mono sL a1,sI,segR_mono sR b1⟩
 ·simp only[ents]
  rw[r1,List.flatMap_append,List.flatMap_append,a2,b2]
 ·have:n.len=n.kids.length:=by simp[Nd.len,hl]
  rw[f3];omega
theorem laid {X:Sto} {h:Nat} {n nc:Nd} {m:Bs} {u:Option Bs} {W Wc:Wk} {id:Nat} {fr od:List Nat} {own:List Nat} {E:List KV}
  (hm:Moved X h n m u own W Wc nc E fr od) (h128:W.X.l.length≤128) (hmu:below m u) (hlen:nc.len≤(if nc.leaf then 8 else 12)) (hun:nc.under=false) :
  ∃fr2,fr2.length≤2∧Ext W (layP (Wc.add id) nc).2.2 (fr ++ fr2) (od ++ [id])∧((layP (Wc.add id) nc).2.1=7∧FullW (layP (Wc.add id) nc).2.2∨(layP (Wc.add id) nc).2.1=0 ∧
   Seg (KP (layP (Wc.add id) nc).2.2.X h) (layP (Wc.add id) nc).1.1 (if (layP (Wc.add id) nc).1.1.length=2 then [(layP (Wc.add id) nc).1.2] else []) m u∧(∀x∈(layP (Wc.add id) nc).1.1,x < 128) ∧
   ((layP (Wc.add id) nc).1.1.length=1∨(layP (Wc.add id) nc).1.1.length=2)∧(layP (Wc.add id) nc).1.2.length≤24 ∧
   ((layP (Wc.add id) nc).1.1.flatMap fun c=>ents (layP (Wc.add id) nc).2.2.X h ((layP (Wc.add id) nc).2.2.X.nd c))=E ∧
   ∀x,cntP x ((layP (Wc.add id) nc).1.1.flatMap fun c=>c :: pgs (layP (Wc.add id) nc).2.2.X h ((layP (Wc.add id) nc).2.2.X.nd c)) + cntP x (od ++ [id])=cntP x ([id] ++ own ++ pgs X h n) + cntP x (fr ++ fr2)):=by
 obtain⟨e,w,en,ct,lv⟩:=hm
 have hin:nc.leaf=false→2≤nc.kids.length:=fun hl=>by
  have:=not_under.1 hun
  rw[hl] at this
  simp[Nd.len,hl] at this
  omega
 obtain⟨fr2,l2,e2,hres⟩:=layP_spec (Wc.add id) (fun ho=>w.ok ho hin) (fun ho=>⟨(w.ok_halves ho hlen).1,(w.ok_halves ho hlen).2.1⟩)
 have e3:Ext W (layP (Wc.add id) nc).2.2 (fr ++ fr2) (od ++ [id]):=by simpa using (e.add id).trans e2
 have hlt:∀x∈fr2,x < 128:=fun x hx=>by have h1:=(e2.z x hx).1;have h2:(Wc.add id).X.l.length=Wc.X.l.length:=rfl;have:=e.len;omega
 refine⟨fr2,l2,e3,?_⟩
 rcases hres with h7|⟨h0,hres⟩
 ·exact .inl h7
 refine .inr ⟨h0,?_⟩
 generalize layP (Wc.add id) nc=r at *
 obtain⟨⟨ids,key⟩,er,W2⟩:=r
 simp only at *
 have hld:∀c∈pgs Wc.X h nc,W2.X.load c=Wc.X.load c:=fun c hc=>e2.ld c (lv c hc)
 rcases hres with⟨ho,a,rfl,rfl,rfl,na,ga⟩|⟨ho,a,b,rfl,rfl,rfl,na,ga,nb,gb⟩
 ·obtain⟨q1,q2,q3⟩:=frame hld
  refine⟨⟨⟨hmu,ga,by rw[na];exact hun,by rw[na];exact q3 _ _ w⟩,rfl⟩,hlt,.inl rfl,by simp,?_,fun x=>?_⟩
  ·simp only[List.flatMap_cons,List.flatMap_nil,List.append_nil];rw[na,q1,en]
  ·simp only[List.flatMap_cons,List.flatMap_nil,List.append_nil];rw[na,q2]
   have:=ct x
   simp only[cntP,List.count_append,List.count_cons,List.count_nil] at *
   omega
 ·obtain⟨w1,w2,l1,l2,e1,p1⟩:=w.halves ho
  obtain⟨o1,o2,o3,o4⟩:=w.ok_halves ho hlen
  have m8:=(w.fit.halves ho).2.2.1
  obtain⟨q1,q2,q3⟩:=frame (X:=Wc.X) (Y:=W2.X) (h:=h) (n:=nc.lo) fun c hc=>hld c (by rw[p1];simp[hc])
  obtain⟨t1,t2,t3⟩:=frame (X:=Wc.X) (Y:=W2.X) (h:=h) (n:=nc.hi) fun c hc=>hld c (by rw[p1];simp[hc])
  refine⟨⟨⟨fun z hz=>by injection hz with hz;subst hz;exact l1,ga,by rw[na];exact o3,by rw[na];exact q3 _ _ w1⟩,⟨l2,gb,by rw[nb];exact o4,by rw[nb];exact t3 _ _ w2⟩,rfl⟩,hlt,.inr rfl,m8,?_,fun x=>?_⟩
  ·simp only[List.flatMap_cons,List.flatMap_nil,List.append_nil];rw[na,nb,q1,t1, ←e1,en]
  ·simp only[List.flatMap_cons,List.flatMap_nil,List.append_nil];rw[na,nb,q2,t2]
   have:=ct x
   rw[p1] at this
   simp only[cntP,List.count_append,List.count_cons,List.count_nil,p1] at *
   omega
theorem down_leaf {X:Sto} {k:Bs} {f id:Nat} {n:Nd} (hn:X.nd id=n) (hg:X.gd id) (hl:n.leaf=true):downT X k (f + 1) id=([⟨id,n.find k,n⟩],0):=by
 have e1:(X.load id).1=n:=hn
 rw[downT,if_neg (fun h=>h hg),e1,if_pos hl]
theorem down_inner {X:Sto} {k:Bs} {f id:Nat} {n:Nd} (hn:X.nd id=n) (hg:X.gd id) (hl:n.leaf=false) (h0:(downT X k f (n.kids.getD (n.find k) 0)).2=0):downT X k (f + 1) id=(⟨id,n.find k,n⟩ :: (downT X k f (n.kids.getD (n.find k) 0)).1,0):=by
 have e1:(X.load id).1=n:=hn
 rw[downT,if_neg (fun h=>h hg),e1,if_neg (by simp[hl]),if_neg (by simpa using h0)]
theorem len_of {X:Sto} {c:Nat} (h:X.gd c):(X.nd c).len≤(if (X.nd c).leaf then 4 else 6):=not_over.1 (gd_nd_ok h).most
theorem ins_ok {X:Sto} {k v:Bs} (hk:k.length≤24) (hv:v.length≤32):∀(h:Nat) (n:Nd) (id:Nat) (lo:Bs) (hi:Option Bs) (f:Nat) (W:Wk),WF X h n lo hi→X.nd id=n→X.gd id→inR lo hi k→h < f→W.X.l.length≤128→Holds X W (id :: pgs X h n) →
  (downT X k f id).2=0∧(downT X k f id).1 ≠ [] ∧ ∃W1 fr od,((upP W k v (downT X k f id).1.reverse).2.1=7∧(upP W k v (downT X k f id).1.reverse).2.2=W1∧Ext W W1 fr od∧FullW W1∧fr.length≤2 * h) ∨
   (∃n',upP W k v (downT X k f id).1.reverse=layP (W1.add id) n'∧Moved X h n lo hi [] W W1 n' (insE (ents X h n) k v) fr od∧n.len≤n'.len∧n'.len≤n.len + 1∧fr.length≤2 * h)
 | 0,n,id,lo,hi,f + 1,W,w,hn,hg,hin,_,h128,hW=>by
  have hl:=w.1
  have hd:=down_leaf (k:=k) (f:=f) hn hg hl
  rw[hd]
  refine⟨rfl,by simp,W, [], [],.inr ⟨n.set k v,?_,?_,?_,?_,by simp⟩⟩
  ·simp only[List.reverse_cons,List.reverse_nil,List.nil_append]
   exact upP_one _ k v W
  ·have hlen:=len_of hg
   rw[hn,hl] at hlen
   simp only[if_true] at hlen
   obtain⟨f1,f2,f3⟩:=w.2.1.set hl hk hv (by omega)
   have hkv:=kvs_set (w.2.1.leaf hl).1 w.2.2.1 k v
   have hke:=kvs_keys (f1.leaf f2).1
   have hu:UpE (n.set k v).kvs:=by rw[hkv];exact upE_ins (up_kvs (w.2.1.leaf hl).1 w.2.2.1) k v
   refine⟨Ext.refl W,⟨f2,f1,?_,?_⟩,hkv,by simp[pgs],by simp[pgs]⟩
   ·rw[←hke];exact List.pairwise_map.2 hu
   ·intro x hx
    rw[←hke] at hx
    obtain⟨e,he,rfl⟩:=List.mem_map.1 hx
    rw[hkv] at he
    rcases mem_insE he with rfl|⟨he,_⟩
    ·exact hin
    ·exact w.2.2.2 _ (by rw[←kvs_keys (w.2.1.leaf hl).1];exact List.mem_map_of_mem he)
  ·have:=lbd_le n.keys k
   unfold Nd.set
   split
   ·simp[Nd.len,hl]
   ·simp[Nd.len,hl,insAt];omega
  ·have hlen:=len_of hg
   rw[hn,hl] at hlen
   simp only[if_true] at hlen
   exact(w.2.1.set hl hk hv (by omega)).2.2
 | h + 1,n,id,lo,hi,f + 1,W,w,hn,hg,hin,hf,h128,hW=>by
  have hl:=w.1
  obtain⟨A,c,B,KA,KB,m,u,e1,e2,e3,e4,e5,sL,kc,sR,hin',hAl,hBl⟩:=find_mid w k hin
  have hpc:pgs X (h + 1) n=(A.flatMap fun c=>c :: pgs X h (X.nd c)) ++ ([c].flatMap fun c=>c :: pgs X h (X.nd c)) ++ (B.flatMap fun c=>c :: pgs X h (X.nd c)):=by
   simp only[pgs];rw[e1,List.flatMap_append,List.flatMap_append]
  have hWc:Holds X W (c :: pgs X h (X.nd c)):=hW.sub (by intro x hx;rw[hpc];simp only[List.flatMap_cons,List.flatMap_nil,List.mem_cons,List.mem_append,List.append_nil];right;left;right;simpa using hx)
  obtain⟨i1,i2,Wc,fr,od,ih⟩:=ins_ok hk hv h (X.nd c) c m u f W kc.2.2.2 rfl kc.2.1 hin' (by omega) h128 hWc
  have hd:=down_inner (k:=k) (f:=f) hn hg hl (by rw[e5];exact i1)
  rw[e5] at hd
  rw[hd]
  refine⟨rfl,by simp,?_⟩
  simp only[List.reverse_cons]
  rw[upP_snoc _ _ _ _ (by simpa using i2)]
  rcases ih with⟨h7,hW1,hE,hFu,hfl⟩|⟨nc,hu,hm,l1,l2,hfl⟩
  ·refine⟨Wc,fr,od,.inl ?_⟩
   rw[if_pos (by rw[h7];decide)]
   exact⟨h7,hW1,hE,hFu,by omega⟩
  ·rw[hu]
   have hlc:=len_of kc.2.1
   have hleq:nc.leaf=(X.nd c).leaf:=by rw[hm.wf.leaf,kc.2.2.2.leaf]
   have hunc:nc.under=false:=by
    have:=not_under.1 kc.2.2.1
    rw[not_under,hleq];omega
   obtain⟨fr2,hl2,e6,hres⟩:=laid (id:=c) hm h128 kc.1 (by rw[hleq];split at hlc<;>simp_all<;>omega) hunc
   rcases hres with⟨h7,hFu⟩|⟨h0,sI,hids,h12,hkey,hen,hct⟩
   ·refine⟨(layP (Wc.add c) nc).2.2,fr ++ fr2,od ++ [c],.inl ?_⟩
    rw[if_pos (by rw[h7];decide)]
    exact⟨h7,rfl,e6,hFu,by rw[List.length_append];omega⟩
   ·rw[if_neg (by rw[h0];decide)]
    have hlen:=len_of hg
    rw[hn,hl] at hlen
    have:=replaced (key:=(layP (Wc.add c) nc).1.2) (i:=n.find k) (j:=n.find k + 1) w (by simpa using hlen) e1 e2 e3 e4 (by simp) (by simp) sL sR (hW.sub (by intro x hx;simp[hx])) e6 sI hids h12 hkey (fun x=>by
     have:=hct x
     simp only[List.flatMap_cons,List.flatMap_nil,List.append_nil]
     simpa using this)
    obtain⟨r1,r2,r3⟩:=this
    refine⟨(layP (Wc.add c) nc).2.2,fr ++ fr2,od ++ [c],.inr ⟨_,rfl,?_,?_,?_,by rw[List.length_append];omega⟩⟩
    ·have hE:(A.flatMap fun c=>ents X h (X.nd c)) ++ insE (ents X h (X.nd c)) k v ++ (B.flatMap fun c=>ents X h (X.nd c))=insE (ents X (h + 1) n) k v:=by
      rw[←insE_mid hAl hBl]
      simp only[ents]
      rw[e1,List.flatMap_append,List.flatMap_append]
      simp
     rw[hen,hE] at r1
     exact r1
    ·simp only[List.length_cons,List.length_nil] at r2;dsimp only;omega
    ·simp only[List.length_cons,List.length_nil] at r2;dsimp only;omega
end Go.Proofs.YtfgjehecjgebdaaGreat
/- Plain: Delete, below a page; a key's value. -/
namespace Go.Proofs.YtfgjehecjgebdaaGreat
set_option maxHeartbeats 1000000
theorem segL_snoc {K} : ∀ {A:List Nat} {KA:List Bs} {x:Nat} {y lo m:Bs},KA.length=A.length→SegL K (A ++ [x]) (KA ++ [y]) lo m → ∃m0,SegL K A KA lo m0∧K x m0 (some y)∧y=m
 | [], [],_,_,lo,_,_,h=>⟨lo,rfl,h.1,h.2⟩
 | [],_ :: _,_,_,_,_,h,_=>by simp at h
 | _ :: _, [],_,_,_,_,h,_=>by simp at h
 | a :: A,k :: KA,_,_,_,_,h,hs=>by
  obtain⟨m0,h1,h2,h3⟩:=segL_snoc (A:=A) (KA:=KA) (by simpa using h) hs.2
  exact⟨m0,⟨hs.1,h1⟩,h2,h3⟩
theorem putAll_lay (W:Wk) (a:Nd) (k:Bs) (b:Nd):(putAll W (nLevel a k b)).2.1=(layP W (nJoin a k b)).2.1∧(putAll W (nLevel a k b)).2.2=(layP W (nJoin a k b)).2.2 ∧
  ((layP W (nJoin a k b)).2.1=0→(putAll W (nLevel a k b)).1=(layP W (nJoin a k b)).1.1∧(if (nLevel a k b).length=2 then nBetween a k b else [])=(layP W (nJoin a k b)).1.2):=by
 unfold nLevel layP nBetween
 by_cases ho:(nJoin a k b).over=true
 ·rw[if_pos ho,if_neg (by simp[ho])]
  simp only[putAll]
  by_cases h1:(putP W (nJoin a k b).lo).1.2 ≠ 0
  ·simp only[if_pos h1]
   exact⟨trivial,trivial,fun h=>absurd h h1⟩
  ·simp only[if_neg h1]
   by_cases h2:(putP (putP W (nJoin a k b).lo).2 (nJoin a k b).hi).1.2 ≠ 0
   ·simp only[if_pos h2]
    exact⟨trivial,trivial,fun h=>absurd h h2⟩
   ·simp only[if_neg h2]
    exact⟨(Classical.not_not.1 h2).symm,trivial,fun _=>⟨trivial,rfl⟩⟩
 ·have ho':(nJoin a k b).over=false:=by simpa using ho
  rw[if_neg ho,if_pos ho']
  simp only[putAll]
  by_cases h1:(putP W (nJoin a k b)).1.2 ≠ 0
  ·simp only[if_pos h1]
   exact⟨trivial,trivial,fun h=>absurd h h1⟩
  ·simp only[if_neg h1]
   exact⟨(Classical.not_not.1 h1).symm,trivial,fun _=>⟨trivial,rfl⟩⟩
theorem levelP_put {W:Wk} {s:Stp} {kid:Nd} (hu:kid.under=false):levelP W s kid=(s.n.repl s.at_ (s.at_ + 1) [(putP W kid).1.1] [],(putP W kid).1.2,(putP W kid).2):=by unfold levelP;rw[if_pos hu]
theorem levelP_two {W:Wk} {s:Stp} {kid a b:Nd} {key:Bs} {left x:Nat} (hu:kid.under=true) (hx:lvOther s=x) (hlf:lvLeft s=left) (h0:(W.X.load x).2=0) (hl:(W.X.load x).1.leaf=kid.leaf)
  (ha:a=if left=s.at_ then kid else (W.X.load x).1) (hb:b=if left=s.at_ then (W.X.load x).1 else kid) (hk:s.n.keys.getD left []=key) :
  ((layP (W.add x) (nJoin a key b)).2.1=0→levelP W s kid=(s.n.repl left (left + 2) (layP (W.add x) (nJoin a key b)).1.1 (layP (W.add x) (nJoin a key b)).1.2,0,(layP (W.add x) (nJoin a key b)).2.2)) ∧
  ((layP (W.add x) (nJoin a key b)).2.1 ≠ 0→(levelP W s kid).2=(layP (W.add x) (nJoin a key b)).2):=by
 obtain⟨p1,p2,p3⟩:=putAll_lay (W.add x) a key b
 have e:levelP W s kid=if (putAll (W.add x) (nLevel a key b)).2.1 ≠ 0 then (nd0,(putAll (W.add x) (nLevel a key b)).2.1,(putAll (W.add x) (nLevel a key b)).2.2) else (s.n.repl left (left + 2) (putAll (W.add x) (nLevel a key b)).1 (if (nLevel a key b).length=2 then nBetween a key b else []),0,(putAll (W.add x) (nLevel a key b)).2.2):=by
  unfold levelP
  rw[if_neg (by simp[hu]),hx,if_neg (by simp[h0]),if_neg (by simp[hl]),hlf,hk, ←ha, ←hb]
 rw[e,p1,p2]
 constructor
 ·intro h
  rw[if_neg (by simp[h]),(p3 h).1,(p3 h).2]
 ·intro h
  rw[if_pos h]
theorem level_ok {X:Sto} {h:Nat} {n:Nd} {id at':Nat} {lo:Bs} {hi:Option Bs} {A B:List Nat} {c:Nat} {KA KB:List Bs} {m:Bs} {u:Option Bs} {W W1:Wk} {n':Nd} {E:List KV} {fr od:List Nat}
  (w:WF X (h + 1) n lo hi) (hn:n.len≤6) (hn2:2≤n.kids.length) (hk:n.kids=A ++ [c] ++ B) (hs:n.keys=KA ++ [] ++ KB) (h1:A.length=at') (h2:KA.length=at')
  (sL:SegL (KP X h) A KA lo m) (kc:KP X h c m u) (sR:SegR (KP X h) KB B u hi) (h128:W.X.l.length≤128) (hW:Holds X W (pgs X (h + 1) n)) (hm:Moved X h (X.nd c) m u [c] W W1 n' E fr od)
  (l1:(X.nd c).len≤n'.len + 1) (l2:n'.len≤(X.nd c).len) :
  ∃fr2 od2,fr2.length≤fr.length + 2∧Ext W (levelP W1 ⟨id,at',n⟩ n').2.2 fr2 od2∧((levelP W1 ⟨id,at',n⟩ n').2.1=7∧FullW (levelP W1 ⟨id,at',n⟩ n').2.2∨(levelP W1 ⟨id,at',n⟩ n').2.1=0 ∧
   Moved X (h + 1) n lo hi [] W (levelP W1 ⟨id,at',n⟩ n').2.2 (levelP W1 ⟨id,at',n⟩ n').1 ((A.flatMap fun c=>ents X h (X.nd c)) ++ E ++ (B.flatMap fun c=>ents X h (X.nd c))) fr2 od2 ∧
   n.len≤(levelP W1 ⟨id,at',n⟩ n').1.len + 1∧(levelP W1 ⟨id,at',n⟩ n').1.len≤n.len):=by
 have hleq:n'.leaf=(X.nd c).leaf:=by rw[hm.wf.leaf,kc.2.2.2.leaf]
 have hlc:=len_of kc.2.1
 have huc:=not_under.1 kc.2.2.1
 have hpc:pgs X (h + 1) n=(A.flatMap fun c=>c :: pgs X h (X.nd c)) ++ ([c].flatMap fun c=>c :: pgs X h (X.nd c)) ++ (B.flatMap fun c=>c :: pgs X h (X.nd c)):=by
  simp only[pgs];rw[hk,List.flatMap_append,List.flatMap_append]
 by_cases hu:n'.under=false
 ·rw[levelP_put hu]
  have hok:n'.Ok:=hm.wf.ok (by rw[not_over,hleq];omega) (fun hl=>by
   have:=not_under.1 hu
   rw[hl] at this
   simp[Nd.len,hl] at this
   omega)
  rcases putP_ok W1 hok with⟨e1,e2,e0⟩|⟨e1,e2,e3,e4⟩
  ·exact⟨fr,od,by omega,by simp only;rw[e2];exact hm.ext,.inl ⟨e1,by simp only;rw[e2];exact tk_none e0⟩⟩
  ·have ex:Ext W (putP W1 n').2 (fr ++ [(putP W1 n').1.1]) od:=by simpa using hm.ext.trans e2
   refine⟨_,_,by simp,ex,.inr ⟨e1,?_⟩⟩
   obtain⟨q1,q2,q3⟩:=frame (X:=W1.X) (Y:=(putP W1 n').2.X) (h:=h) (n:=n') fun c hc=>e2.ld c (hm.lv c hc)
   have hlt:=(e2.z _ (List.mem_singleton.2 rfl)).1
   have hel:=hm.ext.len
   have:=replaced (key := []) (i:=at') (j:=at' + 1) (ids := [(putP W1 n').1.1]) w hn hk hs h1 h2 (by simp) (by simp) sL sR hW ex
    ⟨⟨kc.1,e4,by rw[e3];exact hu,by rw[e3];exact q3 _ _ hm.wf⟩,rfl⟩ (by intro x hx;simp only[List.mem_singleton] at hx;subst hx;omega) (.inl rfl) (by simp) (fun x=>by
     have:=hm.ct x
     simp only[List.flatMap_cons,List.flatMap_nil,List.append_nil]
     rw[e3,q2]
     simp only[cntP,List.count_append,List.count_cons,List.count_nil] at *
     omega)
   obtain⟨r1,r2,r3⟩:=this
   simp only[List.flatMap_cons,List.flatMap_nil,List.append_nil] at r1
   rw[e3,q1,hm.en] at r1
   simp only[List.length_cons,List.length_nil] at r2
   exact⟨r1,by simp only;omega,by simp only;omega⟩
 ·have hu':n'.under=true:=by simpa using hu
  have hul:n'.len < (if n'.leaf then 2 else 3):=by simpa[Nd.under] using hu'
  rw[hleq] at hul
  rcases List.eq_nil_or_concat A with rfl|⟨A',x,rfl⟩
  ·have hat:at'=0:=by simpa using h1.symm
   subst hat
   have hKA:KA = []:=by simpa using h2
   subst hKA
   have hlm:lo=m:=sL
   subst hlm
   cases KB with
   | nil =>
    obtain⟨-,rfl⟩:=sR
    rw[hk] at hn2;simp at hn2
   | cons ky KB =>
    obtain⟨rfl,sR⟩:=sR
    cases B with
    | nil=>exact sR.elim
    | cons y B =>
     obtain⟨u',sy,sR⟩:=(seg_right (K:=KP X h) (C := [y]) (KC := []) (B:=B) (KB:=KB) rfl).1 sR
     obtain⟨ky', -⟩:=sy
     have hWy:W1.X.load y=X.load y:=((hW.ext hm.ext) y (by rw[hpc];simp)).2
     have hWp:Holds X W1 (pgs X h (X.nd y)):=(hW.ext hm.ext).sub (by intro z hz;rw[hpc];simp[hz])
     obtain⟨q1,q2,q3⟩:=frame (X:=X) (Y:=W1.X) (h:=h) (n:=X.nd y) fun c hc=>(hWp c hc).2
     have hkl:ky.length≤24:=w.2.1.kl ky (by rw[hs];simp)
     have hly:=len_of ky'.2.1
     have hlyl:(X.nd y).leaf=(X.nd c).leaf:=by rw[ky'.2.2.2.leaf,kc.2.2.2.leaf]
     have huy:=not_under.1 ky'.2.2.1
     rw[hlyl] at hly huy
     have hj:=hm.wf.join (q3 _ _ ky'.2.2.2) (kc.1 ky rfl) ky'.1 hkl (by split at hly<;>simp_all<;>omega)
     obtain⟨j1,j2,j3,j4⟩:=hj
     have hjl:(nJoin n' ky (X.nd y)).leaf=(X.nd c).leaf:=by rw[j1.leaf,kc.2.2.2.leaf]
     have hmv:Moved X h (X.nd y) lo u' (c :: pgs X h (X.nd c)) W W1 (nJoin n' ky (X.nd y)) (E ++ ents X h (X.nd y)) fr od:=by
      refine⟨hm.ext,j1,by rw[j2,hm.en,q1],fun x=>?_,fun z hz=>?_⟩
      ·have:=hm.ct x
       rw[j3,q2]
       simp only[cntP,List.count_append,List.count_cons,List.count_nil] at *
       omega
      ·rw[j3,q2] at hz
       rcases List.mem_append.1 hz with hz|hz
       ·exact hm.lv z hz
       ·exact(hWp z hz).1
     obtain⟨fr2,hl2,e6,hres⟩:=laid (id:=y) hmv h128 (fun z hz=>List.lt_trans (kc.1 ky rfl) (ky'.1 z hz)) (by rw[hjl,j4];split at hly<;>simp_all<;>omega) (by rw[not_under,hjl,j4];split at hly<;>simp_all<;>omega)
     have hother:lvOther ⟨id,0,n⟩=y:=by unfold lvOther lvLeft;simp[hk]
     obtain⟨t1,t2⟩:=levelP_two (W:=W1) (s:=⟨id,0,n⟩) (kid:=n') (a:=n') (b:=X.nd y) (key:=ky) (left:=0) (x:=y) hu' hother rfl (by rw[hWy];exact ky'.2.1) (by rw[hWy];show(X.nd y).leaf=_;rw[hlyl,hleq]) (by simp) (by simp[hWy,Sto.nd]) (by simp[hs])
     rcases hres with⟨h7,hFu⟩|⟨h0,sI,hids,h12,hkey,hen,hct⟩
     ·have e:=t2 (by rw[h7];decide)
      refine⟨fr ++ fr2,od ++ [y],by rw[List.length_append];omega,?_,.inl ?_⟩
      ·rw[e];exact e6
      ·rw[e];exact⟨h7,hFu⟩
     ·rw[t1 h0]
      refine⟨fr ++ fr2,od ++ [y],by rw[List.length_append];omega,e6,.inr ⟨rfl,?_⟩⟩
      have:=replaced (key:=(layP (W1.add y) (nJoin n' ky (X.nd y))).1.2) (i:=0) (j:=0 + 2) (A := []) (C := [c,y]) (B:=B) (KA := []) (KC := [ky]) (KB:=KB) (m:=lo) (u:=u') w hn (by rw[hk];simp) (by rw[hs];simp) rfl rfl rfl rfl rfl sR hW e6 sI hids h12 hkey (fun x=>by
       have:=hct x
       simp only[List.flatMap_cons,List.flatMap_nil,List.append_nil]
       simp only[cntP,List.count_append,List.count_cons,List.count_nil] at *
       omega)
      obtain⟨r1,r2,r3⟩:=this
      rw[hen] at r1
      refine⟨?_,?_,?_⟩
      ·simp only[List.flatMap_cons,List.flatMap_nil,List.nil_append,List.append_assoc] at r1⊢
       exact r1
      ·simp only[List.length_cons,List.length_nil] at r2⊢;omega
      ·simp only[List.length_cons,List.length_nil] at r2⊢;omega
  ·rw[List.concat_eq_append] at *
   obtain⟨KA',y,rfl⟩:∃KA' y,KA=KA' ++ [y]:=by
    rcases List.eq_nil_or_concat KA with rfl|⟨KA',y,rfl⟩
    ·simp at h1 h2;omega
    ·exact⟨KA',y,by simp⟩
   have hla:A'.length + 1=at':=by simpa using h1
   have hlk:KA'.length + 1=at':=by simpa using h2
   obtain⟨m0,sL',kx,hym⟩:=segL_snoc (by omega) sL
   subst hym
   have hWx:W1.X.load x=X.load x:=((hW.ext hm.ext) x (by rw[hpc];simp)).2
   have hWp:Holds X W1 (pgs X h (X.nd x)):=(hW.ext hm.ext).sub (by intro z hz;rw[hpc];simp[hz])
   obtain⟨q1,q2,q3⟩:=frame (X:=X) (Y:=W1.X) (h:=h) (n:=X.nd x) fun c hc=>(hWp c hc).2
   have hkl:y.length≤24:=w.2.1.kl y (by rw[hs];simp)
   have hlx:=len_of kx.2.1
   have hlxl:(X.nd x).leaf=(X.nd c).leaf:=by rw[kx.2.2.2.leaf,kc.2.2.2.leaf]
   have hux:=not_under.1 kx.2.2.1
   rw[hlxl] at hlx hux
   have hj:=(q3 _ _ kx.2.2.2).join hm.wf (kx.1 y rfl) kc.1 hkl (by split at hlx<;>simp_all<;>omega)
   obtain⟨j1,j2,j3,j4⟩:=hj
   have hjl:(nJoin (X.nd x) y n').leaf=(X.nd c).leaf:=by rw[j1.leaf,kc.2.2.2.leaf]
   have hmv:Moved X h (X.nd x) m0 u (c :: pgs X h (X.nd c)) W W1 (nJoin (X.nd x) y n') (ents X h (X.nd x) ++ E) fr od:=by
    refine⟨hm.ext,j1,by rw[j2,hm.en,q1],fun z=>?_,fun z hz=>?_⟩
    ·have:=hm.ct z
     rw[j3,q2]
     simp only[cntP,List.count_append,List.count_cons,List.count_nil] at *
     omega
    ·rw[j3,q2] at hz
     rcases List.mem_append.1 hz with hz|hz
     ·exact(hWp z hz).1
     ·exact hm.lv z hz
   obtain⟨fr2,hl2,e6,hres⟩:=laid (id:=x) hmv h128 (fun z hz=>List.lt_trans (kx.1 y rfl) (kc.1 z hz)) (by rw[hjl,j4];split at hlx<;>simp_all<;>omega) (by rw[not_under,hjl,j4];split at hlx<;>simp_all<;>omega)
   have hlft:lvLeft ⟨id,at',n⟩=A'.length:=by unfold lvLeft;simp only;omega
   have hother:lvOther ⟨id,at',n⟩=x:=by
    unfold lvOther
    rw[hlft,if_neg (by simp only;omega)]
    simp[hk]
   obtain⟨t1,t2⟩:=levelP_two (W:=W1) (s:=⟨id,at',n⟩) (kid:=n') (a:=X.nd x) (b:=n') (key:=y) (left:=A'.length) (x:=x) hu' hother hlft (by rw[hWx];exact kx.2.1) (by rw[hWx];show(X.nd x).leaf=_;rw[hlxl,hleq]) (by rw[if_neg (by simp only;omega),hWx];rfl) (by rw[if_neg (by simp only;omega)]) (by simp[hs,show A'.length=KA'.length by omega])
   rcases hres with⟨h7,hFu⟩|⟨h0,sI,hids,h12,hkey,hen,hct⟩
   ·have e:=t2 (by rw[h7];decide)
    refine⟨fr ++ fr2,od ++ [x],by rw[List.length_append];omega,?_,.inl ?_⟩
    ·rw[e];exact e6
    ·rw[e];exact⟨h7,hFu⟩
   ·rw[t1 h0]
    refine⟨fr ++ fr2,od ++ [x],by rw[List.length_append];omega,e6,.inr ⟨rfl,?_⟩⟩
    have:=replaced (key:=(layP (W1.add x) (nJoin (X.nd x) y n')).1.2) (i:=A'.length) (j:=A'.length + 2) (A:=A') (C := [x,c]) (B:=B) (KA:=KA') (KC := [y]) (KB:=KB) (m:=m0) (u:=u) w hn (by rw[hk];simp) (by rw[hs];simp) rfl (by omega) rfl rfl sL' sR hW e6 sI hids h12 hkey (fun z=>by
     have:=hct z
     simp only[List.flatMap_cons,List.flatMap_nil,List.append_nil]
     simp only[cntP,List.count_append,List.count_cons,List.count_nil] at *
     omega)
    obtain⟨r1,r2,r3⟩:=this
    rw[hen] at r1
    refine⟨?_,?_,?_⟩
    ·simp only[List.flatMap_append,List.flatMap_cons,List.flatMap_nil,List.append_nil,List.append_assoc] at r1⊢
     exact r1
    ·simp only[List.length_cons,List.length_nil] at r2⊢;omega
    ·simp only[List.length_cons,List.length_nil] at r2⊢;omega
theorem del_ok {X:Sto} {k:Bs} : ∀(h:Nat) (n:Nd) (id:Nat) (lo:Bs) (hi:Option Bs) (f:Nat) (W:Wk),WF X h n lo hi→X.nd id=n→X.gd id→inR lo hi k→h < f→W.X.l.length≤128→Holds X W (id :: pgs X h n) →
  (downT X k f id).2=0 ∧ ∃s L,(downT X k f id).1.reverse=s :: L ∧ ∃W1 fr od,((sinkP (W.add s.id) (s.n.cut k) L).2.1=7∧(sinkP (W.add s.id) (s.n.cut k) L).2.2=W1∧Ext W W1 fr od∧FullW W1∧fr.length≤2 * h) ∨
   (∃n',sinkP (W.add s.id) (s.n.cut k) L=(n',0,W1)∧Moved X h n lo hi [id] W W1 n' (delE (ents X h n) k) fr od∧n.len≤n'.len + 1∧n'.len≤n.len∧fr.length≤2 * h)
 | 0,n,id,lo,hi,f + 1,W,w,hn,hg,hin,_,h128,hW=>by
  have hl:=w.1
  have hd:=down_leaf (k:=k) (f:=f) hn hg hl
  rw[hd]
  refine⟨rfl,⟨id,n.find k,n⟩, [],rfl,W.add id, [], [id],.inr ⟨n.cut k,rfl,?_,?_,?_,by simp⟩⟩
  ·obtain⟨f1,f2,f3⟩:=w.2.1.cut hl k
   have hkv:=kvs_cut (w.2.1.leaf hl).1 w.2.2.1 k
   have hke:=kvs_keys (f1.leaf f2).1
   have hu:UpE (n.cut k).kvs:=by rw[hkv];exact upE_del (up_kvs (w.2.1.leaf hl).1 w.2.2.1) k
   refine⟨ext_add W id,⟨f2,f1,?_,?_⟩,hkv,by simp[pgs],by simp[pgs]⟩
   ·rw[←hke];exact List.pairwise_map.2 hu
   ·intro x hx
    rw[←hke] at hx
    obtain⟨e,he,rfl⟩:=List.mem_map.1 hx
    rw[hkv] at he
    exact w.2.2.2 _ (by rw[←kvs_keys (w.2.1.leaf hl).1];exact List.mem_map_of_mem (List.mem_filter.1 he).1)
  ·have:=lbd_le n.keys k
   unfold Nd.cut
   split
   ·next hm =>
    have:=((up_mem w.2.2.1).1 hm).1
    simp[Nd.len,hl,cutAt];omega
   ·simp
  ·exact(w.2.1.cut hl k).2.2
 | h + 1,n,id,lo,hi,f + 1,W,w,hn,hg,hin,hf,h128,hW=>by
  have hl:=w.1
  obtain⟨A,c,B,KA,KB,m,u,e1,e2,e3,e4,e5,sL,kc,sR,hin',hAl,hBl⟩:=find_mid w k hin
  have hpc:pgs X (h + 1) n=(A.flatMap fun c=>c :: pgs X h (X.nd c)) ++ ([c].flatMap fun c=>c :: pgs X h (X.nd c)) ++ (B.flatMap fun c=>c :: pgs X h (X.nd c)):=by
   simp only[pgs];rw[e1,List.flatMap_append,List.flatMap_append]
  have hWc:Holds X W (c :: pgs X h (X.nd c)):=hW.sub (by intro x hx;rw[hpc];simp only[List.flatMap_cons,List.flatMap_nil,List.mem_cons,List.mem_append,List.append_nil];right;left;right;simpa using hx)
  obtain⟨i1,s,L,i2,Wc,fr,od,ih⟩:=del_ok h (X.nd c) c m u f W kc.2.2.2 rfl kc.2.1 hin' (by omega) h128 hWc
  have hd:=down_inner (k:=k) (f:=f) hn hg hl (by rw[e5];exact i1)
  rw[e5] at hd
  rw[hd]
  refine⟨rfl,s,L ++ [⟨id,n.find k,n⟩],by simp[i2],?_⟩
  rw[sinkP_snoc]
  rcases ih with⟨h7,hW1,hE,hFu,hfl⟩|⟨nc,hu,hm,l1,l2,hfl⟩
  ·refine⟨Wc,fr,od,.inl ?_⟩
   rw[if_pos (by rw[h7];decide)]
   exact⟨h7,hW1,hE,hFu,by omega⟩
  ·rw[hu]
   have hlen:=len_of hg
   rw[hn,hl] at hlen
   have hn6:n.len≤6:=by simpa using hlen
   have hok:=gd_nd_ok hg
   rw[hn] at hok
   obtain⟨fr2,od2,hl2,e6,hres⟩:=level_ok (id:=id) w hn6 (hok.inner hl).1 e1 e2 e3 e4 sL kc sR h128 (hW.sub (by intro x hx;simp[hx])) hm l1 l2
   rw[if_neg (by simp)]
   dsimp only
   rcases hres with⟨h7,hFu⟩|⟨h0,r1,r2,r3⟩
   ·refine⟨(levelP Wc ⟨id,n.find k,n⟩ nc).2.2,fr2,od2,.inl ?_⟩
    rw[if_pos (by rw[h7];decide)]
    exact⟨h7,rfl,e6,hFu,by omega⟩
   ·refine⟨(levelP Wc ⟨id,n.find k,n⟩ nc).2.2.add id,fr2,od2 ++ [id],.inr ⟨(levelP Wc ⟨id,n.find k,n⟩ nc).1,?_,?_,r2,r3,by omega⟩⟩
    ·rw[if_neg (by rw[h0];decide)]
    ·have hE:(A.flatMap fun c=>ents X h (X.nd c)) ++ delE (ents X h (X.nd c)) k ++ (B.flatMap fun c=>ents X h (X.nd c))=delE (ents X (h + 1) n) k:=by
      rw[←delE_mid hAl hBl]
      simp only[ents]
      rw[e1,List.flatMap_append,List.flatMap_append]
      simp
     rw[hE] at r1
     obtain⟨q1,q2,q3,q4,q5⟩:=r1
     refine⟨q1.add id,q2,q3,fun x=>?_,q5⟩
     have:=q4 x
     show cntP x (pgs (levelP Wc ⟨id,n.find k,n⟩ nc).2.2.X (h + 1) _) + _=_
     simp only[cntP,List.count_append,List.nil_append] at *
     omega
theorem get_ok {X:Sto} {k:Bs} : ∀(h:Nat) (n:Nd) (id:Nat) (lo:Bs) (hi:Option Bs) (f:Nat),WF X h n lo hi→X.nd id=n→X.gd id→inR lo hi k→h < f →
  (downT X k f id).2=0∧(downT X k f id).1 ≠ []∧lastV (downT X k f id).1 k=match getE (ents X h n) k with|some e=>(e.2,true)|none=>([],false)
 | 0,n,id,lo,hi,f + 1,w,hn,hg,hin,_=>by
  have hl:=w.1
  have hd:=down_leaf (k:=k) (f:=f) hn hg hl
  rw[hd]
  refine⟨rfl,by simp,?_⟩
  have:=getE_leaf (w.2.1.leaf hl).1 w.2.2.1 k
  show lastV [⟨id,n.find k,n⟩] k=match getE n.kvs k with|some e=>(e.2,true)|none=>([],false)
  rw[this]
  unfold lastV
  simp only[List.getLast?_singleton]
  split<;>rfl
 | h + 1,n,id,lo,hi,f + 1,w,hn,hg,hin,hf=>by
  have hl:=w.1
  obtain⟨A,c,B,KA,KB,m,u,e1,e2,e3,e4,e5,sL,kc,sR,hin',hAl,hBl⟩:=find_mid w k hin
  obtain⟨i1,i2,i3⟩:=get_ok h (X.nd c) c m u f kc.2.2.2 rfl kc.2.1 hin' (by omega)
  have hd:=down_inner (k:=k) (f:=f) hn hg hl (by rw[e5];exact i1)
  rw[e5] at hd
  rw[hd]
  refine⟨rfl,by simp,?_⟩
  have hE:getE (ents X (h + 1) n) k=getE (ents X h (X.nd c)) k:=by
   have e:ents X (h + 1) n=(A.flatMap fun c=>ents X h (X.nd c)) ++ ents X h (X.nd c) ++ (B.flatMap fun c=>ents X h (X.nd c)):=by
    simp only[ents]
    rw[e1,List.flatMap_append,List.flatMap_append]
    simp
   rw[e,getE_mid hAl hBl]
  rw[hE, ←i3]
  unfold lastV
  rw[List.getLast?_cons_of_ne_nil i2]
end Go.Proofs.YtfgjehecjgebdaaGreat
/- Plain: a tree in a store, and what Put, Delete, Get do to it. -/
namespace Go.Proofs.YtfgjehecjgebdaaGreat
set_option maxHeartbeats 1000000
abbrev Sto.s (X:Sto) (j:Nat):Nat:=X.l.getD j 0
def usN (x:Nat):Nat:=if us x then 1 else 0
theorem gv_cast (l:List Nat) (i:Nat) (hi:i < l.length):(gvRes l (i:Int)).2=if l.getD i 0=2 then l.set i 0 else if l.getD i 0=1 then l.set i 3 else l:=by
 have e:l.getD i 0=l[i]:=by simp[List.getD,hi]
 unfold gvRes
 rw[stAt_cast,List.getElem?_eq_getElem hi,e,Int.toNat_natCast]
 simp only
 by_cases h2:l[i]=2
 ·rw[if_pos (by omega),if_pos h2]
 ·rw[if_neg (by omega),if_neg h2]
  by_cases h1:l[i]=1
  ·rw[if_pos (by omega),if_pos h1]
  ·rw[if_neg (by omega),if_neg h1]
theorem giveAll_st:∀(ids:List Nat) (l:List Nat),ids.Nodup→(∀j∈ids,j < l.length∧(l.getD j 0=1∨l.getD j 0=2))→(giveAll l ids).length=l.length ∧ ∀j,(giveAll l ids).getD j 0=if j∈ids then (if l.getD j 0=2 then 0 else 3) else l.getD j 0
 | [],l,_,_=>⟨rfl,by simp[giveAll]⟩
 | i :: ids,l,hn,hs=>by
  obtain⟨hi,hn⟩:=List.nodup_cons.1 hn
  obtain⟨h1,h2⟩:=hs i (by simp)
  obtain⟨x,hx,hg⟩:∃x,x=(if l.getD i 0=2 then 0 else 3)∧(gvRes l (i:Int)).2=l.set i x:=by
   rw[gv_cast l i h1]
   rcases h2 with h2|h2
   ·exact⟨3,by rw[if_neg (by omega)],by rw[if_neg (by omega),if_pos h2]⟩
   ·exact⟨0,by rw[if_pos h2],by rw[if_pos h2]⟩
  have e:giveAll l (i :: ids)=giveAll (l.set i x) ids:=by unfold giveAll;rw[List.foldl_cons,hg]
  have ne:∀j∈ids,j ≠ i:=fun j hj e=>hi (e ▸ hj)
  obtain⟨l1,l2⟩:=giveAll_st ids (l.set i x) hn (fun j hj=>by
   obtain⟨a,b⟩:=hs j (by simp[hj])
   rw[getD_set h1,if_neg (ne j hj)]
   exact⟨by simpa using a,b⟩)
  refine⟨by rw[e,l1];simp,fun j=>?_⟩
  rw[e,l2 j,getD_set h1]
  by_cases hj:j=i
  ·subst hj
   rw[if_neg hi,if_pos rfl,if_pos (by simp),hx]
  ·rw[if_neg hj]
   by_cases hm:j∈ids
   ·rw[if_pos hm,if_pos (show j∈i :: ids by simp[hm])]
   ·rw[if_neg hm,if_neg (by simp[hj,hm])]
structure Eqv (X X':Sto):Prop where
 l:X'.l=X.l
 dv:X'.D=X.D∧X'.sup=X.sup
 ld:∀j:Nat,X'.load j=X.load j
structure Stays (X X':Sto):Prop where
 len:X'.l.length=X.l.length
 dv:X'.D=X.D∧X'.sup=X.sup
 st:∀j,X'.s j % 2=X.s j % 2
 ld:∀j,X.s j % 2=1→X'.load j=X.load j
 l4:(∀j,X.s j < 4) → ∀j,X'.s j < 4
theorem Stays.refl (X:Sto):Stays X X:=⟨rfl,⟨rfl,rfl⟩,fun _=>rfl,fun _ _=>rfl,fun h=>h⟩
theorem Stays.trans {X Y Z:Sto} (h:Stays X Y) (h':Stays Y Z):Stays X Z :=
 ⟨h'.len.trans h.len,⟨h'.dv.1.trans h.dv.1,h'.dv.2.trans h.dv.2⟩,fun j=>(h'.st j).trans (h.st j),fun j hj=>(h'.ld j (by rw[h.st];exact hj)).trans (h.ld j hj),fun h0=>h'.l4 (h.l4 h0)⟩
theorem Eqv.stays {X X':Sto} (h:Eqv X X'):Stays X X':=⟨by rw[h.l],h.dv,fun j=>by unfold Sto.s;rw[h.l],fun j _=>h.ld j,fun h0 j=>by have:=h0 j;unfold Sto.s at *;rw[h.l];exact this⟩
theorem undone {X:Sto} {W:Wk} {fr od:List Nat} (e:Ext (wk0 X) W fr od):Eqv X { W.X with l:=giveAll W.X.l W.fresh } := by
 have hf:W.fresh=fr:=by rw[e.fresh];rfl
 have hlen:W.X.l.length=X.l.length:=e.len
 have hst:∀j,W.X.l.getD j 0=if j∈fr then 2 else X.l.getD j 0:=e.st
 have hz:∀j∈fr,j < X.l.length∧X.l.getD j 0=0:=e.z
 obtain⟨g1,g2⟩:=giveAll_st fr W.X.l e.nd (fun j hj=>⟨by rw[hlen];exact(hz j hj).1,.inr (by rw[hst,if_pos hj])⟩)
 have hl:giveAll W.X.l fr=X.l:=by
  apply List.ext_getElem?
  intro j
  have h1:=g2 j
  by_cases hj:j < X.l.length
  ·rw[List.getElem?_eq_getElem (by omega),List.getElem?_eq_getElem hj]
   have e1:(giveAll W.X.l fr).getD j 0=(giveAll W.X.l fr)[j]'(by omega):=by simp[List.getD,show j < (giveAll W.X.l fr).length by omega]
   have e2:X.l.getD j 0=X.l[j]:=by simp[List.getD,hj]
   rw[←e1, ←e2,h1,hst j]
   by_cases hm:j∈fr
   ·rw[if_pos hm,if_pos hm,if_pos rfl,(hz j hm).2]
   ·rw[if_neg hm,if_neg hm]
  ·rw[List.getElem?_eq_none (by omega),List.getElem?_eq_none (by omega)]
 rw[hf]
 refine⟨hl,e.dv,fun j=>?_⟩
 by_cases hj:X.l.getD j 0=0
 ·exact load_keep (X:=X) j e.dv.1 (by simp only;rw[hl]) (.inl (by simp only;rw[hl])) (.inr (by omega))
 ·have h1:=e.ld j hj
  have h1':W.X.load j=X.load j:=h1
  rw[←h1']
  have hjn:j ∉ fr:=fun h=>hj (hz j h).2
  exact load_keep (X:=W.X) j rfl (by simp only;rw[g1]) (.inl (by simp only;rw[g2,if_neg hjn])) (.inl rfl)
theorem finished {X:Sto} {W:Wk} {fr od NP P:List Nat} (e:Ext (wk0 X) W fr od) (hP:∀x,cntP x P=usN (X.s x)) (h4:∀j,X.s j < 4) (hc:∀x,cntP x NP + cntP x od=cntP x P + cntP x fr) :
  (∀x,cntP x NP=usN (Sto.s { W.X with l:=giveAll W.X.l W.old } x))∧(∀x∈NP,Sto.load { W.X with l:=giveAll W.X.l W.old } x=W.X.load x)∧Stays X { W.X with l:=giveAll W.X.l W.old } := by
 have ho:W.old=od:=by rw[e.old];rfl
 have hlen:W.X.l.length=X.l.length:=e.len
 have hst:∀j,W.X.l.getD j 0=if j∈fr then 2 else X.s j:=e.st
 have hz:∀j∈fr,j < X.l.length∧X.s j=0:=e.z
 have hfr:∀x,cntP x fr=if x∈fr then 1 else 0:=fun x=>by
  by_cases hm:x∈fr
  ·rw[if_pos hm];unfold cntP;rw[List.Nodup.count e.nd,if_pos hm]
  ·rw[if_neg hm];exact List.count_eq_zero.2 hm
 have hle:∀x,cntP x NP + cntP x od≤1:=fun x=>by
  rw[hc,hP,hfr]
  by_cases hm:x∈fr
  ·rw[if_pos hm,(hz x hm).2];decide
  ·rw[if_neg hm];unfold usN;split<;>omega
 have hod:od.Nodup:=List.nodup_iff_count.2 fun x=>by have:=hle x;unfold cntP at *;omega
 have husd:∀x∈od,x < W.X.l.length∧(W.X.l.getD x 0=1∨W.X.l.getD x 0=2):=fun x hx=>by
  have h1:0 < cntP x od:=List.count_pos_iff.2 hx
  have h2:=hc x
  rw[hP,hfr] at h2
  have hs:=hst x
  have hu:W.X.l.getD x 0=1∨W.X.l.getD x 0=2:=by
   rw[hs]
   by_cases hm:x∈fr
   ·rw[if_pos hm];exact .inr rfl
   ·rw[if_neg hm] at h2⊢
    unfold usN us at h2
    split at h2
    ·next hh=>simpa using hh
    ·omega
  refine⟨?_,hu⟩
  apply Classical.byContradiction
  intro hn
  have:W.X.l.getD x 0=0:=by simp[List.getD,List.getElem?_eq_none (show W.X.l.length≤x by omega)]
  omega
 obtain⟨g1,g2⟩:=giveAll_st od W.X.l hod husd
 rw[ho]
 have key:∀x,x∈NP→x ∉ od:=fun x hx ho=>by
  have:=hle x
  have h1:0 < cntP x NP:=List.count_pos_iff.2 hx
  have h2:0 < cntP x od:=List.count_pos_iff.2 ho
  omega
 refine⟨fun x=>?_,fun x hx=>?_,⟨by simp only;rw[g1,hlen],e.dv,fun j=>?_,fun j hj=>?_,fun _ j=>?_⟩⟩
 ·have h2:=hc x
  rw[hP,hfr] at h2
  unfold Sto.s
  simp only
  rw[g2 x]
  have hs:=hst x
  by_cases ho:x∈od
  ·have h1:0 < cntP x od:=List.count_pos_iff.2 ho
   have:=hle x
   rw[if_pos ho]
   have:cntP x NP=0:=by omega
   rw[this]
   split<;>rfl
  ·have h0:cntP x od=0:=List.count_eq_zero.2 ho
   rw[if_neg ho,hs]
   by_cases hm:x∈fr
   ·rw[if_pos hm] at h2⊢
    rw[(hz x hm).2] at h2
    simp only[usN,us] at h2⊢
    simpa[h0] using h2
   ·rw[if_neg hm] at h2⊢
    omega
 ·exact load_keep (X:=W.X) x rfl (by simp only;rw[g1]) (.inl (by simp only;rw[g2,if_neg (key x hx)])) (.inl rfl)
 ·unfold Sto.s
  simp only
  rw[g2 j,hst j]
  by_cases hm:j∈fr
  ·have:=(hz j hm).2
   unfold Sto.s at this
   rw[if_pos hm,this]
   split<;>simp
  ·rw[if_neg hm]
   by_cases ho:j∈od
   ·rw[if_pos ho]
    have:=(husd j ho).2
    rw[hst j,if_neg hm] at this
    rcases this with h|h
    ·have h':X.l.getD j 0=1:=h
     rw[if_neg (by omega),h']
    ·have h':X.l.getD j 0=2:=h
     rw[if_pos h,h']
   ·rw[if_neg ho]
 ·have hj0:X.s j ≠ 0:=by omega
  have hl:W.X.load j=X.load j:=e.ld j hj0
  rw[←hl]
  have hm:j ∉ fr:=fun h=>hj0 (hz j h).2
  have hsj:=hst j
  rw[if_neg hm] at hsj
  by_cases ho:j∈od
  ·have h1:=(husd j ho).2
   refine load_keep (X:=W.X) j rfl (by simp only;rw[g1]) (.inr ?_) (.inl rfl)
   simp only
   rw[g2,if_pos ho,hsj]
   have:=h4 j
   rw[if_neg (by omega)]
   omega
  ·exact load_keep (X:=W.X) j rfl (by simp only;rw[g1]) (.inl (by simp only;rw[g2,if_neg ho])) (.inl rfl)
 ·unfold Sto.s
  simp only
  rw[g2 j,hst j]
  have h':X.l.getD j 0 < 4:=h4 j
  have h'':(if j∈fr then 2 else X.s j) < 4:=by split<;>omega
  generalize (if j∈fr then 2 else X.s j)=z at h''
  by_cases ho:j∈od
  ·rw[if_pos ho]
   by_cases hz:z=2
   ·rw[if_pos hz];omega
   ·rw[if_neg hz];omega
  ·rw[if_neg ho];exact h''
structure TI (X:Sto) (root:Int) (E:List KV):Prop where
 l4:∀j,X.s j < 4
 len:X.l.length≤128
 tr:(root = -1∧E = [] ∧ ∀x,usN (X.s x)=0) ∨ ∃(r h:Nat),root=r∧X.gd r∧WF X h (X.nd r) [] none∧1≤(X.nd r).len∧E=ents X h (X.nd r) ∧ ∀x,cntP x (r :: pgs X h (X.nd r))=usN (X.s x)
theorem TI.eqv {X X':Sto} {root E} (h:TI X root E) (e:Eqv X X'):TI X' root E:=by
 have hs:∀j,X'.s j=X.s j:=fun j=>by unfold Sto.s;rw[e.l]
 have hn:∀j,X'.nd j=X.nd j:=fun j=>by unfold Sto.nd;rw[e.ld]
 refine⟨fun j=>by rw[hs];exact h.l4 j,by rw[e.l];exact h.len,?_⟩
 rcases h.tr with⟨h1,h2,h3⟩|⟨r,h',h1,h2,h3,h4,h5,h6⟩
 ·exact .inl ⟨h1,h2,fun x=>by rw[hs];exact h3 x⟩
 ·obtain⟨q1,q2,q3⟩:=frame (X:=X) (Y:=X') (h:=h') (n:=X.nd r) fun c _=>e.ld c
  exact .inr ⟨r,h',h1,by unfold Sto.gd;rw[e.ld];exact h2,by rw[hn];exact q3 _ _ h3,by rw[hn];exact h4,by rw[hn,q1];exact h5,fun x=>by rw[hn,q2,hs];exact h6 x⟩
end Go.Proofs.YtfgjehecjgebdaaGreat
/- Plain: Put, Delete, Get of a tree in a store. -/
namespace Go.Proofs.YtfgjehecjgebdaaGreat
set_option maxHeartbeats 1000000
theorem flat_lenP {l:List Nat} {f:Nat→List Nat} {m:Nat} (h:∀c∈l,m≤(f c).length):l.length * m≤(l.flatMap f).length:=by
 induction l with
 | nil=>simp
 | cons a t ih =>
  rw[List.flatMap_cons,List.length_append,List.length_cons,Nat.add_mul]
  have h1:=h a (by simp)
  have h2:=ih fun c hc=>h c (by simp[hc])
  omega
theorem pgs_len {X:Sto} : ∀ {h:Nat} {n:Nd} {lo hi},WF X h n lo hi→n.under=false→3 ^ h≤1 + (pgs X h n).length
 | 0,_,_,_,_,_=>by simp
 | h + 1,n,lo,hi,w,hu=>by
  have h3:=not_under.1 hu
  rw[w.1] at h3
  have hk:3≤n.kids.length:=by simpa[Nd.len,w.1] using h3
  have hc:∀c∈n.kids,3 ^ h≤(c :: pgs X h (X.nd c)).length:=fun c hc=>by
   obtain⟨l,u,k⟩:=seg_all (K:=KP X h) w.2.2 c hc
   have:=pgs_len k.2.2.2 k.2.2.1
   rw[List.length_cons];omega
  have:=flat_lenP hc
  have h2:3 * 3 ^ h≤n.kids.length * 3 ^ h:=Nat.mul_le_mul_right _ hk
  show 3 ^ (h + 1)≤1 + (n.kids.flatMap fun c=>c :: pgs X h (X.nd c)).length
  rw[Nat.pow_succ]
  omega
theorem nd_len:∀(n:Nat) (l:List Nat),l.Nodup→(∀x∈l,x < n)→l.length≤n
 | 0,l,_,h=>by
  cases l with
  | nil=>simp
  | cons a t=>have:=h a (by simp);omega
 | n + 1,l,hn,h=>by
  by_cases hm:n∈l
  ·have h1:=nd_len n (l.erase n) (hn.erase n) (fun x hx=>by
    have h2:=h x (List.mem_of_mem_erase hx)
    have h3:x ≠ n:=fun e=>by subst e;exact(List.Nodup.not_mem_erase hn) hx
    omega)
   rw[List.length_erase_of_mem hm] at h1
   omega
  ·have h1:=nd_len n l hn (fun x hx=>by
    have h2:=h x hx
    have h3:x ≠ n:=fun e=>hm (e ▸ hx)
    omega)
   omega
theorem live_lt {l:List Nat} {x:Nat} (h:l.getD x 0 ≠ 0):x < l.length:=by
 apply Classical.byContradiction
 intro hn
 exact h (by simp[List.getD,List.getElem?_eq_none (show l.length≤x by omega)])
theorem us_pos {X:Sto} {P:List Nat} (h:∀x,cntP x P=usN (X.s x)):P.Nodup ∧ ∀x∈P,X.s x ≠ 0∧x < X.l.length:=by
 refine⟨List.nodup_iff_count.2 fun x=>by have:=h x;unfold cntP at this;rw[this];unfold usN;split<;>omega,fun x hx=>?_⟩
 have h1:0 < cntP x P:=List.count_pos_iff.2 hx
 rw[h x] at h1
 have h0:X.s x ≠ 0:=fun e=>by rw[e] at h1;exact absurd h1 (by decide)
 exact⟨h0,live_lt h0⟩
theorem flat_lenE {l:List Nat} {f:Nat→List KV} {m:Nat} (h:∀c∈l,m≤(f c).length):l.length * m≤(l.flatMap f).length:=by
 induction l with
 | nil=>simp
 | cons a t ih =>
  rw[List.flatMap_cons,List.length_append,List.length_cons,Nat.add_mul]
  have h1:=h a (by simp)
  have h2:=ih fun c hc=>h c (by simp[hc])
  omega
theorem tree_h {X:Sto} {r h:Nat} (hl:X.l.length≤128) (hg:X.gd r) (w:WF X h (X.nd r) [] none) (hc:∀x,cntP x (r :: pgs X h (X.nd r))=usN (X.s x)):h≤4:=by
 obtain⟨h1,h2⟩:=us_pos hc
 have h3:=nd_len X.l.length _ h1 fun x hx=>(h2 x hx).2
 cases h with
 | zero=>omega
 | succ h =>
  have hk:2≤(X.nd r).kids.length:=((gd_nd_ok hg).inner w.1).1
  have hcc:∀c∈(X.nd r).kids,3 ^ h≤(c :: pgs X h (X.nd c)).length:=fun c hc=>by
   obtain⟨l,u,k⟩:=seg_all (K:=KP X h) w.2.2 c hc
   have:=pgs_len k.2.2.2 k.2.2.1
   rw[List.length_cons];omega
  have h4:=flat_lenP hcc
  have h5:2 * 3 ^ h≤(X.nd r).kids.length * 3 ^ h:=Nat.mul_le_mul_right _ hk
  have e:pgs X (h + 1) (X.nd r)=(X.nd r).kids.flatMap fun c=>c :: pgs X h (X.nd c):=rfl
  rw[List.length_cons,e] at h3
  have h6:3 ^ h≤64:=by omega
  apply Classical.byContradiction
  intro hn
  have h7:3 ^ 4≤3 ^ h:=Nat.pow_le_pow_right (by omega) (by omega)
  have h8:(3:Nat) ^ 4=81:=by decide
  omega
theorem inR_all (k:Bs):inR [] none k:=⟨bs_nil k,fun _ h=>by cases h⟩
theorem TI.holds {X:Sto} {P:List Nat} (h:∀x,cntP x P=usN (X.s x)):Holds X (wk0 X) P:=fun c hc=>⟨((us_pos h).2 c hc).1,rfl⟩
def Short (X:Sto) (n:Nat):Prop:=∃fr:List Nat,fr.length≤n∧fr.Nodup ∧ ∀j,j < X.l.length→X.s j ≠ 0∨j∈fr
theorem short_of {X:Sto} {W:Wk} {fr od:List Nat} {n:Nat} (e:Ext (wk0 X) W fr od) (hf:FullW W) (hn:fr.length≤n):Short X n:=by
 refine⟨fr,hn,e.nd,fun j hj=>?_⟩
 have h1:W.X.l.length=X.l.length:=e.len
 have h2:=hf j (by omega)
 rw[e.st] at h2
 by_cases hm:j∈fr
 ·exact .inr hm
 ·rw[if_neg hm] at h2;exact .inl h2
theorem leaf0_set {k v:Bs} : (leaf0.set k v)=⟨true, [k], [v], []⟩:=by
 unfold Nd.set leaf0 insAt
 simp[lbd]
theorem ok_fit {n:Nd} (h:n.Ok):n.Fit:=⟨h.leaf,fun hl=>(h.inner hl).2,h.kl,h.vl,h.kid,by have:=not_over.1 h.most;split at this<;>omega⟩
theorem one_ok {k v:Bs} (hk:k.length≤24) (hv:v.length≤32):Nd.Ok ⟨true, [k], [v], []⟩ :=
 ⟨by simp[Nd.over,Nd.len],fun _=>⟨rfl,rfl⟩,(fun h=>by cases h),by simpa using hk,by simpa using hv,List.pairwise_singleton _ _,by simp⟩
theorem ents_len {X:Sto} : ∀ {h:Nat} {n:Nd} {lo hi},WF X h n lo hi→n.under=false→2 * 3 ^ h≤(ents X h n).length
 | 0,n,_,_,w,hu=>by
  have h1:=not_under.1 hu
  have h2:=kvs_len (w.2.1.leaf w.1).1
  rw[w.1] at h1
  simp[Nd.len,w.1] at h1
  show 2≤n.kvs.length
  omega
 | h + 1,n,_,_,w,hu=>by
  have h3:=not_under.1 hu
  rw[w.1] at h3
  have hk:3≤n.kids.length:=by simpa[Nd.len,w.1] using h3
  have:=flat_lenE (f:=fun c=>ents X h (X.nd c)) fun c hc=>by
   obtain⟨l,u,k⟩:=seg_all (K:=KP X h) w.2.2 c hc
   exact ents_len k.2.2.2 k.2.2.1
  have h2:3 * (2 * 3 ^ h)≤n.kids.length * (2 * 3 ^ h):=Nat.mul_le_mul_right _ hk
  show 2 * 3 ^ (h + 1)≤(n.kids.flatMap fun c=>ents X h (X.nd c)).length
  rw[Nat.pow_succ]
  omega
def HiE (h:Nat) (E:List KV):Prop:=h=0∨4 * 3 ^ (h - 1)≤E.length
theorem hiE {X:Sto} {r h:Nat} (hg:X.gd r) (w:WF X h (X.nd r) [] none):HiE h (ents X h (X.nd r)):=by
 cases h with
 | zero=>exact .inl rfl
 | succ h =>
  have hk:2≤(X.nd r).kids.length:=((gd_nd_ok hg).inner w.1).1
  have:=flat_lenE (f:=fun c=>ents X h (X.nd c)) fun c hc=>by
   obtain⟨l,u,k⟩:=seg_all (K:=KP X h) w.2.2 c hc
   exact ents_len k.2.2.2 k.2.2.1
  have h2:2 * (2 * 3 ^ h)≤(X.nd r).kids.length * (2 * 3 ^ h):=Nat.mul_le_mul_right _ hk
  refine .inr ?_
  show 4 * 3 ^ h≤((X.nd r).kids.flatMap fun c=>ents X h (X.nd c)).length
  omega
theorem putT_okH {X:Sto} {root:Int} {E:List KV} {k v:Bs} (t:TI X root E) (hk:k.length≤24) (hv:v.length≤32) :
  (∃X',putT X root k v=(7,root,X')∧Eqv X X' ∧ ∃h,h≤4∧HiE h E∧Short X (2 * h + 3))∨(∃root' X',putT X root k v=(0,root',X')∧TI X' root' (insE E k v)∧Stays X X'):=by
 rcases t.tr with⟨rfl,rfl,h0⟩|⟨r,h,rfl,hg,w,hl1,rfl,hc⟩
 ·have e:putT X (-1) k v=doneP (putP (wk0 X) (leaf0.set k v)).2 (putP (wk0 X) (leaf0.set k v)).1.1 (putP (wk0 X) (leaf0.set k v)).1.2 (-1):=by
   unfold putT
   rw[if_neg (by omega),if_pos (by omega)]
  rw[e,leaf0_set]
  rcases putP_ok (wk0 X) (one_ok hk hv) with⟨e1,e2,e0⟩|⟨e1,e2,e3,e4⟩
  ·refine .inl ⟨_,?_,undone (Ext.refl (wk0 X)),0,by omega,.inl rfl,short_of (Ext.refl (wk0 X)) (tk_none e0) (by simp)⟩
   rw[e1,e2]
   unfold doneP
   rw[if_neg (by decide)]
  ·rw[e1]
   unfold doneP
   rw[if_pos rfl]
   obtain⟨f1,f2,f3⟩:=finished (P := []) (NP := [(putP (wk0 X) ⟨true, [k], [v], []⟩).1.1]) e2 (fun x=>by rw[h0];rfl) t.l4 (fun x=>by simp[cntP])
   refine .inr ⟨_,_,rfl,⟨f3.l4 t.l4,by rw[f3.len];exact t.len,.inr ⟨_,0,rfl,?_,?_,?_,?_,?_⟩⟩,f3⟩
   ·unfold Sto.gd at *;rw[f2 _ (by simp)];exact e4
   ·unfold Sto.nd at *;rw[f2 _ (by simp),e3]
    exact⟨rfl,ok_fit (one_ok hk hv),List.pairwise_singleton _ _,fun x _=>inR_all x⟩
   ·unfold Sto.nd at *;rw[f2 _ (by simp),e3];simp[Nd.len]
   ·unfold Sto.nd at *;rw[f2 _ (by simp),e3];simp[insE,ents,Nd.kvs]
   ·intro x;rw[←f1 x];simp[pgs]
 ·have hh:=tree_h t.len hg w hc
  have hW:=TI.holds hc
  obtain⟨d1,d2,W1,fr,od,hres⟩:=ins_ok hk hv h (X.nd r) r [] none 12 (wk0 X) w rfl hg (inR_all k) (by omega) t.len hW
  have e:putT X r k v=if (upP (wk0 X) k v (downT X k 12 r).1.reverse).2.1 ≠ 0 then doneP (upP (wk0 X) k v (downT X k 12 r).1.reverse).2.2 0 (upP (wk0 X) k v (downT X k 12 r).1.reverse).2.1 r else
    doneP (topP (upP (wk0 X) k v (downT X k 12 r).1.reverse).2.2 (upP (wk0 X) k v (downT X k 12 r).1.reverse).1).2 (topP (upP (wk0 X) k v (downT X k 12 r).1.reverse).2.2 (upP (wk0 X) k v (downT X k 12 r).1.reverse).1).1.1 (topP (upP (wk0 X) k v (downT X k 12 r).1.reverse).2.2 (upP (wk0 X) k v (downT X k 12 r).1.reverse).1).1.2 r:=by
   unfold putT
   rw[if_neg (by omega),if_neg (by omega),Int.toNat_natCast,if_neg (fun h=>h d1)]
  rw[e]
  rcases hres with⟨h7,hW1,hE,hF,hf⟩|⟨n',hu,hm,l1,l2,hf⟩
  ·rw[if_pos (by rw[h7];decide),h7,hW1]
   refine .inl ⟨_,by unfold doneP;rw[if_neg (by decide)],undone hE,h,hh,hiE hg w,short_of hE hF (by omega)⟩
  ·rw[hu]
   have hleq:n'.leaf=(X.nd r).leaf:=by rw[hm.wf.leaf,w.leaf]
   have hlr:=len_of hg
   have hlen:n'.len≤(if n'.leaf then 8 else 12):=by rw[hleq];split at hlr<;>simp_all<;>omega
   have hin:n'.leaf=false→2≤n'.kids.length:=fun hl=>by
    have h1:=((gd_nd_ok hg).inner (by rw[←hleq];exact hl)).1
    have e1:n'.len=n'.kids.length:=by simp[Nd.len,hl]
    have e2:(X.nd r).len=(X.nd r).kids.length:=by simp[Nd.len, ←hleq,hl]
    omega
   obtain⟨fr2,hf2,e2,hr⟩:=layP_spec (W1.add r) (fun ho=>hm.wf.ok ho hin) (fun ho=>⟨(hm.wf.ok_halves ho hlen).1,(hm.wf.ok_halves ho hlen).2.1⟩)
   have e3:Ext (wk0 X) (layP (W1.add r) n').2.2 (fr ++ fr2) (od ++ [r]):=by simpa using (hm.ext.add r).trans e2
   rcases hr with⟨h7,hF⟩|⟨h0,hr⟩
   ·rw[if_pos (by rw[h7];decide),h7]
    exact .inl ⟨_,by unfold doneP;rw[if_neg (by decide)],undone e3,h,hh,hiE hg w,short_of e3 hF (by rw[List.length_append];omega)⟩
   ·rw[if_neg (by rw[h0];decide)]
    have hld:∀c∈pgs W1.X h n',(layP (W1.add r) n').2.2.X.load c=W1.X.load c:=fun c hc=>e2.ld c (hm.lv c hc)
    generalize layP (W1.add r) n'=u at *
    obtain⟨⟨ids,key⟩,er,W2⟩:=u
    simp only at *
    rcases hr with⟨ho,a,rfl, -,rfl,na,ga⟩|⟨ho,a,b,rfl,rfl,rfl,na,ga,nb,gb⟩
    ·have et:topP W2 ([a],key)=((a,0),W2):=by unfold topP;rw[if_pos (show(([a],key):Parts).1.length=1 from rfl)];rfl
     rw[et]
     unfold doneP
     rw[if_pos rfl]
     obtain⟨q1,q2,q3⟩:=frame hld
     obtain⟨f1,f2,f3⟩:=finished (P:=r :: pgs X h (X.nd r)) (NP:=a :: pgs W1.X h n') e3 hc t.l4 (fun x=>by
      have:=hm.ct x
      simp only[cntP,List.count_append,List.count_cons,List.count_nil] at *
      omega)
     have hX:∀c∈pgs W2.X h n',Sto.load { W2.X with l:=giveAll W2.X.l W2.old } c=W2.X.load c:=fun c hc=>f2 c (by rw[q2] at hc;simp[hc])
     obtain⟨p1,p2,p3⟩:=frame hX
     have en:Sto.nd { W2.X with l:=giveAll W2.X.l W2.old } a=n':=by unfold Sto.nd at *;rw[f2 _ (by simp),na]
     refine .inr ⟨_,_,rfl,⟨f3.l4 t.l4,by rw[f3.len];exact t.len,.inr ⟨a,h,rfl,?_,?_,?_,?_,?_⟩⟩,f3⟩
     ·unfold Sto.gd at *;rw[f2 _ (by simp)];exact ga
     ·rw[en];exact p3 _ _ (q3 _ _ hm.wf)
     ·rw[en];omega
     ·rw[en,p1,q1,hm.en]
     ·intro x;rw[en,p2,q2];exact f1 x
    ·obtain⟨w1,w2,l1',l2',e1,p1⟩:=hm.wf.halves ho
     obtain⟨o1,o2,o3,o4⟩:=hm.wf.ok_halves ho hlen
     have m8:=(hm.wf.fit.halves ho).2.2.1
     have hfr128:∀x ∈ [a,b],x < 128:=fun x hx=>by
      have h1:=(e2.z x hx).1
      have h2:(W1.add r).X.l.length=W1.X.l.length:=rfl
      have h3:W1.X.l.length=X.l.length:=hm.ext.len
      have:=t.len
      omega
     have htop:Nd.Ok ⟨false, [n'.mid], [], [a,b]⟩:=⟨by simp[Nd.over,Nd.len],(fun h=>by cases h),fun _=>⟨by simp,by simp,rfl⟩,by simpa using m8,by simp,List.pairwise_singleton _ _,hfr128⟩
     have et:topP W2 ([a,b],n'.mid)=putP W2 ⟨false, [n'.mid], [], [a,b]⟩:=by unfold topP;rw[if_neg (by simp)]
     rw[et]
     rcases putP_ok W2 htop with⟨t1,t2,t0⟩|⟨t1,t2,t3,t4⟩
     ·rw[t1,t2]
      exact .inl ⟨_,by unfold doneP;rw[if_neg (by decide)],undone e3,h,hh,hiE hg w,short_of e3 (tk_none t0) (by rw[List.length_append];omega)⟩
     ·rw[t1]
      unfold doneP
      rw[if_pos rfl]
      generalize putP W2 ⟨false, [n'.mid], [], [a,b]⟩=u at *
      obtain⟨⟨i,er'⟩,W3⟩:=u
      simp only at *
      have e4:Ext (wk0 X) W3 (fr ++ [a,b] ++ [i]) (od ++ [r]):=by simpa using e3.trans t2
      have hld3:∀c,W2.X.l.getD c 0 ≠ 0→W3.X.load c=W2.X.load c:=fun c hc=>t2.ld c hc
      have la:W2.X.l.getD a 0 ≠ 0:=e2.new (by simp)
      have lb:W2.X.l.getD b 0 ≠ 0:=e2.new (by simp)
      have na3:W3.X.nd a=n'.lo:=by unfold Sto.nd at *;rw[hld3 a la,na]
      have nb3:W3.X.nd b=n'.hi:=by unfold Sto.nd at *;rw[hld3 b lb,nb]
      have ga3:W3.X.gd a:=by unfold Sto.gd at *;rw[hld3 a la];exact ga
      have gb3:W3.X.gd b:=by unfold Sto.gd at *;rw[hld3 b lb];exact gb
      have hld3':∀c∈pgs W1.X h n',W3.X.load c=W1.X.load c:=fun c hc=>(hld3 c (e2.live (hm.lv c hc))).trans (hld c hc)
      obtain⟨q1,q2,q3⟩:=frame (X:=W1.X) (Y:=W3.X) (h:=h) (n:=n'.lo) fun c hc=>hld3' c (by rw[p1];simp[hc])
      obtain⟨s1,s2,s3⟩:=frame (X:=W1.X) (Y:=W3.X) (h:=h) (n:=n'.hi) fun c hc=>hld3' c (by rw[p1];simp[hc])
      have ep:pgs W3.X (h + 1) ⟨false, [n'.mid], [], [a,b]⟩=a :: pgs W1.X h n'.lo ++ b :: pgs W1.X h n'.hi:=by
       simp only[pgs,List.flatMap_cons,List.flatMap_nil,List.append_nil]
       rw[na3,nb3,q2,s2]
      have ee:ents W3.X (h + 1) ⟨false, [n'.mid], [], [a,b]⟩=ents W1.X h n'.lo ++ ents W1.X h n'.hi:=by
       simp only[ents,List.flatMap_cons,List.flatMap_nil,List.append_nil]
       rw[na3,nb3,q1,s1]
      have hw:WF W3.X (h + 1) ⟨false, [n'.mid], [], [a,b]⟩ [] none :=
       ⟨rfl,ok_fit htop,⟨fun z hz=>by injection hz with hz;subst hz;exact l1',ga3,by rw[na3];exact o3,by rw[na3];exact q3 _ _ w1⟩,⟨l2',gb3,by rw[nb3];exact o4,by rw[nb3];exact s3 _ _ w2⟩,rfl⟩
      obtain⟨f1,f2,f3⟩:=finished (P:=r :: pgs X h (X.nd r)) (NP:=i :: pgs W3.X (h + 1) ⟨false, [n'.mid], [], [a,b]⟩) e4 hc t.l4 (fun x=>by
       have:=hm.ct x
       rw[ep]
       rw[p1] at this
       simp only[cntP,List.count_append,List.count_cons,List.count_nil] at *
       omega)
      have hX:∀c∈pgs W3.X (h + 1) ⟨false, [n'.mid], [], [a,b]⟩,Sto.load { W3.X with l:=giveAll W3.X.l W3.old } c=W3.X.load c:=fun c hc=>f2 c (by simp[hc])
      obtain⟨p1',p2',p3'⟩:=frame hX
      have en:Sto.nd { W3.X with l:=giveAll W3.X.l W3.old } i=⟨false, [n'.mid], [], [a,b]⟩:=by unfold Sto.nd at *;rw[f2 _ (by simp),t3]
      refine .inr ⟨_,_,rfl,⟨f3.l4 t.l4,by rw[f3.len];exact t.len,.inr ⟨i,h + 1,rfl,?_,?_,?_,?_,?_⟩⟩,f3⟩
      ·unfold Sto.gd at *;rw[f2 _ (by simp)];exact t4
      ·rw[en];exact p3' _ _ hw
      ·rw[en];simp[Nd.len]
      ·rw[en,p1',ee, ←e1,hm.en]
      ·intro x;rw[en,p2'];exact f1 x
theorem Short.mono {X:Sto} {m n:Nat} (h:Short X m) (hn:m≤n):Short X n:=by
 obtain⟨fr,a,b⟩:=h
 exact⟨fr,by omega,b⟩
theorem putT_ok {X:Sto} {root:Int} {E:List KV} {k v:Bs} (t:TI X root E) (hk:k.length≤24) (hv:v.length≤32) :
  (∃X',putT X root k v=(7,root,X')∧Eqv X X'∧Short X 11)∨(∃root' X',putT X root k v=(0,root',X')∧TI X' root' (insE E k v)∧Stays X X'):=by
 rcases putT_okH t hk hv with⟨X',a,b,h,c, -,d⟩|h
 ·exact .inl ⟨X',a,b,d.mono (by omega)⟩
 ·exact .inr h
end Go.Proofs.YtfgjehecjgebdaaGreat
/- Plain: Get and Delete of a tree in a store. -/
namespace Go.Proofs.YtfgjehecjgebdaaGreat
set_option maxHeartbeats 1000000
def valE (E:List KV) (k:Bs):Bs×Bool:=match getE E k with|some e=>(e.2,true)|none=>([],false)
theorem getT_ok {X:Sto} {root:Int} {E:List KV} {k:Bs} (t:TI X root E):getT X root k=(valE E k,0):=by
 unfold getT valE
 rcases t.tr with⟨rfl,rfl,h0⟩|⟨r,h,rfl,hg,w,hl1,rfl,hc⟩
 ·rw[if_pos (by omega)];rfl
 ·have hh:=tree_h t.len hg w hc
  obtain⟨d1,d2,d3⟩:=get_ok h (X.nd r) r [] none 12 w rfl hg (inR_all k) (by omega)
  rw[if_neg (by omega),Int.toNat_natCast,if_neg (fun h=>h d1)]
  exact congrArg (fun x=>(x,(0:Int))) d3
theorem delT_okH {X:Sto} {root:Int} {E:List KV} {k:Bs} (t:TI X root E) :
  (getE E k=none∧delT X root k=(false,0,root,X))∨((∃e,getE E k=some e) ∧
   ((∃X',delT X root k=(false,7,root,X')∧Eqv X X' ∧ ∃h,h≤4∧HiE h E∧Short X (2 * h + 1))∨(∃root' X',delT X root k=(true,0,root',X')∧TI X' root' (delE E k)∧Stays X X'))):=by
 have hg0:=getT_ok (k:=k) t
 cases hE:getE E k with
 | none =>
  refine .inl ⟨rfl,?_⟩
  unfold delT
  rw[hg0,if_pos (.inr (by unfold valE;rw[hE]))]
 | some e =>
  refine .inr ⟨⟨e,rfl⟩,?_⟩
  rcases t.tr with⟨rfl,rfl,h0⟩|⟨r,h,rfl,hg,w,hl1,rfl,hc⟩
  ·simp[getE] at hE
  ·have hh:=tree_h t.len hg w hc
   have hW:=TI.holds hc
   obtain⟨d1,s,L,hrev,W1,fr,od,hres⟩:=del_ok (k:=k) h (X.nd r) r [] none 12 (wk0 X) w rfl hg (inR_all k) (by omega) t.len hW
   have e0:delT X r k=(let u:=sinkP ((wk0 X).add s.id) (s.n.cut k) L
     if u.2.1 ≠ 0 then (false,doneP u.2.2 0 u.2.1 r) else
     if u.1.leaf=true∧u.1.len=0 then (true,doneP u.2.2 (-1) 0 r) else
     if u.1.leaf=false∧u.1.len=1 then (true,doneP u.2.2 (u.1.kids.getD 0 0) 0 r) else
     (decide ((putP u.2.2 u.1).1.2=0),doneP (putP u.2.2 u.1).2 (putP u.2.2 u.1).1.1 (putP u.2.2 u.1).1.2 r)):=by
    unfold delT
    rw[hg0,if_neg (by unfold valE;rw[hE];simp),Int.toNat_natCast,hrev]
   rw[e0]
   rcases hres with⟨h7,hW1,hX,hF,hf⟩|⟨n',hu,hm,l1,l2,hf⟩
   ·simp only
    rw[if_pos (by rw[h7];decide),h7,hW1]
    exact .inl ⟨_,by unfold doneP;rw[if_neg (by decide)],undone hX,h,hh,hiE hg w,short_of hX hF (by omega)⟩
   ·rw[hu]
    simp only
    rw[if_neg (fun h=>h rfl)]
    have hleq:n'.leaf=(X.nd r).leaf:=by rw[hm.wf.leaf,w.leaf]
    have hlr:=len_of hg
    have hct:∀x,cntP x (pgs W1.X h n') + cntP x od=cntP x (r :: pgs X h (X.nd r)) + cntP x fr:=fun x=>by simpa using hm.ct x
    by_cases hz:n'.leaf=true∧n'.len=0
    ·rw[if_pos hz]
     unfold doneP
     rw[if_pos rfl]
     obtain⟨f1,f2,f3⟩:=finished (NP:=pgs W1.X h n') hm.ext hc t.l4 hct
     have h0:h=0:=by
      have:=hm.wf.leaf
      rw[hz.1] at this
      simpa using this.symm
     subst h0
     have hE0:delE (ents X 0 (X.nd r)) k = []:=by
      rw[←hm.en]
      show n'.kvs = []
      have:=hz.2
      have hk:n'.keys = []:=List.eq_nil_of_length_eq_zero (by simpa[Nd.len,hz.1] using this)
      simp[Nd.kvs,hk]
     refine .inr ⟨_,_,rfl,⟨f3.l4 t.l4,by rw[f3.len];exact t.len,.inl ⟨rfl,hE0,fun x=>by rw[←f1 x];rfl⟩⟩,f3⟩
    ·rw[if_neg hz]
     by_cases hz1:n'.leaf=false∧n'.len=1
     ·rw[if_pos hz1]
      unfold doneP
      rw[if_pos rfl]
      obtain⟨f1,f2,f3⟩:=finished (NP:=pgs W1.X h n') hm.ext hc t.l4 hct
      obtain⟨h',rfl⟩:∃h',h=h' + 1:=by
       have:=hm.wf.leaf
       rw[hz1.1] at this
       have h1:¬h=0:=by simpa using this.symm
       exact⟨h - 1,by omega⟩
      obtain⟨c,hk⟩:∃c,n'.kids = [c]:=by
       have:n'.kids.length=1:=by simpa[Nd.len,hz1.1] using hz1.2
       exact List.length_eq_one_iff.1 this
      have hks:n'.keys = []:=by
       have:=(hm.wf.fit.inner hz1.1).1
       rw[hk] at this
       exact List.eq_nil_of_length_eq_zero (by simpa using this)
      have hs:=hm.wf.2.2
      rw[hk,hks] at hs
      obtain⟨k1,k2,k3,k4⟩:=hs.1
      have hp:pgs W1.X (h' + 1) n'=c :: pgs W1.X h' (W1.X.nd c):=by simp only[pgs];rw[hk];simp
      have he:ents W1.X (h' + 1) n'=ents W1.X h' (W1.X.nd c):=by simp only[ents];rw[hk];simp
      rw[hp] at f1 f2
      obtain⟨p1,p2,p3⟩:=frame (X:=W1.X) (Y := { W1.X with l:=giveAll W1.X.l W1.old }) (h:=h') (n:=W1.X.nd c) fun x hx=>f2 x (by simp[hx])
      have en:Sto.nd { W1.X with l:=giveAll W1.X.l W1.old } c=W1.X.nd c:=by unfold Sto.nd;rw[f2 c (by simp)]
      rw[hk]
      refine .inr ⟨_,_,rfl,⟨f3.l4 t.l4,by rw[f3.len];exact t.len,.inr ⟨c,h',rfl,?_,?_,?_,?_,?_⟩⟩,f3⟩
      ·unfold Sto.gd at *;rw[f2 c (by simp)];exact k2
      ·rw[en];exact p3 _ _ k4
      ·rw[en];have:=not_under.1 k3;split at this<;>omega
      ·rw[en,p1, ←he,hm.en]
      ·intro x;rw[en,p2];exact f1 x
     ·rw[if_neg hz1]
      have hok:n'.Ok:=hm.wf.ok (by rw[not_over,hleq];omega) (fun hl=>by
       have h1:n'.len=n'.kids.length:=by simp[Nd.len,hl]
       have h2:=(hm.wf.fit.inner hl).1
       have h3:n'.len ≠ 1:=fun e=>hz1 ⟨hl,e⟩
       omega)
      rcases putP_ok W1 hok with⟨t1,t2,t0⟩|⟨t1,t2,t3,t4⟩
      ·rw[t1,t2]
       exact .inl ⟨_,by unfold doneP;rw[if_neg (by decide)];rfl,undone hm.ext,h,hh,hiE hg w,short_of hm.ext (tk_none t0) (by omega)⟩
      ·rw[t1]
       unfold doneP
       rw[if_pos rfl]
       have hld:∀c∈pgs W1.X h n',(putP W1 n').2.X.load c=W1.X.load c:=fun c hc=>t2.ld c (hm.lv c hc)
       generalize putP W1 n'=u at *
       obtain⟨⟨i,er⟩,W3⟩:=u
       simp only at *
       have e4:Ext (wk0 X) W3 (fr ++ [i]) od:=by simpa using hm.ext.trans t2
       obtain⟨q1,q2,q3⟩:=frame hld
       obtain⟨f1,f2,f3⟩:=finished (NP:=i :: pgs W1.X h n') e4 hc t.l4 (fun x=>by
        have:=hct x
        simp only[cntP,List.count_append,List.count_cons,List.count_nil] at *
        omega)
       have hX:∀c∈pgs W3.X h n',Sto.load { W3.X with l:=giveAll W3.X.l W3.old } c=W3.X.load c:=fun c hc=>f2 c (by rw[q2] at hc;simp[hc])
       obtain⟨p1,p2,p3⟩:=frame hX
       have en:Sto.nd { W3.X with l:=giveAll W3.X.l W3.old } i=n':=by unfold Sto.nd at *;rw[f2 _ (by simp),t3]
       refine .inr ⟨_,_,rfl,⟨f3.l4 t.l4,by rw[f3.len];exact t.len,.inr ⟨i,h,rfl,?_,?_,?_,?_,?_⟩⟩,f3⟩
       ·unfold Sto.gd at *;rw[f2 _ (by simp)];exact t4
       ·rw[en];exact p3 _ _ (q3 _ _ hm.wf)
       ·rw[en]
        cases hl:n'.leaf
        ·have h1:n'.len=n'.kids.length:=by simp[Nd.len,hl]
         have h2:=(hm.wf.fit.inner hl).1
         omega
        ·have:n'.len ≠ 0:=fun e=>hz ⟨hl,e⟩
         omega
       ·rw[en,p1,q1,hm.en]
       ·intro x;rw[en,p2,q2];exact f1 x
end Go.Proofs.YtfgjehecjgebdaaGreat
/- Plain: what the laws' walk and Sound see of a tree. -/
namespace Go.Proofs.YtfgjehecjgebdaaGreat
set_option maxHeartbeats 1000000
def loB (lo:Bs) (ks:List Bs) (j:Nat):Bs:=if j=0 then lo else ks.getD (j - 1) []
def hiB (hi:Option Bs) (ks:List Bs) (j:Nat):Option Bs:=if j < ks.length then some (ks.getD j []) else hi
theorem seg_at {K} : ∀ {cs:List Nat} {ks:List Bs} {lo hi},Seg K cs ks lo hi → ∀j (h:j < cs.length),K cs[j] (loB lo ks j) (hiB hi ks j)
 | [],_,_,_,h,_,_=>h.elim
 | c :: cs, [],lo,hi,h,j,hj=>by
  obtain⟨h1,rfl⟩:=h
  obtain rfl:j=0:=by simpa using hj
  exact h1
 | c :: cs,k :: ks,lo,hi,h,0,hj=>h.1
 | c :: cs,k :: ks,lo,hi,h,j + 1,hj=>by
  have:=seg_at h.2 j (by simpa using hj)
  have e1:loB lo (k :: ks) (j + 1)=loB k ks j:=by
   unfold loB
   rw[if_neg (by omega)]
   cases j with
   | zero=>simp
   | succ j=>simp
  have e2:hiB hi (k :: ks) (j + 1)=hiB hi ks j:=by
   unfold hiB
   by_cases hl:j < ks.length
   ·rw[if_pos hl,if_pos (by simpa using hl)];simp
   ·rw[if_neg hl,if_neg (by simpa using hl)]
  rw[e1,e2]
  exact this
theorem ents_pos {X:Sto} : ∀ {h:Nat} {n:Nd} {lo hi},WF X h n lo hi→1≤n.len→ents X h n ≠ []
 | 0,n,_,_,w,hn=>by
  intro e
  have:=kvs_len (w.2.1.leaf w.1).1
  have e':n.kvs = []:=e
  rw[e'] at this
  simp[Nd.len,w.1] at hn
  simp at this
  omega
 | h + 1,n,_,_,w,hn=>by
  obtain⟨hl,hf,hs⟩:=w
  cases hk:n.kids with
  | nil=>rw[hk] at hs;exact hs.elim
  | cons c cs =>
   rw[hk] at hs
   obtain⟨l,u,k⟩:=seg_all (K:=KP X h) hs c (by simp)
   have hun:=not_under.1 k.2.2.1
   have:=ents_pos k.2.2.2 (by split at hun<;>omega)
   intro e
   simp only[ents,hk,List.flatMap_cons] at e
   exact this (List.append_eq_nil_iff.1 e).1
theorem snoc_ind {α : Type} {p:List α → Prop} (nil:p []) (snoc:∀l a,p l→p (l ++ [a])) (l:List α):p l:=by
 have:∀m:List α,p m.reverse:=by
  intro m
  induction m with
  | nil=>exact nil
  | cons a t ih=>rw[List.reverse_cons];exact snoc _ _ ih
 rw[←List.reverse_reverse l]
 exact this _
theorem us_count:∀(l:List Nat) (P:List Nat),P.Nodup→(∀x,x∈P↔us (l.getD x 0)=true)→P.length=l.count 1 + l.count 2:=by
 intro l
 have key:∀(l:List Nat),((List.range l.length).filter fun x=>us (l.getD x 0)).length=l.count 1 + l.count 2:=by
  intro l
  induction l using snoc_ind with
  | nil=>rfl
  | snoc l a ih =>
   rw[List.length_append,List.length_singleton,List.range_succ,List.filter_append,List.length_append,List.count_append,List.count_append]
   have e1:(List.range l.length).filter (fun x=>us ((l ++ [a]).getD x 0))=(List.range l.length).filter fun x=>us (l.getD x 0):=by
    apply List.filter_congr
    intro x hx
    have hx:=List.mem_range.1 hx
    simp[List.getD,List.getElem?_append_left hx]
   rw[e1,ih]
   have e2:(l ++ [a]).getD l.length 0=a:=by simp[List.getD]
   simp only[List.filter_cons,List.filter_nil,e2]
   by_cases h1:a=1
   ·subst h1;simp[us];omega
   ·by_cases h2:a=2
    ·subst h2;simp[us];omega
    ·simp[us,h1,h2]
 intro P hn hm
 rw[←key l]
 apply List.Perm.length_eq
 rw[List.perm_iff_count]
 intro x
 have hr:((List.range l.length).filter fun x=>us (l.getD x 0)).Nodup:=List.nodup_range.filter _
 rw[hn.count,hr.count]
 have:x∈P↔x∈(List.range l.length).filter fun x=>us (l.getD x 0):=by
  rw[hm x,List.mem_filter,List.mem_range]
  constructor
  ·intro h
   exact⟨live_lt (by intro e;rw[e] at h;cases h),h⟩
  ·exact fun h=>h.2
 simp only[this]
theorem tree_count {X:Sto} {P:List Nat} (h:∀x,cntP x P=usN (X.s x)):P.length=X.l.count 1 + X.l.count 2:=by
 refine us_count X.l P (us_pos h).1 fun x=>?_
 have:=h x
 unfold usN Sto.s at this
 constructor
 ·intro hx
  have h1:0 < cntP x P:=List.count_pos_iff.2 hx
  rw[this] at h1
  split at h1
  ·assumption
  ·omega
 ·intro hu
  rw[if_pos hu] at this
  exact List.count_pos_iff.1 (by unfold cntP at this;omega)
end Go.Proofs.YtfgjehecjgebdaaGreat
/- Plain: a tree has no more pages than entries; where nothing is stale, pages suffice. -/
namespace Go.Proofs.YtfgjehecjgebdaaGreat
set_option maxHeartbeats 1000000
theorem nd_sub:∀ {l m:List Nat},l.Nodup→(∀x∈l,x∈m)→l.length≤m.length
 | [],_,_,_=>by simp
 | a :: t,m,hn,h=>by
  obtain⟨h1,h2⟩:=List.nodup_cons.1 hn
  have h3:=nd_sub (l:=t) (m:=m.erase a) h2 fun x hx=>(List.mem_erase_of_ne (fun e:x=a=>h1 (by subst e;exact hx))).2 (h x (by simp[hx]))
  have ha:=h a (by simp)
  rw[List.length_erase_of_mem ha] at h3
  have:0 < m.length:=List.length_pos_of_mem ha
  rw[List.length_cons];omega
theorem TI.up {X:Sto} {root:Int} {E:List KV} (t:TI X root E):UpE E:=by
 rcases t.tr with⟨rfl,rfl,h0⟩|⟨r,h,rfl,hg,w,hl1,rfl,hc⟩
 ·exact List.Pairwise.nil
 ·exact w.up
end Go.Proofs.YtfgjehecjgebdaaGreat
/- Plain: what the laws' Sound sees of a tree that holds entries. -/
namespace Go.Proofs.YtfgjehecjgebdaaGreat
theorem TI.sound {X:Sto} {root:Int} {E:List KV} (t:TI X root E):(root = -1∧E = []∧X.l.count 1 + X.l.count 2=0) ∨
  ∃(r h:Nat),root=r∧X.gd r∧WF X h (X.nd r) [] none∧E=ents X h (X.nd r)∧E ≠ []∧1 + (pgs X h (X.nd r)).length=X.l.count 1 + X.l.count 2∧h≤4:=by
 rcases t.tr with⟨rfl,rfl,h0⟩|⟨r,h,rfl,hg,w,hl1,rfl,hc⟩
 ·have:=tree_count (X:=X) (P := []) (fun x=>by rw[h0];rfl)
  exact .inl ⟨rfl,rfl,by simpa using this.symm⟩
 ·have h1:=tree_count hc
  rw[List.length_cons] at h1
  exact .inr ⟨r,h,rfl,hg,w,rfl,ents_pos w hl1,by omega,tree_h t.len hg w hc⟩
end Go.Proofs.YtfgjehecjgebdaaGreat
