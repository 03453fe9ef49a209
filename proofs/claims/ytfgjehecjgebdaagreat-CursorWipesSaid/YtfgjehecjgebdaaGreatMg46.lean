/- Plain: a tree of which nothing is stale; the rounds of TreeSame. -/
import Derived.Test.YtfgjehecjgebdaaGreatMg35
import Derived.Test.YtfgjehecjgebdaaGreatMg43
namespace Go.Proofs.YtfgjehecjgebdaaGreat
structure TE (X:Sto) (root:Int) (E:List KV):Prop where
 ti:TI X root E
 ev:∀j,X.s j % 2=0
 len:X.l.length=128
theorem TE.blank:TE (blankX 128) (-1) []:=by
 obtain⟨-, -, -,h4, -, -⟩:=blank_disk (p:=128) (by omega) (by omega)
 have hs:∀j,(blankX 128).s j=0:=fun j=>by
  unfold Sto.s
  rw[h4]
  simp only[List.getD_eq_getElem?_getD,List.getElem?_replicate]
  split<;>rfl
 have hl:(blankX 128).l.length=128:=by rw[h4,List.length_replicate]
 exact⟨⟨fun j=>by rw[hs];omega,by omega,.inl ⟨rfl,rfl,fun x=>by rw[hs];rfl⟩⟩,fun j=>by rw[hs],hl⟩
theorem TE.stays {X X':Sto} {root root':Int} {E E':List KV} (t:TE X root E) (h:TI X' root' E') (s:Stays X X'):TE X' root' E':=⟨h,fun j=>by rw[s.st];exact t.ev j,by rw[s.len];exact t.len⟩
theorem TE.put {X:Sto} {root:Int} {E:List KV} (t:TE X root E) {k v:Bs} (hk:k.length≤24) (hv:v.length≤32) (hn:E.length≤116):∃root' X',putT X root k v=(0,root',X')∧TE X' root' (insE E k v):=by
 rcases putT_ok t.ti hk hv with⟨_, -, -,h⟩|⟨r,X',h1,h2,h3⟩
 ·exact absurd h (not_short t.ti t.ev (by rw[t.len];omega))
 ·exact⟨r,X',h1,t.stays h2 h3⟩
theorem TE.del {X:Sto} {root:Int} {E:List KV} (t:TE X root E) {k:Bs} (hm:∃e,getE E k=some e) (hn:E.length≤116):∃root' X',delT X root k=(true,0,root',X')∧TE X' root' (delE E k):=by
 rcases delT_ok (k:=k) t.ti with⟨h, -⟩|⟨-,⟨_, -, -,h⟩|⟨r,X',h1,h2,h3⟩⟩
 ·obtain⟨e,he⟩:=hm
  rw[h] at he;cases he
 ·exact absurd h (not_short t.ti t.ev (by rw[t.len];omega))
 ·exact⟨r,X',h1,t.stays h2 h3⟩
theorem insE_len (E:List KV) (k v:Bs):(insE E k v).length≤E.length + 1:=by
 induction E with
 | nil=>simp[insE]
 | cons a t ih =>
  unfold insE at *
  simp only[List.filter_cons,List.length_append,List.length_cons] at *
  by_cases h1:a.1 < k
  ·have h2:¬k < a.1:=bs_asymm h1
   simp only[h1,h2,decide_true,decide_false,if_true]
   simp at *
   omega
  ·simp only[h1,decide_false]
   split<;>split<;>simp at * <;> omega
end Go.Proofs.YtfgjehecjgebdaaGreat
/- Plain: a cursor's stack over a tree: what is still to come. -/
namespace Go.Proofs.YtfgjehecjgebdaaGreat
set_option maxHeartbeats 1000000
abbrev Fr:=Nd×Nat
noncomputable def frE (X:Sto):Nat→Fr→List KV
 | 0,f=>f.1.kvs.drop f.2
 | h + 1,f=>(f.1.kids.drop f.2).flatMap fun c=>ents X h (X.nd c)
noncomputable def stkE (X:Sto):Nat→List Fr→List KV
 | _, [] => []
 | h,f :: s=>stkE X (h - 1) s ++ frE X h f
def StkOk (X:Sto):Nat→List Fr→Prop
 | _, []=>True
 | h,f :: s=>f.1.Ok∧(∃lo hi,WF X h f.1 lo hi)∧(s ≠ []→0 < h)∧StkOk X (h - 1) s
noncomputable def dwnC (X:Sto) (k:Bs):Nat→Nd→List Fr
 | 0,n => [(n,n.find k)]
 | h + 1,n=>(n,n.find k + 1) :: dwnC X k h (X.nd (n.kids.getD (n.find k) 0))
theorem drop_at {A B:List Nat} {c i:Nat} (h:A.length=i):(A ++ [c] ++ B).drop (i + 1)=B:=by
 have:(A ++ [c]).length=i + 1:=by simp[h]
 rw[←this];exact List.drop_left
theorem kvs_key {n:Nd} (hv:n.vals.length=n.keys.length) {i:Nat} (hi:i < n.kvs.length):n.keys.getD i []=n.kvs[i].1:=by
 have e:=kvs_keys hv
 rw[←e]
 simp[List.getD,hi]
def fromE (E:List KV) (k:Bs):List KV:=E.filter fun e => !decide (e.1 < k)
theorem leaf_from {n:Nd} (hv:n.vals.length=n.keys.length) (hu:Up n.keys) (hl:n.leaf=true) (k:Bs):n.kvs.drop (n.find k)=fromE n.kvs k:=by
 have h1:=filt_lt (up_kvs hv hu) k
 rw[kvs_keys hv] at h1
 have hf:n.find k=lbd n.keys k:=by unfold Nd.find;simp[hl]
 rw[hf]
 unfold fromE
 have hs:n.kvs=n.kvs.take (lbd n.keys k) ++ n.kvs.drop (lbd n.keys k):=(List.take_append_drop _ _).symm
 have hup:=up_kvs hv hu
 have hd:∀e∈n.kvs.drop (lbd n.keys k), ¬e.1 < k:=fun e he=>by
  obtain⟨j,hj,rfl⟩:=List.getElem_of_mem he
  rw[List.getElem_drop]
  have hj2:=hj
  rw[List.length_drop] at hj2
  have hl2:=kvs_len hv
  have hlt:lbd n.keys k + j < n.keys.length:=by omega
  have:=lbd_ge hu (k:=k) (j:=lbd n.keys k + j) (Nat.le_add_right _ _) hlt
  have e1:=kvs_key hv (i:=lbd n.keys k + j) (by omega)
  rw[←e1];exact this
 have ht:∀e∈n.kvs.take (lbd n.keys k),e.1 < k:=fun e he=>by
  rw[←h1] at he
  simpa using (List.mem_filter.1 he).2
 conv=>rhs;rw[hs]
 rw[List.filter_append,filt_none (fun e he=>by simpa using ht e he),filt_all (fun e he=>by simpa using hd e he),List.nil_append]
theorem fromE_app (A B:List KV) (k:Bs):fromE (A ++ B) k=fromE A k ++ fromE B k:=List.filter_append _ _
theorem dwn_ok {X:Sto} {k:Bs} : ∀(h:Nat) (n:Nd) {lo hi},WF X h n lo hi→n.Ok→inR lo hi k→StkOk X h (dwnC X k h n)∧stkE X h (dwnC X k h n)=fromE (ents X h n) k
 | 0,n,lo,hi,w,ok,hin=>⟨⟨ok,⟨lo,hi,w⟩,fun h=>absurd rfl h,trivial⟩,by
   show [] ++ n.kvs.drop (n.find k)=fromE n.kvs k
   rw[List.nil_append]
   exact leaf_from (w.2.1.leaf w.1).1 w.2.2.1 w.1 k⟩
 | h + 1,n,lo,hi,w,ok,hin=>by
  obtain⟨A,c,B,KA,KB,m,u,e1,e2,e3,e4,e5,sL,kc,sR,hin',hAl,hBl⟩:=find_mid w k hin
  obtain⟨i1,i2⟩:=dwn_ok h (X.nd c) kc.2.2.2 (gd_nd_ok kc.2.1) hin'
  rw[dwnC,e5]
  refine⟨⟨ok,⟨lo,hi,w⟩,fun _=>by omega,i1⟩,?_⟩
  show stkE X (h + 1 - 1) _ ++ (n.kids.drop (n.find k + 1)).flatMap (fun c=>ents X h (X.nd c))=_
  rw[Nat.add_sub_cancel,i2,e1,drop_at e3]
  have e:ents X (h + 1) n=(A.flatMap fun c=>ents X h (X.nd c)) ++ ents X h (X.nd c) ++ (B.flatMap fun c=>ents X h (X.nd c)):=by
   simp only[ents]
   rw[e1,List.flatMap_append,List.flatMap_append]
   simp
  rw[e,fromE_app,fromE_app]
  have f1:fromE (A.flatMap fun c=>ents X h (X.nd c)) k = []:=filt_none fun e he=>by simpa using hAl e he
  have f2:fromE (B.flatMap fun c=>ents X h (X.nd c)) k=(B.flatMap fun c=>ents X h (X.nd c)):=filt_all fun e he=>by simpa using bs_asymm (hBl e he)
  rw[f1,f2,List.nil_append]
theorem lbd_nil (ks:List Bs):lbd ks []=0:=by
 cases ks with
 | nil=>rfl
 | cons a t=>unfold lbd;rw[if_neg (bs_nil a)]
def Ready (s:List Fr):Prop:=∃s0 f,s=s0 ++ [f]∧f.1.leaf=true∧f.2 < f.1.keys.length
theorem dwn_min {X:Sto} : ∀(h:Nat) (n:Nd) {lo hi},WF X h n lo hi→n.Ok→n.under=false→StkOk X h (dwnC X [] h n)∧stkE X h (dwnC X [] h n)=ents X h n∧Ready (dwnC X [] h n)
 | 0,n,lo,hi,w,ok,hun=>by
  have hf:n.find []=0:=by unfold Nd.find;rw[lbd_nil];simp[w.1]
  have h2:=not_under.1 hun
  rw[w.1] at h2
  refine⟨⟨ok,⟨lo,hi,w⟩,fun h=>absurd rfl h,trivial⟩,?_,⟨[],(n,n.find []),rfl,w.1,?_⟩⟩
  ·show [] ++ n.kvs.drop (n.find [])=n.kvs
   rw[hf];rfl
  ·rw[hf]
   have h3:n.len=n.keys.length:=by simp[Nd.len,w.1]
   rw[if_pos rfl,h3] at h2
   show 0 < n.keys.length
   omega
 | h + 1,n,lo,hi,w,ok,hun=>by
  obtain⟨-,h2,h3⟩:=seg_keys (K:=KP X h) (fun _ _ _ k=>k.1) w.2.2
  have hnk : [] ∉ n.keys:=fun hm=>bs_nil _ (h3 _ hm).1
  have hf:n.find []=0:=by unfold Nd.find;rw[lbd_nil];simp[hnk]
  have hk:=(ok.inner w.1).1
  obtain⟨c,B,hcB⟩:∃c B,n.kids=c :: B:=by
   cases hh:n.kids with
   | nil=>rw[hh] at hk;simp at hk
   | cons c B=>exact⟨c,B,rfl⟩
  obtain⟨l,u,kc⟩:=seg_all (K:=KP X h) w.2.2 c (by rw[hcB];simp)
  obtain⟨i1,i2,s0,f,i3,i4,i5⟩:=dwn_min h (X.nd c) kc.2.2.2 (gd_nd_ok kc.2.1) kc.2.2.1
  have e5:n.kids.getD (n.find []) 0=c:=by rw[hf,hcB];rfl
  rw[dwnC,e5]
  refine⟨⟨ok,⟨lo,hi,w⟩,fun _=>by omega,i1⟩,?_,⟨(n,n.find [] + 1) :: s0,f,by rw[i3];rfl,i4,i5⟩⟩
  show stkE X (h + 1 - 1) _ ++ (n.kids.drop (n.find [] + 1)).flatMap (fun c=>ents X h (X.nd c))=_
  rw[Nat.add_sub_cancel,i2,hf,hcB]
  simp[ents,hcB]
theorem stkE_snoc {X:Sto} : ∀(s:List Fr) (f:Fr) (H:Nat),stkE X H (s ++ [f])=frE X (H - s.length) f ++ stkE X H s
 | [],f,H=>by simp[stkE]
 | a :: s,f,H=>by
  show stkE X (H - 1) (s ++ [f]) ++ frE X H a=_
  rw[stkE_snoc s f (H - 1),List.length_cons,show H - 1 - s.length=H - (s.length + 1) by omega,List.append_assoc]
  rfl
theorem stkOk_snoc {X:Sto} : ∀(s:List Fr) (f:Fr) (H:Nat),StkOk X H (s ++ [f])↔StkOk X H s∧(s ≠ []→s.length≤H)∧f.1.Ok ∧ ∃lo hi,WF X (H - s.length) f.1 lo hi
 | [],f,H=>by simp[StkOk]
 | a :: s,f,H=>by
  have ih:=stkOk_snoc (X:=X) s f (H - 1)
  show a.1.Ok∧(∃lo hi,WF X H a.1 lo hi)∧(s ++ [f] ≠ []→0 < H)∧StkOk X (H - 1) (s ++ [f])↔(a.1.Ok∧(∃lo hi,WF X H a.1 lo hi)∧(s ≠ []→0 < H)∧StkOk X (H - 1) s)∧_
  rw[ih,List.length_cons,show H - 1 - s.length=H - (s.length + 1) by omega]
  constructor
  ·rintro⟨h1,h2,h3,h4,h5,h6⟩
   have h0:=h3 (by simp)
   refine⟨⟨h1,h2,fun _=>h0,h4⟩,fun _=>?_,h6⟩
   by_cases hs:s = []
   ·subst hs;simp only[List.length_nil];omega
   ·have:=h5 hs;omega
  ·rintro⟨⟨h1,h2,h3,h4⟩,h5,h6⟩
   have:=h5 (by simp)
   exact⟨h1,h2,fun _=>by omega,h4,fun _=>by omega,h6⟩
theorem stkOk_app {X:Sto} : ∀(s t:List Fr) (H:Nat),StkOk X H s→StkOk X (H - s.length) t→(s ≠ []→t ≠ []→s.length≤H)→StkOk X H (s ++ t)∧stkE X H (s ++ t)=stkE X (H - s.length) t ++ stkE X H s
 | [],t,H,_,h,_=>⟨h,by simp[stkE]⟩
 | a :: s,t,H,h1,h2,h3=>by
  obtain⟨a1,a2,a3,a4⟩:=h1
  rw[List.length_cons,show H - (s.length + 1)=H - 1 - s.length by omega] at h2
  have h3':t ≠ []→s.length + 1≤H:=fun ht=>by have:=h3 (by simp) ht;simpa using this
  obtain⟨i1,i2⟩:=stkOk_app s t (H - 1) a4 h2 (fun _ ht=>by have:=h3' ht;omega)
  refine⟨⟨a1,a2,fun hne=>?_,i1⟩,?_⟩
  ·by_cases ht:t = []
   ·subst ht;exact a3 (by intro h;subst h;exact hne rfl)
   ·have:=h3' ht;omega
  ·show stkE X (H - 1) (s ++ t) ++ frE X H a=_
   rw[i2,List.length_cons,show H - 1 - s.length=H - (s.length + 1) by omega,List.append_assoc]
   rfl
theorem stk_len {X:Sto} : ∀(s:List Fr) (H:Nat),StkOk X H s→s.length≤H + 1
 | [],_,_=>by simp
 | [_],H,_=>by simp
 | a :: b :: s,H,h=>by
  have h1:=h.2.2.1 (by simp)
  have:=stk_len (b :: s) (H - 1) h.2.2.2
  simp only[List.length_cons] at *
  omega
theorem next_pop {X:Sto} {s:List Fr} {f:Fr} {H:Nat} (h:StkOk X H (s ++ [f])) (hl:f.1.len≤f.2):StkOk X H s∧stkE X H s=stkE X H (s ++ [f]):=by
 obtain⟨h1,h2,h3,lo,hi,h4⟩:=(stkOk_snoc s f H).1 h
 refine⟨h1,?_⟩
 rw[stkE_snoc]
 have:frE X (H - s.length) f = []:=by
  cases hh:H - s.length with
  | zero =>
   rw[hh] at h4
   have h5:=kvs_len (h4.2.1.leaf h4.1).1
   have h6:f.1.len=f.1.keys.length:=by simp[Nd.len,h4.1]
   exact List.drop_eq_nil_of_le (by omega)
  | succ j =>
   rw[hh] at h4
   have h6:f.1.len=f.1.kids.length:=by simp[Nd.len,h4.1]
   show(f.1.kids.drop f.2).flatMap _ = []
   rw[List.drop_eq_nil_of_le (by omega)];rfl
 rw[this,List.nil_append]
theorem next_leaf {X:Sto} {s:List Fr} {f:Fr} {H:Nat} (h:StkOk X H (s ++ [f])) (hl:f.2 < f.1.len) (hf:f.1.leaf=true) :
  StkOk X H (s ++ [(f.1,f.2 + 1)])∧stkE X H (s ++ [f])=(f.1.keys.getD f.2 [],f.1.vals.getD f.2 []) :: stkE X H (s ++ [(f.1,f.2 + 1)])∧f.2 < f.1.keys.length∧f.2 < f.1.vals.length:=by
 obtain⟨h1,h2,h3,lo,hi,h4⟩:=(stkOk_snoc s f H).1 h
 have h0:H - s.length=0:=by
  have:=h4.leaf
  rw[hf] at this
  simpa using this.symm
 have hlen:f.1.len=f.1.keys.length:=by simp[Nd.len,hf]
 have hv:=(h4.fit.leaf hf).1
 have h5:=kvs_len hv
 refine⟨(stkOk_snoc s _ H).2 ⟨h1,h2,h3,lo,hi,h4⟩,?_,by omega,by omega⟩
 rw[stkE_snoc,stkE_snoc,h0]
 show f.1.kvs.drop f.2 ++ _=_ :: (f.1.kvs.drop (f.2 + 1) ++ _)
 rw[List.drop_eq_getElem_cons (by omega),List.cons_append]
 congr 1
 have k1:f.2 < f.1.keys.length:=by omega
 have k2:f.2 < f.1.vals.length:=by omega
 simp only[Nd.kvs,List.getElem_zip,List.getD_eq_getElem?_getD,List.getElem?_eq_getElem k1,List.getElem?_eq_getElem k2,Option.getD_some]
theorem next_inner {X:Sto} {s:List Fr} {f:Fr} {H:Nat} (h:StkOk X H (s ++ [f])) (hl:f.2 < f.1.len) (hf:f.1.leaf=false) :
  f.2 < f.1.kids.length∧X.gd (f.1.kids.getD f.2 0) ∧ ∃j,H - s.length=j + 1∧(∃l u,WF X j (X.nd (f.1.kids.getD f.2 0)) l u)∧(s ++ [(f.1,f.2 + 1)]).length + j + 1≤H + 1 ∧
   StkOk X H (s ++ [(f.1,f.2 + 1)] ++ dwnC X [] j (X.nd (f.1.kids.getD f.2 0)))∧stkE X H (s ++ [(f.1,f.2 + 1)] ++ dwnC X [] j (X.nd (f.1.kids.getD f.2 0)))=stkE X H (s ++ [f])∧Ready (s ++ [(f.1,f.2 + 1)] ++ dwnC X [] j (X.nd (f.1.kids.getD f.2 0))):=by
 obtain⟨h1,h2,h3,lo,hi,h4⟩:=(stkOk_snoc s f H).1 h
 obtain⟨j,hj⟩:∃j,H - s.length=j + 1:=by
  have:=h4.leaf
  rw[hf] at this
  have hn:¬(H - s.length=0):=by simpa using this.symm
  exact⟨H - s.length - 1,by omega⟩
 have h4':=h4
 rw[hj] at h4'
 have hlen:f.1.len=f.1.kids.length:=by simp[Nd.len,hf]
 have hk:f.2 < f.1.kids.length:=by omega
 have ec:f.1.kids.getD f.2 0=f.1.kids[f.2]:=by simp[List.getD,hk]
 obtain⟨l,u,kc⟩:=seg_all (K:=KP X j) h4'.2.2 f.1.kids[f.2] (List.getElem_mem hk)
 obtain⟨i1,i2,s0,g,i3,i4,i5⟩:=dwn_min j (X.nd f.1.kids[f.2]) kc.2.2.2 (gd_nd_ok kc.2.1) kc.2.2.1
 rw[ec]
 have hs':=(stkOk_snoc s (f.1,f.2 + 1) H).2 ⟨h1,h2,h3,lo,hi,h4⟩
 have hL:H - (s ++ [(f.1,f.2 + 1)]).length=j:=by rw[List.length_append,List.length_singleton];omega
 obtain⟨p1,p2⟩:=stkOk_app (X:=X) (s ++ [(f.1,f.2 + 1)]) (dwnC X [] j (X.nd f.1.kids[f.2])) H hs' (by rw[hL];exact i1) (fun _ _=>by rw[List.length_append,List.length_singleton];omega)
 refine⟨hk,kc.2.1,j,hj,⟨l,u,kc.2.2.2⟩,by rw[List.length_append,List.length_singleton];omega,p1,?_,⟨s ++ [(f.1,f.2 + 1)] ++ s0,g,by rw[i3];simp,i4,i5⟩⟩
 rw[p2,hL,i2,stkE_snoc,stkE_snoc,hj, ←List.append_assoc]
 congr 1
 show _ ++ (f.1.kids.drop (f.2 + 1)).flatMap _=(f.1.kids.drop f.2).flatMap _
 rw[List.drop_eq_getElem_cons hk,List.flatMap_cons]
end Go.Proofs.YtfgjehecjgebdaaGreat
