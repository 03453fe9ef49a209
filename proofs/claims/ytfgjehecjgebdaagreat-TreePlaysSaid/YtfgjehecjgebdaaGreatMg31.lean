/- Pages: the map of what was put since the last checkpoint. -/
import Derived.Test.YtfgjehecjgebdaaGreatMg28
import Derived.Maps.OwnSet
import Derived.Test.YtfgjehecjgebdaaGreatMg18
import Derived.Test.YtfgjehecjgebdaaGreatMg11
namespace Go.Proofs.YtfgjehecjgebdaaGreat
open Go.RowKit Go.Maps Go.ChangeMaps
def pgR (v:Value):Option (DataW Unit×List MemPlace):=match v with | .agg ⟨[.string s]⟩=>some (.lit (.string s.data.toList), [])|_=>none
theorem pgR_mk (t:List UInt8):pgR (.agg #[.string (ba t)])=some (.lit (.string t), []):=by simp[pgR,ba]
theorem pgR_inv {v:Value} {t:List UInt8} {ps:List MemPlace} (h:pgR v=some (.lit (.string t),ps)):v = .agg #[.string (ba t)]:=by
 unfold pgR at h
 split at h
 ·rename_i s
  simp only[Option.some.injEq,Prod.mk.injEq,DataW.lit.injEq,Lit.string.injEq] at h
  obtain⟨rfl,_⟩:=h
  rfl
 ·cases h
def prs (ks:List Nat) (T:Nat→List UInt8):List (Lit×DataW Unit):=ks.map fun i:Nat=>(Lit.int .i64 (i:Int),DataW.lit (.string (T i)))
def ins (i:Nat):List Nat→List Nat
 | [] => [i]
 | k :: r=>if i < k then i :: k :: r else k :: ins i r
def fresh (l:List Nat):List Nat:=(List.range l.length).filter fun i=>l.getD i 0 == 2
def upd (T:Nat→List UInt8) (i:Nat) (t:List UInt8):Nat→List UInt8:=fun j=>if j=i then t else T j
theorem same_key (a b:Nat):(Lit.int .i64 (a:Int)).sameKey (.int .i64 (b:Int))=decide (a=b):=by
 simp only[Lit.sameKey,true_and]
 exact decide_eq_decide.2 (by omega)
theorem prs_len (ks:List Nat) (T:Nat→List UInt8):(prs ks T).length=ks.length:=by simp[prs]
theorem fresh_len (l:List Nat):(fresh l).length≤l.length:=by
 have:=List.length_filter_le (fun i=>l.getD i 0 == 2) (List.range l.length)
 simpa[fresh] using this
theorem mem_fresh {l:List Nat} {i:Nat} : i∈fresh l↔i < l.length∧l.getD i 0=2:=by simp[fresh]
theorem fresh_up (l:List Nat):(fresh l).Pairwise (· < ·):=List.Pairwise.filter _ List.pairwise_lt_range
theorem up_ext:∀ {a b:List Nat},a.Pairwise (· < ·)→b.Pairwise (· < ·)→(∀x,x∈a↔x∈b)→a=b
 | [], [],_,_,_=>rfl
 | [],y :: b,_,_,h=>by have:=(h y).2 (by simp);simp at this
 | x :: a, [],_,_,h=>by have:=(h x).1 (by simp);simp at this
 | x :: a,y :: b,ha,hb,h=>by
  rw[List.pairwise_cons] at ha hb
  have e:x=y:=by
   have h1:=(h x).1 (by simp)
   have h2:=(h y).2 (by simp)
   simp only[List.mem_cons] at h1 h2
   rcases h1 with h1|h1
   ·exact h1
   ·rcases h2 with h2|h2
    ·exact h2.symm
    ·have:=ha.1 y h2
     have:=hb.1 x h1
     omega
  subst e
  have:a=b:=up_ext ha.2 hb.2 (fun z=>by
   have hz:=h z
   simp only[List.mem_cons] at hz
   constructor
   ·intro h1
    rcases hz.1 (.inr h1) with e|e
    ·subst e;have:=ha.1 z h1;omega
    ·exact e
   ·intro h1
    rcases hz.2 (.inr h1) with e|e
    ·subst e;have:=hb.1 z h1;omega
    ·exact e)
  rw[this]
theorem mem_ins (i:Nat) (ks:List Nat) (x:Nat):x∈ins i ks↔x=i∨x∈ks:=by
 induction ks with
 | nil=>simp[ins]
 | cons k r ih =>
  unfold ins
  split
  ·simp
  ·simp only[List.mem_cons,ih]
   constructor
   ·rintro(h|h|h)
    ·exact .inr (.inl h)
    ·exact .inl h
    ·exact .inr (.inr h)
   ·rintro(h|h|h)
    ·exact .inr (.inl h)
    ·exact .inl h
    ·exact .inr (.inr h)
theorem ins_up (i:Nat) (ks:List Nat) (h:ks.Pairwise (· < ·)) (hi:i ∉ ks):(ins i ks).Pairwise (· < ·):=by
 induction ks with
 | nil=>simp[ins]
 | cons k r ih =>
  rw[List.pairwise_cons] at h
  simp only[List.mem_cons,not_or] at hi
  unfold ins
  split
  ·rename_i hlt
   rw[List.pairwise_cons]
   refine⟨fun x hx=>?_,List.pairwise_cons.2 h⟩
   simp only[List.mem_cons] at hx
   rcases hx with rfl|hx
   ·exact hlt
   ·have:=h.1 x hx;omega
  ·rename_i hlt
   rw[List.pairwise_cons]
   refine⟨fun x hx=>?_,ih h.2 hi.2⟩
   rcases (mem_ins i r x).1 hx with rfl|hx
   ·omega
   ·exact h.1 x hx
theorem insert_prs (i:Nat) (ks:List Nat) (T:Nat→List UInt8):DataW.insert (.int .i64 i,.lit (.string (T i))) (prs ks T)=prs (ins i ks) T:=by
 induction ks with
 | nil=>rfl
 | cons k r ih =>
  unfold ins
  by_cases h:i < k
  ·rw[if_pos h]
   simp[prs,DataW.insert,Lit.before,h]
  ·rw[if_neg h]
   simp only[prs,List.map_cons] at ih⊢
   rw[DataW.insert,if_neg (by simp[Lit.before];omega),ih]
theorem filter_prs (i:Nat) (ks:List Nat) (T:Nat→List UInt8):(prs ks T).filter (fun p => !p.1.sameKey (.int .i64 i))=prs (ks.filter (· != i)) T:=by
 induction ks with
 | nil=>rfl
 | cons k r ih =>
  simp only[prs,List.map_cons,List.filter_cons] at ih⊢
  by_cases h:k=i
  ·subst h;simp[same_key];simpa[same_key] using ih
  ·simp[same_key,h];simpa[same_key] using ih
theorem prs_congr (ks:List Nat) {T T':Nat→List UInt8} (h:∀i∈ks,T i=T' i):prs ks T=prs ks T':=List.map_congr_left fun(i:Nat) hi=>by rw[h i hi]
theorem fresh_put {l:List Nat} {i:Nat} (hi:i < l.length):ins i ((fresh l).filter (· != i))=fresh (l.set i 2):=by
 apply up_ext
 ·exact ins_up i _ (List.Pairwise.filter _ (fresh_up l)) (by simp)
 ·exact fresh_up _
 ·intro x
  rw[mem_ins,mem_fresh,List.length_set]
  simp only[List.mem_filter,mem_fresh,bne_iff_ne]
  by_cases h:x=i
  ·subst h;simp[List.getD,hi]
  ·have h':¬i=x:=fun e=>h e.symm
   simp[List.getD,h,h',List.getElem?_set_ne]
theorem put_prs {l:List Nat} {i:Nat} (hi:i < l.length) (T:Nat→List UInt8) (t:List UInt8) :
  (DataW.map (prs (fresh l) T)).put (.int .i64 i) (.lit (.string t)) = .map (prs (fresh (l.set i 2)) (upd T i t)):=by
 show DataW.map (DataW.insert _ _)=_
 rw[filter_prs, ←fresh_put hi, ←insert_prs]
 congr 2
 ·simp[upd]
 ·apply prs_congr
  intro j hj
  simp at hj
  simp[upd,hj.2]
theorem fresh_del {l:List Nat} {i:Nat} (x:Nat) (hx:x ≠ 2):(fresh l).filter (· != i)=fresh (l.set i x):=by
 apply up_ext
 ·exact List.Pairwise.filter _ (fresh_up l)
 ·exact fresh_up _
 ·intro y
  rw[mem_fresh,List.length_set]
  simp only[List.mem_filter,mem_fresh,bne_iff_ne]
  by_cases h:y=i
  ·subst h
   by_cases hl:y < l.length
   ·simp[List.getD,hl,hx]
   ·simp[hl]
  ·have h':¬i=y:=fun e=>h e.symm
   simp[List.getD,h,h',List.getElem?_set_ne]
theorem del_prs {l:List Nat} {i:Nat} (x:Nat) (hx:x ≠ 2) (T:Nat→List UInt8):(DataW.map (prs (fresh l) T)).del (.int .i64 i) = .map (prs (fresh (l.set i x)) T):=by
 show DataW.map _=_
 rw[filter_prs,fresh_del x hx]
theorem at_prs {l:List Nat} {i:Nat} (hi:i < l.length) (h2:l.getD i 0=2) (T:Nat→List UInt8) (z:DataW Unit):(DataW.map (prs (fresh l) T)).atKey (.int .i64 i) z = .lit (.string (T i)):=by
 have hm:i∈fresh l:=mem_fresh.2 ⟨hi,h2⟩
 have:∀ks:List Nat,i∈ks→(prs ks T).find? (fun p=>p.1.sameKey (.int .i64 i))=some (.int .i64 i,.lit (.string (T i))):=by
  intro ks
  induction ks with
  | nil=>simp
  | cons k r ih =>
   intro hk
   simp only[prs,List.map_cons,List.find?_cons] at ih⊢
   by_cases h:k=i
   ·subst h;simp[same_key]
   ·have hr:i∈r:=by simpa[Ne.symm h] using hk
    rw[same_key,decide_eq_false h]
    exact ih hr
 simp only[DataW.atKey,this _ hm]
def IsPut (w:World) (m:Nat) (l:List Nat) (T:Nat→List UInt8):Prop:=w.ownsMap Tryz.prog 3 pgR m 128 (.map (prs (fresh l) T))
theorem own_tight {H:Type} {P:Program} {k:TypeId} {R:Value→Option (DataW H×List MemPlace)} {w:World} {b n n':Nat} {L:List (Lit×DataW H)} (h:w.ownsMap P k R b n (.map L)) (hl:L.length≤n'):w.ownsMap P k R b n' (.map L):=by
 obtain⟨es,clock,hb,F,hs,hD⟩:=h
 refine⟨es,clock,hb,F,?_,hD⟩
 injection hD with hD
 have:=congrArg List.length hD
 rw[length_sorted] at this
 simp at this
 omega
theorem IsPut.heap {w m l T} (h:IsPut w m l T):∃es clock,w.heap[m]? = some (.map es clock):=by
 obtain⟨es,clock,hb,_⟩:=h
 exact⟨es,clock,hb⟩
theorem IsPut.kept {w w' m l T} {S:Nat→Prop} (h:IsPut w m l T) (k:Kept S w w') (hs:¬S m):IsPut w' m l T:=by
 obtain⟨es,clock,hb,r⟩:=h
 exact⟨es,clock,k.heap hb hs,r⟩
theorem IsPut.made (w:World) (l:List Nat) (T:Nat→List UInt8) (h:∀x∈l,x ≠ 2):IsPut (w.alloc (.map #[] 0)) w.heap.size l T:=by
 have e:fresh l = []:=by
  apply List.eq_nil_iff_forall_not_mem.2
  intro i hi
  obtain⟨h1,h2⟩:=mem_fresh.1 hi
  have:=h l[i] (by simp)
  simp[List.getD,h1] at h2
  exact this h2
 have:=World.ownsMap_made w Tryz.prog 3 pgR
 unfold IsPut
 rw[e]
 exact this.mono (by omega)
theorem run_clear_map {P:Program} {w:World} {t k e:TypeId} (ht:P.underlying t=some (.map k e)) {m:Nat} {es:Array MapEntry} {clock:Nat} (hb:w.heap[m]? = some (.map es clock)) (ty:TypeId) :
  (Builtin.clear_ #[t] ty #[.map (some m)]).run P w = .ok (.tuple #[]) (setBlock w m (.map #[] clock)):=by
 simp[Builtin.clear_,run_underlying ht,Go.MapKept.run_getObj_map hb,Go.MapKept.run_setObj_map _ hb,Result.andThen,setBlock]
theorem setBlock_kept {w:World} {m:Nat} {es:Array MapEntry} {clock:Nat} (_hb:w.heap[m]? = some (.map es clock)) (o:Obj):Kept (· = m) w (setBlock w m o) :=
 ⟨rfl,rfl,rfl,by simp[setBlock],fun k _ hk=>by simp only[setBlock];rw[Array.getElem?_setIfInBounds_ne (fun e=>hk e.symm)]⟩
theorem setBlock_at {w:World} {m:Nat} {es:Array MapEntry} {clock:Nat} (hb:w.heap[m]? = some (.map es clock)) (o:Obj):(setBlock w m o).heap[m]? = some o:=by
 simp only[setBlock]
 rw[Array.getElem?_setIfInBounds_self]
 simp[lt_heap hb]
theorem IsPut.cleared {w:World} {m:Nat} (l':List Nat) (T':Nat→List UInt8) (hl:∀x∈l',x ≠ 2) {es clock} (hb:w.heap[m]? = some (.map es clock)):IsPut (setBlock w m (.map #[] clock)) m l' T':=by
 have e:fresh l' = []:=by
  apply List.eq_nil_iff_forall_not_mem.2
  intro i hi
  obtain⟨h1,h2⟩:=mem_fresh.1 hi
  have:=hl l'[i] (by simp)
  simp[List.getD,h1] at h2
  exact this h2
 unfold IsPut
 rw[e]
 exact⟨#[],clock,setBlock_at hb _,⟨by simp,Go.MapKept.stamped_empty _,by simp⟩,by simp,rfl⟩
theorem und_dirty:Tryz.prog.underlying 79=some (.map 3 122):=by kernel_rfl
theorem und_int:Tryz.prog.underlying 3=some (.int .i64):=by kernel_rfl
theorem key_int (i:Nat) (hi:i < 1000):keyOf Tryz.prog 3 (.int .i64 i)=some (.int .i64 i):=keyOf_int_mk und_int (by simp[Lit.wf,IntKind.min,IntKind.max,IntKind.bits,IntKind.signed];omega)
end Go.Proofs.YtfgjehecjgebdaaGreat
/- Pages: a store; Super, Put, Give, Undo. -/
namespace Go.Proofs.YtfgjehecjgebdaaGreat
open Go.RowKit Go.Maps Go.ChangeMaps
structure Sto where
 l:List Nat
 T:Nat→List UInt8
 sup:Sup
 D:Dev
def stoCells (b d m p g:Nat) (s:Sup):Array Value := #[.pointer (some ⟨b,0,none⟩),.pointer (some ⟨d,0,none⟩),.int .i64 p,.int .i64 g,.int .i64 s.gen,.int .i64 s.root,.int .i64 s.log,.int .i64 s.next,.map (some m)]
structure IsStore (w:World) (st b c m d:Nat) (vs vc:Value) (p g:Nat) (X:Sto):Prop where
 head:w.heap[st]? = some (.cells (stoCells b d m p g X.sup) 81 (0,0))
 sp:IsSp w b c X.l
 put:IsPut w m X.l X.T
 dev:IsDev w d vs vc X.D
 len:X.l.length=p
 lay:LayGood p g
theorem map_ne {w:World} {m:Nat} {es:Array MapEntry} {clock:Nat} {k:Nat} {cs:Array Value} {e:TypeId} {f:Nat×Nat} (hm:w.heap[m]? = some (.map es clock)) (hk:w.heap[k]? = some (.cells cs e f)):k ≠ m:=by
 rintro rfl
 rw[hm] at hk
 cases hk
theorem IsStore.turned {w w' st b c m d vs vc p g X} {l':List Nat} {T':Nat→List UInt8} (h:IsStore w st b c m d vs vc p g X) (k:Kept (fun i=>i=c∨i=m) w w') (hs:IsSp w' b c l') (hp:IsPut w' m l' T') (hl:l'.length=X.l.length) :
  IsStore w' st b c m d vs vc p g { X with l:=l',T:=T' } := by
 obtain⟨es,clock,hm⟩:=h.put.heap
 obtain⟨c0,hd⟩:=h.dev.head
 refine⟨k.heap h.head ?_,hs,hp,h.dev.kept k ?_ ?_ ?_,by simp only;rw[hl];exact h.len,h.lay⟩
 ·rintro(e|e)
  ·exact ne_type h.head h.sp.row (by decide) e
  ·exact map_ne hm h.head e
 ·rintro(e|e)
  ·exact ne_type hd h.sp.row (by decide) e
  ·exact map_ne hm hd e
 ·intro x hx
  obtain⟨cs,f,hg⟩:=own_type h.dev.secs hx
  rintro(e|e)
  ·exact ne_type hg h.sp.row (by decide) e
  ·exact map_ne hm hg e
 ·intro x hx
  obtain⟨cs,f,hg⟩:=own_type h.dev.cache hx
  rintro(e|e)
  ·exact ne_type hg h.sp.row (by decide) e
  ·exact map_ne hm hg e
theorem IsStore.keptF {w w' st b c m d vs vc p g X} (h:IsStore w st b c m d vs vc p g X) (k:Kept (fun _=>False) w w'):IsStore w' st b c m d vs vc p g X :=
 h.turned (k.mono fun _ _ f=>f.elim) ⟨k.heap h.sp.head id,k.heap h.sp.row id,h.sp.le,h.sp.len⟩ (h.put.kept k id) rfl
def PutPost (w:World) (st b c m d:Nat) (vs vc:Value) (p g:Nat) (X:Sto) (t:List UInt8) (e:Ending) (w':World):Prop :=
 Kept (fun i=>i=c∨i=m) w w'∧(if 248 < t.length then e = .returned (.tuple #[.int .i64 0,.int .i64 3])∧IsStore w' st b c m d vs vc p g X else
  match tkAt X.l with
  | none=>e = .returned (.tuple #[.int .i64 0,.int .i64 7])∧IsStore w' st b c m d vs vc p g X
  | some i=>e = .returned (.tuple #[.int .i64 i,.int .i64 0])∧IsStore w' st b c m d vs vc p g { X with l:=X.l.set i 2,T:=upd X.T i t })
set_option maxRecDepth 100000 in
theorem Put_calls {w st b c m d vs vc p g X} (h:IsStore w st b c m d vs vc p g X) (t:List UInt8) :
  Calls Tryz.prog 17 #[.pointer (some ⟨st,0,none⟩),.string (ba t)] w (PutPost w st b c m d vs vc p g X t):=by
 have H:=Lib.hid h
 have hc0:w.cell? ⟨st,0,none⟩=some (.pointer (some ⟨b,0,none⟩)):=(cell_heap h.head 0).trans rfl
 have HSP:=Lib.hid (Take_calls h.sp)
 obtain⟨s,hs⟩:∃s,s=ba t:=⟨_,rfl⟩
 have hsz:s.size=t.length:=by rw[hs,ba_size]
 rw[←hs]
 have HS:=Lib.hid hs
 have h128:=h.lay.p2
 have hlp:=h.len
 clear h hs
 by_cases hbig:248 < t.length
 ·have hb1:248 < s.size:=by omega
  have HB:=Lib.hid hbig
  clear hsz hbig
  go_enter Tryz.func17,Tryz.ntmps17
  go_wp2
  go_ret2
  exact⟨Kept.refl _ _,by rw[if_pos HB.out];exact⟨rfl,H.out⟩⟩
 ·have hb1:s.size≤248:=by omega
  have HB:=Lib.hid hbig
  clear hsz hbig
  cases ht:tkAt X.l with
  | none =>
   have HT:=Lib.hid ht
   have HR:Hid (tkRes X.l=(0,7,X.l)):=by simp[Hid,tkRes,ht]
   rw[HR.out] at HSP
   simp only at HSP
   clear ht
   go_enter Tryz.func17,Tryz.ntmps17
   go_wp2_with fail
   refine HSP.out.mono ?_
   rintro e w1 ⟨rfl,h1,k1⟩
   have H1:=Lib.hid h1
   have K1:=Lib.hid k1
   clear h1 k1
   go_wp2_with fail
   go_ret2
   have hcm:c ≠ m:=by obtain⟨es,clock,hm⟩:=H.out.put.heap;exact map_ne hm H.out.sp.row
   refine⟨K1.out.mono fun _ _ e=>.inl e,?_⟩
   rw[if_neg HB.out,HT.out]
   exact⟨rfl,H.out.turned (K1.out.mono fun _ _ e=>.inl e) H1.out (H.out.put.kept K1.out (fun e=>hcm e.symm)) rfl⟩
  | some i =>
   have hi:i < X.l.length:=(List.findIdx?_eq_some_iff_getElem.1 ht).1
   have HT:=Lib.hid ht
   have HR:Hid (tkRes X.l=((i:Int),0,X.l.set i 2)):=by simp[Hid,tkRes,ht]
   rw[HR.out] at HSP
   simp only at HSP
   have hcm:Hid (c ≠ m):=by obtain⟨es,clock,hm⟩:=H.out.put.heap;exact map_ne hm H.out.sp.row
   have HKEY:=Lib.hid (key_int i (by omega))
   have HIL:=Lib.hid hi
   clear ht hi
   go_enter Tryz.func17,Tryz.ntmps17
   go_wp2_with fail
   refine HSP.out.mono ?_
   rintro e w1 ⟨rfl,h1,k1⟩
   have H1:=Lib.hid h1
   have K1:=Lib.hid k1
   have P1:=Lib.hid (H.out.put.kept k1 (fun e=>hcm.out e.symm))
   have hhd:=k1.heap H.out.head (fun e=>ne_type H.out.head H.out.sp.row (by decide) e)
   have hc8:w1.cell? ⟨st,8,none⟩=some (.map (some m)):=(cell_heap hhd 8).trans rfl
   clear h1 k1 hhd
   go_wp2_with (at_mapUpdate;refine wpList_mapUpdate_own _ rfl _ _ _ 79 rfl 3 122 (int_keyed und_int) und_dirty pgR m 128 _ rfl P1.out (by unfold maxLen;omega) _ _ (.int .i64 i) rfl rfl HKEY.out (.lit (.string t)) [] (by rw[HS.out];exact pgR_mk t) ?_;intro w2 hown2 hg2;have HO:=Lib.hid hown2;have HG:=Lib.hid hg2;clear hown2 hg2)
   go_ret2
   have hk2:Kept (fun i=>i=c∨i=m) w w2:=(K1.out.mono fun _ _ e=>.inl e).grown HG.out (by intro k hk;injection hk with hk;exact .inl (.inr hk.symm))
   refine⟨hk2,?_⟩
   rw[if_neg HB.out,HT.out]
   have ho:=HO.out
   rw[put_prs HIL.out] at ho
   have hp2:IsPut w2 m (X.l.set i 2) (upd X.T i t):=own_tight ho (by rw[prs_len];have:=fresh_len (X.l.set i 2);have:=H.out.sp.len;simp at *;omega)
   have hsp2:IsSp w2 b c (X.l.set i 2):=by
    have hb:∀k,k ≠ m→k < w1.heap.size→w2.heap[k]? = w1.heap[k]? := fun k hk hl=>HG.out.block k hl (by simpa using hk)
    have h1:=H1.out
    obtain⟨es,clock,hm⟩:=P1.out.heap
    exact⟨by rw[hb b (map_ne hm h1.head) (lt_heap h1.head)];exact h1.head,by rw[hb c hcm.out (lt_heap h1.row)];exact h1.row,h1.le,h1.len⟩
   exact⟨rfl,H.out.turned hk2 hsp2 hp2 (by simp)⟩
end Go.Proofs.YtfgjehecjgebdaaGreat
/- Pages: Give, Undo, Super. -/
namespace Go.Proofs.YtfgjehecjgebdaaGreat
open Go.RowKit Go.Maps Go.ChangeMaps
theorem turned_kept {w w':World} {m:Nat} (h:w.mapTurned w' m):Kept (· = m) w w':=by
 obtain⟨es,clock,es',clock',hb,rfl⟩:=h
 exact setBlock_kept hb _
def GivePost (w:World) (st b c m d:Nat) (vs vc:Value) (p g:Nat) (X:Sto) (i:Int) (e:Ending) (w':World):Prop :=
 e = .returned (.int .i64 (gvRes X.l i).1)∧Kept (fun i=>i=c∨i=m) w w'∧IsStore w' st b c m d vs vc p g { X with l:=(gvRes X.l i).2 }
theorem chg_len (x y:Nat) (l:List Nat):(chg x y l).length=l.length:=by simp[chg]
theorem ud_no2 (l:List Nat):∀x∈ud l,x ≠ 2:=by
 intro x hx
 simp only[ud,chg,List.mem_map] at hx
 obtain⟨a,⟨b,_,rfl⟩,rfl⟩:=hx
 split<;>(try split)<;>omega
theorem kp_no2 (l:List Nat):∀x∈kp l,x ≠ 2:=by
 intro x hx
 simp only[kp,chg,List.mem_map] at hx
 obtain⟨a,⟨b,_,rfl⟩,rfl⟩:=hx
 split<;>(try split)<;>omega
set_option maxRecDepth 100000 in
theorem StoGive_calls {w st b c m d vs vc p g X} (h:IsStore w st b c m d vs vc p g X) (i:Int) :
  Calls Tryz.prog 19 #[.pointer (some ⟨st,0,none⟩),.int .i64 i] w (GivePost w st b c m d vs vc p g X i):=by
 have H:=Lib.hid h
 have hc0:w.cell? ⟨st,0,none⟩=some (.pointer (some ⟨b,0,none⟩)):=(cell_heap h.head 0).trans rfl
 have HSP:=Lib.hid (Give_calls h.sp i)
 have hcm:Hid (c ≠ m):=by obtain⟨es,clock,hm⟩:=H.out.put.heap;exact map_ne hm H.out.sp.row
 have h128:=h.lay.p2
 have hlp:=h.len
 clear h
 by_cases hok:stAt X.l i=2∨stAt X.l i=1
 ·obtain⟨k,rfl,hk⟩:∃k:Nat,i=k∧k < X.l.length:=by
   rcases hok with e|e
   ·obtain⟨k,rfl,hk,_⟩:=stAt_nat (x:=2) e;exact⟨k,rfl,hk⟩
   ·obtain⟨k,rfl,hk,_⟩:=stAt_nat (x:=1) e;exact⟨k,rfl,hk⟩
  obtain⟨x,hx2,hr⟩:∃x:Nat,x ≠ 2∧gvRes X.l k=(0,X.l.set k x):=by
   by_cases h2:stAt X.l k=2
   ·exact⟨0,by omega,by simp[gvRes,h2]⟩
   ·have h1:stAt X.l k=1:=by rcases hok with e|e;exact absurd e h2;exact e
    exact⟨3,by omega,by simp[gvRes,h1]⟩
  have HR:=Lib.hid hr
  rw[hr] at HSP
  simp only at HSP
  have HKEY:=Lib.hid (key_int k (by omega))
  have HX2:=Lib.hid hx2
  clear hok hr hx2
  go_enter Tryz.func19,Tryz.ntmps19
  go_wp2_with fail
  refine HSP.out.mono ?_
  rintro e w1 ⟨rfl,h1,k1⟩
  have H1:=Lib.hid h1
  have K1:=Lib.hid k1
  have P1:=Lib.hid (H.out.put.kept k1 (fun e=>hcm.out e.symm))
  have hhd:=k1.heap H.out.head (fun e=>ne_type H.out.head H.out.sp.row (by decide) e)
  have hc8:w1.cell? ⟨st,8,none⟩=some (.map (some m)):=(cell_heap hhd 8).trans rfl
  clear h1 k1 hhd
  go_wp2_with (at_delete;refine wpList_delete_own _ rfl _ _ 79 3 rfl 122 (int_keyed und_int) und_dirty pgR m 128 _ rfl P1.out _ _ rfl HKEY.out ?_;intro w2 hown2 hg2;have HO:=Lib.hid hown2;have HG:=Lib.hid (turned_kept hg2);clear hown2 hg2)
  go_ret
  have hk2:Kept (fun i=>i=c∨i=m) w w2:=(K1.out.mono fun _ _ e=>.inl e).trans (HG.out.mono fun _ _ e=>.inr e)
  refine⟨by rw[HR.out];rfl,hk2,?_⟩
  rw[HR.out]
  have ho:=HO.out
  rw[del_prs x HX2.out] at ho
  have hsp2:IsSp w2 b c (X.l.set k x):=by
   have h1:=H1.out
   obtain⟨es,clock,hm⟩:=P1.out.heap
   exact⟨HG.out.heap h1.head (map_ne hm h1.head),HG.out.heap h1.row hcm.out,h1.le,h1.len⟩
  exact H.out.turned hk2 hsp2 ho (by simp)
 ·have hr:gvRes X.l i=(8,X.l):=by
   simp only[not_or] at hok
   simp[gvRes,hok.1,hok.2]
  have HR:=Lib.hid hr
  rw[hr] at HSP
  simp only at HSP
  clear hok hr
  go_enter Tryz.func19,Tryz.ntmps19
  go_wp2_with fail
  refine HSP.out.mono ?_
  rintro e w1 ⟨rfl,h1,k1⟩
  have H1:=Lib.hid h1
  have K1:=Lib.hid k1
  clear h1 k1
  go_wp2_with fail
  go_ret
  refine⟨by rw[HR.out];rfl,K1.out.mono fun _ _ e=>.inl e,?_⟩
  rw[HR.out]
  exact H.out.turned (K1.out.mono fun _ _ e=>.inl e) H1.out (H.out.put.kept K1.out (fun e=>hcm.out e.symm)) rfl
theorem StoSuper_calls {w st b c m d vs vc p g X} (h:IsStore w st b c m d vs vc p g X) :
  Calls Tryz.prog 57 #[.pointer (some ⟨st,0,none⟩)] w fun e w'=>e = .returned (supV X.sup)∧Kept (fun _=>False) w w':=by
 have hhd:=h.head
 have c4:w.cell? ⟨st,4,none⟩=some (.int .i64 X.sup.gen):=(cell_heap hhd 4).trans rfl
 have c5:w.cell? ⟨st,5,none⟩=some (.int .i64 X.sup.root):=(cell_heap hhd 5).trans rfl
 have c6:w.cell? ⟨st,6,none⟩=some (.int .i64 X.sup.log):=(cell_heap hhd 6).trans rfl
 have c7:w.cell? ⟨st,7,none⟩=some (.int .i64 X.sup.next):=(cell_heap hhd 7).trans rfl
 have hl:=lt_heap hhd
 clear h hhd
 go_enter Tryz.func57,Tryz.ntmps57
 go_wp2
 refine bodyPost_ret (v:=supV X.sup) ?_ rfl ?_
 ·have hh:=heap_new w (.cells #[.int .i64 X.sup.gen,.int .i64 X.sup.root,.int .i64 X.sup.log,.int .i64 X.sup.next] 78)
  have g0:=(cell_heap hh 0).trans rfl
  have g1:=(cell_heap hh 1).trans rfl
  have g2:=(cell_heap hh 2).trans rfl
  have g3:=(cell_heap hh 3).trans rfl
  simp[results,Tryz.f57,go_sem,g0,g1,g2,g3,supV]
 ·exact⟨rfl,(Kept.refl _ _).alloc _⟩
end Go.Proofs.YtfgjehecjgebdaaGreat
/- Pages: Read. -/
namespace Go.Proofs.YtfgjehecjgebdaaGreat
open Go.RowKit Go.Maps Go.ChangeMaps
def rawTo (D:Dev) (i k:Nat):List UInt8:=(List.range k).flatMap fun j=>D.text (2 + 4 * i + j)
def pgOf (raw:List UInt8):List UInt8×Int:=match iS 248 (raw.drop 4,0) with|(t,s)=>if s.2 ≠ 0∨raw ≠ fullB t then ([],17) else (t,0)
def Sto.read (X:Sto) (i:Int):List UInt8×Int :=
 if stAt X.l i=2 then (X.T i.toNat,0) else if stAt X.l i=1∨stAt X.l i=3 then pgOf (rawTo X.D i.toNat 4) else ([],8)
theorem rawTo_succ (D:Dev) (i k:Nat):rawTo D i (k + 1)=rawTo D i k ++ D.text (2 + 4 * i + k):=by simp[rawTo,List.range_succ]
theorem text_len {D:Dev} (h:D.Good) {i:Nat} (hi:i < D.secs.length):(D.text i).length=64:=by
 unfold Dev.text
 cases hf:D.cache.reverse.find? (fun p=>p.1 == i) with
 | some p=>exact(h.cache p (List.mem_reverse.1 (List.mem_of_find?_eq_some hf))).2
 | none=>simp only[List.getD,List.getElem?_eq_getElem hi,Option.getD_some];exact h.secs _ (by simp)
theorem rawTo_len {D:Dev} (h:D.Good) {i:Nat} (k:Nat) (hi:2 + 4 * i + k≤D.secs.length):(rawTo D i k).length=64 * k:=by
 induction k with
 | zero=>simp[rawTo]
 | succ k ih=>rw[rawTo_succ,List.length_append,ih (by omega),text_len h (by omega)];omega
theorem iS_len248 (s:InSt):(iS 248 s).1.length≤248:=by
 have h:=(iN_le 248 s).1
 have h2:=(iTake_len (iN 248 s).1 (iN 248 s).2).1
 show(iTake (iN 248 s).1 (iN 248 s).2).1.length≤248
 omega
def StoReadPost (r:List UInt8×Int) (w:World) (e:Ending) (w':World):Prop:=e = .returned (.tuple #[.string (ba r.1),.int .i64 r.2])∧Kept (fun _=>False) w w'
theorem stAt_cases (l:List Nat) (h:∀x∈l,x < 4) (i:Int):stAt l i = -1∨stAt l i=0∨stAt l i=1∨stAt l i=2∨stAt l i=3:=by
 unfold stAt
 split
 ·exact .inl rfl
 ·cases hx:l[i.toNat]? with
  | none=>exact .inl rfl
  | some x=>have:=h x (List.mem_of_getElem? hx);simp only;omega
theorem run_page_text (s:ByteArray) (w:World):(Instr.field 122 (.agg #[.string s]) 0).run Tryz.prog w = .ok (.string s) w:=by kernel_rfl
set_option maxRecDepth 100000 in
theorem StoRead_none {w st b c m d vs vc p g X} (h:IsStore w st b c m d vs vc p g X) (i:Int) (h0:stAt X.l i = -1∨stAt X.l i=0) :
  Calls Tryz.prog 62 #[.pointer (some ⟨st,0,none⟩),.int .i64 i] w (StoReadPost ([],8) w):=by
 have hc0:w.cell? ⟨st,0,none⟩=some (.pointer (some ⟨b,0,none⟩)):=(cell_heap h.head 0).trans rfl
 have HSP:=Lib.hid (State_calls h.sp i)
 clear h
 rcases h0 with e|e
 ·rw[e] at HSP
  clear e
  go_enter Tryz.func62,Tryz.ntmps62
  go_wp2_with fail
  refine HSP.out.mono ?_
  rintro e w1 ⟨rfl,rfl⟩
  go_wp2_with fail
  go_ret2
  exact⟨rfl,Kept.refl _ _⟩
 ·rw[e] at HSP
  clear e
  go_enter Tryz.func62,Tryz.ntmps62
  go_wp2_with fail
  refine HSP.out.mono ?_
  rintro e w1 ⟨rfl,rfl⟩
  go_wp2_with fail
  go_ret2
  exact⟨rfl,Kept.refl _ _⟩
set_option maxRecDepth 100000 in
theorem StoRead_put {w st b c m d vs vc p g X} (h:IsStore w st b c m d vs vc p g X) (k:Nat) (hk:k < X.l.length) (h2:X.l[k]=2) :
  Calls Tryz.prog 62 #[.pointer (some ⟨st,0,none⟩),.int .i64 k] w (StoReadPost (X.T k,0) w):=by
 have hc0:w.cell? ⟨st,0,none⟩=some (.pointer (some ⟨b,0,none⟩)):=(cell_heap h.head 0).trans rfl
 have hc8:w.cell? ⟨st,8,none⟩=some (.map (some m)):=(cell_heap h.head 8).trans rfl
 have h128:=h.lay.p2
 have hlp:=h.len
 have HSP:=Lib.hid (State_calls h.sp k)
 have e:stAt X.l k=2:=by simp[stAt,hk,h2]
 rw[e] at HSP
 have hlook:=World.ownsMap.lookup h.put (int_keyed und_int) und_dirty (z:=.agg #[.string ⟨#[]⟩]) (Tryz.zeroValue122 w) (zd:=.lit (.string [])) (zp := []) (by simp[pgR]) (key_int k (by omega))
 obtain⟨v,ps,hrun,hv⟩:=hlook
 rw[at_prs hk (by simp[List.getD,hk,h2])] at hv
 have hv:=pgR_inv hv
 subst hv
 have hfd:=run_page_text (ba (X.T k))
 clear e h h2 hk hlp h128
 go_enter Tryz.func62,Tryz.ntmps62
 go_wp2_with fail
 refine HSP.out.mono ?_
 rintro e w1 ⟨rfl,rfl⟩
 go_wp2_with fail
 go_ret2
 exact⟨rfl,Kept.refl _ _⟩
set_option maxRecDepth 100000 in
theorem StoRead_dev1 {w st b c m d vs vc p g X} (h:IsStore w st b c m d vs vc p g X) (i:Nat) (hi:i < X.l.length) (hs:stAt X.l i=1) (hd:X.D.down=false) (hn:2 + 4 * p≤X.D.secs.length) (hcl:X.D.cache.length≤1000000) :
  Calls Tryz.prog 62 #[.pointer (some ⟨st,0,none⟩),.int .i64 i] w (StoReadPost (pgOf (rawTo X.D i 4)) w):=by
 have hc0:w.cell? ⟨st,0,none⟩=some (.pointer (some ⟨b,0,none⟩)):=(cell_heap h.head 0).trans rfl
 have h128:=h.lay.p2
 have hlp:=h.len
 have HSP:=Lib.hid (State_calls h.sp i)
 rw[hs] at HSP
 have HH:=Lib.hid h.head
 have HD:Hid (∀(W:World) (k:Nat),k < 4→Kept (fun _=>False) w W→Calls Tryz.prog 103 #[.pointer (some ⟨d,0,none⟩),.int .i64 (2 + (i:Int) * 4 + (k:Int))] W (DReadPost (X.D.text (2 + 4 * i + k),0) W)):=fun W k hk hW=>by
  have e:=DevRead_calls (h.dev.keptF hW) (2 + (i:Int) * 4 + (k:Int)) hcl
  have e2:X.D.read (2 + (i:Int) * 4 + (k:Int))=(X.D.text (2 + 4 * i + k),0):=by
   simp only[Dev.read,hd]
   rw[if_neg (by omega)]
   have:(2 + (i:Int) * 4 + (k:Int)).toNat=2 + 4 * i + k:=by omega
   simp[this]
  rw[e2] at e
  exact e
 have HTL:Hid (∀k,k < 4→(X.D.text (2 + 4 * i + k)).length=64):=fun k hk=>text_len h.dev.good (by omega)
 have HRL:Hid (∀k,k≤4→(rawTo X.D i k).length=64 * k):=fun k hk=>rawTo_len h.dev.good k (by omega)
 have hi128:i < 128:=by omega
 clear h hs hd hn hcl hi hlp h128
 go_enter Tryz.func62,Tryz.ntmps62
 go_wp2_with fail
 refine HSP.out.mono ?_
 rintro e w1 ⟨rfl,rfl⟩
 go_wp2_with fail
 go_loopw [6,30] (fun s n wr=>∃k:Nat,k≤4∧n = .int .i64 k∧s = .string (ba (rawTo X.D i k))∧Kept (fun _=>False) w wr) (fun _ n _=>4 - (intOf n).toNat)
 case atStart=>exact⟨0,by omega,rfl,by simp[rawTo,ba],Kept.refl _ _⟩
 case round =>
  obtain⟨k,hk,rfl,rfl,hkp⟩:=hrel
  have hhd:=hkp.heap HH.out id
  have hc1:wr.cell? ⟨st,1,none⟩=some (.pointer (some ⟨d,0,none⟩)):=(cell_heap hhd 1).trans rfl
  have HK:=Lib.hid hkp
  clear hkp hhd
  obtain⟨r,hr⟩:∃r,r=ba (rawTo X.D i k):=⟨_,rfl⟩
  have hrs:r.size=64 * k:=by rw[hr,ba_size];exact HRL.out k hk
  rw[←hr]
  have HR:=Lib.hid hr
  clear hr
  by_cases hlt:k < 4
  ·have C:=Lib.hid (HD.out wr k hlt HK.out)
   obtain⟨x,hx⟩:∃x,x=X.D.text (2 + 4 * i + k):=⟨_,rfl⟩
   have hxl:(ba x).size=64:=by rw[ba_size,hx];exact HTL.out k hlt
   have HN:Hid (r ++ ba x=ba (rawTo X.D i (k + 1))):=by simp only[Hid];rw[rawTo_succ,ba_append, ←hx,HR.out]
   rw[←hx] at C
   have hsum:r.size + (ba x).size≤1000:=by omega
   have HRS0:=Lib.hid hrs
   clear hx hxl hrs
   go_wp2_with fail
   refine C.out.mono ?_
   rintro e w2 ⟨rfl,k2⟩
   have HK2:=Lib.hid (HK.out.trans (Kept.of_below k2))
   clear k2
   go_wp2_with fail
   go_roundw
   case rel=>exact⟨k + 1,by omega,by go_num,by rw[HN.out],HK2.out⟩
   case measure=>simp[intOf];omega
  ·obtain rfl:k=4:=by omega
   have hrs4:r.size=256:=by omega
   clear hrs
   obtain⟨raw,hraw⟩:∃raw,raw=rawTo X.D i 4:=⟨_,rfl⟩
   rw[←hraw] at HR
   have HRAW:=Lib.hid hraw
   have HLR:Hid (raw.length=256):=by rw[hraw];exact HRL.out 4 (by omega)
   have HE:Hid (r.extract 4 256=ba (raw.drop 4)):=by
    have:=ba_extractn raw 4
    rw[ba_size,HLR.out] at this
    simp only[Hid];rw[HR.out];exact this
   obtain⟨q,hq⟩:∃q,q=iS 248 (raw.drop 4,0):=⟨_,rfl⟩
   have C3:Hid (∀(W:World) (j:Nat),IsIn W j (raw.drop 4,0)→Calls Tryz.prog 105 #[.pointer (some ⟨j,0,none⟩),.int .i64 248] W (InPost j (.string (ba q.1)) q.2 W)):=fun W j h=>by
    rw[hq];exact inS_calls h (by simp[HLR.out]) 248 (by omega)
   have HP:Hid (pgOf raw=if q.2.2 ≠ 0∨raw ≠ fullB q.1 then ([],17) else (q.1,0)):=by simp only[Hid,pgOf, ←hq]
   have hql:=iS_len248 (raw.drop 4,0)
   rw[←hq] at hql
   obtain⟨t,rest,ee⟩:=q
   simp only at C3 HP hql
   have CF:=Lib.hid (fun W=>full_calls t hql W)
   clear hq hraw hql hlt hk
   go_wp2_with fail
   rw[HE.out]
   refine(Read_calls (raw.drop 4) wr).mono ?_
   rintro e w4 ⟨j,hj,rfl,hin,k4⟩
   have HI4:=Lib.hid hin
   have K4:Hid (Kept (fun i=>i=j) wr w4):=k4.mono fun _ _ f=>f.elim
   clear hin k4
   go_wp2_with fail
   refine(C3.out w4 j HI4.out).mono ?_
   rintro e w5 ⟨rfl,hin,k5⟩
   have HI5:=Lib.hid hin
   have K5:Hid (Kept (fun _=>False) w w5):=by
    have hsz:=HK.out.size
    exact HK.out.then (K4.out.trans k5) (by intro x hx e;omega)
   have CE:=Lib.hid (Err_calls hin)
   clear hin k5 hj
   go_wp2_with fail
   refine CE.out.mono ?_
   rintro e w6 ⟨rfl,rfl⟩
   simp only
   by_cases he:ee=0
   ·subst he
    have hrl:r.toList=raw:=by rw[HR.out,ba_empty]
    have HQ:Hid ((ba (fullB t)).toList=fullB t):=ba_empty _
    by_cases hq:raw=fullB t
    ·have hcmp:(r.toList == (ba (fullB t)).toList)=true:=by rw[HQ.out,hrl];simpa using hq
     have HRS:Hid (pgOf raw=(t,0)):=by rw[Hid,HP.out,if_neg (by simp[hq])]
     clear hq hrl HP
     generalize ba (fullB t)=ft at *
     go_wp2_with fail
     refine(CF.out _).mono ?_
     rintro e w7 ⟨rfl,k7⟩
     have K7:=Lib.hid (K5.out.trans k7)
     clear k7
     go_wp2_with fail
     go_ret2
     exact⟨by rw[←HRAW.out,HRS.out];rfl,K7.out⟩
    ·have hcmp:(r.toList == (ba (fullB t)).toList)=false:=by rw[HQ.out,hrl];simpa using hq
     have HRS:Hid (pgOf raw=([],17)):=by rw[Hid,HP.out,if_pos (.inr hq)]
     clear hq hrl HP
     generalize ba (fullB t)=ft at *
     go_wp2_with fail
     refine(CF.out _).mono ?_
     rintro e w7 ⟨rfl,k7⟩
     have K7:=Lib.hid (K5.out.trans k7)
     clear k7
     go_wp2_with fail
     go_ret2
     exact⟨by rw[←HRAW.out,HRS.out];rfl,K7.out⟩
   ·have ht:(ee != 0)=true:=by simpa using he
    have HRS:Hid (pgOf raw=([],17)):=by rw[Hid,HP.out,if_pos (.inl he)]
    clear he HP
    go_wp2_with fail
    go_ret2
    exact⟨by rw[←HRAW.out,HRS.out];rfl,K5.out⟩
set_option maxRecDepth 100000 in
theorem StoRead_dev3 {w st b c m d vs vc p g X} (h:IsStore w st b c m d vs vc p g X) (i:Nat) (hi:i < X.l.length) (hs:stAt X.l i=3) (hd:X.D.down=false) (hn:2 + 4 * p≤X.D.secs.length) (hcl:X.D.cache.length≤1000000) :
  Calls Tryz.prog 62 #[.pointer (some ⟨st,0,none⟩),.int .i64 i] w (StoReadPost (pgOf (rawTo X.D i 4)) w):=by
 have hc0:w.cell? ⟨st,0,none⟩=some (.pointer (some ⟨b,0,none⟩)):=(cell_heap h.head 0).trans rfl
 have h128:=h.lay.p2
 have hlp:=h.len
 have HSP:=Lib.hid (State_calls h.sp i)
 rw[hs] at HSP
 have HH:=Lib.hid h.head
 have HD:Hid (∀(W:World) (k:Nat),k < 4→Kept (fun _=>False) w W→Calls Tryz.prog 103 #[.pointer (some ⟨d,0,none⟩),.int .i64 (2 + (i:Int) * 4 + (k:Int))] W (DReadPost (X.D.text (2 + 4 * i + k),0) W)):=fun W k hk hW=>by
  have e:=DevRead_calls (h.dev.keptF hW) (2 + (i:Int) * 4 + (k:Int)) hcl
  have e2:X.D.read (2 + (i:Int) * 4 + (k:Int))=(X.D.text (2 + 4 * i + k),0):=by
   simp only[Dev.read,hd]
   rw[if_neg (by omega)]
   have:(2 + (i:Int) * 4 + (k:Int)).toNat=2 + 4 * i + k:=by omega
   simp[this]
  rw[e2] at e
  exact e
 have HTL:Hid (∀k,k < 4→(X.D.text (2 + 4 * i + k)).length=64):=fun k hk=>text_len h.dev.good (by omega)
 have HRL:Hid (∀k,k≤4→(rawTo X.D i k).length=64 * k):=fun k hk=>rawTo_len h.dev.good k (by omega)
 have hi128:i < 128:=by omega
 clear h hs hd hn hcl hi hlp h128
 go_enter Tryz.func62,Tryz.ntmps62
 go_wp2_with fail
 refine HSP.out.mono ?_
 rintro e w1 ⟨rfl,rfl⟩
 go_wp2_with fail
 go_loopw [6,30] (fun s n wr=>∃k:Nat,k≤4∧n = .int .i64 k∧s = .string (ba (rawTo X.D i k))∧Kept (fun _=>False) w wr) (fun _ n _=>4 - (intOf n).toNat)
 case atStart=>exact⟨0,by omega,rfl,by simp[rawTo,ba],Kept.refl _ _⟩
 case round =>
  obtain⟨k,hk,rfl,rfl,hkp⟩:=hrel
  have hhd:=hkp.heap HH.out id
  have hc1:wr.cell? ⟨st,1,none⟩=some (.pointer (some ⟨d,0,none⟩)):=(cell_heap hhd 1).trans rfl
  have HK:=Lib.hid hkp
  clear hkp hhd
  obtain⟨r,hr⟩:∃r,r=ba (rawTo X.D i k):=⟨_,rfl⟩
  have hrs:r.size=64 * k:=by rw[hr,ba_size];exact HRL.out k hk
  rw[←hr]
  have HR:=Lib.hid hr
  clear hr
  by_cases hlt:k < 4
  ·have C:=Lib.hid (HD.out wr k hlt HK.out)
   obtain⟨x,hx⟩:∃x,x=X.D.text (2 + 4 * i + k):=⟨_,rfl⟩
   have hxl:(ba x).size=64:=by rw[ba_size,hx];exact HTL.out k hlt
   have HN:Hid (r ++ ba x=ba (rawTo X.D i (k + 1))):=by simp only[Hid];rw[rawTo_succ,ba_append, ←hx,HR.out]
   rw[←hx] at C
   have hsum:r.size + (ba x).size≤1000:=by omega
   have HRS0:=Lib.hid hrs
   clear hx hxl hrs
   go_wp2_with fail
   refine C.out.mono ?_
   rintro e w2 ⟨rfl,k2⟩
   have HK2:=Lib.hid (HK.out.trans (Kept.of_below k2))
   clear k2
   go_wp2_with fail
   go_roundw
   case rel=>exact⟨k + 1,by omega,by go_num,by rw[HN.out],HK2.out⟩
   case measure=>simp[intOf];omega
  ·obtain rfl:k=4:=by omega
   have hrs4:r.size=256:=by omega
   clear hrs
   obtain⟨raw,hraw⟩:∃raw,raw=rawTo X.D i 4:=⟨_,rfl⟩
   rw[←hraw] at HR
   have HRAW:=Lib.hid hraw
   have HLR:Hid (raw.length=256):=by rw[hraw];exact HRL.out 4 (by omega)
   have HE:Hid (r.extract 4 256=ba (raw.drop 4)):=by
    have:=ba_extractn raw 4
    rw[ba_size,HLR.out] at this
    simp only[Hid];rw[HR.out];exact this
   obtain⟨q,hq⟩:∃q,q=iS 248 (raw.drop 4,0):=⟨_,rfl⟩
   have C3:Hid (∀(W:World) (j:Nat),IsIn W j (raw.drop 4,0)→Calls Tryz.prog 105 #[.pointer (some ⟨j,0,none⟩),.int .i64 248] W (InPost j (.string (ba q.1)) q.2 W)):=fun W j h=>by
    rw[hq];exact inS_calls h (by simp[HLR.out]) 248 (by omega)
   have HP:Hid (pgOf raw=if q.2.2 ≠ 0∨raw ≠ fullB q.1 then ([],17) else (q.1,0)):=by simp only[Hid,pgOf, ←hq]
   have hql:=iS_len248 (raw.drop 4,0)
   rw[←hq] at hql
   obtain⟨t,rest,ee⟩:=q
   simp only at C3 HP hql
   have CF:=Lib.hid (fun W=>full_calls t hql W)
   clear hq hraw hql hlt hk
   go_wp2_with fail
   rw[HE.out]
   refine(Read_calls (raw.drop 4) wr).mono ?_
   rintro e w4 ⟨j,hj,rfl,hin,k4⟩
   have HI4:=Lib.hid hin
   have K4:Hid (Kept (fun i=>i=j) wr w4):=k4.mono fun _ _ f=>f.elim
   clear hin k4
   go_wp2_with fail
   refine(C3.out w4 j HI4.out).mono ?_
   rintro e w5 ⟨rfl,hin,k5⟩
   have HI5:=Lib.hid hin
   have K5:Hid (Kept (fun _=>False) w w5):=by
    have hsz:=HK.out.size
    exact HK.out.then (K4.out.trans k5) (by intro x hx e;omega)
   have CE:=Lib.hid (Err_calls hin)
   clear hin k5 hj
   go_wp2_with fail
   refine CE.out.mono ?_
   rintro e w6 ⟨rfl,rfl⟩
   simp only
   by_cases he:ee=0
   ·subst he
    have hrl:r.toList=raw:=by rw[HR.out,ba_empty]
    have HQ:Hid ((ba (fullB t)).toList=fullB t):=ba_empty _
    by_cases hq:raw=fullB t
    ·have hcmp:(r.toList == (ba (fullB t)).toList)=true:=by rw[HQ.out,hrl];simpa using hq
     have HRS:Hid (pgOf raw=(t,0)):=by rw[Hid,HP.out,if_neg (by simp[hq])]
     clear hq hrl HP
     generalize ba (fullB t)=ft at *
     go_wp2_with fail
     refine(CF.out _).mono ?_
     rintro e w7 ⟨rfl,k7⟩
     have K7:=Lib.hid (K5.out.trans k7)
     clear k7
     go_wp2_with fail
     go_ret2
     exact⟨by rw[←HRAW.out,HRS.out];rfl,K7.out⟩
    ·have hcmp:(r.toList == (ba (fullB t)).toList)=false:=by rw[HQ.out,hrl];simpa using hq
     have HRS:Hid (pgOf raw=([],17)):=by rw[Hid,HP.out,if_pos (.inr hq)]
     clear hq hrl HP
     generalize ba (fullB t)=ft at *
     go_wp2_with fail
     refine(CF.out _).mono ?_
     rintro e w7 ⟨rfl,k7⟩
     have K7:=Lib.hid (K5.out.trans k7)
     clear k7
     go_wp2_with fail
     go_ret2
     exact⟨by rw[←HRAW.out,HRS.out];rfl,K7.out⟩
   ·have ht:(ee != 0)=true:=by simpa using he
    have HRS:Hid (pgOf raw=([],17)):=by rw[Hid,HP.out,if_pos (.inl he)]
    clear he HP
    go_wp2_with fail
    go_ret2
    exact⟨by rw[←HRAW.out,HRS.out];rfl,K5.out⟩
end Go.Proofs.YtfgjehecjgebdaaGreat
/- Pages: what a checkpoint does; its arguments. -/
namespace Go.Proofs.YtfgjehecjgebdaaGreat
open Go.RowKit Go.Maps Go.ChangeMaps
theorem StoRead_calls {w st b c m d vs vc p g X} (h:IsStore w st b c m d vs vc p g X) (i:Int) (hd:X.D.down=false) (hn:2 + 4 * p≤X.D.secs.length) (hcl:X.D.cache.length≤1000000) :
  Calls Tryz.prog 62 #[.pointer (some ⟨st,0,none⟩),.int .i64 i] w (StoReadPost (X.read i) w):=by
 rcases stAt_cases X.l h.sp.le i with e|e|e|e|e
 ·have hr:X.read i=([],8):=by simp[Sto.read,e]
  rw[hr];exact StoRead_none h i (.inl e)
 ·have hr:X.read i=([],8):=by simp[Sto.read,e]
  rw[hr];exact StoRead_none h i (.inr e)
 ·obtain⟨k,rfl,hk,_⟩:=stAt_nat (x:=1) e
  have hr:X.read k=pgOf (rawTo X.D k 4):=by simp[Sto.read,e]
  rw[hr];exact StoRead_dev1 h k hk e hd hn hcl
 ·obtain⟨k,rfl,hk,hx⟩:=stAt_nat (x:=2) e
  have hr:X.read k=(X.T k,0):=by simp[Sto.read,e]
  rw[hr];exact StoRead_put h k hk hx
 ·obtain⟨k,rfl,hk,_⟩:=stAt_nat (x:=3) e
  have hr:X.read k=pgOf (rawTo X.D k 4):=by simp[Sto.read,e]
  rw[hr];exact StoRead_dev3 h k hk e hd hn hcl
def pgW (T:Nat→List UInt8) (id:Nat):List (Nat×List UInt8):=(List.range 4).map fun k=>(2 + 4 * id + k,((fullB (T id)).drop (64 * k)).take 64)
def wrAll (D:Dev):List (Nat×List UInt8)→Int×Dev
 | []=>(0,D)
 | x :: r=>if (D.write x.1 x.2).1=0 then wrAll (D.write x.1 x.2).2 r else D.write x.1 x.2
theorem wrAll_append (D:Dev) (x y:List (Nat×List UInt8)):wrAll D (x ++ y)=if (wrAll D x).1=0 then wrAll (wrAll D x).2 y else wrAll D x:=by
 induction x generalizing D with
 | nil=>simp[wrAll]
 | cons a r ih =>
  by_cases h:(D.write a.1 a.2).1=0
  ·have e1:wrAll D (a :: r)=wrAll (D.write a.1 a.2).2 r:=if_pos h
   have e2:wrAll D (a :: r ++ y)=wrAll (D.write a.1 a.2).2 (r ++ y):=if_pos h
   rw[e1,e2,ih]
  ·have e1:wrAll D (a :: r)=D.write a.1 a.2:=if_neg h
   have e2:wrAll D (a :: r ++ y)=D.write a.1 a.2:=if_neg h
   rw[e1,e2,if_neg h]
theorem wrAll_snoc (D:Dev) (x:List (Nat×List UInt8)) (a:Nat×List UInt8) (h:(wrAll D x).1=0):wrAll D (x ++ [a])=(wrAll D x).2.write a.1 a.2:=by
 rw[wrAll_append,if_pos h]
 simp only[wrAll]
 split
 ·rename_i h0
  have:=Prod.eta ((wrAll D x).2.write a.1 a.2)
  rw[h0] at this
  exact this
 ·rfl
theorem wrAll_stop (D:Dev) (x y:List (Nat×List UInt8)) (h:(wrAll D x).1 ≠ 0):wrAll D (x ++ y)=wrAll D x:=by
 rw[wrAll_append,if_neg h]
theorem write_cache (D:Dev) (a:Int) (t:List UInt8):(D.write a t).2.cache.length≤D.cache.length + 1:=by
 unfold Dev.write
 split
 ·simp
 ·split
  ·simp
  ·rw[call_cache];omega
theorem wrAll_cache (D:Dev) (x:List (Nat×List UInt8)):(wrAll D x).2.cache.length≤D.cache.length + x.length:=by
 induction x generalizing D with
 | nil=>simp[wrAll]
 | cons a r ih =>
  simp only[wrAll,List.length_cons]
  have:=write_cache D a.1 a.2
  split
  ·have:=ih (D.write a.1 a.2).2;omega
  ·omega
def ckDev (X:Sto) (s:Sup):Int×Dev :=
 let a:=wrAll X.D ((fresh X.l).flatMap (pgW X.T))
 if a.1 ≠ 0 then a else
 let b:=a.2.flush
 if b.1 ≠ 0 then b else
 let c:=b.2.write (s.gen % 2:Nat) (secText ⟨s.gen,0,supB s X.l⟩)
 if c.1 ≠ 0 then c else c.2.flush
def ckBad (X:Sto) (root log next:Int):Int :=
 if root < -1∨(0≤root∧stAt X.l root ≠ 1∧stAt X.l root ≠ 2)∨(X.l.length:Int)≤root then 8
 else if log < 1∨1099511627776 < log∨next < 0∨1099511627776 < next then 18 else 0
def Sto.check (X:Sto) (root log next:Int):Int×Sto :=
 if ckBad X root log next ≠ 0 then (ckBad X root log next,X) else
 let s:Sup:=⟨X.sup.gen + 1,root,log.toNat,next.toNat⟩
 if (ckDev X s).1=0 then (0, { X with l:=kp X.l,sup:=s,D:=(ckDev X s).2 }) else ((ckDev X s).1, { X with D:=(ckDev X s).2 })
end Go.Proofs.YtfgjehecjgebdaaGreat
