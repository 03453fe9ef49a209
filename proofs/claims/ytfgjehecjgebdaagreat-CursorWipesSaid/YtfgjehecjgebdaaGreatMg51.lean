/- A cursor in memory: its stack of places. -/
import Derived.Test.YtfgjehecjgebdaaGreatMg46
import Derived.Test.YtfgjehecjgebdaaGreatMg38
import Derived.Test.YtfgjehecjgebdaaGreatMg45
import Derived.Test.YtfgjehecjgebdaaGreatMg07
namespace Go.Proofs.YtfgjehecjgebdaaGreat
open Go.RowKit
set_option maxHeartbeats 1000000
structure FrAt (w:World) (cs:List Value) (i:Nat) (f:Fr) (v0 v1 v2 v3:Value):Prop where
 c0:cs[i * 5]? = some v0
 c1:cs[i * 5 + 1]? = some v1
 c2:cs[i * 5 + 2]? = some v2
 c3:cs[i * 5 + 3]? = some v3
 c4:cs[i * 5 + 4]? = some (.int .i64 (f.2:Nat))
 nd:IsNd w 0 (.agg #[v0,v1,v2,v3]) f.1
def IsStk (w:World) (B:Nat) (v:Value) (s:List Fr):Prop:=∃cs,w.ownsRow B 187 5 v s.length cs ∧ ∀i (hi:i < s.length), ∃v0 v1 v2 v3,FrAt w cs i s[i] v0 v1 v2 v3
structure IsCur (w:World) (B c t:Nat) (v:Value) (s:List Fr):Prop where
 head:w.heap[c]? = some (.cells #[.pointer (some ⟨t,0,none⟩),v] 184 (0,0))
 stk:IsStk w B v s
 ge:B≤c
abbrev CK (c:Nat) (v:Value):Nat→Prop:=fun k=>k=c∨v.ownBlock=some k
theorem IsStk.nil (w:World) (B:Nat):IsStk w B (.slice none 0 0) []:=⟨[],World.ownsRow_nil _ _ _ _,fun i hi=>absurd hi (by simp)⟩
theorem FrAt.keptB {w w' cs i f v0 v1 v2 v3} (h:FrAt w cs i f v0 v1 v2 v3) (hn:IsNd w' 0 (.agg #[v0,v1,v2,v3]) f.1):FrAt w' cs i f v0 v1 v2 v3:=⟨h.c0,h.c1,h.c2,h.c3,h.c4,hn⟩
theorem IsStk.kept {w w' B v s} {S:Nat→Prop} (h:IsStk w B v s) (k:Kept S w w') (hv:∀g,v.ownBlock=some g → ¬S g) (hn:∀n u,IsNd w 0 u n→IsNd w' 0 u n):IsStk w' B v s:=by
 obtain⟨cs,h1,h2⟩:=h
 refine⟨cs,k.own h1 hv,fun i hi=>?_⟩
 obtain⟨v0,v1,v2,v3,q⟩:=h2 i hi
 exact⟨v0,v1,v2,v3,q.keptB (hn _ _ q.nd)⟩
theorem IsStk.keptF {w w' B v s} (h:IsStk w B v s) (k:Kept (fun _=>False) w w'):IsStk w' B v s:=h.kept k (fun _ _=>id) fun _ _ hn=>hn.kept k
theorem IsCur.keptF {w w' B c t v s} (h:IsCur w B c t v s) (k:Kept (fun _=>False) w w'):IsCur w' B c t v s:=⟨k.heap h.head id,h.stk.keptF k,h.ge⟩
theorem IsStk.slice {w B v s} (h:IsStk w B v s):∃A c,v = .slice A s.length c:=by
 obtain⟨cs,h1,_⟩:=h
 rcases h1.2 with⟨rfl,hn⟩|⟨g,cap,cur,rfl,_⟩
 ·exact⟨none,0,by rw[hn]⟩
 ·exact⟨_,cap,rfl⟩
theorem IsNd.keptC {w w' u n} (h:IsNd w 0 u n) {B m c:Nat} {v:Value} {cs:List Value} {T:TypeId} {hd:Array Value} (hr:w.ownsRow B 187 5 v m cs) (hh:w.heap[c]? = some (.cells hd T (0,0))) (h1:T ≠ 9) (h2:T ≠ 3) (k:Kept (CK c v) w w'):IsNd w' 0 u n:=by
 obtain⟨Ak,ck,Av,cv,Ai,ci,rfl,r1,r2,r3⟩:=h
 refine⟨Ak,ck,Av,cv,Ai,ci,rfl,SRow.kept r1 k fun g hg e=>?_,SRow.kept r2 k fun g hg e=>?_,IRow.kept r3 k fun g hg e=>?_⟩
 ·rcases e with e|e
  ·exact own_neH r1 hh h1 g hg e
  ·exact own_neT r1 hr (by decide) g hg e
 ·rcases e with e|e
  ·exact own_neH r2 hh h1 g hg e
  ·exact own_neT r2 hr (by decide) g hg e
 ·rcases e with e|e
  ·exact own_neH r3 hh h2 g hg e
  ·exact own_neT r3 hr (by decide) g hg e
theorem TW.keptC {w w' q X r B c v s} (h:TW w q X r) (hc:IsCur w B c q.t v s) (hq:q.In (· < B)) (k:Kept (CK c v) w w'):TW w' q X r:=by
 refine h.keptS k fun g hg e=>?_
 have h1:=hq g hg
 rcases e with rfl|e
 ·have:=hc.ge;omega
 ·obtain⟨cs,hr,_⟩:=hc.stk
  have:=own_ge hr e;omega
theorem place_parts:∃i,Tryz.prog.info? 187=some i∧i.zero=some (.agg #[.bool false,.slice none 0 0,.slice none 0 0,.slice none 0 0,.int .i64 0])∧i.size=5∧i.bytes=88 :=
 info_parts (by kernel_rfl:(Tryz.prog.info? 187).map (fun i=>(i.zero,i.size,i.bytes))=some (some (.agg #[.bool false,.slice none 0 0,.slice none 0 0,.slice none 0 0,.int .i64 0]),5,88))
theorem reads_five (w:World) (u0 u1 u2 u3 u4:Value) (e:TypeId):Reads (w.alloc (.cells #[u0,u1,u2,u3,u4] e)) (w.heap.size + 1) 5 (some ⟨w.heap.size,0,none⟩) 1 [u0,u1,u2,u3,u4] :=
 ⟨rfl,fun _=>⟨_,rfl,Nat.lt_succ_self _,fun j x hj=>by
  rw[Addr.add_lit]
  have hh:=heap_new w (.cells #[u0,u1,u2,u3,u4] e)
  rw[show 0 + j=j by omega,cell_heap hh]
  rw[←hj]
  rcases j with _|_|_|_|_|j<;>rfl⟩⟩
theorem cur_push {w W w':World} {B c t:Nat} {v v':Value} {s:List Fr} {cs:List Value} (hc:IsCur w B c t v s) (h1:w.ownsRow B 187 5 v s.length cs) (h2:∀i (hi:i < s.length), ∃v0 v1 v2 v3,FrAt w cs i s[i] v0 v1 v2 v3)
  (k0:Kept (fun _=>False) w W) {f:Fr} {v0 v1 v2 v3:Value} (hn:IsNd w 0 (.agg #[v0,v1,v2,v3]) f.1)
  (ho:w'.ownsRow B 187 5 v' (s.length + 1) (cs ++ [v0,v1,v2,v3,.int .i64 (f.2:Nat)])) (hg:W.grownBy w' v.ownBlock) :
  IsCur (w'.setCell ⟨c,1,none⟩ v') B c t v' (s ++ [f])∧Kept (CK c v) w (w'.setCell ⟨c,1,none⟩ v'):=by
 have hne:¬v.ownBlock=some c:=fun e=>own_neH h1 hc.head (by decide) c e rfl
 have kg:Kept (CK c v) w w':=(k0.mono fun _ _=>False.elim).trans ⟨hg.os,hg.tape,hg.output,hg.size,fun k hk' hne=>hg.block k hk' fun e=>hne (.inr e.symm)⟩
 have hh:w'.heap[c]? = some (.cells #[.pointer (some ⟨t,0,none⟩),v] 184 (0,0)):=(hg.block c (lt_heap (k0.heap hc.head id)) (fun e=>hne e.symm)).trans (k0.heap hc.head id)
 have hcv:v'.ownBlock ≠ some c:=fun e=>own_neH ho hh (by decide) c e rfl
 have kk:Kept (CK c v) w (w'.setCell ⟨c,1,none⟩ v'):=kg.setCell (.inl (.inl rfl)) v'
 have hnd:∀n u,IsNd w 0 u n→IsNd (w'.setCell ⟨c,1,none⟩ v') 0 u n:=fun n u h=>h.keptC h1 hc.head (by decide) (by decide) kk
 have ho':=ownsRow_setCell_other ho (a:=⟨c,1,none⟩) hcv v'
 have hcs:cs.length=s.length * 5:=h1.1
 refine⟨⟨by rw[heap_set hh];rfl,⟨cs ++ [v0,v1,v2,v3,.int .i64 (f.2:Nat)],by rw[List.length_append];exact ho',fun i hi=>?_⟩,hc.ge⟩,kk⟩
 rw[List.length_append,List.length_singleton] at hi
 by_cases hl:i < s.length
 ·obtain⟨u0,u1,u2,u3,q⟩:=h2 i hl
  have e:(s ++ [f])[i]'(by simp;omega)=s[i]:=List.getElem_append_left hl
  rw[e]
  have ap:∀(j:Nat) (x:Value),cs[j]? = some x→(cs ++ [v0,v1,v2,v3,.int .i64 (f.2:Nat)])[j]? = some x:=fun j x hx=>by
   rw[List.getElem?_append_left (List.getElem?_eq_some_iff.1 hx).1];exact hx
  exact⟨u0,u1,u2,u3,ap _ _ q.c0,ap _ _ q.c1,ap _ _ q.c2,ap _ _ q.c3,ap _ _ q.c4,hnd _ _ q.nd⟩
 ·obtain rfl:i=s.length:=by omega
  have e:(s ++ [f])[s.length]'(by simp)=f:=by simp
  rw[e]
  have ap:∀(j:Nat) (x:Value),([v0,v1,v2,v3,.int .i64 (f.2:Nat)]:List Value)[j]? = some x→(cs ++ [v0,v1,v2,v3,.int .i64 (f.2:Nat)])[s.length * 5 + j]? = some x:=fun j x hx=>by
   rw[List.getElem?_append_right (by omega),hcs,show s.length * 5 + j - s.length * 5=j by omega];exact hx
  exact⟨v0,v1,v2,v3,ap 0 _ rfl,ap 1 _ rfl,ap 2 _ rfl,ap 3 _ rfl,ap 4 _ rfl,hnd _ _ hn⟩
theorem cur_pop {w:World} {B c t:Nat} {A:Option Addr} {n cap:Nat} {s:List Fr} {f:Fr} (hc:IsCur w B c t (.slice A (n + 1) cap) (s ++ [f])) (hn:n=s.length) :
  IsCur (w.setCell ⟨c,1,none⟩ (.slice A n cap)) B c t (.slice A n cap) s∧Kept (CK c (.slice A (n + 1) cap)) w (w.setCell ⟨c,1,none⟩ (.slice A n cap)):=by
 subst hn
 have kk:Kept (CK c (.slice A (s.length + 1) cap)) w (w.setCell ⟨c,1,none⟩ (.slice A s.length cap)):=(Kept.refl _ _).setCell (.inl (.inl rfl)) _
 obtain⟨cs,h1,h2⟩:=hc.stk
 have hnd:∀n u,IsNd w 0 u n→IsNd (w.setCell ⟨c,1,none⟩ (.slice A s.length cap)) 0 u n:=fun n u h=>h.keptC h1 hc.head (by decide) (by decide) kk
 refine⟨⟨by rw[heap_set hc.head];rfl,⟨cs.take (s.length * 5),?_,fun i hi=>?_⟩,hc.ge⟩,kk⟩
 ·have ho:w.ownsRow B 187 5 (.slice A s.length cap) s.length (cs.take (s.length * 5)):=by
   rw[List.length_append,List.length_singleton] at h1
   refine⟨by rw[List.length_take,h1.1];omega,?_⟩
   rcases h1.2 with⟨_,h⟩|⟨g,cap',cur,e,hb,hg,q1,q2,q3,q4⟩
   ·omega
   ·obtain⟨rfl, -,rfl⟩:=Value.slice.inj e
    refine .inr ⟨g,cap,cur,rfl,hb,hg,by omega,q2,q3,?_⟩
    rw[←q4,List.take_take,Nat.min_eq_left (by omega)]
  exact ownsRow_setCell_other ho (a:=⟨c,1,none⟩) (fun e=>own_neH ho hc.head (by decide) c e rfl) _
 ·obtain⟨u0,u1,u2,u3,q⟩:=h2 i (by simp;omega)
  have e:(s ++ [f])[i]'(by simp;omega)=s[i]:=List.getElem_append_left hi
  rw[e] at q
  have ap:∀(j:Nat) (x:Value),j < s.length * 5→cs[j]? = some x→(cs.take (s.length * 5))[j]? = some x:=fun j x hj hx=>by
   rw[List.getElem?_take,if_pos hj];exact hx
  exact⟨u0,u1,u2,u3,ap _ _ (by omega) q.c0,ap _ _ (by omega) q.c1,ap _ _ (by omega) q.c2,ap _ _ (by omega) q.c3,ap _ _ (by omega) q.c4,hnd _ _ q.nd⟩
theorem cur_top {w:World} {B c t:Nat} {A:Option Addr} {n cap:Nat} {s:List Fr} {f:Fr} (hc:IsCur w B c t (.slice A (n + 1) cap) (s ++ [f])) (hn:n=s.length) :
  ∃g v0 v1 v2 v3,A=some ⟨g,0,none⟩∧n + 1≤cap∧g < w.heap.size∧Hid (IsNd w 0 (.agg #[v0,v1,v2,v3]) f.1)∧w.cell? ⟨g,n * 5,none⟩=some v0∧w.cell? ⟨g,n * 5 + 1,none⟩=some v1∧w.cell? ⟨g,n * 5 + 2,none⟩=some v2∧w.cell? ⟨g,n * 5 + 3,none⟩=some v3∧w.cell? ⟨g,n * 5 + 4,none⟩=some (.int .i64 (f.2:Nat)) ∧
   w.frozen? ⟨g,n * 5 + 4,none⟩=false∧g ≠ c∧(∀k u,IsNd w 0 u k→IsNd (w.setCell ⟨g,n * 5 + 4,none⟩ (.int .i64 (f.2 + 1:Nat))) 0 u k)∧Hid (IsCur (w.setCell ⟨g,n * 5 + 4,none⟩ (.int .i64 (f.2 + 1:Nat))) B c t (.slice A (n + 1) cap) (s ++ [(f.1,f.2 + 1)])∧Kept (CK c (.slice A (n + 1) cap)) w (w.setCell ⟨g,n * 5 + 4,none⟩ (.int .i64 (f.2 + 1:Nat)))):=by
 subst hn
 obtain⟨cs,h1,h2⟩:=hc.stk
 have hlen:(s ++ [f]).length=s.length + 1:=by simp
 rw[hlen] at h1
 obtain⟨g,cap',e⟩:∃g cap',Value.slice A (s.length + 1) cap = .slice (some ⟨g,0,none⟩) (s.length + 1) cap':=by
  rcases h1.2 with⟨_,h⟩|⟨g,cap',_,e,_⟩
  ·omega
  ·exact⟨g,cap',e⟩
 obtain⟨rfl, -,rfl⟩:=Value.slice.inj e
 obtain⟨v0,v1,v2,v3,q⟩:=h2 s.length (by simp)
 have e:(s ++ [f])[s.length]'(by simp)=f:=by simp
 rw[e] at q
 have ca:∀j x,j < (s.length + 1) * 5→cs[j]? = some x→w.cell? ⟨g,j,none⟩=some x:=fun j x hj hx=>(World.ownsRow.cellAt h1 j hj).trans hx
 have hgc:g ≠ c:=own_neH h1 hc.head (by decide) g rfl
 obtain⟨st1,st2⟩:=World.ownsRow.stored h1 (s.length * 5 + 4) (.int .i64 (f.2 + 1:Nat))
 have kk:Kept (CK c (.slice (some ⟨g,0,none⟩) (s.length + 1) cap)) w (w.setCell ⟨g,s.length * 5 + 4,none⟩ (.int .i64 (f.2 + 1:Nat))):=(Kept.refl _ _).setCell (.inl (.inr rfl)) _
 have hnd:∀k u,IsNd w 0 u k→IsNd (w.setCell ⟨g,s.length * 5 + 4,none⟩ (.int .i64 (f.2 + 1:Nat))) 0 u k:=fun n u h=>h.keptC h1 hc.head (by decide) (by decide) kk
 refine⟨g,v0,v1,v2,v3,rfl,own_cap h1 rfl,own_lt h1 rfl,q.nd,ca _ _ (by omega) q.c0,ca _ _ (by omega) q.c1,ca _ _ (by omega) q.c2,ca _ _ (by omega) q.c3,ca _ _ (by omega) q.c4,World.ownsRow.frozenAt h1 _,hgc,hnd,⟨heap_set_other hc.head (fun e=>hgc e.symm),⟨cs.set (s.length * 5 + 4) (.int .i64 (f.2 + 1:Nat)),by rw[List.length_append];exact st1,fun i hi=>?_⟩,hc.ge⟩,kk⟩
 have hcl:cs.length=(s.length + 1) * 5:=h1.1
 rw[List.length_append,List.length_singleton] at hi
 by_cases hl:i < s.length
 ·obtain⟨u0,u1,u2,u3,q⟩:=h2 i (by simp;omega)
  have e:(s ++ [f])[i]'(by simp;omega)=s[i]:=List.getElem_append_left hl
  have e':(s ++ [(f.1,f.2 + 1)])[i]'(by simp;omega)=s[i]:=List.getElem_append_left hl
  rw[e] at q
  rw[e']
  have ap:∀(j:Nat) (x:Value),j ≠ s.length * 5 + 4→cs[j]? = some x→(cs.set (s.length * 5 + 4) (.int .i64 (f.2 + 1:Nat)))[j]? = some x:=fun j x hj hx=>by
   rw[List.getElem?_set_ne (by omega)];exact hx
  exact⟨u0,u1,u2,u3,ap _ _ (by omega) q.c0,ap _ _ (by omega) q.c1,ap _ _ (by omega) q.c2,ap _ _ (by omega) q.c3,ap _ _ (by omega) q.c4,hnd _ _ q.nd⟩
 ·obtain rfl:i=s.length:=by omega
  have e':(s ++ [(f.1,f.2 + 1)])[s.length]'(by simp)=(f.1,f.2 + 1):=by simp
  rw[e']
  have ap:∀(j:Nat) (x:Value),j ≠ s.length * 5 + 4→cs[j]? = some x→(cs.set (s.length * 5 + 4) (.int .i64 (f.2 + 1:Nat)))[j]? = some x:=fun j x hj hx=>by
   rw[List.getElem?_set_ne (by omega)];exact hx
  exact⟨v0,v1,v2,v3,ap _ _ (by omega) q.c0,ap _ _ (by omega) q.c1,ap _ _ (by omega) q.c2,ap _ _ (by omega) q.c3,by rw[List.getElem?_set_self (by omega)],hnd _ _ q.nd⟩
end Go.Proofs.YtfgjehecjgebdaaGreat
/- A cursor's way down. -/
namespace Go.Proofs.YtfgjehecjgebdaaGreat
open Go.RowKit Go.Maps Go.ChangeMaps
set_option maxHeartbeats 4000000
set_option maxRecDepth 100000
def CurTo (w:World) (B c t:Nat) (v:Value) (s:List Fr) (w':World):Prop:=∃v',IsCur w' B c t v' s∧Kept (CK c v) w w'∧(v'.ownBlock=v.ownBlock ∨ ∀g,v'.ownBlock=some g→w.heap.size≤g)
theorem ck_then {w w1 w2:World} {c:Nat} {v v1 v2:Value} (h1:Kept (CK c v) w w1) (hv:v1.ownBlock=v.ownBlock ∨ ∀g,v1.ownBlock=some g→w.heap.size≤g) (k2:Kept (CK c v1) w1 w2) (o2:v2.ownBlock=v1.ownBlock ∨ ∀g,v2.ownBlock=some g→w1.heap.size≤g) :
  Kept (CK c v) w w2∧(v2.ownBlock=v.ownBlock ∨ ∀g,v2.ownBlock=some g→w.heap.size≤g):=by
 have hs:=h1.size
 refine⟨h1.then k2 fun i hi e=>?_,?_⟩
 ·rcases e with e|e
  ·exact .inl e
  ·rcases hv with hv|hv
   ·exact .inr (hv ▸ e)
   ·have:=hv i e;omega
 ·rcases o2 with o2|o2
  ·rcases hv with hv|hv
   ·exact .inl (o2.trans hv)
   ·exact .inr fun g hg=>hv g (o2 ▸ hg)
  ·exact .inr fun g hg=>Nat.le_trans hs (o2 g hg)
def stkN (w:World) (c:Nat):Nat:=match w.cell? ⟨c,1,none⟩ with|some (.slice _ n _)=>n|_=>0
theorem IsCur.cells {w B c t v s} (h:IsCur w B c t v s):w.cell? ⟨c,0,none⟩=some (.pointer (some ⟨t,0,none⟩))∧w.cell? ⟨c,1,none⟩=some v∧(∀i,w.frozen? ⟨c,i,none⟩=false)∧c < w.heap.size :=
 ⟨(cell_heap h.head 0).trans rfl,(cell_heap h.head 1).trans rfl,fun i=>free_heap h.head i,lt_heap h.head⟩
theorem stkN_is {w B c t v s} (h:IsCur w B c t v s):stkN w c=s.length:=by
 obtain⟨A,cp,rfl⟩:=h.stk.slice
 unfold stkN
 rw[h.cells.2.1]
theorem kid_ok {X:Sto} {h:Nat} {n:Nd} {lo hi} (w:WF X (h + 1) n lo hi) (ok:n.Ok) (k:Bs):n.find k < n.kids.length∧X.gd (n.kids.getD (n.find k) 0) ∧ ∃l u,WF X h (X.nd (n.kids.getD (n.find k) 0)) l u:=by
 have hk:=(ok.inner w.1).2.1
 have hf:=find_le n k ok.up
 have hlt:n.find k < n.kids.length:=by omega
 have e:n.kids.getD (n.find k) 0=n.kids[n.find k]:=by simp[List.getD,hlt]
 obtain⟨l,u,kc⟩:=seg_all (K:=KP X h) w.2.2 _ (List.getElem_mem hlt)
 rw[e]
 exact⟨hlt,kc.2.1,l,u,kc.2.2.2⟩
theorem CurDown_calls {w q X r B c v s} (tw:TW w q X r) (cu:IsCur w B c q.t v s) (hq:q.In (· < B)) (k:Bs) {id h:Nat} {lo hi} (hg:X.gd id) (wf:WF X h (X.nd id) lo hi) (hs:s.length + h + 1≤12) :
  Calls Tryz.prog 100 #[.pointer (some ⟨c,0,none⟩),.int .i64 id,.string (ba k)] w fun e w'=>e = .returned (.int .i64 0)∧CurTo w B c q.t v (s ++ dwnC X k h (X.nd id)) w':=by
 have HT:=Lib.hid fun w' v' s' (c':IsCur w B c q.t v' s') (k':Kept (CK c v') w w')=>tw.keptC c' hq k'
 have HTW:=Lib.hid tw
 have HC:=Lib.hid cu
 have HQ:=Lib.hid hq
 obtain⟨i0,hi0,hz0,hs0,hb0⟩:=place_parts
 have HI:=Lib.hid hi0;have HIz:=Lib.hid hz0;have HIs:=Lib.hid hs0;have HIb:=Lib.hid hb0
 obtain⟨S,hS⟩:∃S,S=s ++ dwnC X k h (X.nd id):=⟨_,rfl⟩
 have HS0:Hid (∃lo hi,WF X h (X.nd id) lo hi):=⟨lo,hi,wf⟩
 have HSS:Hid (s ++ dwnC X k h (X.nd id)=S):=hS.symm
 rw[←hS]
 obtain⟨ks,hks⟩:∃s,s=ba k:=⟨_,rfl⟩
 rw[←hks]
 have HKS:=Lib.hid hks
 have HG:=Lib.hid hg
 obtain⟨t,ht⟩:∃t,t=q.t:=⟨_,rfl⟩
 have HTE:=Lib.hid ht
 rw[←ht] at HC⊢
 clear hi0 hz0 hs0 hb0 hS wf hks tw cu hq hg ht
 go_enter Tryz.func100,Tryz.ntmps100
 go_wp2
 go_loopw [1] (fun i wr=>∃(s':List Fr) (pid h':Nat) (v':Value),s'.length + h' + 1≤12∧i = .int .i64 pid∧Hid (IsCur wr B c t v' s')∧Hid (X.gd pid∧(∃lo hi,WF X h' (X.nd pid) lo hi))∧Hid (s' ++ dwnC X k h' (X.nd pid)=S)∧Hid (Kept (CK c v) w wr∧(v'.ownBlock=v.ownBlock ∨ ∀g,v'.ownBlock=some g→w.heap.size≤g))) (fun _ wr=>12 - stkN wr c)
 case atStart=>exact⟨s,id,h,v,hs,rfl,HC.out,⟨HG.out,HS0.out⟩,HSS.out,Kept.refl _ _,.inl rfl⟩
 case round =>
  obtain⟨s',pid,h',v',hp,rfl,cr,hgw,hj,hk⟩:=hrel
  obtain⟨A6,c6,rfl⟩:=cr.out.stk.slice
  obtain⟨pl,hpl⟩:∃n,n=s'.length:=⟨_,rfl⟩
  rw[←hpl] at hp cr hk
  have HPL:=Lib.hid hpl
  clear hpl
  obtain⟨a0,a1,af,acl⟩:=cr.out.cells
  have TWr:Hid (TW wr q X r):=HT.out _ _ _ (by rw[←HTE.out];exact HC.out) hk.out.1
  have CL2:=Lib.hid (TreeLoadX_calls TWr.out (pid:Int))
  rw[←HTE.out] at CL2
  unfold LoadTo at CL2
  rw[show(X.load (pid:Int))=(X.nd pid,0) from Prod.ext rfl hgw.out.1] at CL2
  dsimp only at CL2
  obtain⟨ln,hln⟩:∃n,n=X.nd pid:=⟨_,rfl⟩
  rw[←hln] at CL2
  have hok:ln.Ok:=by rw[hln];exact gd_nd_ok hgw.out.1
  have HLN:=Lib.hid hln;have HOK:=Lib.hid hok
  clear hln
  go_wp2_with fail
  refine CL2.out.mono ?_
  rintro e w1 ⟨k1,v1,rfl,hn1⟩
  obtain⟨l,A1,n1,c1,A2,n2,c2,A3,n3,c3,rfl,HNE, -, -, -,NR3⟩:=hn1.opened
  have K1:=Lib.hid k1
  have N1:=Lib.hid hn1
  have hsm:=hok.sm
  have CF:=Lib.hid fun w' (kk:Kept (fun _=>False) w1 w')=>NdFind_calls (N1.out.kept kk) hsm hok.up k
  obtain⟨fk,hfk⟩:∃n,n=ln.find k:=⟨_,rfl⟩
  have hfle:=find_le ln k hok.up
  rw[←hfk] at CF hfle
  rw[←HKS.out] at CF
  have HFK:=Lib.hid hfk;have HFL:=Lib.hid hfle
  clear hfk hsm hok hfle hn1 k1 CL2
  go_wp2_with fail
  refine(CF.out _ (by repeat (first|exact Kept.refl _ _|refine Kept.alloc ?_ _))).mono ?_
  rintro e w2 ⟨rfl,k2⟩
  have hb1:=k2.heap (heap_new w1 (.cells #[.bool l,.slice A1 n1 c1,.slice A2 n2 c2,.slice A3 n3 c3] 148)) not_false
  have K12:=Lib.hid (((Kept.refl (fun _=>False) w1).alloc (.cells #[.bool l,.slice A1 n1 c1,.slice A2 n2 c2,.slice A3 n3 c3] 148)).trans k2)
  obtain⟨nb,hnb⟩:∃nb,nb=w1.heap.size:=⟨_,rfl⟩
  rw[←hnb] at hb1
  rw[←hnb]
  obtain⟨d0,d1,d2,d3⟩:=nd_cells hb1
  have hsz2:=lt_heap hb1
  have HB1:=Lib.hid hb1
  have K2:=Lib.hid (K1.out.trans K12.out)
  have C2:=Lib.hid (cr.out.keptF K2.out)
  have N2:=Lib.hid ((N1.out.kept K12.out).base (Nat.zero_le _))
  clear k2 CF hb1 hnb a0 a1 af acl
  obtain⟨a0,a1,af,acl⟩:=C2.out.cells
  obtain⟨cs,ho,hst⟩:=C2.out.stk
  have HO:=Lib.hid ho
  have HST:=Lib.hid hst
  rw[←HPL.out] at ho
  have HNO:Hid (∀b,(Value.slice A6 pl c6).ownBlock=some b→b ≠ nb∧b ≠ c):=fun b hb=>⟨own_neH HO.out HB1.out (by decide) b hb,own_neH HO.out C2.out.head (by decide) b hb⟩
  have ON1:Hid (∀x:Int, ∀u ∈ [.bool l,.slice A1 n1 c1,.slice A2 n2 c2,.slice A3 n3 c3,.int .i64 x],Value.oneCell' u=true):=by show ∀ _, ∀ _,_;simp[Value.oneCell']
  have M1:Hid (pl + 1≤maxLen):=by show _≤_;unfold maxLen;omega
  have M2:Hid ((pl + 1) * 88≤140737488355328):=by show _≤_;omega
  have HOW:=Lib.hid ho
  clear ho hst
  have HBW:Hid (B≤w2.heap.size):=by have:=C2.out.ge;show _≤_;omega
  have hf9:fk≤100:=by have:=HFL.out;have:=HOK.out.sm.1;omega
  have hwr:IntKind.i64.wrap ((fk:Int) + 1)=(fk:Int) + 1:=by rw[IntKind.wrap_i64];omega
  have HNC:Hid (nb ≠ c):=fun e=>by
   have h:=HB1.out
   rw[e,C2.out.head] at h
   injection h with h
   injection h with _ h _
   exact absurd h (by decide)
  cases l
  ·obtain⟨lo',hi',wf'⟩:=hgw.out.2
   have hl:=wf'.leaf
   obtain⟨h2,rfl⟩:∃h2,h'=h2 + 1:=by
    rw[←HLN.out, ←HNE.out.1] at hl
    have:¬h'=0:=by simpa using hl.symm
    exact⟨h' - 1,by omega⟩
   obtain⟨k1,k2,k3⟩:=kid_ok wf' (by rw[←HLN.out];exact HOK.out) k
   rw[←HLN.out, ←HFK.out] at k1 k2 k3
   have hfk3:=Lib.hid k1
   have NR3':Hid (IRow w2 wr.heap.size (.slice A3 n3 c3) ln.kids):=NR3.out.keptF K12.out
   obtain⟨g3,c3',e3'⟩:=own_form NR3'.out (by omega)
   injection e3' with e3a e3b e3c
   subst e3a
   have hfk4:fk < n3:=by omega
   obtain⟨kid,hkid⟩:∃x,x=ln.kids.getD fk 0:=⟨_,rfl⟩
   have HKD:Hid (kid=ln.kids[fk]'hfk3.out):=by show _=_;rw[hkid];simp[List.getD,k1]
   have HKW:Hid (X.gd kid∧(∃lo hi,WF X h2 (X.nd kid) lo hi)):=by rw[hkid];exact⟨k2,k3⟩
   have HJ2:Hid (s' ++ [(ln,fk + 1)] ++ dwnC X k h2 (X.nd kid)=S):=by
    have h3:=hj.out
    show _=_
    rw[dwnC, ←HLN.out, ←HFK.out, ←hkid] at h3
    rw[List.append_assoc];exact h3
   clear e3b e3c k1 k2 k3 hl wf' hkid
   go_wp2_with fail
   have hCa:=Lib.hid fun(w':World) (kk:Kept (fun _=>False) w2 w')=>(show w'.cell? ⟨c,1,none⟩=some (.slice A6 pl c6)∧w'.cell? ⟨nb,0,none⟩=some (.bool false)∧w'.cell? ⟨nb,1,none⟩=some (.slice A1 n1 c1)∧w'.cell? ⟨nb,2,none⟩=some (.slice A2 n2 c2)∧w'.cell? ⟨nb,3,none⟩=some (.slice (some ⟨g3,0,none⟩) n3 c3) from⟨(C2.out.keptF kk).cells.2.1,nd_cells (kk.heap HB1.out not_false)⟩)
   refine wp_region_z 13 (fun w'=>w'.cell? ⟨c,1,none⟩=some (.slice A6 pl c6)∧w'.cell? ⟨nb,0,none⟩=some (.bool false)∧w'.cell? ⟨nb,1,none⟩=some (.slice A1 n1 c1)∧w'.cell? ⟨nb,2,none⟩=some (.slice A2 n2 c2)∧w'.cell? ⟨nb,3,none⟩=some (.slice (some ⟨g3,0,none⟩) n3 c3)) (by kernel_rfl) ⟨a1,d0,d1,d2,d3⟩ (fun hC=>?_)
   clear a0 a1 d0 d1 d2 d3
   refine tz 0 (h:=?_)
   (try simp only[lits])
   refine tz 1 (h:=?_)
   (try simp only[lits])
   refine tz 2 (h:=?_)
   (try simp only[lits])
   refine tz 3 (h:=?_)
   (try simp only[lits])
   refine tz 4 (h:=?_)
   (try simp only[lits])
   refine tz 5 (h:=?_)
   (try simp only[lits])
   refine tz 6 (h:=?_)
   (try simp only[lits])
   refine tz 7 (h:=?_)
   (try simp only[lits])
   refine tz 8 (h:=?_)
   (try simp only[lits])
   refine wpAnyZ_one (i:=9) (by kernel_rfl) rfl (fun K hK=>?_)
   go_simp
   have ca:=Lib.hid ((((Kept.refl (fun _=>False) w2).alloc (.cells #[.bool false,.slice A1 n1 c1,.slice A2 n2 c2,.slice (some ⟨g3,0,none⟩) n3 c3,.int .i64 ((fk:Int) + 1)] 187)).drew))
   have hC1:=hCa.out _ ca.out
   refine hK.out _ _ (fun _=>hC1) ?_
   clear hK hC
   (try simp only[lits])
   refine wpAnyZ_one (i:=10) (by kernel_rfl) rfl (fun K hK=>?_)
   have ow1:=Lib.hid (ca.out.own HOW.out (fun _ _=>not_false))
   refine step_append_any _ rfl (.tmp 53) (.tmp 58) 182 rfl B 187 i0 (.agg #[.bool false,.slice none 0 0,.slice none 0 0,.slice none 0 0,.int .i64 0]) 5 88 Tryz.underlying182 HI.out HIz.out HIs.out HIb.out rfl (by decide) (.slice A6 pl c6) pl cs rfl ow1.out _ _ 1 1 _ rfl (reads_five w2 (.bool false) (.slice A1 n1 c1) (.slice A2 n2 c2) (.slice (some ⟨g3,0,none⟩) n3 c3) (.int .i64 ((fk:Int) + 1)) 187) (ON1.out _) M1.out M2.out (by have:=HBW.out;simp;omega) ?_
   intro v' w3 hv' hg' hob
   rw[HPL.out] at hv'
   obtain⟨cp,kp⟩:=cur_push C2.out HO.out HST.out ca.out (f:=(ln,fk + 1)) N2.out hv' hg'
   obtain⟨A8,c8,e8⟩:=cp.stk.slice
   generalize (s' ++ [(ln,fk + 1)]).length=m8 at e8
   subst e8
   have CP:=Lib.hid cp;have KP:=Lib.hid kp
   have hOB:Hid ((Value.slice A8 m8 c8).ownBlock=(Value.slice A6 pl c6).ownBlock ∨ ∀g,(Value.slice A8 m8 c8).ownBlock=some g→w2.heap.size≤g):=by
    rcases hob with e|e
    ·exact .inl e
    ·exact .inr fun g hg=>by rw[hg] at e;injection e with e;have:=ca.out.size;rw[e];exact this
   have hb3:Hid (w3.heap[nb]? = some (.cells #[.bool false,.slice A1 n1 c1,.slice A2 n2 c2,.slice (some ⟨g3,0,none⟩) n3 c3] 148 (0,0))∧w3.heap[c]? = some (.cells #[.pointer (some ⟨t,0,none⟩),.slice A6 pl c6] 184 (0,0))):=by
    have e1:=ca.out.heap HB1.out not_false
    have e2:=ca.out.heap C2.out.head not_false
    exact⟨(hg'.block nb (lt_heap e1) (fun e=>(HNO.out nb e.symm).1 rfl)).trans e1,(hg'.block c (lt_heap e2) (fun e=>(HNO.out c e.symm).2 rfl)).trans e2⟩
   have x1:w3.cell? ⟨c,1,none⟩=some (.slice A6 pl c6):=(cell_heap hb3.out.2 1).trans rfl
   have xf:∀i,w3.frozen? ⟨c,i,none⟩=false:=fun i=>free_heap hb3.out.2 i
   have hC3:w3.cell? ⟨c,1,none⟩=some (.slice A6 pl c6)∧w3.cell? ⟨nb,0,none⟩=some (.bool false)∧w3.cell? ⟨nb,1,none⟩=some (.slice A1 n1 c1)∧w3.cell? ⟨nb,2,none⟩=some (.slice A2 n2 c2)∧w3.cell? ⟨nb,3,none⟩=some (.slice (some ⟨g3,0,none⟩) n3 c3):=⟨x1,nd_cells hb3.out.1⟩
   have hcl3:c < w3.heap.size:=lt_heap hb3.out.2
   refine hK.out _ _ (fun _=>hC3) ?_
   clear hK hv' hg' hob ow1 cp kp hC1 x1
   (try simp only[lits])
   refine wpAnyZ_one (i:=11) (by kernel_rfl) rfl (fun K hK=>?_)
   go_simp
   refine hK.out _ _ (fun _=>hC3) ?_
   clear hK
   (try simp only[lits])
   refine wpAnyZ_one (i:=12) (by kernel_rfl) rfl (fun K hK=>?_)
   go_simp
   refine hK.out _ _ (fun _=>hC3) ?_
   clear hK
   (try simp only[lits])
   refine wpAnyZ_one (i:=13) (by kernel_rfl) rfl (fun K hK=>?_)
   go_simp
   refine hK.out _ _ (fun h=>by cases h) ?_
   clear hK hC3
   (try simp only[lits])
   refine wpAnyZ_done (by kernel_rfl) ?_ _
   have K3:Hid (Kept (CK c v) w (w3.setCell ⟨c,1,none⟩ (.slice A8 m8 c8))∧((Value.slice A8 m8 c8).ownBlock=v.ownBlock ∨ ∀g,(Value.slice A8 m8 c8).ownBlock=some g→w.heap.size≤g)):=by
    refine ck_then hk.out.1 hk.out.2 ((K2.out.mono fun _ _=>False.elim).trans KP.out) ?_
    rcases hOB.out with e|e
    ·exact .inl e
    ·exact .inr fun g hg=>Nat.le_trans K2.out.size (e g hg)
   obtain⟨e0,e1,e2,e3⟩:=nd_cells (heap_set_other (a:=⟨c,1,none⟩) (v:=.slice A8 m8 c8) hb3.out.1 HNC.out)
   have q4:(w3.setCell ⟨c,1,none⟩ (.slice A8 m8 c8)).cell? ⟨g3,fk,none⟩=some (.int .i64 kid):=by
    have h:=(IRow.kept NR3'.out KP.out fun g hg e=>by
     rcases e with e|e
     ·exact own_neH NR3'.out C2.out.head (by decide) g hg e
     ·exact own_neT NR3'.out HO.out (by decide) g hg e).atI hfk3.out
    rw[HKD.out];exact h
   go_wp2
   go_roundw
   case rel=>exact⟨s' ++ [(ln,fk + 1)],kid,h2,_,by have:=HPL.out;simp only[List.length_append,List.length_singleton];omega,rfl,CP.out,HKW.out,HJ2.out,K3.out⟩
   case measure=>rw[stkN_is CP.out,stkN_is cr.out,List.length_append,List.length_singleton];have:=HPL.out;omega
  ·go_wp2_with fail
   have hCa:=Lib.hid fun(w':World) (kk:Kept (fun _=>False) w2 w')=>(show w'.cell? ⟨c,1,none⟩=some (.slice A6 pl c6)∧w'.cell? ⟨nb,0,none⟩=some (.bool true)∧w'.cell? ⟨nb,1,none⟩=some (.slice A1 n1 c1)∧w'.cell? ⟨nb,2,none⟩=some (.slice A2 n2 c2)∧w'.cell? ⟨nb,3,none⟩=some (.slice A3 n3 c3) from⟨(C2.out.keptF kk).cells.2.1,nd_cells (kk.heap HB1.out not_false)⟩)
   refine wp_region_z 12 (fun w'=>w'.cell? ⟨c,1,none⟩=some (.slice A6 pl c6)∧w'.cell? ⟨nb,0,none⟩=some (.bool true)∧w'.cell? ⟨nb,1,none⟩=some (.slice A1 n1 c1)∧w'.cell? ⟨nb,2,none⟩=some (.slice A2 n2 c2)∧w'.cell? ⟨nb,3,none⟩=some (.slice A3 n3 c3)) (by kernel_rfl) ⟨a1,d0,d1,d2,d3⟩ (fun hC=>?_)
   clear a0 a1 d0 d1 d2 d3
   refine tz 0 (h:=?_)
   (try simp only[lits])
   refine tz 1 (h:=?_)
   (try simp only[lits])
   refine tz 2 (h:=?_)
   (try simp only[lits])
   refine tz 3 (h:=?_)
   (try simp only[lits])
   refine tz 4 (h:=?_)
   (try simp only[lits])
   refine tz 5 (h:=?_)
   (try simp only[lits])
   refine tz 6 (h:=?_)
   (try simp only[lits])
   refine tz 7 (h:=?_)
   (try simp only[lits])
   refine wpAnyZ_one (i:=8) (by kernel_rfl) rfl (fun K hK=>?_)
   go_simp
   have ca:=Lib.hid ((((Kept.refl (fun _=>False) w2).alloc (.cells #[.bool true,.slice A1 n1 c1,.slice A2 n2 c2,.slice A3 n3 c3,.int .i64 ((fk:Nat):Int)] 187)).drew))
   have hC1:=hCa.out _ ca.out
   refine hK.out _ _ (fun _=>hC1) ?_
   clear hK hC
   (try simp only[lits])
   refine wpAnyZ_one (i:=9) (by kernel_rfl) rfl (fun K hK=>?_)
   have ow1:=Lib.hid (ca.out.own HOW.out (fun _ _=>not_false))
   refine step_append_any _ rfl (.tmp 41) (.tmp 45) 182 rfl B 187 i0 (.agg #[.bool false,.slice none 0 0,.slice none 0 0,.slice none 0 0,.int .i64 0]) 5 88 Tryz.underlying182 HI.out HIz.out HIs.out HIb.out rfl (by decide) (.slice A6 pl c6) pl cs rfl ow1.out _ _ 1 1 _ rfl (reads_five w2 (.bool true) (.slice A1 n1 c1) (.slice A2 n2 c2) (.slice A3 n3 c3) (.int .i64 ((fk:Nat):Int)) 187) (ON1.out _) M1.out M2.out (by have:=HBW.out;simp;omega) ?_
   intro v' w3 hv' hg' hob
   rw[HPL.out] at hv'
   obtain⟨cp,kp⟩:=cur_push C2.out HO.out HST.out ca.out (f:=(ln,fk)) N2.out hv' hg'
   obtain⟨A8,c8,e8⟩:=cp.stk.slice
   generalize (s' ++ [(ln,fk)]).length=m8 at e8
   subst e8
   have CP:=Lib.hid cp;have KP:=Lib.hid kp
   have hOB:Hid ((Value.slice A8 m8 c8).ownBlock=(Value.slice A6 pl c6).ownBlock ∨ ∀g,(Value.slice A8 m8 c8).ownBlock=some g→w2.heap.size≤g):=by
    rcases hob with e|e
    ·exact .inl e
    ·exact .inr fun g hg=>by rw[hg] at e;injection e with e;have:=ca.out.size;rw[e];exact this
   have hb3:Hid (w3.heap[nb]? = some (.cells #[.bool true,.slice A1 n1 c1,.slice A2 n2 c2,.slice A3 n3 c3] 148 (0,0))∧w3.heap[c]? = some (.cells #[.pointer (some ⟨t,0,none⟩),.slice A6 pl c6] 184 (0,0))):=by
    have e1:=ca.out.heap HB1.out not_false
    have e2:=ca.out.heap C2.out.head not_false
    exact⟨(hg'.block nb (lt_heap e1) (fun e=>(HNO.out nb e.symm).1 rfl)).trans e1,(hg'.block c (lt_heap e2) (fun e=>(HNO.out c e.symm).2 rfl)).trans e2⟩
   have x1:w3.cell? ⟨c,1,none⟩=some (.slice A6 pl c6):=(cell_heap hb3.out.2 1).trans rfl
   have xf:∀i,w3.frozen? ⟨c,i,none⟩=false:=fun i=>free_heap hb3.out.2 i
   have hC3:w3.cell? ⟨c,1,none⟩=some (.slice A6 pl c6)∧w3.cell? ⟨nb,0,none⟩=some (.bool true)∧w3.cell? ⟨nb,1,none⟩=some (.slice A1 n1 c1)∧w3.cell? ⟨nb,2,none⟩=some (.slice A2 n2 c2)∧w3.cell? ⟨nb,3,none⟩=some (.slice A3 n3 c3):=⟨x1,nd_cells hb3.out.1⟩
   have hcl3:c < w3.heap.size:=lt_heap hb3.out.2
   refine hK.out _ _ (fun _=>hC3) ?_
   clear hK hv' hg' hob ow1 cp kp hC1 x1
   (try simp only[lits])
   refine wpAnyZ_one (i:=10) (by kernel_rfl) rfl (fun K hK=>?_)
   go_simp
   refine hK.out _ _ (fun _=>hC3) ?_
   clear hK
   (try simp only[lits])
   refine wpAnyZ_one (i:=11) (by kernel_rfl) rfl (fun K hK=>?_)
   go_simp
   refine hK.out _ _ (fun _=>hC3) ?_
   clear hK
   (try simp only[lits])
   refine wpAnyZ_one (i:=12) (by kernel_rfl) rfl (fun K hK=>?_)
   go_simp
   refine hK.out _ _ (fun h=>by cases h) ?_
   clear hK hC3
   (try simp only[lits])
   refine wpAnyZ_done (by kernel_rfl) ?_ _
   have K3:Hid (Kept (CK c v) w (w3.setCell ⟨c,1,none⟩ (.slice A8 m8 c8))∧((Value.slice A8 m8 c8).ownBlock=v.ownBlock ∨ ∀g,(Value.slice A8 m8 c8).ownBlock=some g→w.heap.size≤g)):=by
    refine ck_then hk.out.1 hk.out.2 ((K2.out.mono fun _ _=>False.elim).trans KP.out) ?_
    rcases hOB.out with e|e
    ·exact .inl e
    ·exact .inr fun g hg=>Nat.le_trans K2.out.size (e g hg)
   have HRf:Hid (s' ++ [(ln,fk)]=S):=by
    obtain⟨lo',hi',wf'⟩:=hgw.out.2
    have hl:=wf'.leaf
    have h0:h'=0:=by rw[←HLN.out, ←HNE.out.1] at hl;simpa using hl.symm
    have h3:=hj.out
    rw[h0] at h3
    show _=_
    rw[HFK.out,HLN.out];exact h3
   go_wp2
   refine bodyPost_ret (v:=.int .i64 0) (by simp[results,Tryz.f100,go_sem]) rfl ?_
   refine⟨rfl,_,?_,K3.out.1,K3.out.2⟩
   rw[←HRf.out];exact CP.out
end Go.Proofs.YtfgjehecjgebdaaGreat
/- A cursor's next entry. -/
namespace Go.Proofs.YtfgjehecjgebdaaGreat
open Go.RowKit Go.Maps Go.ChangeMaps
set_option maxHeartbeats 4000000
set_option maxRecDepth 100000
attribute [local go_sem] Oper.semAt_some
def nxV:List KV→Value
 | []=>.tuple #[.agg #[.string ⟨#[]⟩,.string ⟨#[]⟩],.bool false,.int .i64 0]
 | x :: _=>.tuple #[.agg #[Ss x.1,Ss x.2],.bool true,.int .i64 0]
structure CurAt (X:Sto) (H:Nat) (E:List KV) (w:World) (B c t:Nat) (v:Value):Prop where
 cur:∃s,IsCur w B c t v s∧StkOk X H s∧stkE X H s=E
 h:H≤11
def NextTo (X:Sto) (H:Nat) (E:List KV) (w:World) (B c t:Nat) (v:Value) (e:Ending) (w':World):Prop :=
 e = .returned (nxV E) ∧ ∃v',CurAt X H E.tail w' B c t v'∧Kept (CK c v) w w'∧(v'.ownBlock=v.ownBlock ∨ ∀g,v'.ownBlock=some g→w.heap.size≤g)
theorem IsCur.keptR {w w':World} {B c t v s} (h:IsCur w B c t v s) {R:Nat} {hd:Array Value} (hh:w.heap[R]? = some (.cells hd 98 (0,0))) (k:Kept (· = R) w w'):IsCur w' B c t v s:=by
 have hc:R ≠ c:=fun e=>by
  have h1:=h.head
  rw[←e,hh] at h1
  injection h1 with h1
  injection h1 with _ h1 _
  exact absurd h1 (by decide)
 refine⟨k.heap h.head fun e=>hc e.symm,?_,h.ge⟩
 obtain⟨cs,hr,_⟩:=h.stk
 refine h.stk.kept k (fun g hg e=>own_neH hr hh (by decide) g hg e) fun n u hn=>?_
 obtain⟨Ak,ck,Av,cv,Ai,ci,rfl,r1,r2,r3⟩:=hn
 exact⟨Ak,ck,Av,cv,Ai,ci,rfl,SRow.kept r1 k fun g hg e=>own_neH r1 hh (by decide) g hg e,SRow.kept r2 k fun g hg e=>own_neH r2 hh (by decide) g hg e,IRow.kept r3 k fun g hg e=>own_neH r3 hh (by decide) g hg e⟩
theorem nd_rows {w:World} {B:Nat} {l:Bool} {A1 A2 A3:Option Addr} {n1 c1 n2 c2 n3 c3:Nat} {n:Nd} (h:IsNd w B (.agg #[.bool l,.slice A1 n1 c1,.slice A2 n2 c2,.slice A3 n3 c3]) n):SRow w B (.slice A1 n1 c1) n.keys∧SRow w B (.slice A2 n2 c2) n.vals∧IRow w B (.slice A3 n3 c3) n.kids:=by
 obtain⟨Ak,ck,Av,cv,Ai,ci,e,h1,h2,h3⟩:=h
 unfold ndV at e
 injection e with e
 injection e with e
 injection e with e0 e
 injection e with e1 e
 injection e with e2 e
 injection e with e3 e
 rw[e1,e2,e3]
 exact⟨h1,h2,h3⟩
theorem ready_snoc {s0:List Fr} {f:Fr} (h:Ready (s0 ++ [f])):f.1.leaf=true∧f.2 < f.1.keys.length:=by
 obtain⟨s1,f1,e,h1,h2⟩:=h
 obtain⟨-,e⟩:=List.append_inj' e rfl
 injection e with e
 subst e
 exact⟨h1,h2⟩
theorem snoc_cases {α : Type} (l:List α):l = [] ∨ ∃a x,l=a ++ [x]:=by
 rcases List.eq_nil_or_concat l with h|⟨a,x,h⟩
 ·exact .inl h
 ·exact .inr ⟨a,x,by rw[h,List.concat_eq_append]⟩
theorem CurNext_calls {w q X r B c v H E} (tw:TW w q X r) (cu:CurAt X H E w B c q.t v) (hq:q.In (· < B)) :
  Calls Tryz.prog 49 #[.pointer (some ⟨c,0,none⟩)] w (NextTo X H E w B c q.t v):=by
 obtain⟨⟨s,hc,hs,hE⟩,hH⟩:=cu
 have HT:=Lib.hid fun w' v' s' (c':IsCur w B c q.t v' s') (k':Kept (CK c v') w w')=>tw.keptC c' hq k'
 have HTW:=Lib.hid tw;have HC:=Lib.hid hc;have HQ:=Lib.hid hq;have HS:=Lib.hid hs;have HE:=Lib.hid hE
 have HSL:Hid (s.length≤12):=by have:=stk_len s H hs;show _≤_;omega
 obtain⟨t,ht⟩:∃t,t=q.t:=⟨_,rfl⟩
 have HTE:=Lib.hid ht
 rw[←ht] at HC⊢
 clear hc hs hE tw hq ht
 go_enter Tryz.func49,Tryz.ntmps49
 go_wp2
 obtain⟨R,hR⟩:∃R,R=w.heap.size:=⟨_,rfl⟩
 obtain⟨w0,hw0⟩:∃w0,w0=w.alloc (.cells #[.string ⟨#[]⟩,.string ⟨#[]⟩] 98):=⟨_,rfl⟩
 have K0:Hid (Kept (fun _=>False) w w0):=by rw[hw0];exact(Kept.refl _ _).alloc _
 have HR0:Hid (w0.heap[R]? = some (.cells #[.string ⟨#[]⟩,.string ⟨#[]⟩] 98 (0,0))):=by show _=_;rw[hw0,hR];exact heap_new w _
 rw[←hw0, ←hR]
 have HRR:=Lib.hid hR
 have HRC:Hid (R ≠ c):=by have:=lt_heap HC.out.head;show _ ≠ _;omega
 clear hw0 hR
 go_loopg [5] (s.length + 1) (fun g _ wr=>∃(s':List Fr) (v':Value),Hid (IsCur wr B c t v' s')∧Hid (StkOk X H s'∧stkE X H s'=E∧(Ready s'∨s'.length + 1≤g))∧Hid (Kept (CK c v) w wr∧(v'.ownBlock=v.ownBlock ∨ ∀g,v'.ownBlock=some g→w.heap.size≤g))∧Hid (wr.heap[R]? = some (.cells #[.string ⟨#[]⟩,.string ⟨#[]⟩] 98 (0,0))))
 case atStart=>exact⟨s,v,HC.out.keptF K0.out,⟨HS.out,HE.out,.inr (Nat.le_refl _)⟩,⟨K0.out.mono fun _ _=>False.elim,.inl rfl⟩,HR0.out⟩
 case round =>
  obtain⟨s',v',cr,hs',hk,hr⟩:=hrel
  obtain⟨A6,c6,rfl⟩:=cr.out.stk.slice
  have hrl:=lt_heap hr.out
  have rf:∀i,wr.frozen? ⟨R,i,none⟩=false:=fun i=>free_heap hr.out i
  have r0:wr.cell? ⟨R,0,none⟩=some (.string ⟨#[]⟩):=(cell_heap hr.out 0).trans rfl
  have r1:wr.cell? ⟨R,1,none⟩=some (.string ⟨#[]⟩):=(cell_heap hr.out 1).trans rfl
  obtain⟨a0,a1,af,acl⟩:=cr.out.cells
  rcases snoc_cases s' with rfl|⟨s0,f,rfl⟩
  ·have HE0:Hid (E = []):=hs'.out.2.1.symm
   go_wp2
   have hb:((wr.setCell ⟨R,0,none⟩ (.string ⟨#[]⟩)).setCell ⟨R,1,none⟩ (.string ⟨#[]⟩)).heap[R]? = some (.cells #[.string ⟨#[]⟩,.string ⟨#[]⟩] 98 (0,0)):=by rw[heap_set (heap_set hr.out 0 _) 1 _];rfl
   have q0:=(cell_heap hb 0).trans rfl
   have q1:=(cell_heap hb 1).trans rfl
   have kk:Kept (fun k=>k=R) wr ((wr.setCell ⟨R,0,none⟩ (.string ⟨#[]⟩)).setCell ⟨R,1,none⟩ (.string ⟨#[]⟩)):=((Kept.refl _ _).set1 0 _).set1 1 _
   refine bodyPost_ret (v:=.tuple #[.agg #[.string ⟨#[]⟩,.string ⟨#[]⟩],.bool false,.int .i64 0]) (by simp[results,Tryz.f49,go_sem,q0,q1]) rfl ?_
   refine⟨by rw[HE0.out];rfl,_,⟨⟨[],cr.out.keptR hr.out kk,hs'.out.1,by rw[HE0.out];rfl⟩,hH⟩,hk.out.1.then kk fun i hi e=>?_,hk.out.2⟩
   have:=HRR.out
   omega
  ·obtain⟨n,hn⟩:∃n,n=s0.length:=⟨_,rfl⟩
   rw[show(s0 ++ [f]).length=n + 1 by rw[hn];simp] at cr hk a1
   obtain⟨g5,v0,v1,v2,v3,rfl,hcap,hgl,HN,p0,p1,p2,p3,p4,pf,hgc,hnd,HST⟩:=cur_top cr.out hn
   obtain⟨l,A1,n1,c1,A2,n2,c2,A3,n3,c3,e,HNE,N1,R1,R2,R3⟩:=HN.out.opened
   injection e with e
   injection e with e
   injection e with e0 e
   injection e with e1 e
   injection e with e2 e
   injection e with e3 e
   subst e0 e1 e2 e3
   clear e
   obtain⟨fn,fa⟩:=f
   dsimp only at p4 HN HNE N1 R1 R2 R3 HST
   have HNN:=Lib.hid hn
   have n12:n≤12:=by have:=stk_len _ H hs'.out.1;simp at this;omega
   clear hn
   go_wp2_with fail
   go_quiet (fail)
   go_wp2_with fail
   have CL:=Lib.hid fun w' (kk:Kept (fun _=>False) wr w')=>NdLen_calls (N1.out.kept kk)
   go_region_held3 (fun w'=>w'.cell? ⟨g5,n * 5,none⟩=some (.bool l)∧w'.cell? ⟨g5,n * 5 + 1,none⟩=some (.slice A1 n1 c1)∧w'.cell? ⟨g5,n * 5 + 2,none⟩=some (.slice A2 n2 c2)∧w'.cell? ⟨g5,n * 5 + 3,none⟩=some (.slice A3 n3 c3)∧w'.cell? ⟨g5,n * 5 + 4,none⟩=some (.int .i64 (fa:Nat))) (go_keep)
    (first
     | (go_at_call 86;refine(CL.out _ (by repeat (first|exact Kept.refl _ _|refine Kept.drew ?_|refine Kept.drewN ?_ _))).mono ?_;rintro e w7 ⟨rfl,k7⟩;have K7:Hid (Kept (fun _=>False) wr w7):=Kept.trans (by repeat (first|exact Kept.refl _ _|refine Kept.drew ?_|refine Kept.drewN ?_ _)) k7;have x0:w7.cell? ⟨g5,n * 5,none⟩=some (.bool l):=(World.cell?_of_block (K7.out.block g5 hgl not_false)).trans p0;have x1:w7.cell? ⟨g5,n * 5 + 1,none⟩=some (.slice A1 n1 c1):=(World.cell?_of_block (K7.out.block g5 hgl not_false)).trans p1;have x2:w7.cell? ⟨g5,n * 5 + 2,none⟩=some (.slice A2 n2 c2):=(World.cell?_of_block (K7.out.block g5 hgl not_false)).trans p2;have x3:w7.cell? ⟨g5,n * 5 + 3,none⟩=some (.slice A3 n3 c3):=(World.cell?_of_block (K7.out.block g5 hgl not_false)).trans p3;have x4:w7.cell? ⟨g5,n * 5 + 4,none⟩=some (.int .i64 (fa:Nat)):=(World.cell?_of_block (K7.out.block g5 hgl not_false)).trans p4;clear k7))
   have C7:=Lib.hid (cr.out.keptF K7.out)
   have hr7:=Lib.hid (K7.out.heap hr.out not_false)
   have K07:=Lib.hid (hk.out.1.trans (K7.out.mono fun _ _=>False.elim))
   clear p0 p1 p2 p3 p4 pf HST hnd R1 R2 R3 N1 HN CL hgl a0 a1 af acl r0 r1 rf hrl
   obtain⟨g',u0,u1,u2,u3,eg, -,hgl,HN,p0,p1,p2,p3,p4,pf, -,hnd,HST⟩:=cur_top C7.out HNN.out
   obtain⟨eg, -⟩:=Addr.mk.inj (Option.some.inj eg)
   subst eg
   rw[p0] at x0
   rw[p1] at x1
   rw[p2] at x2
   rw[p3] at x3
   obtain rfl:=Option.some.inj x0
   obtain rfl:=Option.some.inj x1
   obtain rfl:=Option.some.inj x2
   obtain rfl:=Option.some.inj x3
   dsimp only at p4 HST HN
   clear x0 x1 x2 x3 x4
   have hrl:=lt_heap hr7.out
   have rf:∀i,w7.frozen? ⟨R,i,none⟩=false:=fun i=>free_heap hr7.out i
   have r0:w7.cell? ⟨R,0,none⟩=some (.string ⟨#[]⟩):=(cell_heap hr7.out 0).trans rfl
   have r1:w7.cell? ⟨R,1,none⟩=some (.string ⟨#[]⟩):=(cell_heap hr7.out 1).trans rfl
   obtain⟨a0,a1,af,acl⟩:=C7.out.cells
   obtain⟨nl,hnl⟩:∃m,m=fn.len:=⟨_,rfl⟩
   rw[←hnl]
   have HNL:=Lib.hid hnl
   clear hnl
   have hcap2:n≤c6:=by omega
   have hcap3:(n:Int)≤(c6:Int):=by omega
   have HRG:Hid (g5 ≠ R):=by
    obtain⟨cs,hrw, -⟩:=C7.out.stk
    exact own_neH hrw hr7.out (by decide) g5 rfl
   have hwn:IntKind.i64.wrap (n:Int)=(n:Int):=by rw[IntKind.wrap_i64];omega
   by_cases hpop:nl≤fa
   ·have NP:=Lib.hid (next_pop hs'.out.1 (by have:=HNL.out;simp only;omega))
    go_wp2_with fail
    refine wp_region_z 14 (fun w'=>w'.cell? ⟨c,1,none⟩=some (.slice (some ⟨g5,0,none⟩) (n + 1) c6)) (by kernel_rfl) a1 (fun hC=>?_)
    refine tz 0 (h:=?_)
    (try simp only[lits])
    refine tz 1 (h:=?_)
    (try simp only[lits])
    refine tz 2 (h:=?_)
    (try simp only[lits])
    refine tz 3 (h:=?_)
    (try simp only[lits])
    refine tz 4 (h:=?_)
    (try simp only[lits])
    refine tz 5 (h:=?_)
    (try simp only[lits])
    refine tz 6 (h:=?_)
    (try simp only[lits])
    refine tz 7 (h:=?_)
    (try simp only[lits])
    refine tz 8 (h:=?_)
    (try simp only[lits])
    refine tz 9 (h:=?_)
    (try simp only[lits])
    refine tz 10 (h:=?_)
    (try simp only[lits])
    refine tz 11 (h:=?_)
    (try simp only[lits])
    refine wpAnyZ_one (i:=12) (by kernel_rfl) rfl (fun K hK=>?_)
    go_simp
    refine hK.out _ _ (fun _=>hC) ?_
    clear hK
    (try simp only[lits])
    refine wpAnyZ_one (i:=13) (by kernel_rfl) rfl (fun K hK=>?_)
    go_simp
    refine hK.out _ _ (fun _=>hC) ?_
    clear hK
    (try simp only[lits])
    refine wpAnyZ_one (i:=14) (by kernel_rfl) rfl (fun K hK=>?_)
    go_simp
    refine hK.out _ _ (fun h=>by cases h) ?_
    clear hK hC
    (try simp only[lits])
    refine wpAnyZ_done (by kernel_rfl) ?_ _
    have HG:Hid (n + 2≤gk):=by
     rcases hs'.out.2.2 with h|h
     ·obtain⟨h1,h2⟩:=ready_snoc h
      have:=HNL.out
      simp only[Nd.len] at *
      rw[h1] at this
      simp at this
      omega
     ·have:=HNN.out
      rw[List.length_append,List.length_singleton] at h
      show _≤_
      omega
    obtain⟨cp,kp⟩:=cur_pop C7.out HNN.out
    have C8:=Lib.hid (cp.keptF (Kept.refl _ _).drew)
    have K8:=Lib.hid (ck_then K07.out hk.out.2 kp.drew (v2:=.slice (some ⟨g5,0,none⟩) n c6) (.inl rfl))
    have HR8:=Lib.hid (heap_set_other (a:=⟨c,1,none⟩) (v:=.slice (some ⟨g5,0,none⟩) n c6) hr7.out HRC.out)
    have HE8:Hid (StkOk X H s0∧stkE X H s0=E∧(Ready s0∨s0.length + 1≤gk - 1)):=⟨NP.out.1,NP.out.2.trans hs'.out.2.1,.inr (by have:=HG.out;have:=HNN.out;omega)⟩
    clear cp kp
    go_wp2
    go_roundg (gk - 1)
    case measure=>have:=HG.out;omega
    case rel=>exact⟨s0,_,C8,HE8,K8,HR8⟩
   ·by_cases hl:l=true
    ·subst hl
     have NX:=Lib.hid (next_leaf hs'.out.1 (by have:=HNL.out;simp only;omega) HNE.out.1.symm)
     obtain⟨x1,x2,x3,x4⟩:=NX.out
     dsimp only at x3 x4
     obtain⟨rk,rv, -⟩:=nd_rows HN.out
     obtain⟨gx,ck',ek⟩:=own_form rk (by omega)
     injection ek with ek1 ek2 ek3
     subst ek1
     obtain⟨gv,cv',ev⟩:=own_form rv (by omega)
     injection ev with ev1 ev2 ev3
     subst ev1
     have hk1:fa < n1:=by have:=HNE.out.2.1;omega
     have hk2:fa < n2:=by have:=HNE.out.2.2.1;omega
     obtain⟨kx,hkx⟩:∃x,x=ba (fn.keys.getD fa []):=⟨_,rfl⟩
     obtain⟨vx,hvx⟩:∃x,x=ba (fn.vals.getD fa []):=⟨_,rfl⟩
     have y1:w7.cell? ⟨gx,fa,none⟩=some (.string kx):=by rw[SRow.at_ rk x3,hkx];simp[Ss,List.getD,x3]
     have y2:w7.cell? ⟨gv,fa,none⟩=some (.string vx):=by rw[SRow.at_ rv x4,hvx];simp[Ss,List.getD,x4]
     have HKX:=Lib.hid hkx;have HVX:=Lib.hid hvx
     have hgx:=own_lt rk rfl
     have hgv:=own_lt rv rfl
     have hf9:fa≤100:=by have:=((stkOk_snoc s0 (fn,fa) H).1 hs'.out.1).2.2.1.sm.k;simp only at this;omega
     clear ek2 ek3 ev2 ev3 hkx hvx x1 x2 x3 x4 rk rv
     go_wp2_with fail
     refine wp_region_z 24 (fun w'=>w'.cell? ⟨g5,n * 5 + 1,none⟩=some (.slice (some ⟨gx,0,none⟩) n1 c1)∧w'.cell? ⟨g5,n * 5 + 2,none⟩=some (.slice (some ⟨gv,0,none⟩) n2 c2)∧w'.cell? ⟨g5,n * 5 + 4,none⟩=some (.int .i64 (fa:Nat))∧w'.cell? ⟨gx,fa,none⟩=some (.string kx)∧w'.cell? ⟨gv,fa,none⟩=some (.string vx)) (by kernel_rfl) ⟨p1,p2,p4,y1,y2⟩ (fun hC=>?_)
     refine tz 0 (h:=?_)
     (try simp only[lits])
     refine tz 1 (h:=?_)
     (try simp only[lits])
     refine tz 2 (h:=?_)
     (try simp only[lits])
     refine tz 3 (h:=?_)
     (try simp only[lits])
     refine tz 4 (h:=?_)
     (try simp only[lits])
     refine tz 5 (h:=?_)
     (try simp only[lits])
     refine tz 6 (h:=?_)
     (try simp only[lits])
     refine tz 7 (h:=?_)
     (try simp only[lits])
     refine tz 8 (h:=?_)
     (try simp only[lits])
     refine tz 9 (h:=?_)
     (try simp only[lits])
     refine tz 10 (h:=?_)
     (try simp only[lits])
     refine tz 11 (h:=?_)
     (try simp only[lits])
     refine tz 12 (h:=?_)
     (try simp only[lits])
     refine tz 13 (h:=?_)
     (try simp only[lits])
     refine tz 14 (h:=?_)
     (try simp only[lits])
     refine tz 15 (h:=?_)
     (try simp only[lits])
     refine tz 16 (h:=?_)
     (try simp only[lits])
     refine tz 17 (h:=?_)
     (try simp only[lits])
     refine tz 18 (h:=?_)
     (try simp only[lits])
     refine tz 19 (h:=?_)
     (try simp only[lits])
     refine tz 20 (h:=?_)
     (try simp only[lits])
     refine tz 21 (h:=?_)
     (try simp only[lits])
     refine tz 22 (h:=?_)
     (try simp only[lits])
     refine wpAnyZ_one (i:=23) (by kernel_rfl) rfl (fun K hK=>?_)
     go_simp
     have kA:=Lib.hid (((Kept.refl (fun _=>False) w7).alloc (.cells #[.string ⟨#[]⟩,.string ⟨#[]⟩] 98)).drew)
     have hCa:Hid (∀W:World,Kept (fun _=>False) w7 W→W.cell? ⟨g5,n * 5 + 1,none⟩=some (.slice (some ⟨gx,0,none⟩) n1 c1)∧W.cell? ⟨g5,n * 5 + 2,none⟩=some (.slice (some ⟨gv,0,none⟩) n2 c2)∧W.cell? ⟨g5,n * 5 + 4,none⟩=some (.int .i64 (fa:Nat))∧W.cell? ⟨gx,fa,none⟩=some (.string kx)∧W.cell? ⟨gv,fa,none⟩=some (.string vx)):=fun W kk =>
      ⟨(World.cell?_of_block (kk.block g5 hgl not_false)).trans p1,(World.cell?_of_block (kk.block g5 hgl not_false)).trans p2,(World.cell?_of_block (kk.block g5 hgl not_false)).trans p4,(World.cell?_of_block (kk.block gx hgx not_false)).trans y1,(World.cell?_of_block (kk.block gv hgv not_false)).trans y2⟩
     refine hK.out _ _ (fun _=>hCa.out _ kA.out) ?_
     clear hK hC
     (try simp only[lits])
     refine wpAnyZ_one (i:=24) (by kernel_rfl) rfl (fun K hK=>?_)
     go_simp
     refine hK.out _ _ (fun h=>by cases h) ?_
     clear hK
     (try simp only[lits])
     refine wpAnyZ_done (by kernel_rfl) ?_ _
     go_wp2
     have hr9:=heap_set_other (a:=⟨g5,n * 5 + 4,none⟩) (v:=.int .i64 ((fa + 1:Nat):Int)) hr7.out (fun e=>HRG.out e.symm)
     obtain⟨c9,k9⟩:=HST.out
     have kk:Kept (fun k=>k=R) (w7.setCell ⟨g5,n * 5 + 4,none⟩ (.int .i64 ((fa + 1:Nat):Int))) (((w7.setCell ⟨g5,n * 5 + 4,none⟩ (.int .i64 ((fa + 1:Nat):Int))).setCell ⟨R,0,none⟩ (.string kx)).setCell ⟨R,1,none⟩ (.string vx)):=((Kept.refl _ _).set1 0 _).set1 1 _
     have kz:Kept (fun _=>False) (((w7.setCell ⟨g5,n * 5 + 4,none⟩ (.int .i64 ((fa + 1:Nat):Int))).setCell ⟨R,0,none⟩ (.string kx)).setCell ⟨R,1,none⟩ (.string vx)) (((((w7.setCell ⟨g5,n * 5 + 4,none⟩ (.int .i64 ((fa + 1:Nat):Int))).setCell ⟨R,0,none⟩ (.string kx)).setCell ⟨R,1,none⟩ (.string vx)).alloc (.cells #[.string kx,.string vx] 98)).drew):=((Kept.refl _ _).alloc _).drew
     have hb:=kz.heap (heap_set (heap_set hr9 0 (.string kx)) 1 (.string vx)) not_false
     have q0:=(cell_heap hb 0).trans rfl
     have q1:=(cell_heap hb 1).trans rfl
     rw[show(((fa + 1:Nat)):Int)=(fa:Int) + 1 from rfl] at q0 q1
     obtain⟨k10,o10⟩:=ck_then K07.out hk.out.2 k9 (v2:=.slice (some ⟨g5,0,none⟩) (n + 1) c6) (.inl rfl)
     have k11:=k10.then kk fun i hi e=>by have:=HRR.out;omega
     have hE1:=hs'.out.2.1.symm.trans NX.out.2.1
     refine bodyPost_ret (v:=.tuple #[.agg #[.string kx,.string vx],.bool true,.int .i64 0]) (by simp[results,Tryz.f49,go_sem,q0,q1]) rfl ?_
     rw[hE1]
     refine⟨by rw[HKX.out,HVX.out];rfl,_,⟨⟨_,(c9.keptR hr9 kk).keptF kz,NX.out.1,rfl⟩,hH⟩,k11.trans (kz.mono fun _ _=>False.elim),o10⟩
    ·have hl':l=false:=by simpa using hl
     subst hl'
     clear hl
     have NX:=Lib.hid (next_inner hs'.out.1 (by have:=HNL.out;simp only;omega) HNE.out.1.symm)
     obtain⟨x1,x2,j,x3,⟨lo,hi,x4⟩,x5,x6,x7,x8⟩:=NX.out
     dsimp only at x1 x2 x4 x5 x6 x7 x8
     obtain⟨-, -,ri⟩:=nd_rows HN.out
     obtain⟨g3,c3',e3⟩:=own_form ri (by omega)
     injection e3 with e3 _ _
     subst e3
     have hk1:fa < n3:=by have:=HNE.out.2.2.2;omega
     have hf9:fa≤100:=by have:=(hs'.out.1);have:=((stkOk_snoc s0 (fn,fa) H).1 hs'.out.1).2.2.1.sm.i;simp only at this;omega
     obtain⟨kid,hkid⟩:∃x,x=fn.kids.getD fa 0:=⟨_,rfl⟩
     have y1:w7.cell? ⟨g3,fa,none⟩=some (.int .i64 (kid:Nat)):=by rw[IRow.atI ri x1,hkid];simp[x1]
     rw[←hkid] at x2 x4 x6 x7 x8 NX
     have HX:=Lib.hid (And.intro x6 (And.intro x7 x8))
     have h12:(s0 ++ [((fn,fa + 1):Fr)]).length + j + 1≤12:=by omega
     clear hkid x1 x3 x5 x6 x7 x8 NX ri
     go_wp2_with fail
     go_quiet (fail)
     go_wp2_with fail
     obtain⟨g9,_,_,_,_,e9, -, -, -, -, -, -, -, -, -, -, -,H9⟩:=cur_top (C7.out.keptF ((Kept.refl _ w7).drewN nq)) HNN.out
     obtain⟨e9, -⟩:=Addr.mk.inj (Option.some.inj e9)
     subst e9
     obtain⟨c9,k9⟩:=H9.out
     have K9:=Lib.hid (ck_then (K07.out.trans ((Kept.refl _ w7).drewN nq)) hk.out.2 k9 (v2:=.slice (some ⟨g5,0,none⟩) (n + 1) c6) (.inl rfl))
     have C9:=Lib.hid c9
     have T9:Hid (TW ((w7.drewN nq).setCell ⟨g5,n * 5 + 4,none⟩ (.int .i64 ((fa + 1:Nat):Int))) q X r):=HT.out _ _ _ (by rw[←HTE.out];exact HC.out) K9.out.1
     rw[HTE.out] at C9
     have CD:=Lib.hid (CurDown_calls T9.out C9.out HQ.out [] x2 x4 h12)
     rw[←HTE.out] at CD
     have R9:=Lib.hid (heap_set_other (a:=⟨g5,n * 5 + 4,none⟩) (v:=.int .i64 ((fa + 1:Nat):Int)) (((Kept.refl (fun _=>False) w7).drewN nq).heap hr7.out not_false) (fun e=>HRG.out e.symm))
     clear c9 k9 H9
     refine CD.out.mono ?_
     rintro e w9 ⟨rfl,v9,c9,k9,o9⟩
     have K10:=Lib.hid (ck_then K9.out.1 K9.out.2 k9 o9)
     have C10:=Lib.hid c9
     have R10:=Lib.hid (k9.heap R9.out (fun e=>by
      rcases e with e|e
      ·exact HRC.out e
      ·exact HRG.out (Option.some.inj e)))
     have HG:Hid (n + 2≤gk):=by
      rcases hs'.out.2.2 with h|h
      ·have h1:=(ready_snoc h).1
       dsimp only at h1
       rw[←HNE.out.1] at h1
       cases h1
      ·have:=HNN.out
       rw[List.length_append,List.length_singleton] at h
       show _≤_
       omega
     have HE10:=Lib.hid (And.intro HX.out.1 (And.intro (HX.out.2.1.trans hs'.out.2.1) (Or.inl (b:=(s0 ++ [((fn,fa + 1):Fr)] ++ dwnC X [] j (X.nd kid)).length + 1≤gk - 1) HX.out.2.2)))
     clear c9 k9 o9 CD
     go_wp2
     go_roundg (gk - 1)
     case measure=>have:=HG.out;omega
     case rel=>exact⟨_,v9,C10,HE10,K10,R10⟩
end Go.Proofs.YtfgjehecjgebdaaGreat
/- A cursor from a key on; the entries of a range. -/
namespace Go.Proofs.YtfgjehecjgebdaaGreat
open Go.RowKit Go.Maps Go.ChangeMaps
set_option maxHeartbeats 4000000
set_option maxRecDepth 100000
attribute [local go_sem] Oper.semAt_some
theorem fromE_in {X:Sto} {root:Int} {E:List KV} (t:TI X root E) (k:Bs):(root = -1∧fromE E k = []) ∨ ∃(r h:Nat),root=r∧X.gd r∧(∃lo hi,WF X h (X.nd r) lo hi)∧h≤4∧StkOk X h (dwnC X k h (X.nd r))∧stkE X h (dwnC X k h (X.nd r))=fromE E k:=by
 rcases t.sound with⟨rfl,rfl, -⟩|⟨r,h,rfl,hg,wf,hE, -, -,hh⟩
 ·exact .inl ⟨rfl,rfl⟩
 ·obtain⟨h1,h2⟩:=dwn_ok h (X.nd r) wf (gd_nd_ok hg) (inR_all k)
  exact .inr ⟨r,h,rfl,hg,⟨_,_,wf⟩,hh,h1,by rw[h2,hE]⟩
def AtTo (X:Sto) (E:List KV) (w:World) (t:Nat) (e:Ending) (w':World):Prop :=
 ∃c v H,e = .returned (.tuple #[.pointer (some ⟨c,0,none⟩),.int .i64 0])∧CurAt X H E w' w.heap.size c t v∧Kept (fun _=>False) w w' ∧ ∀g,v.ownBlock=some g→w.heap.size≤g
theorem CurAt_calls {w q X root E} (tw:TW w q X root) (ti:TI X root E) (k:Bs):Calls Tryz.prog 47 #[.pointer (some ⟨q.t,0,none⟩),.string (ba k)] w (AtTo X (fromE E k) w q.t):=by
 have CR:=Lib.hid fun w' (kk:Kept (fun _=>False) w w')=>TreeRoot_calls (tw.keptF kk)
 have HT:=Lib.hid tw;have HLO:=Lib.hid tw.low
 obtain⟨c,hc⟩:∃c,c=w.heap.size:=⟨_,rfl⟩
 obtain⟨W,hW⟩:∃W,W=w.alloc (.cells #[.pointer (some ⟨q.t,0,none⟩),.slice none 0 0] 184):=⟨_,rfl⟩
 have KW:Hid (Kept (fun _=>False) w W):=by rw[hW];exact(Kept.refl _ _).alloc _
 have C0:Hid (IsCur W c c q.t (.slice none 0 0) []):=⟨by rw[hW,hc];exact heap_new w _,IsStk.nil _ _,Nat.le_refl _⟩
 rcases fromE_in ti k with⟨rfl,he⟩|⟨r,h,rfl,hg,⟨lo,hi,wf⟩,hh,d1,d2⟩
 ·rw[he]
  have HC:=Lib.hid hc
  clear ti tw he
  go_enter Tryz.func47,Tryz.ntmps47
  go_wp2_with fail
  rw[←hW, ←hc]
  clear hW hc
  refine(CR.out _ KW.out).mono ?_
  rintro e w1 ⟨rfl,rfl⟩
  go_wp2
  refine bodyPost_ret (v:=.tuple #[.pointer (some ⟨c,0,none⟩),.int .i64 0]) (by simp[results,Tryz.f47,go_sem]) rfl ?_
  exact⟨c,_,0,rfl,⟨⟨[],by rw[←HC.out];exact C0.out,trivial,rfl⟩,by omega⟩,KW.out,fun g hg=>by cases hg⟩
 ·rw[←d2]
  have HC:=Lib.hid hc
  have CD:=Lib.hid (CurDown_calls (HT.out.keptF KW.out) C0.out (by rw[hc];exact HLO.out) k hg wf (by simp;omega))
  obtain⟨ks,hks⟩:∃s,s=ba k:=⟨_,rfl⟩
  rw[←hks] at CD⊢
  clear ti tw hg wf d2 hks
  go_enter Tryz.func47,Tryz.ntmps47
  go_wp2_with fail
  rw[←hW, ←hc]
  clear hW hc
  refine(CR.out _ KW.out).mono ?_
  rintro e w1 ⟨rfl,rfl⟩
  go_wp2_with fail
  refine(CR.out _ KW.out).mono ?_
  rintro e w1 ⟨rfl,rfl⟩
  go_wp2_with fail
  refine CD.out.mono ?_
  rintro e w2 ⟨rfl,v2,c2,k2,o2⟩
  rw[List.nil_append] at c2
  have C2:=Lib.hid c2
  have K2:Hid (Kept (fun _=>False) w w2):=KW.out.then k2 fun i hi e=>by
   rcases e with e|e
   ·have:=HC.out;omega
   ·cases e
  have O2:Hid (∀g,v2.ownBlock=some g→w.heap.size≤g):=fun g hg=>by
   rcases o2 with e|e
   ·rw[e] at hg;cases hg
   ·have:=e g hg;have:=KW.out.size;omega
  clear c2 k2 o2
  go_wp2
  refine bodyPost_ret (v:=.tuple #[.pointer (some ⟨c,0,none⟩),.int .i64 0]) (by simp[results,Tryz.f47,go_sem]) rfl ?_
  exact⟨c,v2,h,rfl,⟨⟨_,by rw[←HC.out];exact C2.out,d1,rfl⟩,by omega⟩,K2.out,O2.out⟩
end Go.Proofs.YtfgjehecjgebdaaGreat
/- cursor.Range: the entries of a range. -/
namespace Go.Proofs.YtfgjehecjgebdaaGreat
open Go.RowKit Go.Maps Go.ChangeMaps
set_option maxHeartbeats 4000000
set_option maxRecDepth 100000
attribute [local go_sem] Oper.semAt_some
def CRow (w:World) (B:Nat) (v:Value) (E:List KV):Prop:=w.ownsRow B 98 2 v E.length (eCells E)
theorem CRow.keptF {w w' B v E} (h:CRow w B v E) (k:Kept (fun _=>False) w w'):CRow w' B v E:=k.own h fun _ _=>id
theorem CRow.base {w B B' v E} (h:CRow w B v E) (hb:B'≤B):CRow w B' v E:=own_base h fun _ hg=>Nat.le_trans hb (own_ge h hg)
theorem CRow.en {w B v E} (h:CRow w B v E):EnS w v E:=by
 obtain⟨hl,h|⟨g,cap,cur,rfl,hb,hh,h1,h2,h3⟩⟩:=id h
 ·obtain⟨rfl,h0⟩:=h
  have hE:E = []:=List.eq_nil_of_length_eq_zero h0
  subst hE
  exact⟨none,0,rfl,.inl ⟨rfl,rfl⟩⟩
 ·refine⟨_,cap,rfl,.inr ⟨g,0,rfl,own_lt h rfl,fun j hj=>?_⟩⟩
  obtain⟨e1,e2⟩:=eCells_at E j hj
  have c1:=World.ownsRow.cellAt h (j * 2) (by omega)
  have c2:=World.ownsRow.cellAt h (j * 2 + 1) (by omega)
  rw[Nat.zero_add]
  exact⟨c1.trans e1,c2.trans e2⟩
theorem cent_info:(Tryz.prog.info? 98).map (fun i=>(i.zero,i.size,i.bytes))=some (some (.agg #[.string ⟨#[]⟩,.string ⟨#[]⟩]),2,32):=by kernel_rfl
theorem app_cent {w:World} {ops:Array Oper} {rest:List Oper} {o:Oper} {a:Act} {Q:Exit→Act→World→Prop} (hgd:o.guard=none) (s x:Operand)
  (ho:o.op = .call { callee:=.builtin .append,args := #[s,x],argTypes := #[104,104] })
  {v:Value} {E:List KV} (hs:a.eval s=v) {Bv:Nat} (hown:CRow w Bv v E)
  (B:Nat) {A:Option Addr} {c:Nat} {E':List KV} (hx:a.eval x = .slice A E'.length c) (hr:Reads w B 2 A E'.length (eCells E')) (hl:E.length + E'.length≤100000)
  (h:∀v' w',w'.ownsRow 0 98 2 v' (E.length + E'.length) (eCells E ++ eCells E')→w.grownBy w' v.ownBlock→(v'.ownBlock=v.ownBlock∨v'.ownBlock=some w.heap.size)→wpList Tryz.prog ops Q rest (a.put o.dst v') w'):wpList Tryz.prog ops Q (o :: rest) a w:=by
 obtain⟨i,hi,h1',h2,h3⟩:=info_parts cent_info
 exact wpList_append_any w hgd s x 104 ho 0 98 i (.agg #[.string ⟨#[]⟩,.string ⟨#[]⟩]) 2 32 Tryz.underlying104 hi h1' h2 h3 rfl (by decide) v E.length (eCells E) hs (own_base hown fun _ _=>Nat.zero_le _) B A E'.length c (eCells E') hx hr (eCells_one E') (by unfold maxLen;omega) (by omega) (Nat.zero_le _) h
theorem cent_step {w2 W' w':World} {B:Nat} {v v':Value} {E E':List KV} (h:CRow w2 B v E) (k0:Kept (fun _=>False) w2 W') (hB:B≤w2.heap.size) (h1:w'.ownsRow 0 98 2 v' (E.length + E'.length) (eCells E ++ eCells E')) (h2:W'.grownBy w' v.ownBlock)
  (h3:v'.ownBlock=v.ownBlock∨v'.ownBlock=some W'.heap.size):∃A c lo,v' = .slice A lo c∧Hid (lo=(E ++ E').length)∧Hid (CRow w' B (.slice A lo c) (E ++ E'))∧Hid (Kept (fun k=>v.ownBlock=some k) w2 w'):=by
 have hk:=k0.size
 have hr:CRow w' B v' (E ++ E'):=by
  show w'.ownsRow _ _ _ _ _ _
  rw[List.length_append,eCells_app]
  refine own_base h1 fun k hk'=>?_
  rcases h3 with e|e
  ·exact own_ge h (e ▸ hk')
  ·rw[hk'] at e
   injection e with e
   omega
 obtain⟨A,c,rfl⟩:=hr.en.slice
 exact⟨A,c,_,rfl,rfl,hr,(k0.mono fun _ _=>False.elim).trans ⟨h2.os,h2.tape,h2.output,h2.size,fun k hk' hne=>h2.block k hk' fun e=>hne e.symm⟩⟩
def upto (tb:Bs) (L:List KV):List KV:=L.takeWhile fun e=>decide (tb = []∨e.1 < tb)
def RangeTo (R:List KV) (w:World) (e:Ending) (w':World):Prop:=∃v',e = .returned (.tuple #[v',.int .i64 0])∧CRow w' w.heap.size v' R∧Kept (fun _=>False) w w'
theorem CurRange_calls {w q X root E} (tw:TW w q X root) (ti:TI X root E) (hl:E.length≤1000) (k tb:Bs) (most:Int):Calls Tryz.prog 52 #[.pointer (some ⟨q.t,0,none⟩),.string (ba k),.string (ba tb),.int .i64 most] w (RangeTo ((upto tb (fromE E k)).take most.toNat) w):=by
 have CA:=Lib.hid (CurAt_calls tw ti k)
 obtain⟨L0,hL0⟩:∃L,L=fromE E k:=⟨_,rfl⟩
 have HL0:Hid (L0.length≤1000):=by have:=List.length_filter_le (fun e:KV => !decide (e.1 < k)) E;show _≤_;rw[hL0];exact Nat.le_trans this hl
 rw[←hL0] at CA⊢
 obtain⟨R,hR⟩:∃R,R=(upto tb L0).take most.toNat:=⟨_,rfl⟩
 have HR:=Lib.hid hR
 rw[←hR]
 have HT:=Lib.hid tw;have HLO:=Lib.hid tw.low
 obtain⟨ks,hks⟩:∃s,s=ba k:=⟨_,rfl⟩
 obtain⟨ts,hts⟩:∃s,s=ba tb:=⟨_,rfl⟩
 have HTS:=Lib.hid hts
 rw[←hks] at CA⊢
 rw[←hts]
 clear hL0 hR ti tw hl hks hts
 go_enter Tryz.func52,Tryz.ntmps52
 go_wp2_with fail
 refine CA.out.mono ?_
 rintro e w1 ⟨c,v,H,rfl,ca,k1,hv⟩
 obtain⟨B,hB⟩:∃B,B=w.heap.size:=⟨_,rfl⟩
 have HB:=Lib.hid hB
 rw[←hB] at ca
 have C1:=Lib.hid ca;have K1:=Lib.hid k1;have HV:Hid (∀g,v.ownBlock=some g→B≤g):=by rw[hB];exact hv
 have HQ:Hid (q.In (· < B)):=by rw[hB];exact HLO.out
 clear ca k1 hv hB CA
 go_wp2_with fail
 go_loopw [12] (fun o wr=>∃(O L:List KV) (Ao:Option Addr) (lo co:Nat) (v':Value),o = .slice Ao lo co∧lo≤1000∧Hid (lo=O.length∧lo + L.length≤1000)∧Hid (CRow wr B (.slice Ao lo co) O)∧Hid (CurAt X H L wr B c q.t v')∧Hid (∀g,v'.ownBlock=some g→B≤g)∧Hid (Kept (fun _=>False) w wr)∧Hid (O ++ (upto tb L).take (most.toNat - O.length)=R)) (fun o _=>(most - slN o).toNat)
 case atStart=>exact⟨[],L0,none,0,0,v,rfl,by omega,⟨rfl,by simpa using HL0.out⟩,World.ownsRow_nil _ _ _ _,C1.out,HV.out,K1.out,by show _=_;simpa using HR.out.symm⟩
 case round =>
  obtain⟨O,L,Ao,lo,co,v',rfl,hlo,HL,RO,CU,HV',KW,HRR⟩:=hrel
  by_cases hm:(lo:Int) < most
  ·have CN:=Lib.hid (CurNext_calls (HT.out.keptF KW.out) CU.out HQ.out)
   have HNT:Hid (∀w':World,Kept (CK c v') wr w'→Kept (fun _=>False) w w'∧CRow w' B (.slice Ao lo co) O):=fun w' kk=>by
    obtain⟨⟨s,hc, -, -⟩, -⟩:=CU.out
    refine⟨KW.out.then kk fun i hi e=>?_,kk.own RO.out fun g hg e=>?_⟩
    ·have:=HB.out
     rcases e with e|e
     ·have:=hc.ge;omega
     ·have:=HV'.out i e;omega
    ·rcases e with e|e
     ·exact own_neH RO.out hc.head (by decide) g hg e
     ·obtain⟨cs,hr, -⟩:=hc.stk
      exact own_neT RO.out hr (by decide) g hg e
   unfold NextTo at CN
   cases L with
   | nil =>
    dsimp only[nxV] at CN
    go_wp2_with fail
    refine CN.out.mono ?_
    rintro e w2 ⟨rfl,v2,c2,k2,o2⟩
    obtain⟨h1,h2⟩:=HNT.out _ k2
    have K2:=Lib.hid h1;have R2:=Lib.hid h2
    clear h1 h2 c2 k2 o2 CN
    go_wp2_with fail
    refine bodyPost_ret (v:=.tuple #[.slice Ao lo co,.int .i64 0]) (by simp[results,Tryz.f52,go_sem]) rfl ?_
    have hO:O=R:=by have:=HRR.out;simpa[upto] using this
    exact⟨_,rfl,by rw[←hO, ←HB.out];exact R2.out.keptF ((Kept.refl _ _).alloc _),K2.out.alloc _⟩
   | cons x L =>
    obtain⟨xk,xv⟩:=x
    dsimp only[nxV,Ss,List.tail] at CN
    obtain⟨kx,hkx⟩:∃s,s=ba xk:=⟨_,rfl⟩
    obtain⟨vx,hvx⟩:∃s,s=ba xv:=⟨_,rfl⟩
    rw[←hkx, ←hvx] at CN
    have HKX:=Lib.hid hkx;have HVX:=Lib.hid hvx
    have HLT:Hid (Op.bytesLess kx.toList ts.toList=decide (xk < tb)):=by show _=_;rw[hkx,HTS.out];exact bless xk tb
    have HTL:Hid (ts.toList = []↔tb = []):=by
     show _↔_
     rw[HTS.out,ba_empty]
    clear hkx hvx
    by_cases hc:tb = []∨xk < tb
    ·have HC2:=Lib.hid hc
     have hu:Hid (upto tb ((xk,xv) :: L)=(xk,xv) :: upto tb L):=by show _=_;unfold upto;rw[List.takeWhile_cons,if_pos (by simpa using hc)]
     have hcase:(ts.toList = []∧ts.toList.isEmpty=true)∨(¬ts.toList = []∧ts.toList.isEmpty=false∧Op.bytesLess kx.toList ts.toList=true):=by
      by_cases h0:tb = []
      ·have g1:=HTL.out.2 h0
       exact .inl ⟨g1,by rw[g1];rfl⟩
      ·have g1:¬ts.toList = []:=fun e=>h0 (HTL.out.1 e)
       exact .inr ⟨g1,by simpa using g1,by rw[HLT.out];simpa using hc.resolve_left h0⟩
     clear hc
     rcases hcase with⟨g1,g2⟩|⟨g1,g2,g3⟩
     all_goals
      go_wp2_with fail
      refine CN.out.mono ?_
      rintro e w2 ⟨rfl,v2,c2,k2,o2⟩
      obtain⟨h1,h2⟩:=HNT.out _ k2
      have K2:=Lib.hid h1;have R2:=Lib.hid h2;have C2:=Lib.hid c2
      have HV2:Hid (∀g,v2.ownBlock=some g→B≤g):=fun g hg=>by
       rcases o2 with e|e
       ·exact HV'.out g (e ▸ hg)
       ·have:=e g hg;have:=KW.out.size;have:=HB.out;omega
      have HBW:Hid (B≤w2.heap.size):=by have:=K2.out.size;have:=HB.out;show _≤_;omega
      obtain⟨W1,hW1⟩:∃W1,W1=w2.alloc (.cells #[.string kx,.string vx] 98):=⟨_,rfl⟩
      have HW1:=Lib.hid hW1
      have KW1:Hid (Kept (fun _=>False) w2 W1):=by rw[hW1];exact(Kept.refl _ _).alloc _
      have RX:=Lib.hid (reads_kvn (w:=W1) (n:=w2.heap.size + 1) (by rw[HW1.out];simp) HKX.out HVX.out 98)
      have OX:=Lib.hid ((R2.out.keptF KW1.out).keptF ((Kept.refl _ W1).alloc (.cells #[.string kx,.string vx] 98)))
      have KX:=Lib.hid (KW1.out.alloc (.cells #[.string kx,.string vx] 98))
      rw[HW1.out] at RX OX KX
      have HLn:Hid (O.length + 1≤100000):=by have:=HL.out;show _≤_;omega
      clear h1 h2 c2 k2 o2 CN hW1 HW1 KW1
      go_wp2_with (at_builtin;(refine app_cent (E:=O) (E' := [(xk,xv)]) rfl (.tmp 53) (.tmp 55) rfl (v:=.slice Ao lo co) rfl OX.out _ rfl RX.out HLn.out ?_;intro v' w3 hv' hg' hob;obtain⟨A3,c3,l3,rfl,L3,E3,K3⟩:=cent_step R2.out KX.out HBW.out hv' hg' hob;clear hv' hg' hob))
      have hCC:Hid (CurAt X H L w3 B c q.t v2):=by
       obtain⟨⟨s,hc,h1,h2⟩,h3⟩:=C2.out
       refine⟨⟨s,⟨K3.out.heap hc.head (fun e=>own_neH R2.out hc.head (by decide) c e rfl),?_,hc.ge⟩,h1,h2⟩,h3⟩
       obtain⟨cs,hr, -⟩:=hc.stk
       exact hc.stk.kept K3.out (fun g hg e=>own_neT R2.out hr (by decide) g e hg) fun n u hn=>hn.keptR R2.out (by decide) (by decide) K3.out
      have K4:Hid (Kept (fun _=>False) w w3):=K2.out.then K3.out fun i hi e=>by have:=own_ge R2.out e;have:=HB.out;omega
      have hRN:Hid ((O ++ [(xk,xv)]) ++ (upto tb L).take (most.toNat - (O ++ [(xk,xv)]).length)=R):=by
       have h1:=HRR.out
       have h2:=HL.out.1
       show _=_
       rw[hu.out,show most.toNat - O.length=(most.toNat - (O.length + 1)) + 1 by omega,List.take_succ_cons] at h1
       rw[List.length_append,List.length_singleton,List.append_assoc]
       exact h1
      have hl3:l3=lo + 1:=by have h1:=L3.out;have h2:=HL.out.1;rw[List.length_append,List.length_singleton] at h1;omega
      subst hl3
      have HL3:Hid (lo + 1=(O ++ [(xk,xv)]).length∧lo + 1 + L.length≤1000):=⟨L3.out,by have:=HL.out.2;simp only[List.length_cons] at this;omega⟩
      go_roundw
      case rel=>exact⟨O ++ [(xk,xv)],L,A3,_,c3,v2,rfl,by have:=HL3.out.2;omega,HL3,E3,hCC,HV2,K4,hRN⟩
      case measure=>simp only[slN];omega
    ·have HC2:=Lib.hid hc
     have g1:¬ts.toList = []:=fun e=>hc (.inl (HTL.out.1 e))
     have g2:ts.toList.isEmpty=false:=by simpa using g1
     have g3:Op.bytesLess kx.toList ts.toList=false:=by rw[HLT.out];simpa using fun h=>hc (.inr h)
     clear hc
     go_wp2_with fail
     refine CN.out.mono ?_
     rintro e w2 ⟨rfl,v2,c2,k2,o2⟩
     obtain⟨h1,h2⟩:=HNT.out _ k2
     have K2:=Lib.hid h1;have R2:=Lib.hid h2
     clear h1 h2 c2 k2 o2 CN
     go_wp2_with fail
     refine bodyPost_ret (v:=.tuple #[.slice Ao lo co,.int .i64 0]) (by simp[results,Tryz.f52,go_sem]) rfl ?_
     have hO:O=R:=by
      have:=HRR.out
      unfold upto at this
      rw[List.takeWhile_cons,if_neg (by simpa using HC2.out)] at this
      simpa using this
     exact⟨_,rfl,by rw[←hO, ←HB.out];exact R2.out.keptF ((Kept.refl _ _).alloc _),K2.out.alloc _⟩
  ·go_wp2
   refine bodyPost_ret (v:=.tuple #[.slice Ao lo co,.int .i64 0]) (by simp[results,Tryz.f52,go_sem]) rfl ?_
   have hO:O=R:=by
    have h1:=HRR.out
    have h2:=HL.out.1
    rw[show most.toNat - O.length=0 by omega] at h1
    simpa using h1
   exact⟨_,rfl,by rw[←hO, ←HB.out];exact RO.out,KW.out⟩
end Go.Proofs.YtfgjehecjgebdaaGreat
