/- The tree in a world; load. -/
import Derived.Test.YtfgjehecjgebdaaGreatMg34
import Derived.Test.YtfgjehecjgebdaaGreatMg29
import Derived.Test.YtfgjehecjgebdaaGreatMg26
import Derived.Test.YtfgjehecjgebdaaGreatMg31
namespace Go.Proofs.YtfgjehecjgebdaaGreat
open Go.RowKit Go.Maps Go.ChangeMaps
set_option maxHeartbeats 4000000
set_option maxRecDepth 100000
structure TQ where
 t:Nat
 st:Nat
 b:Nat
 c:Nat
 m:Nat
 d:Nat
 vs:Value
 vc:Value
 p:Nat
 g:Nat
structure TW (w:World) (q:TQ) (X:Sto) (root:Int):Prop where
 sto:IsStore w q.st q.b q.c q.m q.d q.vs q.vc q.p q.g X
 tree:w.heap[q.t]? = some (.cells #[.pointer (some ⟨q.st,0,none⟩),.int .i64 root] 152 (0,0))
 up:X.D.down=false
 secs:2 + 4 * q.p≤X.D.secs.length
 cache:X.D.cache.length≤900000
 txt:∀i,X.l.getD i 0=2→(X.T i).length≤248
theorem TW.keptF {w w' q X root} (h:TW w q X root) (k:Kept (fun _=>False) w w'):TW w' q X root :=
 ⟨h.sto.keptF k,k.heap h.tree id,h.up,h.secs,h.cache,h.txt⟩
theorem stAt_getD2 {l:List Nat} {i:Int} (h:stAt l i=2):l.getD i.toNat 0=2:=by
 obtain⟨k,rfl,hk,e⟩:=stAt_nat (x:=2) h
 simp[List.getD,hk,e]
theorem TW.rdlen {w q X root} (h:TW w q X root) (id:Int):(X.read id).1.length≤248:=by
 unfold Sto.read
 split
 ·next h2=>exact h.txt _ (stAt_getD2 h2)
 ·split
  ·unfold pgOf
   dsimp only
   split
   ·simp
   ·exact iS_len248 _
  ·simp
def LoadTo (r:Nd×Int) (w:World) (e:Ending) (w':World):Prop:=Kept (fun _=>False) w w' ∧ ∃v,e = .returned (.tuple #[v,.int .i64 r.2])∧IsNd w' w.heap.size v r.1
theorem nd0_is (w:World) (B:Nat):IsNd w B (.agg zeroNd) nd0:=IsNd.made (n:=nd0) rfl (SRow.nil _ _) (SRow.nil _ _) (IRow.nil _ _)
theorem set4_heap {w:World} {N:Nat} {T:TypeId} {cs:Array Value} (h:w.heap[N]? = some (.cells cs T (0,0))) (hs:cs.size=4) (v0 v1 v2 v3:Value) :
  ((((w.setCell ⟨N,0,none⟩ v0).setCell ⟨N,1,none⟩ v1).setCell ⟨N,2,none⟩ v2).setCell ⟨N,3,none⟩ v3).heap[N]? = some (.cells #[v0,v1,v2,v3] T (0,0)):=by
 have e:=heap_set (heap_set (heap_set (heap_set h 0 v0) 1 v1) 2 v2) 3 v3
 rw[e]
 obtain⟨l⟩:=cs
 rcases l with _|⟨a,_|⟨b,_|⟨c,_|⟨d,_|⟨e,l⟩⟩⟩⟩⟩<;>simp at hs⊢
theorem IsNd.keptB {w w' B v n N cs f} {S:Nat→Prop} (h:IsNd w B v n) (hN:w.heap[N]? = some (.cells cs 148 f)) (k:Kept S w w') (hS:∀i,S i→i=N):IsNd w' B v n:=by
 obtain⟨Ak,ck,Av,cv,Ai,ci,rfl,h1,h2,h3⟩:=h
 exact⟨Ak,ck,Av,cv,Ai,ci,rfl,SRow.kept h1 k (fun g hg hs=>own_ne h1 hN (by decide) g hg (hS g hs)),SRow.kept h2 k (fun g hg hs=>own_ne h2 hN (by decide) g hg (hS g hs)),IRow.kept h3 k (fun g hg hs=>own_ne h3 hN (by decide) g hg (hS g hs))⟩
theorem set4_kept (w:World) (N:Nat) (v0 v1 v2 v3:Value):Kept (· = N) w ((((w.setCell ⟨N,0,none⟩ v0).setCell ⟨N,1,none⟩ v1).setCell ⟨N,2,none⟩ v2).setCell ⟨N,3,none⟩ v3) :=
 ((((Kept.refl (· = N) w).set1 0 v0).set1 1 v1).set1 2 v2).set1 3 v3
theorem TreeLoad_calls {w q X root} (h:TW w q X root) (pid:Int):Calls Tryz.prog 123 #[.pointer (some ⟨q.t,0,none⟩),.int .i64 pid] w (LoadTo (X.load pid) w):=by
 obtain⟨t,st,b,c,m,d,vs,vc,p,g⟩:=q
 have HR:=Lib.hid fun w' (kk:Kept (fun _=>False) w w')=>StoRead_calls (h.keptF kk).sto pid h.up h.secs (by have:=h.cache;omega)
 have hlen:=h.rdlen pid
 obtain⟨tx,htx⟩:∃t,t=(X.read pid).1:=⟨_,rfl⟩
 obtain⟨e1,he1⟩:∃e,e=(X.read pid).2:=⟨_,rfl⟩
 have HP:=Lib.hid fun w'=>NdParse_calls tx (by rw[htx];omega) w'
 have HLd:Hid (X.load pid=if e1 ≠ 0 then (nd0,e1) else match parseNd tx with|some n=>(n,0)|none=>(nd0,17)):=by show _=_;rw[htx,he1];rfl
 have htree:w.heap[t]? = some (.cells #[.pointer (some ⟨st,0,none⟩),.int .i64 root] 152 (0,0)):=h.tree
 have t0:w.cell? ⟨t,0,none⟩=some (.pointer (some ⟨st,0,none⟩)):=(cell_heap htree 0).trans rfl
 have htl:=lt_heap htree
 unfold StoReadPost at HR
 rw[←htx, ←he1] at HR
 obtain⟨s,hs⟩:∃s,s=ba tx:=⟨_,rfl⟩
 rw[←hs] at HR HP
 dsimp only
 clear hlen htx htree h hs
 go_enter Tryz.func123,Tryz.ntmps123
 go_wp2_with fail
 refine(HR.out _ ((Kept.refl _ w).alloc _)).mono ?_
 rintro e w1 ⟨rfl,k1⟩
 have K1:=Lib.hid (((Kept.refl (fun _=>False) w).alloc _).trans k1)
 have R1:=Lib.hid (k1.heap (heap_new w (.cells zeroNd 148)) not_false)
 clear k1 HR t0
 by_cases hz:e1=0
 ·have HZ:Hid (X.load pid=match parseNd tx with|some n=>(n,0)|none=>(nd0,17)):=by show _=_;rw[HLd.out,if_neg (by simp[hz])]
  subst hz
  clear HLd he1
  go_wp2_with fail
  refine(HP.out _).mono ?_
  rintro e w2 ⟨k2,h2⟩
  have K2:=Lib.hid (K1.out.trans k2)
  have R2:=Lib.hid (k2.heap R1.out not_false)
  obtain⟨r0,r1,r2,r3⟩:=nd_cells R2.out
  have fr:∀i,w2.frozen? ⟨w.heap.size,i,none⟩=false:=fun i=>free_heap R2.out i
  have hsz:=lt_heap R2.out
  clear k2 HP
  cases hp:parseNd tx with
  | none =>
   rw[hp] at h2 HZ
   obtain⟨ce,hc,rfl⟩:=h2
   have hc1:(ce == 0)=false:=by rw[beq_eq_false_iff_ne];exact hc
   have hc2:(ce != 0)=true:=by rw[bne_iff_ne];exact hc
   clear hc hp
   unfold zeroNd
   go_wp2
   have hf:=heap_old (set4_heap R2.out rfl (.bool false) (.slice none 0 0) (.slice none 0 0) (.slice none 0 0)) (.cells #[.bool false,.slice none 0 0,.slice none 0 0,.slice none 0 0] 148)
   obtain⟨q0,q1,q2,q3⟩:=nd_cells hf
   refine bodyPost_ret (v:=.tuple #[.agg zeroNd,.int .i64 17]) (by simp[results,Tryz.f123,go_sem,q0,q1,q2,q3,zeroNd]) rfl ?_
   exact⟨(K2.out.then (set4_kept w2 w.heap.size _ _ _ _) fun i hi e=>by omega).alloc _,.agg zeroNd,by rw[HZ.out],by rw[HZ.out];exact nd0_is _ _⟩
  | some n =>
   rw[hp] at h2 HZ
   obtain⟨v,rfl,hn⟩:=h2
   obtain⟨l,A1,n1,c1,A2,n2,c2,A3,n3,c3,rfl⟩:=hn.agg
   have hw1:=K1.out.size
   have HN:=Lib.hid (hn.base (B':=w.heap.size) hw1)
   clear hn hp hw1
   go_wp2
   have hf:=heap_old (set4_heap R2.out rfl (.bool l) (.slice A1 n1 c1) (.slice A2 n2 c2) (.slice A3 n3 c3)) (.cells #[.bool l,.slice A1 n1 c1,.slice A2 n2 c2,.slice A3 n3 c3] 148)
   have hst:=set4_kept w2 w.heap.size (.bool l) (.slice A1 n1 c1) (.slice A2 n2 c2) (.slice A3 n3 c3)
   obtain⟨q0,q1,q2,q3⟩:=nd_cells hf
   refine bodyPost_ret (v:=.tuple #[.agg #[.bool l,.slice A1 n1 c1,.slice A2 n2 c2,.slice A3 n3 c3],.int .i64 0]) (by simp[results,Tryz.f123,go_sem,q0,q1,q2,q3]) rfl ?_
   refine⟨(K2.out.then hst fun i hi e=>by omega).alloc _,_,by rw[HZ.out],?_⟩
   rw[HZ.out]
   exact(HN.out.keptB R2.out hst (fun _ h=>h)).kept ((Kept.refl _ _).alloc _)
 ·have HZ:Hid (X.load pid=(nd0,e1)):=by show _=_;rw[HLd.out,if_pos hz]
  have hz1:(e1 == 0)=false:=by rw[beq_eq_false_iff_ne];exact hz
  have hz2:(e1 != 0)=true:=by rw[bne_iff_ne];exact hz
  clear hz HLd he1
  obtain⟨r0,r1,r2,r3⟩:=nd_cells R1.out
  have fr:∀i,w1.frozen? ⟨w.heap.size,i,none⟩=false:=fun i=>free_heap R1.out i
  go_wp2
  refine bodyPost_ret (v:=.tuple #[.agg zeroNd,.int .i64 e1]) (by simp[results,Tryz.f123,go_sem,r0,r1,r2,r3,zeroNd]) rfl ?_
  have kk:Kept (· = w.heap.size) w1 ((((w1.setCell ⟨w.heap.size,0,none⟩ (.bool false)).setCell ⟨w.heap.size,1,none⟩ (.slice none 0 0)).setCell ⟨w.heap.size,2,none⟩ (.slice none 0 0)).setCell ⟨w.heap.size,3,none⟩ (.slice none 0 0)):=((((Kept.refl (· = w.heap.size) w1).set1 0 _).set1 1 _).set1 2 _).set1 3 _
  exact⟨K1.out.then kk fun i hi e=>by omega,.agg zeroNd,by rw[HZ.out],by rw[HZ.out];exact nd0_is _ _⟩
theorem TreeLoadX_calls {w q X root} (h:TW w q X root) (pid:Int):Calls Tryz.prog 85 #[.pointer (some ⟨q.t,0,none⟩),.int .i64 pid] w (LoadTo (X.load pid) w):=by
 have C:=Lib.hid fun w' (kk:Kept (fun _=>False) w w')=>TreeLoad_calls (h.keptF kk) pid
 obtain⟨t,st,b,c,m,d,vs,vc,p,g⟩:=q
 dsimp only at C⊢
 clear h
 go_enter Tryz.func85,Tryz.ntmps85
 go_wp2_with fail
 refine(C.out _ (by repeat (first|exact Kept.refl _ _|refine Kept.alloc ?_ _))).mono ?_
 rintro e w1 ⟨k1,v,rfl,hn⟩
 obtain⟨l,A1,n1,c1,A2,n2,c2,A3,n3,c3,rfl⟩:=hn.agg
 have R1:=Lib.hid (k1.heap (heap_new w (.cells zeroNd 148)) not_false)
 have K1:=Lib.hid (((Kept.refl (fun _=>False) w).alloc _).trans k1)
 have HN:=Lib.hid (hn.base (B':=w.heap.size) (by simp))
 obtain⟨r0,r1,r2,r3⟩:=nd_cells R1.out
 have fr:∀i,w1.frozen? ⟨w.heap.size,i,none⟩=false:=fun i=>free_heap R1.out i
 clear k1 hn C
 go_wp2
 have hst:=set4_kept w1 w.heap.size (.bool l) (.slice A1 n1 c1) (.slice A2 n2 c2) (.slice A3 n3 c3)
 refine bodyPost_ret (v:=.tuple #[.agg #[.bool l,.slice A1 n1 c1,.slice A2 n2 c2,.slice A3 n3 c3],.int .i64 (X.load pid).2]) (by simp[results,Tryz.f85,go_sem,r0,r1,r2,r3]) rfl ?_
 exact⟨K1.out.then hst fun i hi e=>by omega,_,rfl,HN.out.keptB R1.out hst (fun _ h=>h)⟩
end Go.Proofs.YtfgjehecjgebdaaGreat
/- The tree: the way down. -/
namespace Go.Proofs.YtfgjehecjgebdaaGreat
open Go.RowKit Go.Maps Go.ChangeMaps
set_option maxHeartbeats 4000000
set_option maxRecDepth 100000
def rowsLt (v:Value) (E:Nat):Prop:=∀l A1 n1 c1 A2 n2 c2 A3 n3 c3,v = .agg #[.bool l,.slice A1 n1 c1,.slice A2 n2 c2,.slice A3 n3 c3]→(∀g,(Value.slice A1 n1 c1).ownBlock=some g→g < E)∧(∀g,(Value.slice A2 n2 c2).ownBlock=some g→g < E)∧(∀g,(Value.slice A3 n3 c3).ownBlock=some g→g < E)
theorem IsNd.lt {w B v n} (h:IsNd w B v n):rowsLt v w.heap.size:=by
 obtain⟨Ak,ck,Av,cv,Ai,ci,rfl,h1,h2,h3⟩:=h
 intro l A1 n1 c1 A2 n2 c2 A3 n3 c3 e
 unfold ndV at e
 injection e with e
 injection e with e
 injection e with e0 e
 injection e with e1 e
 injection e with e2 e
 injection e with e3 e
 rw[←e1, ←e2, ←e3]
 exact⟨fun g hg=>own_lt h1 hg,fun g hg=>own_lt h2 hg,fun g hg=>own_lt h3 hg⟩
theorem rowsLt.mono {v E E'} (h:rowsLt v E) (he:E≤E'):rowsLt v E':=fun l A1 n1 c1 A2 n2 c2 A3 n3 c3 e=>by
 obtain⟨a,b,c⟩:=h l A1 n1 c1 A2 n2 c2 A3 n3 c3 e
 exact⟨fun g hg=>Nat.lt_of_lt_of_le (a g hg) he,fun g hg=>Nat.lt_of_lt_of_le (b g hg) he,fun g hg=>Nat.lt_of_lt_of_le (c g hg) he⟩
theorem IsNd.keptZ {w w' B E v n} {S:Nat→Prop} (h:IsNd w B v n) (hE:rowsLt v E) (k:Kept S w w') (hs:∀b,S b→b < B∨E≤b):IsNd w' B v n:=by
 obtain⟨Ak,ck,Av,cv,Ai,ci,rfl,h1,h2,h3⟩:=h
 obtain⟨a,b,c⟩:=hE _ _ _ _ _ _ _ _ _ _ rfl
 refine⟨Ak,ck,Av,cv,Ai,ci,rfl,SRow.kept h1 k fun g hg hS=>?_,SRow.kept h2 k fun g hg hS=>?_,IRow.kept h3 k fun g hg hS=>?_⟩
 ·have:=own_ge h1 hg;have:=a g hg;rcases hs g hS with h|h<;>omega
 ·have:=own_ge h2 hg;have:=b g hg;rcases hs g hS with h|h<;>omega
 ·have:=own_ge h3 hg;have:=c g hg;rcases hs g hS with h|h<;>omega
structure StpAt (w:World) (B E:Nat) (cs:List Value) (i:Nat) (s:Stp) (v0 v1 v2 v3:Value):Prop where
 c0:cs[i * 6]? = some (.int .i64 s.id)
 c1:cs[i * 6 + 1]? = some (.int .i64 s.at_)
 c2:cs[i * 6 + 2]? = some v0
 c3:cs[i * 6 + 3]? = some v1
 c4:cs[i * 6 + 4]? = some v2
 c5:cs[i * 6 + 5]? = some v3
 nd:IsNd w B (.agg #[v0,v1,v2,v3]) s.n
 lt:rowsLt (.agg #[v0,v1,v2,v3]) E
def IsWay (w:World) (B E:Nat) (v:Value) (L:List Stp):Prop:=∃cs,w.ownsRow B 157 6 v L.length cs∧(∀g,v.ownBlock=some g→g < E) ∧ ∀i (hi:i < L.length), ∃v0 v1 v2 v3,StpAt w B E cs i L[i] v0 v1 v2 v3
theorem IsWay.nil (w:World) (B E:Nat):IsWay w B E (.slice none 0 0) []:=⟨[],World.ownsRow_nil _ _ _ _,(fun g hg=>by cases hg),fun i hi=>absurd hi (by simp)⟩
theorem IsWay.mono {w B E E' v L} (h:IsWay w B E v L) (he:E≤E'):IsWay w B E' v L:=by
 obtain⟨cs,h1,h2,h3⟩:=h
 refine⟨cs,h1,fun g hg=>Nat.lt_of_lt_of_le (h2 g hg) he,fun i hi=>?_⟩
 obtain⟨v0,v1,v2,v3,s⟩:=h3 i hi
 exact⟨v0,v1,v2,v3,s.c0,s.c1,s.c2,s.c3,s.c4,s.c5,s.nd,s.lt.mono he⟩
theorem IsWay.kept {w w' B E v L} {S:Nat→Prop} (h:IsWay w B E v L) (k:Kept S w w') (hs:∀b,S b→b < B∨E≤b):IsWay w' B E v L:=by
 obtain⟨cs,h1,h2,h3⟩:=h
 refine⟨cs,k.own h1 fun g hg hS=>?_,h2,fun i hi=>?_⟩
 ·have:=own_ge h1 hg
  have:=h2 g hg
  rcases hs g hS with h|h<;>omega
 ·obtain⟨v0,v1,v2,v3,s⟩:=h3 i hi
  exact⟨v0,v1,v2,v3,s.c0,s.c1,s.c2,s.c3,s.c4,s.c5,s.nd.keptZ s.lt k hs,s.lt⟩
theorem IsWay.keptF {w w' B E v L} (h:IsWay w B E v L) (k:Kept (fun _=>False) w w'):IsWay w' B E v L:=h.kept k fun _=>False.elim
theorem IsWay.slice {w B E v L} (h:IsWay w B E v L):∃A c,v = .slice A L.length c:=by
 obtain⟨cs,h1,_⟩:=h
 rcases h1.2 with⟨rfl,hn⟩|⟨g,cap,cur,rfl,_⟩
 ·exact⟨none,0,by rw[hn]⟩
 ·exact⟨_,cap,rfl⟩
theorem own_neT {w:World} {B B' s s':Nat} {e e':TypeId} {v v':Value} {n n':Nat} {xs xs':List Value} (h:w.ownsRow B e s v n xs) (h':w.ownsRow B' e' s' v' n' xs') (hT:e ≠ e'):∀b,v.ownBlock=some b → ¬v'.ownBlock=some b:=by
 intro b hb hb'
 rcases h.2 with⟨rfl,_⟩|⟨g,cap,cur,rfl,_,hh,_⟩
 ·cases hb
 rcases h'.2 with⟨rfl,_⟩|⟨g',cap',cur',rfl,_,hh',_⟩
 ·cases hb'
 injection hb with hb
 injection hb' with hb'
 subst hb hb'
 rw[hh] at hh'
 injection hh' with hh'
 injection hh' with _ e _
 exact hT e
theorem own_neH {w:World} {B s:Nat} {e:TypeId} {v:Value} {n:Nat} {xs:List Value} (h:w.ownsRow B e s v n xs) {g:Nat} {cs:Array Value} {T:TypeId} {f:Nat×Nat} (hg:w.heap[g]? = some (.cells cs T f)) (hT:T ≠ e):∀b,v.ownBlock=some b→b ≠ g:=by
 rintro b hb rfl
 rcases h.2 with⟨rfl,_⟩|⟨g',cap,cur,rfl,_,hh,_⟩
 ·cases hb
 ·injection hb with hb
  subst hb
  rw[hh] at hg
  injection hg with hg
  injection hg with _ e _
  exact hT e.symm
theorem IsNd.keptR {w w' B v n} (h:IsNd w B v n) {B' sz m:Nat} {e:TypeId} {u:Value} {xs:List Value} (hr:w.ownsRow B' e sz u m xs) (h1:9 ≠ e) (h2:3 ≠ e) (k:Kept (fun k=>u.ownBlock=some k) w w'):IsNd w' B v n:=by
 obtain⟨Ak,ck,Av,cv,Ai,ci,rfl,r1,r2,r3⟩:=h
 exact⟨Ak,ck,Av,cv,Ai,ci,rfl,SRow.kept r1 k (own_neT r1 hr h1),SRow.kept r2 k (own_neT r2 hr h1),IRow.kept r3 k (own_neT r3 hr h2)⟩
theorem reads_six (w:World) (u0 u1 u2 u3 u4 u5:Value) (e:TypeId):Reads (w.alloc (.cells #[u0,u1,u2,u3,u4,u5] e)) (w.heap.size + 1) 6 (some ⟨w.heap.size,0,none⟩) 1 [u0,u1,u2,u3,u4,u5] :=
 ⟨rfl,fun _=>⟨_,rfl,Nat.lt_succ_self _,fun j x hj=>by
  rw[Addr.add_lit]
  have hh:=heap_new w (.cells #[u0,u1,u2,u3,u4,u5] e)
  rw[show 0 + j=j by omega,cell_heap hh]
  rw[←hj]
  rcases j with _|_|_|_|_|_|j<;>rfl⟩⟩
theorem step_parts:∃i,Tryz.prog.info? 157=some i∧i.zero=some (.agg #[.int .i64 0,.int .i64 0,.bool false,.slice none 0 0,.slice none 0 0,.slice none 0 0])∧i.size=6∧i.bytes=96 :=
 info_parts (by kernel_rfl:(Tryz.prog.info? 157).map (fun i=>(i.zero,i.size,i.bytes))=some (some (.agg #[.int .i64 0,.int .i64 0,.bool false,.slice none 0 0,.slice none 0 0,.slice none 0 0]),6,96))
theorem way_snoc {w W w':World} {B E:Nat} {v v':Value} {L:List Stp} {cs:List Value} (h1:w.ownsRow B 157 6 v L.length cs) (h3:∀i (hi:i < L.length), ∃v0 v1 v2 v3,StpAt w B E cs i L[i] v0 v1 v2 v3) (k0:Kept (fun _=>False) w W) (hE:E≤W.heap.size) {s:Stp} {v0 v1 v2 v3:Value} (hn:IsNd w B (.agg #[v0,v1,v2,v3]) s.n) (hlt:rowsLt (.agg #[v0,v1,v2,v3]) E)
  (ho:w'.ownsRow B 157 6 v' (L.length + 1) (cs ++ [.int .i64 s.id,.int .i64 s.at_,v0,v1,v2,v3])) (h2:W.grownBy w' v.ownBlock) :
  IsWay w' B w'.heap.size v' (L ++ [s])∧Kept (fun k=>v.ownBlock=some k) w w':=by
 have kg:Kept (fun k=>v.ownBlock=some k) w w':=(k0.mono fun _ _=>False.elim).trans ⟨h2.os,h2.tape,h2.output,h2.size,fun k hk' hne=>h2.block k hk' fun e=>hne e.symm⟩
 have hEw:E≤w'.heap.size:=Nat.le_trans hE h2.size
 have hcs:cs.length=L.length * 6:=h1.1
 refine⟨⟨cs ++ [.int .i64 s.id,.int .i64 s.at_,v0,v1,v2,v3],by rw[List.length_append];exact ho,fun g hg=>own_lt ho hg,fun i hi=>?_⟩,kg⟩
 rw[List.length_append,List.length_singleton] at hi
 by_cases hl:i < L.length
 ·obtain⟨u0,u1,u2,u3,q⟩:=h3 i hl
  have e:(L ++ [s])[i]'(by simp;omega)=L[i]:=List.getElem_append_left hl
  rw[e]
  have ap:∀(j:Nat) (x:Value),cs[j]? = some x→(cs ++ [.int .i64 s.id,.int .i64 s.at_,v0,v1,v2,v3])[j]? = some x:=fun j x hx=>by
   rw[List.getElem?_append_left (List.getElem?_eq_some_iff.1 hx).1];exact hx
  exact⟨u0,u1,u2,u3,ap _ _ q.c0,ap _ _ q.c1,ap _ _ q.c2,ap _ _ q.c3,ap _ _ q.c4,ap _ _ q.c5,q.nd.keptR h1 (by decide) (by decide) kg,q.lt.mono hEw⟩
 ·obtain rfl:i=L.length:=by omega
  have e:(L ++ [s])[L.length]'(by simp)=s:=by simp
  rw[e]
  have ap:∀(j:Nat) (x:Value),([.int .i64 s.id,.int .i64 s.at_,v0,v1,v2,v3]:List Value)[j]? = some x→(cs ++ [.int .i64 s.id,.int .i64 s.at_,v0,v1,v2,v3])[L.length * 6 + j]? = some x:=fun j x hx=>by
   rw[List.getElem?_append_right (by omega),hcs,show L.length * 6 + j - L.length * 6=j by omega];exact hx
  exact⟨v0,v1,v2,v3,ap 0 _ rfl,ap 1 _ rfl,ap 2 _ rfl,ap 3 _ rfl,ap 4 _ rfl,ap 5 _ rfl,hn.keptR h1 (by decide) (by decide) kg,hlt.mono hEw⟩
def sliceLen:Value→Nat
 | .slice _ n _=>n
 | _=>0
def DownTo (r:List Stp×Int) (w:World) (e:Ending) (w':World):Prop:=Kept (fun _=>False) w w' ∧ ∃v,e = .returned (.tuple #[v,.int .i64 r.2])∧IsWay w' w.heap.size w'.heap.size v r.1
theorem TreeDown_calls {w q X} {root:Nat} (h:TW w q X root) (k:Bs):Calls Tryz.prog 87 #[.pointer (some ⟨q.t,0,none⟩),.string (ba k)] w (DownTo (downT X k 12 root) w):=by
 have CL:=Lib.hid fun w' (kk:Kept (fun _=>False) w w') (pid:Int)=>TreeLoad_calls (h.keptF kk) pid
 have hres:Hid (∀f id,(downT X k f id).2 ≠ 0→(downT X k f id).1 = []):=by
  intro f id h0
  cases f with
  | zero=>rfl
  | succ f =>
   rw[downT] at h0⊢
   split
   ·rfl
   ·next h1 =>
    rw[if_neg h1] at h0
    split
    ·next h2=>rw[if_pos h2] at h0;exact absurd rfl h0
    ·next h2 =>
     rw[if_neg h2] at h0
     split
     ·rfl
     ·next h3=>rw[if_neg h3] at h0;exact absurd rfl h0
 obtain⟨R,hR⟩:∃R,R=downT X k 12 root:=⟨_,rfl⟩
 rw[←hR]
 have HR0:Hid (joinW [] (downT X k (12 - 0) root)=R):=by
  show _=_
  rw[hR]
  unfold joinW
  split
  ·next h0=>rw[Prod.ext_iff];exact⟨(hres.out _ _ h0).symm,rfl⟩
  ·next h0=>rw[Prod.ext_iff];exact⟨by simp,(Classical.not_not.1 h0).symm⟩
 obtain⟨t,st,b,c,m,d,vs,vc,p,g⟩:=q
 dsimp only at CL⊢
 have htree:w.heap[t]? = some (.cells #[.pointer (some ⟨st,0,none⟩),.int .i64 root] 152 (0,0)):=h.tree
 have t1:w.cell? ⟨t,1,none⟩=some (.int .i64 root):=(cell_heap htree 1).trans rfl
 have htl:=lt_heap htree
 obtain⟨i0,hi0,hz0,hs0,hb0⟩:=step_parts
 obtain⟨ks,hks⟩:∃s,s=ba k:=⟨_,rfl⟩
 rw[←hks]
 have HKS:=Lib.hid hks
 have HI:=Lib.hid hi0;have HIz:=Lib.hid hz0;have HIs:=Lib.hid hs0;have HIb:=Lib.hid hb0
 clear htree h hR hks hi0 hz0 hs0 hb0
 go_enter Tryz.func87,Tryz.ntmps87
 go_wp2
 go_loopw [6,7] (fun v i wr=>∃(pre:List Stp) (pid:Nat),pre.length≤12∧i = .int .i64 pid∧Hid (IsWay wr w.heap.size wr.heap.size v pre)∧Hid (joinW pre (downT X k (12 - pre.length) pid)=R)∧Hid (Kept (fun _=>False) w wr)) (fun v _ _=>12 - sliceLen v)
 case atStart=>exact⟨[],root,by simp,rfl,IsWay.nil _ _ _,HR0,Kept.refl _ _⟩
 case round =>
  obtain⟨pre,pid,hp,rfl,hw,hj,hk⟩:=hrel
  obtain⟨A6,c6,rfl⟩:=hw.out.slice
  obtain⟨pl,hpl⟩:∃n,n=pre.length:=⟨_,rfl⟩
  rw[←hpl] at hp hw hj⊢
  have HPL:=Lib.hid hpl
  clear hpl
  by_cases hlt:pl < 12
  ·have CL2:=Lib.hid (CL.out wr hk.out (pid:Int))
   obtain⟨ln,hln⟩:∃n,n=(X.load pid).1:=⟨_,rfl⟩
   obtain⟨le,hle⟩:∃n,n=(X.load pid).2:=⟨_,rfl⟩
   unfold LoadTo at CL2
   rw[←hln, ←hle] at CL2
   have HLN:=Lib.hid hln;have HLE:=Lib.hid hle
   clear hln hle
   go_wp2_with fail
   refine CL2.out.mono ?_
   rintro e w1 ⟨k1,v1,rfl,hn1⟩
   obtain⟨l,A1,n1,c1,A2,n2,c2,A3,n3,c3,rfl,HNE, -, -, -,NR3⟩:=hn1.opened
   have K1:=Lib.hid (hk.out.trans k1)
   have W1:=Lib.hid (hw.out.keptF k1)
   have N1:=Lib.hid hn1
   have hk1s:=k1.size
   clear hn1 k1 CL2
   by_cases hz:le=0
   ·have hok:ln.Ok:=by rw[HLN.out];exact load_ok (by rw[←HLE.out];exact hz)
    have hsm:=hok.sm
    have CF:=Lib.hid fun w' (kk:Kept (fun _=>False) w1 w')=>NdFind_calls (N1.out.kept kk) hsm hok.up k
    obtain⟨fk,hfk⟩:∃n,n=ln.find k:=⟨_,rfl⟩
    have hfle:=find_le ln k hok.up
    rw[←hfk] at CF hfle
    rw[←HKS.out] at CF
    have HFK:=Lib.hid hfk;have HOK:=Lib.hid hok;have HFL:=Lib.hid hfle
    subst hz
    clear hfk hsm hok hfle
    go_wp2_with fail
    refine(CF.out _ (by repeat (first|exact Kept.refl _ _|refine Kept.alloc ?_ _))).mono ?_
    rintro e w2 ⟨rfl,k2⟩
    have hb1:=k2.heap (heap_new w1 (.cells #[.bool l,.slice A1 n1 c1,.slice A2 n2 c2,.slice A3 n3 c3] 148)) not_false
    have K12:=Lib.hid (((Kept.refl (fun _=>False) w1).alloc (.cells #[.bool l,.slice A1 n1 c1,.slice A2 n2 c2,.slice A3 n3 c3] 148)).trans k2)
    obtain⟨d0,d1,d2,d3⟩:=nd_cells hb1
    have hsz2:=lt_heap hb1
    have HB1:=Lib.hid hb1
    have W2:=Lib.hid ((W1.out.keptF K12.out).mono (E':=w2.heap.size) (by have:=K12.out.size;omega))
    have N2:=Lib.hid ((N1.out.kept K12.out).base hk.out.size)
    clear k2 CF hb1
    obtain⟨cs,ho,hog,hst⟩:=W2.out
    have HO:=Lib.hid ho
    have HST:=Lib.hid hst
    have HLT:Hid (rowsLt (.agg #[.bool l,.slice A1 n1 c1,.slice A2 n2 c2,.slice A3 n3 c3]) w2.heap.size):=N2.out.lt
    have OWN:Hid ((w2.alloc (.cells #[.int .i64 pid,.int .i64 fk,.bool l,.slice A1 n1 c1,.slice A2 n2 c2,.slice A3 n3 c3] 157)).ownsRow w.heap.size 157 6 (.slice A6 pl c6) pl cs):=by
     have h:=((Kept.refl (fun _=>False) w2).alloc (.cells #[.int .i64 pid,.int .i64 fk,.bool l,.slice A1 n1 c1,.slice A2 n2 c2,.slice A3 n3 c3] 157)).own ho (fun _ _=>id)
     rw[←HPL.out] at h
     exact h
    have HSP:Hid (w.heap.size≤w2.heap.size):=by have:=K1.out.size;have:=K12.out.size;show _≤_;omega
    have HSP2:Hid (w.heap.size≤(w2.alloc (.cells #[.int .i64 pid,.int .i64 fk,.bool l,.slice A1 n1 c1,.slice A2 n2 c2,.slice A3 n3 c3] 157)).heap.size):=by have:=HSP.out;show _≤_;simp;omega
    have HSP3:Hid (w2.heap.size≤(w2.alloc (.cells #[.int .i64 pid,.int .i64 fk,.bool l,.slice A1 n1 c1,.slice A2 n2 c2,.slice A3 n3 c3] 157)).heap.size):=by show _≤_;simp
    have HNO:Hid (∀b,(Value.slice A6 pl c6).ownBlock=some b→b ≠ w1.heap.size):=own_neH HO.out HB1.out (by decide)
    have RD:=Lib.hid (reads_six w2 (.int .i64 pid) (.int .i64 fk) (.bool l) (.slice A1 n1 c1) (.slice A2 n2 c2) (.slice A3 n3 c3) 157)
    have ON1:Hid (∀u ∈ [.int .i64 (pid:Int),.int .i64 (fk:Int),.bool l,.slice A1 n1 c1,.slice A2 n2 c2,.slice A3 n3 c3],Value.oneCell' u=true):=by show ∀ _,_;simp[Value.oneCell']
    have M1:Hid (pl + 1≤maxLen):=by show _≤_;unfold maxLen;omega
    have M2:Hid ((pl + 1) * 96≤140737488355328):=by show _≤_;omega
    clear ho hog hst
    have K2:Hid (Kept (fun _=>False) w w2):=K1.out.trans K12.out
    cases l
    ·have hnl:ln.leaf=false:=HNE.out.1.symm
     have hkk:ln.keys.length + 1=ln.kids.length:=(HOK.out.inner hnl).2.1
     have hfk3:fk < ln.kids.length:=by have:=HFL.out;omega
     have NR3':Hid (IRow w2 wr.heap.size (.slice A3 n3 c3) ln.kids):=NR3.out.keptF K12.out
     obtain⟨g3,c3',e3'⟩:=own_form NR3'.out (by omega)
     injection e3' with e3a e3b e3c
     subst e3a
     have hfk4:fk < n3:=by omega
     have q3:Hid (w2.cell? ⟨g3,fk,none⟩=some (.int .i64 (ln.kids[fk]:Nat))):=NR3'.out.atI hfk3
     obtain⟨kid,hkid⟩:∃x,x=ln.kids[fk]:=⟨_,rfl⟩
     rw[←hkid] at q3
     have HKD:Hid (ln.kids.getD fk 0=kid):=by show _=_;rw[hkid];simp[List.getD,hfk3]
     have hg3:Hid (g3 < w2.heap.size):=own_lt NR3'.out rfl
     have HNK:Hid (¬(Value.slice A6 pl c6).ownBlock=some g3):=own_neT NR3'.out HO.out (by decide) g3 rfl
     have HNL:=Lib.hid hnl
     clear e3b e3c hkid hnl hkk hfk3
     go_wp2_with (at_builtin;(refine wpList_append_any _ rfl (.tmp 34) (.tmp 39) 153 rfl w.heap.size 157 i0 (.agg #[.int .i64 0,.int .i64 0,.bool false,.slice none 0 0,.slice none 0 0,.slice none 0 0]) 6 96 Tryz.underlying153 HI.out HIz.out HIs.out HIb.out rfl (by decide) (.slice A6 pl c6) pl cs rfl OWN.out _ _ 1 1 _ rfl RD.out ON1.out M1.out M2.out HSP2.out ?_;intro v' w3 hv' hg' hob;clear hob;rw[HPL.out] at hv';obtain⟨w4,kz⟩:=way_snoc (s:=⟨pid,fk,ln⟩) HO.out HST.out ((Kept.refl (fun _=>False) w2).alloc (.cells #[.int .i64 pid,.int .i64 fk,.bool false,.slice A1 n1 c1,.slice A2 n2 c2,.slice (some ⟨g3,0,none⟩) n3 c3] 157)) HSP3.out N2.out HLT.out hv' hg';have W4:=Lib.hid w4;have KZ:=Lib.hid kz;obtain⟨e0,e1,e2,e3⟩:=nd_cells (kz.heap HB1.out fun e=>HNO.out _ e rfl);have q4:w3.cell? ⟨g3,fk,none⟩=some (.int .i64 kid):=(World.cell?_of_block (kz.block g3 hg3.out HNK.out)).trans q3.out;clear hv' hg' w4 kz d0 d1 d2 d3))
     have hj2:Hid (joinW (pre ++ [⟨pid,fk,ln⟩]) (downT X k (12 - (pre ++ [(⟨pid,fk,ln⟩:Stp)]).length) kid)=R):=by
      have h1:=hj.out
      rw[show 12 - pl=12 - (pl + 1) + 1 by omega,downT_step (by rw[←HLE.out]) (by rw[←HLN.out];exact HNL.out)] at h1
      rw[←HLN.out, ←HFK.out,HKD.out] at h1
      rw[List.length_append, ←HPL.out]
      exact h1
     have hk3:Hid (Kept (fun _=>False) w w3):=K2.out.then KZ.out fun i hi e=>by have:=own_ge HO.out e;omega
     go_roundw
     case rel=>exact⟨pre ++ [⟨pid,fk,ln⟩],kid,by have:=HPL.out;simp;omega,rfl,W4,hj2,hk3⟩
     case measure =>
      obtain⟨A9,c9,e9⟩:=W4.out.slice
      rw[e9]
      have:=HPL.out
      simp[sliceLen]
      omega
    ·go_wp2_with (at_builtin;(refine wpList_append_any _ rfl (.tmp 34) (.tmp 39) 153 rfl w.heap.size 157 i0 (.agg #[.int .i64 0,.int .i64 0,.bool false,.slice none 0 0,.slice none 0 0,.slice none 0 0]) 6 96 Tryz.underlying153 HI.out HIz.out HIs.out HIb.out rfl (by decide) (.slice A6 pl c6) pl cs rfl OWN.out _ _ 1 1 _ rfl RD.out ON1.out M1.out M2.out HSP2.out ?_;intro v' w3 hv' hg' hob;clear hob;rw[HPL.out] at hv';obtain⟨w4,kz⟩:=way_snoc (s:=⟨pid,fk,ln⟩) HO.out HST.out ((Kept.refl (fun _=>False) w2).alloc (.cells #[.int .i64 pid,.int .i64 fk,.bool true,.slice A1 n1 c1,.slice A2 n2 c2,.slice A3 n3 c3] 157)) HSP3.out N2.out HLT.out hv' hg';have W4:=Lib.hid w4;have KZ:=Lib.hid kz;obtain⟨e0,e1,e2,e3⟩:=nd_cells (kz.heap HB1.out fun e=>HNO.out _ e rfl);skip;clear hv' hg' w4 kz d0 d1 d2 d3))
     have HRf:Hid (R=(pre ++ [⟨pid,fk,ln⟩],0)):=by
      show _=_
      have h1:=hj.out
      rw[show 12 - pl=12 - (pl + 1) + 1 by omega,downT,if_neg (by rw[←HLE.out];simp),if_pos (by rw[←HLN.out];exact HNE.out.1.symm), ←HLN.out, ←HFK.out] at h1
      rw[←h1];rfl
     have hk3:Hid (Kept (fun _=>False) w w3):=K2.out.then KZ.out fun i hi e=>by have:=own_ge HO.out e;omega
     refine bodyPost_ret (v:=.tuple #[v',.int .i64 0]) (by simp[results,Tryz.f87,go_sem]) rfl ?_
     rw[HRf.out]
     exact⟨hk3.out,v',rfl,W4.out⟩
   ·have hz1:(le == 0)=false:=by rw[beq_eq_false_iff_ne];exact hz
    have hz2:(le != 0)=true:=by rw[bne_iff_ne];exact hz
    have HRf:Hid (R=([],le)):=by
     show _=_
     have h1:=hj.out
     rw[show 12 - pl=12 - (pl + 1) + 1 by omega,downT,if_pos (by rw[←HLE.out];exact hz), ←HLE.out] at h1
     rw[←h1]
     unfold joinW
     rw[if_pos hz]
    clear hz
    go_wp2
    refine bodyPost_ret (v:=.tuple #[.slice none 0 0,.int .i64 le]) (by simp[results,Tryz.f87,go_sem]) rfl ?_
    rw[HRf.out]
    exact⟨K1.out.alloc _,_,rfl,IsWay.nil _ _ _⟩
  ·obtain rfl:pl=12:=by omega
   have HRf:Hid (R=([],17)):=by
    show _=_
    have h1:=hj.out
    rw[show 12 - 12=0 by omega,downT] at h1
    rw[←h1];rfl
   go_wp2
   refine bodyPost_ret (v:=.tuple #[.slice none 0 0,.int .i64 17]) (by simp[results,Tryz.f87,go_sem]) rfl ?_
   rw[HRf.out]
   exact⟨hk.out,_,rfl,IsWay.nil _ _ _⟩
end Go.Proofs.YtfgjehecjgebdaaGreat
/- The tree: Get, Root, Store, Open. -/
namespace Go.Proofs.YtfgjehecjgebdaaGreat
open Go.RowKit Go.Maps Go.ChangeMaps
set_option maxHeartbeats 4000000
set_option maxRecDepth 100000
theorem TreeRoot_calls {w q X root} (h:TW w q X root):Calls Tryz.prog 41 #[.pointer (some ⟨q.t,0,none⟩)] w fun e w'=>e = .returned (.int .i64 root)∧w=w':=by
 have t1:w.cell? ⟨q.t,1,none⟩=some (.int .i64 root):=(cell_heap h.tree 1).trans rfl
 clear h
 go_enter Tryz.func41,Tryz.ntmps41
 go_wp2
 go_ret
 exact⟨rfl,rfl⟩
theorem TreeStore_calls {w q X root} (h:TW w q X root):Calls Tryz.prog 39 #[.pointer (some ⟨q.t,0,none⟩)] w fun e w'=>e = .returned (.pointer (some ⟨q.st,0,none⟩))∧w=w':=by
 have t1:w.cell? ⟨q.t,0,none⟩=some (.pointer (some ⟨q.st,0,none⟩)):=(cell_heap h.tree 0).trans rfl
 clear h
 go_enter Tryz.func39,Tryz.ntmps39
 go_wp2
 go_ret
 exact⟨rfl,rfl⟩
theorem TreeOpen_calls (st:Nat) (root:Int) (w:World):Calls Tryz.prog 33 #[.pointer (some ⟨st,0,none⟩),.int .i64 root] w fun e w'=>∃t,w.heap.size≤t∧e = .returned (.pointer (some ⟨t,0,none⟩))∧w'.heap[t]? = some (.cells #[.pointer (some ⟨st,0,none⟩),.int .i64 root] 152 (0,0))∧Kept (fun _=>False) w w':=by
 go_enter Tryz.func33,Tryz.ntmps33
 go_wp2
 go_ret
 exact⟨_,Nat.le_refl _,rfl,heap_new _ _,(Kept.refl _ _).alloc _⟩
theorem IsWay.at {w B E v L} (h:IsWay w B E v L) {i:Nat} (hi:i < L.length):∃g c v0 v1 v2 v3,v = .slice (some ⟨g,0,none⟩) L.length c∧g < w.heap.size∧w.cell? ⟨g,i * 6,none⟩=some (.int .i64 L[i].id)∧w.cell? ⟨g,i * 6 + 1,none⟩=some (.int .i64 L[i].at_) ∧
  w.cell? ⟨g,i * 6 + 2,none⟩=some v0∧w.cell? ⟨g,i * 6 + 3,none⟩=some v1∧w.cell? ⟨g,i * 6 + 4,none⟩=some v2∧w.cell? ⟨g,i * 6 + 5,none⟩=some v3∧IsNd w B (.agg #[v0,v1,v2,v3]) L[i].n∧rowsLt (.agg #[v0,v1,v2,v3]) E:=by
 obtain⟨cs,h1,h2,h3⟩:=h
 obtain⟨v0,v1,v2,v3,s⟩:=h3 i hi
 rcases h1.2 with⟨rfl,hn⟩|⟨g,cap,cur,rfl,hb,hh,hn,hm,hs,ht⟩
 ·omega
 ·have hc:∀(j:Nat) (x:Value),cs[j]? = some x→w.cell? ⟨g,j,none⟩=some x:=fun j x hx=>by
   rw[cell_heap hh]
   rw[←ht,List.getElem?_take] at hx
   split at hx
   ·rw[←hx,Array.getElem?_toList]
   ·cases hx
  exact⟨g,cap,v0,v1,v2,v3,rfl,lt_heap hh,hc _ _ s.c0,hc _ _ s.c1,hc _ _ s.c2,hc _ _ s.c3,hc _ _ s.c4,hc _ _ s.c5,s.nd,s.lt⟩
def GetTo (r:(Bs×Bool)×Int) (w:World) (e:Ending) (w':World):Prop:=e = .returned (.tuple #[.string (ba r.1.1),.bool r.1.2,.int .i64 r.2])∧Kept (fun _=>False) w w'
theorem TreeGet_neg {w q X root} (h:TW w q X root) (hr:root < 0) (k:Bs):Calls Tryz.prog 34 #[.pointer (some ⟨q.t,0,none⟩),.string (ba k)] w (GetTo (getT X root k) w):=by
 have t1:w.cell? ⟨q.t,1,none⟩=some (.int .i64 root):=(cell_heap h.tree 1).trans rfl
 have HG:Hid (getT X root k=(([],false),0)):=by show _=_;unfold getT;rw[if_pos hr]
 obtain⟨ks,hks⟩:∃s,s=ba k:=⟨_,rfl⟩
 rw[←hks]
 clear h hks
 go_enter Tryz.func34,Tryz.ntmps34
 go_wp2
 refine bodyPost_ret (v:=.tuple #[.string ⟨#[]⟩,.bool false,.int .i64 0]) (by simp[results,Tryz.f34,go_sem]) rfl ?_
 rw[HG.out]
 exact⟨rfl,Kept.refl _ _⟩
theorem TreeGet_nat {w q X} {root:Nat} (h:TW w q X root) (k:Bs):Calls Tryz.prog 34 #[.pointer (some ⟨q.t,0,none⟩),.string (ba k)] w (GetTo (getT X root k) w):=by
 have t1:w.cell? ⟨q.t,1,none⟩=some (.int .i64 root):=(cell_heap h.tree 1).trans rfl
 have hr:¬((root:Int) < 0):=by omega
 have CD:=Lib.hid (TreeDown_calls h k)
 obtain⟨R,hR⟩:∃R,R=downT X k 12 root:=⟨_,rfl⟩
 have HG:Hid (getT X root k=if R.2 ≠ 0 then (([],false),R.2) else (lastV R.1 k,0)):=by show _=_;unfold getT;rw[if_neg hr,Int.toNat_natCast, ←hR]
 have HWO:Hid (R.2=0→WayOk 12 k R.1):=fun h0=>by rw[hR] at h0⊢;exact downT_ok 12 root h0
 rw[←hR] at CD
 obtain⟨L,er⟩:=R
 unfold DownTo at CD
 dsimp only at CD HG HWO
 obtain⟨ks,hks⟩:∃s,s=ba k:=⟨_,rfl⟩
 rw[←hks] at CD⊢
 have HKS:=Lib.hid hks
 obtain⟨G,hG⟩:∃G,G=getT X root k:=⟨_,rfl⟩
 rw[←hG] at HG⊢
 clear h hks hR hG
 go_enter Tryz.func34,Tryz.ntmps34
 go_wp2_with fail
 refine CD.out.mono ?_
 rintro e w1 ⟨k1,v1,rfl,hw1⟩
 have K1:=Lib.hid k1
 clear k1 CD t1
 by_cases hz:er=0
 ·subst hz
  have hwo:=HWO.out rfl
  have hlen:0 < L.length:=List.length_pos_iff.2 hwo.ne
  have hl12:=hwo.len
  obtain⟨g,c,v0,u1,u2,u3,rfl,hg,c0,c1,c2,c3,c4,c5,hn, -⟩:=hw1.at (i:=L.length - 1) (by omega)
  obtain⟨s,hs⟩:∃s,s=L[L.length - 1]:=⟨_,rfl⟩
  rw[←hs] at c0 c1 hn
  have hlast:L.getLast? = some s:=by rw[List.getLast?_eq_getElem?,List.getElem?_eq_getElem (by omega),hs]
  have hok:=(hwo.ok s (by rw[hs];exact List.getElem_mem _)).1
  have hleaf:=hwo.last s hlast
  have HGv:Hid (G=(if k∈s.n.keys then (s.n.vals.getD (lbd s.n.keys k) [],true) else ([],false),0)):=by show _=_;rw[HG.out,if_neg (by simp)];unfold lastV;rw[hlast]
  obtain⟨l,A1,n1,c1',A2,n2,c2',A3,n3,c3',e,HE,N1,R1,R2, -⟩:=hn.opened
  injection e with e
  injection e with e
  injection e with e0 e
  injection e with e1 e
  injection e with e2 e
  injection e with e3 e
  subst e0 e1 e2 e3
  have CF:=Lib.hid fun w' (kk:Kept (fun _=>False) w1 w')=>NdFind_calls (N1.out.kept kk) hok.sm hok.up k
  rw[←HKS.out] at CF
  have hfind:s.n.find k=lbd s.n.keys k:=by simp[Nd.find,hleaf]
  rw[hfind] at CF
  obtain⟨m,hm⟩:∃m,m=L.length - 1:=⟨_,rfl⟩
  obtain⟨ll,hll⟩:∃m,m=L.length:=⟨_,rfl⟩
  have hlm:ll=m + 1:=by omega
  rw[←hm] at c0 c1 c2 c3 c4 c5
  rw[←hll]
  subst hlm
  have hm12:m≤11:=by omega
  have HVK:Hid (n2=n1∧n1=s.n.keys.length∧n2=s.n.vals.length):=by
   have:=hok.leaf hleaf
   have h1:=HE.out.2.1
   have h2:=HE.out.2.2.1
   exact⟨by omega,h1,h2⟩
  have HOK:=Lib.hid hok
  have HLe:=Lib.hid (lbd_le s.n.keys k)
  clear hw1 hwo hlen hl12 hs hlast hok hleaf hn hfind hm hll e HG HWO
  obtain⟨fk,hfk⟩:∃n,n=lbd s.n.keys k:=⟨_,rfl⟩
  rw[←hfk] at CF HLe
  have HFK:=Lib.hid hfk
  clear hfk
  by_cases hm:k∈s.n.keys
  ·have hfk1:Hid (fk < s.n.vals.length):=by
    have h1:=((up_mem HOK.out.up).1 hm).1
    have h2:=HVK.out
    have h3:=HFK.out
    show _ < _
    omega
   have HGy:Hid (G=((s.n.vals.getD fk [],true),0)):=by show _=_;rw[HGv.out,if_pos hm,HFK.out]
   rw[decide_eq_true hm] at CF
   obtain⟨gv,cv,ev⟩:=own_form R2.out (by have:=hfk1.out;omega)
   injection ev with e1 e2 e3
   subst e1
   clear e2 e3
   have hfn:fk < n2:=by have:=hfk1.out;have:=HVK.out;omega
   have HVE:Hid (s.n.vals.getD fk []=s.n.vals[fk]'hfk1.out):=by show _=_;simp[List.getD,hfk1.out]
   obtain⟨tv,htv⟩:∃t,t=ba (s.n.vals[fk]'hfk1.out):=⟨_,rfl⟩
   have q1:w1.cell? ⟨gv,fk,none⟩=some (.string tv):=by rw[htv];exact SRow.at_ R2.out hfk1.out
   have HTV:=Lib.hid htv
   have hgv:gv < w1.heap.size:=own_lt R2.out rfl
   clear hm htv
   go_wp2_with fail
   refine(CF.out _ (by repeat (first|exact Kept.refl _ _|refine Kept.alloc ?_ _))).mono ?_
   rintro e w2 ⟨rfl,k2⟩
   have hb:=k2.heap (heap_new w1 (.cells #[.int .i64 s.id,.int .i64 s.at_,.bool l,.slice A1 n1 c1',.slice (some ⟨gv,0,none⟩) n2 c2',.slice A3 n3 c3'] 157)) not_false
   have K2:=Lib.hid (((Kept.refl (fun _=>False) w1).alloc (.cells #[.int .i64 s.id,.int .i64 s.at_,.bool l,.slice A1 n1 c1',.slice (some ⟨gv,0,none⟩) n2 c2',.slice A3 n3 c3'] 157)).trans k2)
   have d4:w2.cell? ⟨w1.heap.size,4,none⟩=some (.slice (some ⟨gv,0,none⟩) n2 c2'):=(cell_heap hb 4).trans rfl
   have q2:w2.cell? ⟨gv,fk,none⟩=some (.string tv):=(World.cell?_of_block (K2.out.block gv hgv not_false)).trans q1
   clear hb k2 q1 c0 c1 c2 c3 c4 c5
   go_wp2
   refine bodyPost_ret (v:=.tuple #[.string tv,.bool true,.int .i64 0]) (by simp[results,Tryz.f34,go_sem]) rfl ?_
   refine⟨?_,K1.out.trans K2.out⟩
   rw[HGy.out,HVE.out,HTV.out]
  ·have HGn:Hid (G=(([],false),0)):=by show _=_;rw[HGv.out,if_neg hm]
   rw[decide_eq_false hm] at CF
   clear hm
   go_wp2_with fail
   refine(CF.out _ (by repeat (first|exact Kept.refl _ _|refine Kept.alloc ?_ _))).mono ?_
   rintro e w2 ⟨rfl,k2⟩
   have K2:=Lib.hid (((Kept.refl (fun _=>False) w1).alloc (.cells #[.int .i64 s.id,.int .i64 s.at_,.bool l,.slice A1 n1 c1',.slice A2 n2 c2',.slice A3 n3 c3'] 157)).trans k2)
   clear k2
   go_wp2
   refine bodyPost_ret (v:=.tuple #[.string ⟨#[]⟩,.bool false,.int .i64 0]) (by simp[results,Tryz.f34,go_sem]) rfl ?_
   refine⟨?_,K1.out.trans K2.out⟩
   rw[HGn.out];rfl
 ·have HGv:Hid (G=(([],false),er)):=by show _=_;rw[HG.out,if_pos hz]
  have hz1:(er == 0)=false:=by rw[beq_eq_false_iff_ne];exact hz
  have hz2:(er != 0)=true:=by rw[bne_iff_ne];exact hz
  clear hz HG HWO
  go_wp2
  refine bodyPost_ret (v:=.tuple #[.string ⟨#[]⟩,.bool false,.int .i64 er]) (by simp[results,Tryz.f34,go_sem]) rfl ?_
  rw[HGv.out]
  exact⟨rfl,K1.out⟩
theorem TreeGet_calls {w q X root} (h:TW w q X root) (k:Bs):Calls Tryz.prog 34 #[.pointer (some ⟨q.t,0,none⟩),.string (ba k)] w (GetTo (getT X root k) w):=by
 by_cases hr:root < 0
 ·exact TreeGet_neg h hr k
 ·obtain⟨r,rfl⟩:=Int.eq_ofNat_of_zero_le (a:=root) (by omega)
  exact TreeGet_nat h k
end Go.Proofs.YtfgjehecjgebdaaGreat
/- The tree's changes: put. -/
namespace Go.Proofs.YtfgjehecjgebdaaGreat
open Go.RowKit Go.Maps Go.ChangeMaps
set_option maxHeartbeats 4000000
set_option maxRecDepth 100000
structure WkW (w:World) (q:TQ) (wk:Nat) (vf vo:Value) (W:Wk) (root:Int) (Z:Nat):Prop where
 tw:TW w q W.X root
 blk:w.heap[wk]? = some (.cells #[.pointer (some ⟨q.t,0,none⟩),vf,vo] 162 (0,0))
 rf:IRow w Z vf W.fresh
 ro:IRow w Z vo W.old
 ne:∀b,vo.ownBlock=some b→vf.ownBlock ≠ some b
theorem WkW.keptF {w w' q wk vf vo W root Z} (h:WkW w q wk vf vo W root Z) (k:Kept (fun _=>False) w w'):WkW w' q wk vf vo W root Z :=
 ⟨h.tw.keptF k,k.heap h.blk not_false,h.rf.keptF k,h.ro.keptF k,h.ne⟩
def stoPut (X:Sto) (t:Bs):(Nat×Int)×Sto :=
 if 248 < t.length then ((0,3),X) else match tkAt X.l with
  | none=>((0,7),X)
  | some i=>((i,0), { X with l:=X.l.set i 2,T:=upd X.T i t })
theorem putP_eq (W:Wk) (n:Nd):putP W n=((stoPut W.X n.text).1,if (stoPut W.X n.text).1.2=0 then { W with X:=(stoPut W.X n.text).2,fresh:=W.fresh ++ [(stoPut W.X n.text).1.1] } else W):=by
 unfold putP stoPut
 split
 ·rfl
 ·cases tkAt W.X.l<;>rfl
theorem tk_lt {l:List Nat} {i:Nat} (h:tkAt l=some i):i < l.length∧l.getD i 0=0:=by
 unfold tkAt at h
 obtain⟨h1,h2,_⟩:=List.findIdx?_eq_some_iff_getElem.1 h
 exact⟨h1,by simpa[List.getD,h1] using h2⟩
theorem TW.put {w w' q X root} (h:TW w q X root) (t:Bs) {e:Ending} (hp:PutPost w q.st q.b q.c q.m q.d q.vs q.vc q.p q.g X t e w') :
  e = .returned (.tuple #[.int .i64 (stoPut X t).1.1,.int .i64 (stoPut X t).1.2])∧TW w' q (stoPut X t).2 root∧Kept (fun k=>k=q.c∨k=q.m) w w':=by
 obtain⟨hk,hp⟩:=hp
 have hhead:=h.sto.head
 have htc:q.t ≠ q.c:=by
  rintro e
  have h1:=h.tree
  rw[e,h.sto.sp.row] at h1
  injection h1 with h1
  injection h1 with _ e _
  exact absurd e (by decide)
 have htm:q.t ≠ q.m:=by
  obtain⟨es,clock,hm⟩:=h.sto.put.heap
  exact map_ne hm h.tree
 have htree:=hk.heap h.tree (by rintro(e|e);exact htc e;exact htm e)
 unfold stoPut
 by_cases hl:248 < t.length
 ·rw[if_pos hl] at hp⊢
  exact⟨hp.1,⟨hp.2,htree,h.up,h.secs,h.cache,h.txt⟩,hk⟩
 ·rw[if_neg hl] at hp⊢
  cases htk:tkAt X.l with
  | none =>
   rw[htk] at hp
   exact⟨hp.1,⟨hp.2,htree,h.up,h.secs,h.cache,h.txt⟩,hk⟩
  | some i =>
   rw[htk] at hp
   refine⟨hp.1,⟨hp.2,htree,h.up,h.secs,h.cache,fun j hj=>?_⟩,hk⟩
   show(upd X.T i t j).length≤248
   unfold upd
   split
   ·omega
   ·next hji =>
    refine h.txt j ?_
    have:(X.l.set i 2).getD j 0=2:=hj
    simpa[List.getD,List.getElem?_set_ne (Ne.symm hji)] using this
def alienT (T:TypeId):Bool:=decide (T ≠ 81∧T ≠ 179∧T ≠ 5∧T ≠ 136∧T ≠ 9∧T ≠ 138∧T ≠ 152)
def Alien (w:World) (S:Nat→Prop):Prop:=∀i,S i → ∃cs T f,w.heap[i]? = some (.cells cs T f)∧alienT T=true
theorem Alien.not {w S i cs T f} (h:Alien w S) (hh:w.heap[i]? = some (.cells cs T f)) (hT:alienT T=false):¬S i:=fun hs=>by
 obtain⟨cs',T',f',h1,h2⟩:=h i hs
 rw[hh] at h1
 injection h1 with h1
 injection h1 with _ e _
 rw[←e,hT] at h2;cases h2
theorem Alien.notRow {w S B e sz v n xs} (h:Alien w S) (hr:w.ownsRow B e sz v n xs) (hT:alienT e=false):∀g,v.ownBlock=some g → ¬S g:=fun g hg=>by
 obtain⟨cs,f,hh⟩:=own_type hr hg
 exact h.not hh hT
theorem TW.alien {w w' q X root} {S:Nat→Prop} (h:TW w q X root) (k:Kept S w w') (hs:Alien w S):TW w' q X root:=by
 obtain⟨c,hd⟩:=h.sto.dev.head
 refine⟨⟨k.heap h.sto.head (hs.not h.sto.head (by decide)),h.sto.sp.kept k (hs.not h.sto.sp.head (by decide)) (hs.not h.sto.sp.row (by decide)),h.sto.put.kept k ?_,h.sto.dev.kept k (hs.not hd (by decide)) (hs.notRow h.sto.dev.secs (by decide)) (hs.notRow h.sto.dev.cache (by decide)),h.sto.len,h.sto.lay⟩,k.heap h.tree (hs.not h.tree (by decide)),h.up,h.secs,h.cache,h.txt⟩
 intro hm
 obtain⟨es,clock,hh⟩:=h.sto.put.heap
 obtain⟨cs',T',f',h1,h2⟩:=hs _ hm
 exact map_ne hh h1 rfl
theorem Alien.row {w B e sz v n xs} (hr:w.ownsRow B e sz v n xs) (hT:alienT e=true):Alien w (fun k=>v.ownBlock=some k):=fun g hg=>by
 obtain⟨cs,f,hh⟩:=own_type hr hg
 exact⟨cs,e,f,hh,hT⟩
theorem Alien.one {w i cs T f} (hh:w.heap[i]? = some (.cells cs T f)) (hT:alienT T=true):Alien w (· = i):=fun g hg=>by
 subst hg
 exact⟨cs,T,f,hh,hT⟩
theorem stoPut_err {X:Sto} {t:Bs} (h:(stoPut X t).1.2 ≠ 0):(stoPut X t).2=X:=by
 unfold stoPut at *
 split
 ·rfl
 ·next hl =>
  rw[if_neg hl] at h
  cases htk:tkAt X.l with
  | none=>rfl
  | some i=>rw[htk] at h;exact absurd rfl h
def PutTo (r:(Nat×Int)×Wk) (w:World) (q:TQ) (wk:Nat) (vf vo:Value) (root:Int) (Z:Nat) (e:Ending) (w':World):Prop :=
 e = .returned (.tuple #[.int .i64 r.1.1,.int .i64 r.1.2]) ∧ ∃vf',WkW w' q wk vf' vo r.2 root Z∧Kept (fun k=>k=q.c∨k=q.m∨k=wk∨vf.ownBlock=some k) w w' ∧ ∀g,vf'.ownBlock=some g→vf.ownBlock=some g∨w.heap.size≤g
theorem wk_cells {w:World} {N:Nat} {v0 v1 v2:Value} {t:TypeId} {f} (h:w.heap[N]? = some (.cells #[v0,v1,v2] t f)) :
  w.cell? ⟨N,0,none⟩=some v0∧w.cell? ⟨N,1,none⟩=some v1∧w.cell? ⟨N,2,none⟩=some v2:=by
 refine⟨?_,?_,?_⟩<;>(rw[cell_heap h];rfl)
theorem WkW.apart {w q wk vf vo W root Z} (h:WkW w q wk vf vo W root Z):wk ≠ q.c∧wk ≠ q.m∧(∀b,vf.ownBlock=some b→b ≠ q.c∧b ≠ q.m∧b ≠ wk∧b ≠ q.t)∧(∀b,vo.ownBlock=some b→b ≠ q.c∧b ≠ q.m∧b ≠ wk∧b ≠ q.t):=by
 obtain⟨es,clock,hm⟩:=h.tw.sto.put.heap
 have hrow:=h.tw.sto.sp.row
 have key:∀ {v:Value} {T:List Nat},IRow w Z v T → ∀b,v.ownBlock=some b→b ≠ q.c∧b ≠ q.m∧b ≠ wk∧b ≠ q.t:=fun hr b hb=>by
  obtain⟨cs,f,hh⟩:=own_type hr hb
  exact⟨own_ne hr hrow (by decide) b hb,map_ne hm hh,own_ne hr h.blk (by decide) b hb,own_ne hr h.tw.tree (by decide) b hb⟩
 refine⟨?_,map_ne hm h.blk,key h.rf,key h.ro⟩
 rintro rfl
 have:=h.blk
 rw[hrow] at this
 injection this with this
 injection this with _ e _
 exact absurd e (by decide)
theorem wk_appF {w3 W' w4:World} {q:TQ} {wk:Nat} {vf vo v':Value} {X:Sto} {F O:List Nat} {root:Int} {Z m x:Nat} (h:WkW w3 q wk vf vo ⟨X,F,O⟩ root Z) (k0:Kept (fun _=>False) w3 W') (hZ:Z≤w3.heap.size) (hm:m=F.length)
  (h1:w4.ownsRow 0 3 1 v' (m + 1) (F.map I ++ [I x])) (h2:W'.grownBy w4 vf.ownBlock) (h3:v'.ownBlock=vf.ownBlock∨v'.ownBlock=some W'.heap.size) :
  ∃A c,v' = .slice A (m + 1) c∧w4.heap[wk]? = some (.cells #[.pointer (some ⟨q.t,0,none⟩),vf,vo] 162 (0,0))∧WkW (w4.setCell ⟨wk,1,none⟩ (.slice A (m + 1) c)) q wk (.slice A (m + 1) c) vo ⟨X,F ++ [x],O⟩ root Z ∧
   Kept (fun k=>k=wk∨vf.ownBlock=some k) w3 (w4.setCell ⟨wk,1,none⟩ (.slice A (m + 1) c)) ∧ ∀g,(Value.slice A (m + 1) c).ownBlock=some g→vf.ownBlock=some g∨w3.heap.size≤g:=by
 have hks:=k0.size
 have hr:IRow w3 Z vf F:=h.rf
 have ho:IRow w3 Z vo O:=h.ro
 have kg:Kept (fun k=>vf.ownBlock=some k) w3 w4:=(k0.mono fun _ _=>False.elim).trans ⟨h2.os,h2.tape,h2.output,h2.size,fun k hk' hne=>h2.block k hk' fun e=>hne e.symm⟩
 have hl:(F ++ [x]).length=m + 1:=by rw[List.length_append,hm];rfl
 have r:IRow w4 Z v' (F ++ [x]):=by
  show w4.ownsRow _ _ _ _ _ _
  rw[hl,List.map_append]
  refine own_base h1 fun k hk'=>?_
  rcases h3 with e|e
  ·exact own_ge hr (e ▸ hk')
  ·rw[hk'] at e
   injection e with e
   omega
 obtain⟨A,c,rfl⟩:=own_slice h1
 have hb:=kg.heap h.blk fun e=>own_ne hr h.blk (by decide) _ e rfl
 have ks:Kept (· = wk) w4 (w4.setCell ⟨wk,1,none⟩ (.slice A (m + 1) c)):=(Kept.refl (· = wk) w4).set1 1 _
 have tw4:=h.tw.alien kg (Alien.row hr (by decide))
 have ro4:IRow w4 Z vo O:=IRow.kept ho kg (fun b hb'=>h.ne b hb')
 refine⟨A,c,rfl,hb,⟨tw4.alien ks (Alien.one hb (by decide)),heap_set hb 1 _,IRow.kept r ks (own_ne r hb (by decide)),IRow.kept ro4 ks (own_ne ro4 hb (by decide)),?_⟩,?_,?_⟩
 ·intro b hb' e
  rcases h3 with e3|e3
  ·rw[e3] at e;exact h.ne b hb' e
  ·rw[e3] at e
   injection e with e
   have:=own_lt ho hb'
   omega
 ·exact(kg.mono fun i _ e=>.inr e).then ks fun i hi e=>.inl e
 ·intro g hg
  rcases h3 with e|e
  ·rw[e] at hg;exact .inl hg
  ·rw[e] at hg;injection hg with hg;exact .inr (by omega)
theorem wk_appO {w3 W' w4:World} {q:TQ} {wk:Nat} {vf vo v':Value} {X:Sto} {F O:List Nat} {root:Int} {Z m x:Nat} (h:WkW w3 q wk vf vo ⟨X,F,O⟩ root Z) (k0:Kept (fun _=>False) w3 W') (hZ:Z≤w3.heap.size) (hm:m=O.length)
  (h1:w4.ownsRow 0 3 1 v' (m + 1) (O.map I ++ [I x])) (h2:W'.grownBy w4 vo.ownBlock) (h3:v'.ownBlock=vo.ownBlock∨v'.ownBlock=some W'.heap.size) :
  ∃A c,v' = .slice A (m + 1) c∧w4.heap[wk]? = some (.cells #[.pointer (some ⟨q.t,0,none⟩),vf,vo] 162 (0,0))∧WkW (w4.setCell ⟨wk,2,none⟩ (.slice A (m + 1) c)) q wk vf (.slice A (m + 1) c) ⟨X,F,O ++ [x]⟩ root Z ∧
   Kept (fun k=>k=wk∨vo.ownBlock=some k) w3 (w4.setCell ⟨wk,2,none⟩ (.slice A (m + 1) c)) ∧ ∀g,(Value.slice A (m + 1) c).ownBlock=some g→vo.ownBlock=some g∨w3.heap.size≤g:=by
 have hks:=k0.size
 have hr:IRow w3 Z vo O:=h.ro
 have ho:IRow w3 Z vf F:=h.rf
 have kg:Kept (fun k=>vo.ownBlock=some k) w3 w4:=(k0.mono fun _ _=>False.elim).trans ⟨h2.os,h2.tape,h2.output,h2.size,fun k hk' hne=>h2.block k hk' fun e=>hne e.symm⟩
 have hl:(O ++ [x]).length=m + 1:=by rw[List.length_append,hm];rfl
 have r:IRow w4 Z v' (O ++ [x]):=by
  show w4.ownsRow _ _ _ _ _ _
  rw[hl,List.map_append]
  refine own_base h1 fun k hk'=>?_
  rcases h3 with e|e
  ·exact own_ge hr (e ▸ hk')
  ·rw[hk'] at e
   injection e with e
   omega
 obtain⟨A,c,rfl⟩:=own_slice h1
 have hb:=kg.heap h.blk fun e=>own_ne hr h.blk (by decide) _ e rfl
 have ks:Kept (· = wk) w4 (w4.setCell ⟨wk,2,none⟩ (.slice A (m + 1) c)):=(Kept.refl (· = wk) w4).set1 2 _
 have tw4:=h.tw.alien kg (Alien.row hr (by decide))
 have ro4:IRow w4 Z vf F:=IRow.kept ho kg (fun b hb'=>fun e=>h.ne b e hb')
 refine⟨A,c,rfl,hb,⟨tw4.alien ks (Alien.one hb (by decide)),heap_set hb 2 _,IRow.kept ro4 ks (own_ne ro4 hb (by decide)),IRow.kept r ks (own_ne r hb (by decide)),?_⟩,?_,?_⟩
 ·intro b hb' e
  rcases h3 with e3|e3
  ·rw[e3] at hb';exact h.ne b hb' e
  ·rw[e3] at hb'
   injection hb' with hb'
   have:=own_lt ho e
   omega
 ·exact(kg.mono fun i _ e=>.inr e).then ks fun i hi e=>.inl e
 ·intro g hg
  rcases h3 with e|e
  ·rw[e] at hg;exact .inl hg
  ·rw[e] at hg;injection hg with hg;exact .inr (by omega)
theorem own_anylen (A:Option Addr) (n m c:Nat):(Value.slice A n c).ownBlock=(Value.slice A m c).ownBlock:=by cases A<;>rfl
theorem TWput_calls {w q wk vf vo W root Z v n B} (h:WkW w q wk vf vo W root Z) (hn:IsNd w B v n) (hf:n.Fit) (hZ:Z≤w.heap.size) (hl:W.fresh.length≤1000) :
  Calls Tryz.prog 92 #[.pointer (some ⟨wk,0,none⟩),v] w (PutTo (putP W n) w q wk vf vo root Z):=by
 have CT:=Lib.hid fun w' (kk:Kept (fun _=>False) w w')=>NdText_calls (hn.kept kk) hf
 have CP:=Lib.hid fun w' (kk:Kept (fun _=>False) w w')=>Put_calls (h.keptF kk).tw.sto n.text
 have HP:=Lib.hid (putP_eq W n)
 have H:=Lib.hid h;have HZ:=Lib.hid hZ
 obtain⟨l,A1,n1,c1,A2,n2,c2,A3,n3,c3,rfl⟩:=hn.agg
 obtain⟨c0,c1',c2'⟩:=wk_cells h.blk
 have t0:w.cell? ⟨q.t,0,none⟩=some (.pointer (some ⟨q.st,0,none⟩)):=(cell_heap h.tw.tree 0).trans rfl
 obtain⟨tx,htx⟩:∃t,t=ba n.text:=⟨_,rfl⟩
 obtain⟨ti,hti⟩:∃i,i=(stoPut W.X n.text).1.1:=⟨_,rfl⟩
 obtain⟨te,hte⟩:∃i,i=(stoPut W.X n.text).1.2:=⟨_,rfl⟩
 rw[←htx] at CT CP
 rw[←hti, ←hte] at HP
 have HTI:=Lib.hid hti;have HTE:=Lib.hid hte
 obtain⟨r,hr⟩:∃r,r=putP W n:=⟨_,rfl⟩
 rw[←hr] at HP⊢
 have hwl:=lt_heap h.blk
 have htl:=lt_heap h.tw.tree
 have HLf:=Lib.hid hl
 clear hn hf htx hti hte hr h hZ hl
 go_enter Tryz.func92,Tryz.ntmps92
 go_wp2_with fail
 have hbx:=heap_new w (.cells #[.bool l,.slice A1 n1 c1,.slice A2 n2 c2,.slice A3 n3 c3] 148)
 obtain⟨w1,hw1⟩:∃w1,w1=w.alloc (.cells #[.bool l,.slice A1 n1 c1,.slice A2 n2 c2,.slice A3 n3 c3] 148):=⟨_,rfl⟩
 have K1:Hid (Kept (fun _=>False) w w1):=by rw[hw1];exact(Kept.refl _ _).alloc _
 rw[←hw1] at hbx⊢
 obtain⟨N,hN⟩:∃N,N=w.heap.size:=⟨_,rfl⟩
 rw[←hN] at hbx⊢
 have HN:=Lib.hid hN
 have HBX:=Lib.hid hbx
 have HS0:Hid (∀w',Kept (fun k=>k=q.c∨k=q.m) w1 w'→w'.cell? ⟨wk,0,none⟩=some (.pointer (some ⟨q.t,0,none⟩))∧w'.cell? ⟨q.t,0,none⟩=some (.pointer (some ⟨q.st,0,none⟩))∧w'.cell? ⟨N,0,none⟩=some (.bool l)∧w'.cell? ⟨N,1,none⟩=some (.slice A1 n1 c1)∧w'.cell? ⟨N,2,none⟩=some (.slice A2 n2 c2)∧w'.cell? ⟨N,3,none⟩=some (.slice A3 n3 c3)):=fun w' k=>by
  have hw:=H.out.keptF K1.out
  obtain⟨a1,a2, -, -⟩:=hw.apart
  have b1:=k.heap hw.blk (by rintro(e|e);exact a1 e;exact a2 e)
  have b2:=k.heap hw.tw.tree (by
   rintro(e|e)
   ·have h1:=hw.tw.tree
    rw[e,hw.tw.sto.sp.row] at h1
    injection h1 with h1
    injection h1 with _ e _
    exact absurd e (by decide)
   ·obtain⟨es,clock,hm⟩:=hw.tw.sto.put.heap
    exact map_ne hm hw.tw.tree e)
  have b3:=k.heap HBX.out (by
   rintro(e|e)
   ·have h1:=HBX.out
    rw[e,hw.tw.sto.sp.row] at h1
    injection h1 with h1
    injection h1 with _ e _
    exact absurd e (by decide)
   ·obtain⟨es,clock,hm⟩:=hw.tw.sto.put.heap
    exact map_ne hm HBX.out e)
  obtain⟨d0,d1,d2,d3⟩:=nd_cells b3
  exact⟨(wk_cells b1).1,(cell_heap b2 0).trans rfl,d0,d1,d2,d3⟩
 have hS1:=HS0.out w1.drew (Kept.refl _ w1).drew
 clear hbx hw1 hN c0 c1' c2' t0
 refine wp_region_held_drew (S:=(fun w'=>w'.cell? ⟨wk,0,none⟩=some (.pointer (some ⟨q.t,0,none⟩))∧w'.cell? ⟨q.t,0,none⟩=some (.pointer (some ⟨q.st,0,none⟩))∧w'.cell? ⟨N,0,none⟩=some (.bool l)∧w'.cell? ⟨N,1,none⟩=some (.slice A1 n1 c1)∧w'.cell? ⟨N,2,none⟩=some (.slice A2 n2 c2)∧w'.cell? ⟨N,3,none⟩=some (.slice A3 n3 c3))) (by kernel_rfl) hS1 (fun hHeld=>?_)
 clear hS1
 refine tk 0 (h:=?_)
 (try simp only[lits])
 refine tk 1 (h:=?_)
 (try simp only[lits])
 refine tk 2 (h:=?_)
 (try simp only[lits])
 refine tk 3 (h:=?_)
 (try simp only[lits])
 refine tk 4 (h:=?_)
 (try simp only[lits])
 refine tk 5 (h:=?_)
 (try simp only[lits])
 refine tk 6 (h:=?_)
 (try simp only[lits])
 refine tk 7 (h:=?_)
 (try simp only[lits])
 refine wpAnyH_ready (rs := [8]) (by kernel_rfl) (by simp) ?_
 refine AllReadyH.cons rfl (fun K hK=>?_) AllReadyH.nil
 go_simp
 refine(CT.out _ K1.out.drew).mono ?_
 rintro e w2 ⟨rfl,k2⟩
 have K2:=Lib.hid ((Kept.refl (fun _=>False) w1).drew.trans k2)
 refine hK.out _ _ (HS0.out _ (K2.out.mono fun _ _=>False.elim)) (fun hHeld=>?_)
 clear hK k2 CT
 (try simp only[lits])
 refine wpAnyH_ready (rs := [9]) (by kernel_rfl) (by simp) ?_
 refine AllReadyH.cons rfl (fun K hK=>?_) AllReadyH.nil
 go_simp
 refine(CP.out _ (K1.out.trans K2.out)).mono ?_
 intro e w3 hp
 obtain⟨rfl,tw3,k3⟩:=(H.out.keptF (K1.out.trans K2.out)).tw.put n.text hp
 rw[←HTI.out, ←HTE.out]
 have K3:=Lib.hid k3
 have T3:=Lib.hid tw3
 refine hK.out _ _ (HS0.out _ ((K2.out.mono fun _ _=>False.elim).trans k3)) (fun hHeld=>?_)
 clear hK hp tw3 k3 CP
 (try simp only[lits])
 refine tk 10 (h:=?_)
 (try simp only[lits])
 refine tk 11 (h:=?_)
 (try simp only[lits])
 refine tk 12 (h:=?_)
 (try simp only[lits])
 refine tk 13 (h:=?_)
 (try simp only[lits])
 refine tk 14 (h:=?_)
 (try simp only[lits])
 refine wpAnyH_done (by kernel_rfl) ?_ _
 have A:=(H.out.keptF (K1.out.trans K2.out)).apart
 have KA:Hid (Kept (fun k=>k=q.c∨k=q.m) w w3):=((K1.out.trans K2.out).mono fun _ _=>False.elim).trans K3.out
 have ap:=Lib.hid A
 obtain⟨-,c1', -⟩:=wk_cells (KA.out.heap H.out.blk (by rintro(e|e);exact ap.out.1 e;exact ap.out.2.1 e))
 have BW:Hid (w3.heap[wk]? = some (.cells #[.pointer (some ⟨q.t,0,none⟩),vf,vo] 162 (0,0))):=KA.out.heap H.out.blk (by rintro(e|e);exact ap.out.1 e;exact ap.out.2.1 e)
 have RF:Hid (IRow w3 Z vf W.fresh):=IRow.kept H.out.rf KA.out (fun b hb e=>by
  rcases e with e|e
  ·exact(ap.out.2.2.1 b hb).1 e
  ·exact(ap.out.2.2.1 b hb).2.1 e)
 have RO:Hid (IRow w3 Z vo W.old):=IRow.kept H.out.ro KA.out (fun b hb e=>by
  rcases e with e|e
  ·exact(ap.out.2.2.2 b hb).1 e
  ·exact(ap.out.2.2.2 b hb).2.1 e)
 clear A hHeld
 by_cases hz:te=0
 ·have HR:Hid (r=((ti,0), { W with X:=(stoPut W.X n.text).2,fresh:=W.fresh ++ [ti] })):=by
   show _=_
   have e1:(stoPut W.X n.text).1=(ti,0):=Prod.ext_iff.2 ⟨HTI.out.symm,HTE.out.symm.trans hz⟩
   rw[HP.out,hz,if_pos rfl,e1]
  obtain⟨A5,c5,rfl⟩:=own_slice RF.out
  obtain⟨fl,hfl⟩:∃n,n=W.fresh.length:=⟨_,rfl⟩
  have HFl:=Lib.hid hfl
  rw[←hfl] at RF c1' BW⊢
  have OWN:Hid ((w3.alloc (.cells #[.int .i64 ti] 3)).ownsRow 0 3 1 (.slice A5 fl c5) fl (W.fresh.map I)):=by
   have h:=RF.out.keptF ((Kept.refl _ w3).alloc (.cells #[.int .i64 ti] 3))
   unfold IRow at h
   rw[←hfl] at h
   exact own_base h fun _ _=>Nat.zero_le _
  have M1:Hid (fl + 1≤maxLen):=by have:=HLf.out;show _≤_;unfold maxLen;omega
  have M2:Hid ((fl + 1) * 8≤140737488355328):=by have:=HLf.out;show _≤_;omega
  have RD:=Lib.hid (reads_one w3 (.int .i64 (ti:Nat)) 3)
  have fw:∀i,w3.frozen? ⟨wk,i,none⟩=false:=fun i=>free_heap BW.out i
  subst hz
  have WW:Hid (WkW w3 q wk (.slice A5 fl c5) vo ⟨(stoPut W.X n.text).2,W.fresh,W.old⟩ root Z):=⟨T3.out,BW.out,by have h:=RF.out;exact h,RO.out,fun b hb=>by rw[own_anylen _ fl W.fresh.length];exact H.out.ne b hb⟩
  have HZ3:Hid (Z≤w3.heap.size):=by have:=HZ.out;have:=KA.out.size;show _≤_;omega
  clear hfl
  go_wp2_with (at_builtin;(refine app_one (v:=.slice A5 fl c5) rfl (.tmp 27) (.tmp 29) rfl Tryz.underlying28 info_int rfl rfl OWN.out _ rfl RD.out (ints_one [ti]) M1.out M2.out ?_;intro v' w4 hv' hg' hob;obtain⟨A6,c6,rfl,hb4,hw,hk5,ho5⟩:=wk_appF WW.out ((Kept.refl _ w3).alloc _) HZ3.out HFl.out hv' hg' hob;have HW:=Lib.hid hw;have HK5:=Lib.hid hk5;have HO5:=Lib.hid ho5;obtain⟨d0,d1,d2⟩:=wk_cells hb4;have fw4:∀i,w4.frozen? ⟨wk,i,none⟩=false:=fun i=>free_heap hb4 i;clear hv' hg' hob hw hk5 ho5 hb4 fw c1'))
  refine bodyPost_ret (v:=.tuple #[.int .i64 ti,.int .i64 0]) (by simp[results,Tryz.f92,go_sem]) rfl ?_
  rw[HR.out]
  refine⟨rfl,_,HW.out,?_,?_⟩
  ·refine(KA.out.mono fun i _ hi=>by rcases hi with hi|hi;exact .inl hi;exact .inr (.inl hi)).then HK5.out fun i hi e=>?_
   rcases e with e|e
   ·exact .inr (.inr (.inl e))
   ·exact .inr (.inr (.inr ((own_anylen _ _ _ _).trans e)))
  ·intro g hg
   rcases HO5.out g hg with e|e
   ·exact .inl ((own_anylen _ _ _ _).trans e)
   ·exact .inr (Nat.le_trans KA.out.size e)
 ·have HR:Hid (r=((ti,te),W)):=by
   show _=_
   have e1:(stoPut W.X n.text).1=(ti,te):=Prod.ext_iff.2 ⟨HTI.out.symm,HTE.out.symm⟩
   rw[HP.out,if_neg hz,e1]
  have T3':Hid (TW w3 q W.X root):=by
   have:=T3.out
   rw[stoPut_err (by rw[←HTE.out];exact hz)] at this
   exact this
  have hz1:(te == 0)=false:=by rw[beq_eq_false_iff_ne];exact hz
  clear hz c1'
  go_wp2
  refine bodyPost_ret (v:=.tuple #[.int .i64 ti,.int .i64 te]) (by simp[results,Tryz.f92,go_sem]) rfl ?_
  rw[HR.out]
  exact⟨rfl,vf,⟨T3'.out,BW.out,RF.out,RO.out,H.out.ne⟩,KA.out.mono fun i _ hi=>by rcases hi with hi|hi;exact .inl hi;exact .inr (.inl hi),fun g hg=>.inl hg⟩
end Go.Proofs.YtfgjehecjgebdaaGreat
/- The tree's changes: done. -/
namespace Go.Proofs.YtfgjehecjgebdaaGreat
open Go.RowKit Go.Maps Go.ChangeMaps
set_option maxHeartbeats 4000000
set_option maxRecDepth 100000
theorem giveAll_take {l ids:List Nat} {k:Nat} (hk:k < ids.length):giveAll l (ids.take (k + 1))=(gvRes (giveAll l (ids.take k)) ((ids[k]:Nat):Int)).2:=by
 unfold giveAll
 rw[List.take_succ_eq_append_getElem hk,List.foldl_append];rfl
theorem gv_two {l:List Nat} {i:Int} {j:Nat} (h:(gvRes l i).2.getD j 0=2):l.getD j 0=2:=by
 unfold gvRes at h
 split at h
 ·have h:(l.set i.toNat 0).getD j 0=2:=h
  by_cases e:i.toNat=j
  ·subst e
   by_cases hl:i.toNat < l.length
   ·simp[List.getD,hl] at h
   ·simp[List.getD,hl] at h
  ·simpa[List.getD,List.getElem?_set_ne e] using h
 ·split at h
  ·have h:(l.set i.toNat 3).getD j 0=2:=h
   by_cases e:i.toNat=j
   ·subst e
    by_cases hl:i.toNat < l.length
    ·simp[List.getD,hl] at h
    ·simp[List.getD,hl] at h
   ·simpa[List.getD,List.getElem?_set_ne e] using h
  ·exact h
theorem TW.t_apart {w q X root} (h:TW w q X root):q.t ≠ q.c∧q.t ≠ q.m:=by
 constructor
 ·rintro e
  have h1:=h.tree
  rw[e,h.sto.sp.row] at h1
  injection h1 with h1
  injection h1 with _ e _
  exact absurd e (by decide)
 ·obtain⟨es,clock,hm⟩:=h.sto.put.heap
  exact map_ne hm h.tree
theorem TW.give {w w' q X root} (h:TW w q X root) {i:Int} {e:Ending} (hp:GivePost w q.st q.b q.c q.m q.d q.vs q.vc q.p q.g X i e w') :
  e = .returned (.int .i64 (gvRes X.l i).1)∧TW w' q { X with l:=(gvRes X.l i).2 } root∧Kept (fun k=>k=q.c∨k=q.m) w w':=by
 obtain⟨he,hk,hs⟩:=hp
 obtain⟨a,b⟩:=h.t_apart
 exact⟨he,⟨hs,hk.heap h.tree (by rintro(e|e);exact a e;exact b e),h.up,h.secs,h.cache,fun j hj=>h.txt j (gv_two hj)⟩,hk⟩
def DoneTo (r:Int×Int×Sto) (w:World) (q:TQ) (e:Ending) (w':World):Prop:=e = .returned (.int .i64 r.1)∧TW w' q r.2.2 r.2.1∧Kept (fun k=>k=q.c∨k=q.m∨k=q.t) w w'
theorem TW.root {w q X root} (h:TW w q X root) (r:Int):TW (w.setCell ⟨q.t,1,none⟩ (.int .i64 r)) q X r:=by
 have k:Kept (· = q.t) w (w.setCell ⟨q.t,1,none⟩ (.int .i64 r)):=(Kept.refl (· = q.t) w).set1 1 _
 obtain⟨c,hd⟩:=h.sto.dev.head
 have ne:∀ {i cs T f},w.heap[i]? = some (.cells cs T f)→T ≠ 152 → ¬(i=q.t):=fun hh hT e=>by
  rw[e,h.tree] at hh
  injection hh with hh
  injection hh with _ e _
  exact hT e.symm
 have neR:∀ {B e sz v n xs},w.ownsRow B e sz v n xs→e ≠ 152 → ∀g,v.ownBlock=some g → ¬(g=q.t):=fun hr hT g hg=>by
  obtain⟨cs,f,hh⟩:=own_type hr hg
  exact ne hh hT
 refine⟨⟨k.heap h.sto.head (ne h.sto.head (by decide)),h.sto.sp.kept k (ne h.sto.sp.head (by decide)) (ne h.sto.sp.row (by decide)),h.sto.put.kept k (Ne.symm h.t_apart.2),h.sto.dev.kept k (ne hd (by decide)) (neR h.sto.dev.secs (by decide)) (neR h.sto.dev.cache (by decide)),h.sto.len,h.sto.lay⟩,?_,h.up,h.secs,h.cache,h.txt⟩
 exact heap_set h.tree 1 _
theorem TWdone_calls {w q wk vf vo W root Z} (h:WkW w q wk vf vo W root Z) (hl:W.fresh.length≤1000∧W.old.length≤1000) (root' er:Int) :
  Calls Tryz.prog 91 #[.pointer (some ⟨wk,0,none⟩),.int .i64 root',.int .i64 er] w (DoneTo (doneP W root' er root) w q):=by
 have H:=Lib.hid h
 obtain⟨c0,c1,c2⟩:=wk_cells h.blk
 have t0:w.cell? ⟨q.t,0,none⟩=some (.pointer (some ⟨q.st,0,none⟩)):=(cell_heap h.tw.tree 0).trans rfl
 have ft:∀i,w.frozen? ⟨q.t,i,none⟩=false:=fun i=>free_heap h.tw.tree i
 have t1:w.cell? ⟨q.t,1,none⟩=some (.int .i64 root):=(cell_heap h.tw.tree 1).trans rfl
 have loop:Hid (∀(u:World) (X:Sto) (ro:Int),TW u q X ro → ∀ {cs:Array Value},u.heap[wk]? = some (.cells cs 162 (0,0)) →
   ∀u',Kept (fun k=>k=q.c∨k=q.m) u u'→u'.heap[wk]? = some (.cells cs 162 (0,0))):=fun u X ro tw cs hb u' k=>by
  refine k.heap hb ?_
  rintro(e|e)
  ·rw[e,tw.sto.sp.row] at hb
   injection hb with hb
   injection hb with _ e _
   exact absurd e (by decide)
  ·obtain⟨es,clock,hm⟩:=tw.sto.put.heap
   exact map_ne hm hb e
 by_cases hz:er=0
 ·subst hz
  obtain⟨A,c,rfl⟩:=own_slice h.ro
  have HD:Hid (doneP W root' 0 root=(0,root', { W.X with l:=giveAll W.X.l W.old })):=by show _=_;unfold doneP;rw[if_pos rfl]
  obtain⟨rs,hrs⟩:∃r,r=doneP W root' 0 root:=⟨_,rfl⟩
  rw[←hrs] at HD⊢
  obtain⟨ids,hids⟩:∃l,l=W.old:=⟨_,rfl⟩
  obtain⟨n,hn⟩:∃n,n=ids.length:=⟨_,rfl⟩
  have HN:=Lib.hid hn
  rw[←hids] at HD hl c2
  rw[←hn] at c2 hl
  have hroot:=h.tw.root root'
  have kr:Kept (fun k=>k=q.c∨k=q.m∨k=q.t) w (w.setCell ⟨q.t,1,none⟩ (.int .i64 root')):=((Kept.refl (· = q.t) w).set1 1 _).mono fun _ _ e=>.inr (.inr e)
  have RO:Hid (IRow (w.setCell ⟨q.t,1,none⟩ (.int .i64 root')) Z (.slice A n c) ids):=by
   have hr:IRow w Z (.slice A n c) ids:=by have:=h.ro;rw[←hids, ←hn] at this;exact this
   exact IRow.kept hr ((Kept.refl (· = q.t) w).set1 1 _) (own_ne hr h.tw.tree (by decide))
  have hb1:(w.setCell ⟨q.t,1,none⟩ (.int .i64 root')).heap[wk]? = some (.cells #[.pointer (some ⟨q.t,0,none⟩),vf,.slice A W.old.length c] 162 (0,0)):=heap_set_other h.blk (by
   show wk ≠ q.t
   rintro rfl
   have:=h.blk
   rw[h.tw.tree] at this
   injection this with this
   injection this with _ e _
   exact absurd e (by decide))
  have R0:=Lib.hid hroot;have HKR:=Lib.hid kr;have HB1:=Lib.hid hb1
  have hn1:n≤1000:=hl.2
  clear h hrs hids hn hroot kr hb1 hl
  go_enter Tryz.func91,Tryz.ntmps91
  go_wp2_with fail
  obtain⟨w1,hw1⟩:∃w1,w1=w.setCell ⟨q.t,1,none⟩ (.int .i64 root'):=⟨_,rfl⟩
  rw[←hw1] at R0 HKR HB1 RO⊢
  clear hw1 c0 c1 c2 t0 t1 ft
  go_loopw [9,29] (fun _ i wr=>∃k:Nat,k≤n∧i = .int .i64 k∧Hid (TW wr q { W.X with l:=giveAll W.X.l (ids.take k) } root')∧Hid (Kept (fun k=>k=q.c∨k=q.m) w1 wr)) (fun _ i _=>n - (RowKit.intOf i).toNat)
  case atStart=>exact⟨0,Nat.zero_le _,rfl,R0.out,Kept.refl _ _⟩
  case round =>
   obtain⟨k,hk,rfl,tw,kw⟩:=hrel
   have hbk:=loop.out _ _ _ R0.out HB1.out _ kw.out
   obtain⟨c0, -, -⟩:=wk_cells hbk
   have t0:wr.cell? ⟨q.t,0,none⟩=some (.pointer (some ⟨q.st,0,none⟩)):=(cell_heap tw.out.tree 0).trans rfl
   by_cases hlt:k < n
   ·have hki:k < ids.length:=by have:=HN.out;omega
    obtain⟨g,c',e⟩:=own_form RO.out (by omega)
    injection e with e1 e2 e3
    subst e1
    clear e2 e3
    have q1:wr.cell? ⟨g,k,none⟩=some (.int .i64 (ids[k]:Nat)):=by
     obtain⟨es,clock,hm⟩:=R0.out.sto.put.heap
     have hr:IRow wr Z (.slice (some ⟨g,0,none⟩) n c) ids:=IRow.kept RO.out kw.out (fun b hb e=>by
      rcases e with e|e
      ·exact own_ne RO.out R0.out.sto.sp.row (by decide) b hb e
      ·obtain⟨cs,f,hh⟩:=own_type RO.out hb
       exact map_ne hm hh e)
     exact hr.atI hki
    have CG:=Lib.hid (StoGive_calls tw.out.sto ((ids[k]:Nat):Int))
    obtain⟨x,hx⟩:∃x,x=ids[k]:=⟨_,rfl⟩
    rw[←hx] at q1 CG
    have HT:Hid (giveAll W.X.l (ids.take (k + 1))=(gvRes (giveAll W.X.l (ids.take k)) (x:Int)).2):=by show _=_;rw[giveAll_take hki,hx]
    clear hx hbk
    go_wp2_with fail
    refine CG.out.mono ?_
    intro e w2 hp
    obtain⟨rfl,tw2,k2⟩:=tw.out.give hp
    have tw3:Hid (TW w2 q { W.X with l:=giveAll W.X.l (ids.take (k + 1)) } root'):=by show TW _ _ _ _;rw[HT.out];exact tw2
    have kw2:Hid (Kept (fun k=>k=q.c∨k=q.m) w1 w2):=kw.out.trans k2
    clear hp tw2 k2 c0 t0 q1 CG
    go_wp2
    go_roundw
    case rel=>exact⟨k + 1,by omega,by go_num,tw3,kw2⟩
    case measure=>simp[RowKit.intOf];omega
   ·obtain rfl:k=n:=by omega
    clear c0 t0 hbk
    go_wp2
    go_ret
    rw[HD.out]
    refine⟨rfl,?_,?_⟩
    ·have h:=tw.out
     rw[List.take_of_length_le (by rw[HN.out];exact Nat.le_refl _)] at h
     exact h
    ·exact HKR.out.trans (kw.out.mono fun i _ e=>by rcases e with e|e;exact .inl e;exact .inr (.inl e))
 ·obtain⟨A,c,rfl⟩:=own_slice h.rf
  have HD:Hid (doneP W root' er root=(er,root, { W.X with l:=giveAll W.X.l W.fresh })):=by show _=_;unfold doneP;rw[if_neg hz]
  obtain⟨rs,hrs⟩:∃r,r=doneP W root' er root:=⟨_,rfl⟩
  rw[←hrs] at HD⊢
  obtain⟨ids,hids⟩:∃l,l=W.fresh:=⟨_,rfl⟩
  obtain⟨n,hn⟩:∃n,n=ids.length:=⟨_,rfl⟩
  have HN:=Lib.hid hn
  have RO:Hid (IRow w Z (.slice A n c) ids):=by have:=h.rf;rw[←hids, ←hn] at this;exact this
  rw[←hids] at HD hl c1
  rw[←hn] at c1 hl
  have R0:=Lib.hid h.tw;have HB1:=Lib.hid h.blk
  have hn1:n≤1000:=hl.1
  have hz1:(er == 0)=false:=by rw[beq_eq_false_iff_ne];exact hz
  have hz2:(er != 0)=true:=by rw[bne_iff_ne];exact hz
  clear h hrs hids hn hl hz
  go_enter Tryz.func91,Tryz.ntmps91
  go_wp2_with fail
  go_loopw [9,29] (fun _ i wr=>∃k:Nat,k≤n∧i = .int .i64 k∧Hid (TW wr q { W.X with l:=giveAll W.X.l (ids.take k) } root)∧Hid (Kept (fun k=>k=q.c∨k=q.m) w wr)) (fun _ i _=>n - (RowKit.intOf i).toNat)
  case atStart=>exact⟨0,Nat.zero_le _,rfl,R0.out,Kept.refl _ _⟩
  case round =>
   obtain⟨k,hk,rfl,tw,kw⟩:=hrel
   have hbk:=loop.out _ _ _ R0.out HB1.out _ kw.out
   obtain⟨c0, -, -⟩:=wk_cells hbk
   have t0:wr.cell? ⟨q.t,0,none⟩=some (.pointer (some ⟨q.st,0,none⟩)):=(cell_heap tw.out.tree 0).trans rfl
   by_cases hlt:k < n
   ·have hki:k < ids.length:=by have:=HN.out;omega
    obtain⟨g,c',e⟩:=own_form RO.out (by omega)
    injection e with e1 e2 e3
    subst e1
    clear e2 e3
    have q1:wr.cell? ⟨g,k,none⟩=some (.int .i64 (ids[k]:Nat)):=by
     obtain⟨es,clock,hm⟩:=R0.out.sto.put.heap
     have hr:IRow wr Z (.slice (some ⟨g,0,none⟩) n c) ids:=IRow.kept RO.out kw.out (fun b hb e=>by
      rcases e with e|e
      ·exact own_ne RO.out R0.out.sto.sp.row (by decide) b hb e
      ·obtain⟨cs,f,hh⟩:=own_type RO.out hb
       exact map_ne hm hh e)
     exact hr.atI hki
    have CG:=Lib.hid (StoGive_calls tw.out.sto ((ids[k]:Nat):Int))
    obtain⟨x,hx⟩:∃x,x=ids[k]:=⟨_,rfl⟩
    rw[←hx] at q1 CG
    have HT:Hid (giveAll W.X.l (ids.take (k + 1))=(gvRes (giveAll W.X.l (ids.take k)) (x:Int)).2):=by show _=_;rw[giveAll_take hki,hx]
    clear hx hbk
    go_wp2_with fail
    refine CG.out.mono ?_
    intro e w2 hp
    obtain⟨rfl,tw2,k2⟩:=tw.out.give hp
    have tw3:Hid (TW w2 q { W.X with l:=giveAll W.X.l (ids.take (k + 1)) } root):=by show TW _ _ _ _;rw[HT.out];exact tw2
    have kw2:Hid (Kept (fun k=>k=q.c∨k=q.m) w w2):=kw.out.trans k2
    clear hp tw2 k2 c0 t0 q1 CG
    go_wp2
    go_roundw
    case rel=>exact⟨k + 1,by omega,by go_num,tw3,kw2⟩
    case measure=>simp[RowKit.intOf];omega
   ·obtain rfl:k=n:=by omega
    clear c0 t0 hbk
    go_wp2
    go_ret
    rw[HD.out]
    refine⟨rfl,?_,?_⟩
    ·have h:=tw.out
     rw[List.take_of_length_le (by rw[HN.out];exact Nat.le_refl _)] at h
     exact h
    ·exact kw.out.mono fun i _ e=>by rcases e with e|e;exact .inl e;exact .inr (.inl e)
end Go.Proofs.YtfgjehecjgebdaaGreat
/- The tree's changes: replace. -/
namespace Go.Proofs.YtfgjehecjgebdaaGreat
open Go.RowKit Go.Maps Go.ChangeMaps
set_option maxHeartbeats 4000000
set_option maxRecDepth 100000
theorem del0_calls {w B v T} (h:SRow w B v T) (i:Nat) (hi:i≤T.length) (hT:T.length≤1000) :
  Calls Tryz.prog 125 #[v,.int .i64 i,.int .i64 i] w fun e w'=>e = .returned v∧w=w':=by
 obtain⟨A,c,rfl⟩:=own_slice h
 have hc:T.length≤c:=by
  rcases h.2 with⟨e,hn⟩|⟨g,cap,cur,e,_,_,hn,_⟩
  ·omega
  ·injection e with _ _ e;omega
 have hA:A=none→T.length=0∧c=0:=by
  rintro rfl
  rcases h.2 with⟨e,hn⟩|⟨g,cap,cur,e,_,_,hn,_⟩
  ·injection e with _ _ e;exact⟨hn,e⟩
  ·injection e with e _ _;cases e
 obtain⟨n,hn⟩:∃n,n=T.length:=⟨_,rfl⟩
 rw[←hn] at hi hT hc hA⊢
 clear h hn
 cases A with
 | none =>
  obtain⟨rfl,rfl⟩:=hA rfl
  obtain rfl:i=0:=by omega
  clear hA
  go_enter Tryz.func125,Tryz.ntmps125
  go_wp2
  go_ret
  exact⟨rfl,rfl⟩
 | some a =>
  clear hA
  by_cases hic:i=c
  ·subst hic
   obtain rfl:n=i:=by omega
   go_enter Tryz.func125,Tryz.ntmps125
   go_wp2
   go_ret
   exact⟨rfl,rfl⟩
  ·by_cases hin:i=n
   ·subst hin
    go_enter Tryz.func125,Tryz.ntmps125
    go_wp2
    all_goals (go_ret;exact⟨rfl,rfl⟩)
   ·go_enter Tryz.func125,Tryz.ntmps125
    go_wp2
    all_goals (go_ret;exact⟨rfl,rfl⟩)
theorem TWrepl1_calls {w B vn n Bp vi ids} (hn:IsNd w B vn n) (hi:IRow w Bp vi ids) (h12:ids.length=1∨ids.length=2) (key:Bs) (i:Nat) (hid:i + 1≤n.kids.length) (hkk:n.keys.length + 1=n.kids.length) (hl:n.kids.length≤100) :
  Calls Tryz.prog 95 #[vn,.int .i64 i,.int .i64 ((i:Int) + 1),.agg #[vi,.string (ba key)]] w (NdTo (n.repl i (i + 1) ids key) w.heap.size w):=by
 obtain⟨l,Ak,a1,ck,Av,a2,cv,Ai,a3,ci,rfl,HE,H,H1,H2,H3⟩:=hn.opened
 obtain⟨Ap,cp,rfl⟩:=own_slice hi
 have HI:=Lib.hid hi
 obtain⟨m,hm⟩:∃m,m=ids.length:=⟨_,rfl⟩
 obtain⟨ks,hks⟩:∃s,s=ba key:=⟨_,rfl⟩
 rw[←hks]
 rw[←hm] at h12 HI⊢
 have HM:=Lib.hid hm;have HKS:=Lib.hid hks;have HKK:=Lib.hid hkk;have HL:=Lib.hid hl;have HID:=Lib.hid hid
 have hij:i < n.kids.length:=by omega
 have hi100:i≤100:=by omega
 have HIJ:=Lib.hid hij
 clear hn hi hm hks hkk hl hid hij
 go_enter Tryz.func95,Tryz.ntmps95
 go_wp2_with fail
 obtain⟨W,hW⟩:∃W,W=((w.alloc (.cells #[.bool l,.slice Ak a1 ck,.slice Av a2 cv,.slice Ai a3 ci] 148)).alloc (.cells #[.slice Ap m cp,.string ks] 169)).alloc (.cells #[.bool false,.slice none 0 0,.slice none 0 0,.slice none 0 0] 148):=⟨_,rfl⟩
 have hb0:W.heap[w.heap.size]? = some (.cells #[.bool l,.slice Ak a1 ck,.slice Av a2 cv,.slice Ai a3 ci] 148 (0,0)):=by
  rw[hW];exact heap_old (heap_old (heap_new w _) _) _
 have hb1:W.heap[w.heap.size + 1]? = some (.cells #[.slice Ap m cp,.string ks] 169 (0,0)):=by
  rw[hW];exact heap_old (heap_newAt (w:=w.alloc _) (n:=w.heap.size + 1) (by simp) _) _
 have hb2:W.heap[w.heap.size + 1 + 1]? = some (.cells #[.bool false,.slice none 0 0,.slice none 0 0,.slice none 0 0] 148 (0,0)):=by
  rw[hW];exact heap_newAt (by simp) _
 have KW:Hid (Kept (fun _=>False) w W):=by rw[hW];exact(((Kept.refl _ _).alloc _).alloc _).alloc _
 obtain⟨N,hN⟩:∃N,N=w.heap.size:=⟨_,rfl⟩
 rw[←hN] at hb0 hb1 hb2
 rw[←hW, ←hN]
 have HN:=Lib.hid hN
 obtain⟨c0,c1,c2,c3⟩:=nd_cells hb0
 have d0:W.cell? ⟨N + 1,0,none⟩=some (.slice Ap m cp):=(cell_heap hb1 0).trans rfl
 have HB0:=Lib.hid hb0;have HB1:=Lib.hid hb1;have HB2:=Lib.hid hb2
 have cells:Hid (∀w',Kept (fun k=>W.heap.size≤k) W w'→(w'.cell? ⟨N,1,none⟩=some (.slice Ak a1 ck)∧w'.cell? ⟨N,3,none⟩=some (.slice Ai a3 ci))∧(w'.cell? ⟨N + 1,0,none⟩=some (.slice Ap m cp)∧w'.cell? ⟨N + 1,1,none⟩=some (.string ks))∧w'.heap[N + 1 + 1]? = some (.cells #[.bool false,.slice none 0 0,.slice none 0 0,.slice none 0 0] 148 (0,0))):=fun w' k=>by
  have h0:=k.heap HB0.out (Nat.not_le.2 (lt_heap HB0.out))
  have h1:=k.heap HB1.out (Nat.not_le.2 (lt_heap HB1.out))
  have h2:=k.heap HB2.out (Nat.not_le.2 (lt_heap HB2.out))
  obtain⟨-,e1, -,e3⟩:=nd_cells h0
  exact⟨⟨e1,e3⟩,⟨(cell_heap h1 0).trans rfl,(cell_heap h1 1).trans rfl⟩,h2⟩
 have KF:Hid (∀w',Kept (fun k=>W.heap.size≤k) W w'→Kept (fun _=>False) w w'):=fun w' k=>KW.out.then k fun i hi e=>by have:=KW.out.size;omega
 clear hW hN hb0 hb1 hb2 c0 c2
 refine wp_region_held_drew (S:=(fun w'=>w'.cell? ⟨N,3,none⟩=some (.slice Ai a3 ci)∧w'.cell? ⟨N + 1,0,none⟩=some (.slice Ap m cp))) (by kernel_rfl) ⟨c3,d0⟩ (fun hHeld=>?_)
 clear c1 c3 d0
 refine tk 0 (h:=?_)
 (try simp only[lits])
 refine tk 1 (h:=?_)
 (try simp only[lits])
 refine tk 3 (h:=?_)
 (try simp only[lits])
 refine tk 4 (h:=?_)
 (try simp only[lits])
 refine tk 5 (h:=?_)
 (try simp only[lits])
 refine tk 6 (h:=?_)
 (try simp only[lits])
 have kw0:Hid (Kept (fun k=>W.heap.size≤k) W W.drew):=(Kept.refl _ W).drew
 have C1:=Lib.hid (cloneI_calls (H3.out.keptF (KF.out _ kw0.out)).sl (by have:=HL.out;omega))
 refine wpAnyH_ready (rs := [2]) (by kernel_rfl) (by simp) ?_
 refine AllReadyH.cons rfl (fun K hK=>?_) AllReadyH.nil
 go_simp
 refine C1.out.mono ?_
 rintro e w1 ⟨v1,rfl,r1,k1⟩
 have kw1:Hid (Kept (fun k=>W.heap.size≤k) W w1):=kw0.out.trans (k1.mono fun _ _=>False.elim)
 have hlt1:Hid (∀g,v1.ownBlock=some g→W.heap.size≤g∧g < w1.heap.size):=fun g hg=>⟨by have:=own_ge r1 hg;exact this,own_lt r1 hg⟩
 have hne1:v1.ownBlock ≠ (Value.slice Ap m cp).ownBlock:=by
  obtain⟨g,c,e⟩:=own_form r1 (by have:=HIJ.out;omega)
  rw[e]
  intro e'
  have h1:=(hlt1.out g (by rw[e];rfl)).1
  have e2:(Value.slice Ap m cp).ownBlock=some g:=e'.symm
  have h2:=own_lt HI.out e2
  have:=KW.out.size
  omega
 have C2:=Lib.hid (repl_calls (B:=W.heap.size) (j:=i + 1) (i:=i) (r1.base (by show W.heap.size≤W.drew.heap.size;exact Nat.le_refl _)) (by have:=kw1.out.size;omega) (HI.out.keptF (KF.out _ kw1.out)) (by have:=HM.out;omega) (by have:=HM.out;omega) hne1 (by omega) (by have:=HID.out;omega) (by have:=HL.out;omega))
 have C2':Hid (Calls Tryz.prog 133 #[v1,.int .i64 (i:Nat),.int .i64 ((i:Int) + 1),.slice Ap m cp] w1 (IRowTo (n.kids.take i ++ ids ++ n.kids.drop (i + 1)) W.heap.size v1 w1)):=by have h:=C2.out;rw[show((i + 1:Nat):Int)=(i:Int) + 1 from by omega] at h;exact h
 refine hK.out _ _ ⟨(cells.out _ kw1.out).1.2,(cells.out _ kw1.out).2.1.1⟩ (fun hHeld=>?_)
 clear hK r1 k1 C1 C2 hne1
 (try simp only[lits])
 refine wpAnyH_ready (rs := [7]) (by kernel_rfl) (by simp) ?_
 refine AllReadyH.cons rfl (fun K hK=>?_) AllReadyH.nil
 go_simp
 refine C2'.out.mono ?_
 rintro e w2 ⟨v2,rfl,r2,k2, -⟩
 have kw2:Hid (Kept (fun k=>W.heap.size≤k) W w2):=kw1.out.then k2 fun g hg e=>(hlt1.out g e).1
 have R2:=Lib.hid r2
 refine hK.out _ _ ⟨(cells.out _ kw2.out).1.2,(cells.out _ kw2.out).2.1.1⟩ (fun hHeld=>?_)
 clear hK r2 k2 C2'
 (try simp only[lits])
 refine tk 8 (h:=?_)
 (try simp only[lits])
 refine wpAnyH_done (by kernel_rfl) ?_ _
 clear hHeld
 obtain⟨A5,c5,rfl⟩:=own_slice R2.out
 obtain⟨kn,hkn⟩:∃x,x=(n.kids.take i ++ ids ++ n.kids.drop (i + 1)).length:=⟨_,rfl⟩
 rw[←hkn] at R2⊢
 have HKN:=Lib.hid hkn
 obtain⟨⟨c1, -⟩,⟨d0,d1⟩, -⟩:=cells.out _ kw2.out
 have C3:=Lib.hid (cloneS_calls (H1.out.keptF (KF.out _ kw2.out)).sl (by have:=HL.out;have:=HKK.out;omega))
 clear hkn
 go_wp2_with fail
 refine C3.out.mono ?_
 rintro e w3 ⟨v3,rfl,r3,k3⟩
 have kw3:Hid (Kept (fun k=>W.heap.size≤k) W w3):=kw2.out.trans (k3.mono fun _ _=>False.elim)
 have hlt3:Hid (∀g,v3.ownBlock=some g→w2.heap.size≤g∧g < w3.heap.size):=fun g hg=>⟨own_ge r3 hg,own_lt r3 hg⟩
 have hsz23:Hid (w2.heap.size≤w3.heap.size):=k3.size
 have R3:Hid (SRow w3 w2.heap.size v3 n.keys):=r3
 have R2b:Hid (IRow w3 W.heap.size (.slice A5 kn c5) (n.kids.take i ++ ids ++ n.kids.drop (i + 1))):=R2.out.keptF k3
 have hsz2:Hid (W.heap.size≤w2.heap.size):=kw2.out.size
 have hik:i + 0≤n.keys.length:=by have:=HID.out;have:=HKK.out;omega
 have hkl:n.keys.length≤100:=by have:=HL.out;have:=HKK.out;omega
 have C4:=Lib.hid fun w' (kk:Kept (fun _=>False) w3 w')=>del0_calls (R3.out.keptF kk) i (by omega) (by omega)
 clear r3 k3 C3 c1 d0 d1 hkl hik
 go_wp2_with fail
 refine(C4.out _ (Kept.refl _ _)).mono ?_
 rintro e w4 ⟨rfl,rfl⟩
 have R4:Hid (SRow w3 w2.heap.size v3 (n.keys.take i ++ n.keys.drop (i + 1 - 1))):=by
  show SRow _ _ _ _
  rw[Nat.add_sub_cancel,List.take_append_drop];exact R3.out
 have hsz24':Hid (w2.heap.size≤w3.heap.size):=hsz23.out
 have kw4:=kw3
 have hlt4:=hlt3
 have R2c:=R2b
 obtain⟨w4,hw4⟩:∃w4,w4=w3:=⟨_,rfl⟩
 obtain⟨v4,hv4⟩:∃v4,v4=v3:=⟨_,rfl⟩
 have hsz24:=hsz24'
 rw[←hw4] at R4 kw4 hlt4 R2c hsz24⊢
 clear hsz24'
 rw[←hv4] at R4 hlt4⊢
 clear C4 hw4 hv4
 obtain⟨⟨c1, -⟩,⟨d0,d1⟩,hbr⟩:=cells.out _ kw4.out
 have fr:∀j,w4.frozen? ⟨N + 1 + 1,j,none⟩=false:=fun j=>free_heap hbr j
 obtain⟨r0,r1,r2,r3⟩:=nd_cells hbr
 obtain⟨A6,c6,rfl⟩:=own_slice R4.out
 obtain⟨kn6,hkn6⟩:∃x,x=(n.keys.take i ++ n.keys.drop (i + 1 - 1)).length:=⟨_,rfl⟩
 have HKN6:=Lib.hid hkn6
 rw[←hkn6] at R4 hlt4⊢
 rcases h12 with hm1|hm2
 ·subst hm1
  clear hbr hkn6
  go_wp2
  have hst:=set4_kept w4 (N + 1 + 1) (.bool false) (.slice A6 kn6 c6) (.slice none 0 0) (.slice A5 kn c5)
  have hf:=set4_heap (cells.out _ kw4.out).2.2 rfl (.bool false) (.slice A6 kn6 c6) (.slice none 0 0) (.slice A5 kn c5)
  obtain⟨q0,q1,q2,q3⟩:=nd_cells hf
  refine bodyPost_ret (v:=.agg #[.bool false,.slice A6 kn6 c6,.slice none 0 0,.slice A5 kn c5]) (by simp[results,Tryz.f95,go_sem,q0,q1,q2,q3]) rfl ?_
  have hbx:=(cells.out _ kw4.out).2.2
  have hNW:w.heap.size≤W.heap.size:=KW.out.size
  have hrepl:n.repl i (i + 1) ids key=⟨false,n.keys.take i ++ n.keys.drop (i + 1 - 1), [],n.kids.take i ++ ids ++ n.kids.drop (i + 1)⟩:=by
   unfold Nd.repl
   rw[if_neg (by rw[←HM.out];omega)]
  refine⟨_,rfl,?_,(KF.out _ kw4.out).then hst fun g hg e=>by have:=HN.out;omega⟩
  rw[hrepl]
  refine IsNd.made rfl ?_ (SRow.nil _ _) ?_
  ·have h:=R4.out
   exact(SRow.kept h hst (own_ne h hbx (by decide))).base (by have:=hsz2.out;omega)
  ·have h:=R2c.out
   exact(IRow.kept h hst (own_ne h hbx (by decide))).base hNW
 ·subst hm2
  have hkl6:kn6≤100∧i≤kn6:=by
   have:=HL.out;have:=HKK.out;have:=HID.out
   rw[hkn6,List.length_append,List.length_take,List.length_drop]
   omega
  have C5:=Lib.hid (insS_calls (k:=key) (vb:=w4.heap.size) (SRow.kept R4.out ((Kept.refl (fun _=>False) w4).alloc (.cells #[.string ks] 9)) fun _ _=>id) (by have:=hsz24.out;simp;omega) i (by rw[←hkn6];exact hkl6.2) (by rw[←hkn6];omega) (by rw[←HKS.out];exact heap_new w4 _) (fun e=>by have:=(hlt4.out _ e).2;omega))
  clear hbr hkn6 hkl6 r0 r1 r2 r3 fr
  go_wp2_with fail
  refine C5.out.mono ?_
  rintro e w5 ⟨v5,rfl,r5,k5,ho5⟩
  have kw5:Hid (Kept (fun k=>W.heap.size≤k) W w5):=(kw4.out.alloc _).then k5 fun g hg e=>by have:=(hlt4.out g e).1;have:=hsz2.out;omega
  have R5:Hid (SRow w5 w2.heap.size v5 (insAt (n.keys.take i ++ n.keys.drop (i + 1 - 1)) i key)):=r5
  have R2d:Hid (IRow w5 W.heap.size (.slice A5 kn c5) (n.kids.take i ++ ids ++ n.kids.drop (i + 1))):=IRow.kept (R2c.out.keptF ((Kept.refl _ w4).alloc (.cells #[.string ks] 9))) k5 (own_neT (R2c.out.keptF ((Kept.refl _ w4).alloc (.cells #[.string ks] 9))) (SRow.kept R4.out ((Kept.refl (fun _=>False) w4).alloc (.cells #[.string ks] 9)) fun _ _=>id) (by decide))
  obtain⟨A6',c6',rfl⟩:=own_slice r5
  obtain⟨⟨e1, -⟩,⟨f0,f1⟩,hbr⟩:=cells.out _ kw5.out
  have fr:∀j,w5.frozen? ⟨N + 1 + 1,j,none⟩=false:=fun j=>free_heap hbr j
  obtain⟨r0,r1,r2,r3⟩:=nd_cells hbr
  obtain⟨kn7,hkn7⟩:∃x,x=(insAt (n.keys.take i ++ n.keys.drop (i + 1 - 1)) i key).length:=⟨_,rfl⟩
  have hfold:(List.take i (n.keys.take i ++ n.keys.drop (i + 1 - 1)) ++ key :: List.drop i (n.keys.take i ++ n.keys.drop (i + 1 - 1)))=insAt (n.keys.take i ++ n.keys.drop (i + 1 - 1)) i key:=rfl
  rw[hfold] at R5⊢
  rw[←hkn7] at R5⊢
  clear r5 k5 ho5 C5 hbr hkn7 hfold
  go_wp2
  have hst:=set4_kept w5 (N + 1 + 1) (.bool false) (.slice A6' kn7 c6') (.slice none 0 0) (.slice A5 kn c5)
  have hf:=set4_heap (cells.out _ kw5.out).2.2 rfl (.bool false) (.slice A6' kn7 c6') (.slice none 0 0) (.slice A5 kn c5)
  obtain⟨q0,q1,q2,q3⟩:=nd_cells hf
  refine bodyPost_ret (v:=.agg #[.bool false,.slice A6' kn7 c6',.slice none 0 0,.slice A5 kn c5]) (by simp[results,Tryz.f95,go_sem,q0,q1,q2,q3]) rfl ?_
  have hbx:=(cells.out _ kw5.out).2.2
  have hNW:w.heap.size≤W.heap.size:=KW.out.size
  have hrepl:n.repl i (i + 1) ids key=⟨false,insAt (n.keys.take i ++ n.keys.drop (i + 1 - 1)) i key, [],n.kids.take i ++ ids ++ n.kids.drop (i + 1)⟩:=by
   unfold Nd.repl
   rw[if_pos HM.out.symm]
  refine⟨_,rfl,?_,(KF.out _ kw5.out).then hst fun g hg e=>by have:=HN.out;omega⟩
  rw[hrepl]
  refine IsNd.made rfl ?_ (SRow.nil _ _) ?_
  ·have h:=R5.out
   exact(SRow.kept h hst (own_ne h hbx (by decide))).base (by have:=hsz2.out;omega)
  ·have h:=R2d.out
   exact(IRow.kept h hst (own_ne h hbx (by decide))).base hNW
end Go.Proofs.YtfgjehecjgebdaaGreat
/- The tree's changes: replace, of two. -/
namespace Go.Proofs.YtfgjehecjgebdaaGreat
open Go.RowKit Go.Maps Go.ChangeMaps
set_option maxHeartbeats 4000000
set_option maxRecDepth 100000
theorem TWrepl2_calls {w B vn n Bp vi ids} (hn:IsNd w B vn n) (hi:IRow w Bp vi ids) (h12:ids.length=1∨ids.length=2) (key:Bs) (i:Nat) (hid:i + 2≤n.kids.length) (hkk:n.keys.length + 1=n.kids.length) (hl:n.kids.length≤100) :
  Calls Tryz.prog 95 #[vn,.int .i64 i,.int .i64 ((i:Int) + 2),.agg #[vi,.string (ba key)]] w (NdTo (n.repl i (i + 2) ids key) w.heap.size w):=by
 obtain⟨l,Ak,a1,ck,Av,a2,cv,Ai,a3,ci,rfl,HE,H,H1,H2,H3⟩:=hn.opened
 obtain⟨Ap,cp,rfl⟩:=own_slice hi
 have HI:=Lib.hid hi
 obtain⟨m,hm⟩:∃m,m=ids.length:=⟨_,rfl⟩
 obtain⟨ks,hks⟩:∃s,s=ba key:=⟨_,rfl⟩
 rw[←hks]
 rw[←hm] at h12 HI⊢
 have HM:=Lib.hid hm;have HKS:=Lib.hid hks;have HKK:=Lib.hid hkk;have HL:=Lib.hid hl;have HID:=Lib.hid hid
 have hij:i < n.kids.length:=by omega
 have hi100:i≤100:=by omega
 have HIJ:=Lib.hid hij
 clear hn hi hm hks hkk hl hid hij
 go_enter Tryz.func95,Tryz.ntmps95
 go_wp2_with fail
 obtain⟨W,hW⟩:∃W,W=((w.alloc (.cells #[.bool l,.slice Ak a1 ck,.slice Av a2 cv,.slice Ai a3 ci] 148)).alloc (.cells #[.slice Ap m cp,.string ks] 169)).alloc (.cells #[.bool false,.slice none 0 0,.slice none 0 0,.slice none 0 0] 148):=⟨_,rfl⟩
 have hb0:W.heap[w.heap.size]? = some (.cells #[.bool l,.slice Ak a1 ck,.slice Av a2 cv,.slice Ai a3 ci] 148 (0,0)):=by
  rw[hW];exact heap_old (heap_old (heap_new w _) _) _
 have hb1:W.heap[w.heap.size + 1]? = some (.cells #[.slice Ap m cp,.string ks] 169 (0,0)):=by
  rw[hW];exact heap_old (heap_newAt (w:=w.alloc _) (n:=w.heap.size + 1) (by simp) _) _
 have hb2:W.heap[w.heap.size + 1 + 1]? = some (.cells #[.bool false,.slice none 0 0,.slice none 0 0,.slice none 0 0] 148 (0,0)):=by
  rw[hW];exact heap_newAt (by simp) _
 have KW:Hid (Kept (fun _=>False) w W):=by rw[hW];exact(((Kept.refl _ _).alloc _).alloc _).alloc _
 obtain⟨N,hN⟩:∃N,N=w.heap.size:=⟨_,rfl⟩
 rw[←hN] at hb0 hb1 hb2
 rw[←hW, ←hN]
 have HN:=Lib.hid hN
 obtain⟨c0,c1,c2,c3⟩:=nd_cells hb0
 have d0:W.cell? ⟨N + 1,0,none⟩=some (.slice Ap m cp):=(cell_heap hb1 0).trans rfl
 have HB0:=Lib.hid hb0;have HB1:=Lib.hid hb1;have HB2:=Lib.hid hb2
 have cells:Hid (∀w',Kept (fun k=>W.heap.size≤k) W w'→(w'.cell? ⟨N,1,none⟩=some (.slice Ak a1 ck)∧w'.cell? ⟨N,3,none⟩=some (.slice Ai a3 ci))∧(w'.cell? ⟨N + 1,0,none⟩=some (.slice Ap m cp)∧w'.cell? ⟨N + 1,1,none⟩=some (.string ks))∧w'.heap[N + 1 + 1]? = some (.cells #[.bool false,.slice none 0 0,.slice none 0 0,.slice none 0 0] 148 (0,0))):=fun w' k=>by
  have h0:=k.heap HB0.out (Nat.not_le.2 (lt_heap HB0.out))
  have h1:=k.heap HB1.out (Nat.not_le.2 (lt_heap HB1.out))
  have h2:=k.heap HB2.out (Nat.not_le.2 (lt_heap HB2.out))
  obtain⟨-,e1, -,e3⟩:=nd_cells h0
  exact⟨⟨e1,e3⟩,⟨(cell_heap h1 0).trans rfl,(cell_heap h1 1).trans rfl⟩,h2⟩
 have KF:Hid (∀w',Kept (fun k=>W.heap.size≤k) W w'→Kept (fun _=>False) w w'):=fun w' k=>KW.out.then k fun i hi e=>by have:=KW.out.size;omega
 clear hW hN hb0 hb1 hb2 c0 c2
 refine wp_region_held_drew (S:=(fun w'=>w'.cell? ⟨N,3,none⟩=some (.slice Ai a3 ci)∧w'.cell? ⟨N + 1,0,none⟩=some (.slice Ap m cp))) (by kernel_rfl) ⟨c3,d0⟩ (fun hHeld=>?_)
 clear c1 c3 d0
 refine tk 0 (h:=?_)
 (try simp only[lits])
 refine tk 1 (h:=?_)
 (try simp only[lits])
 refine tk 3 (h:=?_)
 (try simp only[lits])
 refine tk 4 (h:=?_)
 (try simp only[lits])
 refine tk 5 (h:=?_)
 (try simp only[lits])
 refine tk 6 (h:=?_)
 (try simp only[lits])
 have kw0:Hid (Kept (fun k=>W.heap.size≤k) W W.drew):=(Kept.refl _ W).drew
 have C1:=Lib.hid (cloneI_calls (H3.out.keptF (KF.out _ kw0.out)).sl (by have:=HL.out;omega))
 refine wpAnyH_ready (rs := [2]) (by kernel_rfl) (by simp) ?_
 refine AllReadyH.cons rfl (fun K hK=>?_) AllReadyH.nil
 go_simp
 refine C1.out.mono ?_
 rintro e w1 ⟨v1,rfl,r1,k1⟩
 have kw1:Hid (Kept (fun k=>W.heap.size≤k) W w1):=kw0.out.trans (k1.mono fun _ _=>False.elim)
 have hlt1:Hid (∀g,v1.ownBlock=some g→W.heap.size≤g∧g < w1.heap.size):=fun g hg=>⟨by have:=own_ge r1 hg;exact this,own_lt r1 hg⟩
 have hne1:v1.ownBlock ≠ (Value.slice Ap m cp).ownBlock:=by
  obtain⟨g,c,e⟩:=own_form r1 (by have:=HIJ.out;omega)
  rw[e]
  intro e'
  have h1:=(hlt1.out g (by rw[e];rfl)).1
  have e2:(Value.slice Ap m cp).ownBlock=some g:=e'.symm
  have h2:=own_lt HI.out e2
  have:=KW.out.size
  omega
 have C2:=Lib.hid (repl_calls (B:=W.heap.size) (j:=i + 2) (i:=i) (r1.base (by show W.heap.size≤W.drew.heap.size;exact Nat.le_refl _)) (by have:=kw1.out.size;omega) (HI.out.keptF (KF.out _ kw1.out)) (by have:=HM.out;omega) (by have:=HM.out;omega) hne1 (by omega) (by have:=HID.out;omega) (by have:=HL.out;omega))
 have C2':Hid (Calls Tryz.prog 133 #[v1,.int .i64 (i:Nat),.int .i64 ((i:Int) + 2),.slice Ap m cp] w1 (IRowTo (n.kids.take i ++ ids ++ n.kids.drop (i + 2)) W.heap.size v1 w1)):=by have h:=C2.out;rw[show((i + 2:Nat):Int)=(i:Int) + 2 from by omega] at h;exact h
 refine hK.out _ _ ⟨(cells.out _ kw1.out).1.2,(cells.out _ kw1.out).2.1.1⟩ (fun hHeld=>?_)
 clear hK r1 k1 C1 C2 hne1
 (try simp only[lits])
 refine wpAnyH_ready (rs := [7]) (by kernel_rfl) (by simp) ?_
 refine AllReadyH.cons rfl (fun K hK=>?_) AllReadyH.nil
 go_simp
 refine C2'.out.mono ?_
 rintro e w2 ⟨v2,rfl,r2,k2, -⟩
 have kw2:Hid (Kept (fun k=>W.heap.size≤k) W w2):=kw1.out.then k2 fun g hg e=>(hlt1.out g e).1
 have R2:=Lib.hid r2
 refine hK.out _ _ ⟨(cells.out _ kw2.out).1.2,(cells.out _ kw2.out).2.1.1⟩ (fun hHeld=>?_)
 clear hK r2 k2 C2'
 (try simp only[lits])
 refine tk 8 (h:=?_)
 (try simp only[lits])
 refine wpAnyH_done (by kernel_rfl) ?_ _
 clear hHeld
 obtain⟨A5,c5,rfl⟩:=own_slice R2.out
 obtain⟨kn,hkn⟩:∃x,x=(n.kids.take i ++ ids ++ n.kids.drop (i + 2)).length:=⟨_,rfl⟩
 rw[←hkn] at R2⊢
 have HKN:=Lib.hid hkn
 obtain⟨⟨c1, -⟩,⟨d0,d1⟩, -⟩:=cells.out _ kw2.out
 have C3:=Lib.hid (cloneS_calls (H1.out.keptF (KF.out _ kw2.out)).sl (by have:=HL.out;have:=HKK.out;omega))
 clear hkn
 go_wp2_with fail
 refine C3.out.mono ?_
 rintro e w3 ⟨v3,rfl,r3,k3⟩
 have kw3:Hid (Kept (fun k=>W.heap.size≤k) W w3):=kw2.out.trans (k3.mono fun _ _=>False.elim)
 have hlt3:Hid (∀g,v3.ownBlock=some g→w2.heap.size≤g∧g < w3.heap.size):=fun g hg=>⟨own_ge r3 hg,own_lt r3 hg⟩
 have hsz23:Hid (w2.heap.size≤w3.heap.size):=k3.size
 have R3:Hid (SRow w3 w2.heap.size v3 n.keys):=r3
 have R2b:Hid (IRow w3 W.heap.size (.slice A5 kn c5) (n.kids.take i ++ ids ++ n.kids.drop (i + 2))):=R2.out.keptF k3
 have hsz2:Hid (W.heap.size≤w2.heap.size):=kw2.out.size
 have hik:i + 1≤n.keys.length:=by have:=HID.out;have:=HKK.out;omega
 have hkl:n.keys.length≤100:=by have:=HL.out;have:=HKK.out;omega
 have C4:=Lib.hid (delS_calls R3.out i (by omega) (by omega))
 rw[show((i + 1:Nat):Int)=(i:Int) + 2 - 1 from by omega] at C4
 clear r3 k3 C3 c1 d0 d1 hkl hik
 go_wp2_with fail
 refine C4.out.mono ?_
 rintro e w4 ⟨v4,rfl,r4,k4,ho4⟩
 have hsz24:Hid (w2.heap.size≤w4.heap.size):=Nat.le_trans hsz23.out k4.size
 have R4:Hid (SRow w4 w2.heap.size v4 (n.keys.take i ++ n.keys.drop (i + 2 - 1))):=r4
 have kw4:Hid (Kept (fun k=>W.heap.size≤k) W w4):=kw3.out.then k4 fun g hg e=>by have:=(hlt3.out g e).1;have:=hsz2.out;omega
 have hlt4:Hid (∀g,v4.ownBlock=some g→w2.heap.size≤g∧g < w4.heap.size):=fun g hg=>⟨own_ge r4 hg,own_lt r4 hg⟩
 have R2c:Hid (IRow w4 W.heap.size (.slice A5 kn c5) (n.kids.take i ++ ids ++ n.kids.drop (i + 2))):=IRow.kept R2b.out k4 (own_neT R2b.out R3.out (by decide))
 clear C4 r4 k4 ho4
 obtain⟨⟨c1, -⟩,⟨d0,d1⟩,hbr⟩:=cells.out _ kw4.out
 have fr:∀j,w4.frozen? ⟨N + 1 + 1,j,none⟩=false:=fun j=>free_heap hbr j
 obtain⟨r0,r1,r2,r3⟩:=nd_cells hbr
 obtain⟨A6,c6,rfl⟩:=own_slice R4.out
 obtain⟨kn6,hkn6⟩:∃x,x=(n.keys.take i ++ n.keys.drop (i + 2 - 1)).length:=⟨_,rfl⟩
 have HKN6:=Lib.hid hkn6
 rw[←hkn6] at R4 hlt4⊢
 rcases h12 with hm1|hm2
 ·subst hm1
  clear hbr hkn6
  go_wp2
  have hst:=set4_kept w4 (N + 1 + 1) (.bool false) (.slice A6 kn6 c6) (.slice none 0 0) (.slice A5 kn c5)
  have hf:=set4_heap (cells.out _ kw4.out).2.2 rfl (.bool false) (.slice A6 kn6 c6) (.slice none 0 0) (.slice A5 kn c5)
  obtain⟨q0,q1,q2,q3⟩:=nd_cells hf
  refine bodyPost_ret (v:=.agg #[.bool false,.slice A6 kn6 c6,.slice none 0 0,.slice A5 kn c5]) (by simp[results,Tryz.f95,go_sem,q0,q1,q2,q3]) rfl ?_
  have hbx:=(cells.out _ kw4.out).2.2
  have hNW:w.heap.size≤W.heap.size:=KW.out.size
  have hrepl:n.repl i (i + 2) ids key=⟨false,n.keys.take i ++ n.keys.drop (i + 2 - 1), [],n.kids.take i ++ ids ++ n.kids.drop (i + 2)⟩:=by
   unfold Nd.repl
   rw[if_neg (by rw[←HM.out];omega)]
  refine⟨_,rfl,?_,(KF.out _ kw4.out).then hst fun g hg e=>by have:=HN.out;omega⟩
  rw[hrepl]
  refine IsNd.made rfl ?_ (SRow.nil _ _) ?_
  ·have h:=R4.out
   exact(SRow.kept h hst (own_ne h hbx (by decide))).base (by have:=hsz2.out;omega)
  ·have h:=R2c.out
   exact(IRow.kept h hst (own_ne h hbx (by decide))).base hNW
 ·subst hm2
  have hkl6:kn6≤100∧i≤kn6:=by
   have:=HL.out;have:=HKK.out;have:=HID.out
   rw[hkn6,List.length_append,List.length_take,List.length_drop]
   omega
  have C5:=Lib.hid (insS_calls (k:=key) (vb:=w4.heap.size) (SRow.kept R4.out ((Kept.refl (fun _=>False) w4).alloc (.cells #[.string ks] 9)) fun _ _=>id) (by have:=hsz24.out;simp;omega) i (by rw[←hkn6];exact hkl6.2) (by rw[←hkn6];omega) (by rw[←HKS.out];exact heap_new w4 _) (fun e=>by have:=(hlt4.out _ e).2;omega))
  clear hbr hkn6 hkl6 r0 r1 r2 r3 fr
  go_wp2_with fail
  refine C5.out.mono ?_
  rintro e w5 ⟨v5,rfl,r5,k5,ho5⟩
  have kw5:Hid (Kept (fun k=>W.heap.size≤k) W w5):=(kw4.out.alloc _).then k5 fun g hg e=>by have:=(hlt4.out g e).1;have:=hsz2.out;omega
  have R5:Hid (SRow w5 w2.heap.size v5 (insAt (n.keys.take i ++ n.keys.drop (i + 2 - 1)) i key)):=r5
  have R2d:Hid (IRow w5 W.heap.size (.slice A5 kn c5) (n.kids.take i ++ ids ++ n.kids.drop (i + 2))):=IRow.kept (R2c.out.keptF ((Kept.refl _ w4).alloc (.cells #[.string ks] 9))) k5 (own_neT (R2c.out.keptF ((Kept.refl _ w4).alloc (.cells #[.string ks] 9))) (SRow.kept R4.out ((Kept.refl (fun _=>False) w4).alloc (.cells #[.string ks] 9)) fun _ _=>id) (by decide))
  obtain⟨A6',c6',rfl⟩:=own_slice r5
  obtain⟨⟨e1, -⟩,⟨f0,f1⟩,hbr⟩:=cells.out _ kw5.out
  have fr:∀j,w5.frozen? ⟨N + 1 + 1,j,none⟩=false:=fun j=>free_heap hbr j
  obtain⟨r0,r1,r2,r3⟩:=nd_cells hbr
  obtain⟨kn7,hkn7⟩:∃x,x=(insAt (n.keys.take i ++ n.keys.drop (i + 2 - 1)) i key).length:=⟨_,rfl⟩
  have hfold:(List.take i (n.keys.take i ++ n.keys.drop (i + 2 - 1)) ++ key :: List.drop i (n.keys.take i ++ n.keys.drop (i + 2 - 1)))=insAt (n.keys.take i ++ n.keys.drop (i + 2 - 1)) i key:=rfl
  rw[hfold] at R5⊢
  rw[←hkn7] at R5⊢
  clear r5 k5 ho5 C5 hbr hkn7 hfold
  go_wp2
  have hst:=set4_kept w5 (N + 1 + 1) (.bool false) (.slice A6' kn7 c6') (.slice none 0 0) (.slice A5 kn c5)
  have hf:=set4_heap (cells.out _ kw5.out).2.2 rfl (.bool false) (.slice A6' kn7 c6') (.slice none 0 0) (.slice A5 kn c5)
  obtain⟨q0,q1,q2,q3⟩:=nd_cells hf
  refine bodyPost_ret (v:=.agg #[.bool false,.slice A6' kn7 c6',.slice none 0 0,.slice A5 kn c5]) (by simp[results,Tryz.f95,go_sem,q0,q1,q2,q3]) rfl ?_
  have hbx:=(cells.out _ kw5.out).2.2
  have hNW:w.heap.size≤W.heap.size:=KW.out.size
  have hrepl:n.repl i (i + 2) ids key=⟨false,insAt (n.keys.take i ++ n.keys.drop (i + 2 - 1)) i key, [],n.kids.take i ++ ids ++ n.kids.drop (i + 2)⟩:=by
   unfold Nd.repl
   rw[if_pos HM.out.symm]
  refine⟨_,rfl,?_,(KF.out _ kw5.out).then hst fun g hg e=>by have:=HN.out;omega⟩
  rw[hrepl]
  refine IsNd.made rfl ?_ (SRow.nil _ _) ?_
  ·have h:=R5.out
   exact(SRow.kept h hst (own_ne h hbx (by decide))).base (by have:=hsz2.out;omega)
  ·have h:=R2d.out
   exact(IRow.kept h hst (own_ne h hbx (by decide))).base hNW
end Go.Proofs.YtfgjehecjgebdaaGreat
/- The tree's changes: lay, top. -/
namespace Go.Proofs.YtfgjehecjgebdaaGreat
open Go.RowKit Go.Maps Go.ChangeMaps
set_option maxHeartbeats 4000000
set_option maxRecDepth 100000
def LayTo (r:Parts×Int×Wk) (w:World) (q:TQ) (wk:Nat) (vf vo:Value) (root:Int) (Z:Nat) (e:Ending) (w':World):Prop :=
 ∃A m c s,e = .returned (.tuple #[.agg #[.slice A m c,.string s],.int .i64 r.2.1])∧(r.2.1=0→IRow w' w.heap.size (.slice A m c) r.1.1∧s=ba r.1.2) ∧
  ∃vf',WkW w' q wk vf' vo r.2.2 root Z∧Kept (fun k=>k=q.c∨k=q.m∨k=wk∨vf.ownBlock=some k) w w' ∧ ∀g,vf'.ownBlock=some g→vf.ownBlock=some g∨w.heap.size≤g
theorem WkW.below {w q wk vf vo W root Z} (h:WkW w q wk vf vo W root Z):∀k,(k=q.c∨k=q.m∨k=wk∨vf.ownBlock=some k)→k < w.heap.size:=by
 rintro k (rfl|rfl|rfl|e)
 ·exact lt_heap h.tw.sto.sp.row
 ·obtain⟨es,clock,hm⟩:=h.tw.sto.put.heap
  exact lt_heap hm
 ·exact lt_heap h.blk
 ·exact own_lt h.rf e
theorem pair_cells {w:World} {N:Nat} {v0 v1:Value} {t:TypeId} {f} (h:w.heap[N]? = some (.cells #[v0,v1] t f)):w.cell? ⟨N,0,none⟩=some v0∧w.cell? ⟨N,1,none⟩=some v1:=by
 refine⟨?_,?_⟩<;>(rw[cell_heap h];rfl)
theorem set2_heap {w:World} {N:Nat} {T:TypeId} {u0 u1:Value} (h:w.heap[N]? = some (.cells #[u0,u1] T (0,0))) (v0 v1:Value) :
  ((w.setCell ⟨N,0,none⟩ v0).setCell ⟨N,1,none⟩ v1).heap[N]? = some (.cells #[v0,v1] T (0,0)):=heap_set (heap_set h 0 v0) 1 v1
theorem set2_kept (w:World) (N:Nat) (v0 v1:Value):Kept (· = N) w ((w.setCell ⟨N,0,none⟩ v0).setCell ⟨N,1,none⟩ v1):=((Kept.refl (· = N) w).set1 0 v0).set1 1 v1
theorem WkW.aside {w w' q wk vf vo W root Z} {S:Nat→Prop} (h:WkW w q wk vf vo W root Z) (k:Kept S w w') (hs:Alien w S) (hwk:¬S wk) (hf:∀b,vf.ownBlock=some b → ¬S b) (ho:∀b,vo.ownBlock=some b → ¬S b):WkW w' q wk vf vo W root Z :=
 ⟨h.tw.alien k hs,k.heap h.blk hwk,IRow.kept h.rf k hf,IRow.kept h.ro k ho,h.ne⟩
theorem WkW.asideOne {w w' q wk vf vo W root Z N cs T f} (h:WkW w q wk vf vo W root Z) (hN:w.heap[N]? = some (.cells cs T f)) (k:Kept (· = N) w w') (hT:alienT T=true) (h1:T ≠ 162) (h2:T ≠ 3):WkW w' q wk vf vo W root Z:=by
 refine h.aside k (Alien.one hN hT) ?_ (own_ne h.rf hN h2) (own_ne h.ro hN h2)
 rintro rfl
 have:=h.blk
 rw[hN] at this
 injection this with this
 injection this with _ e _
 exact h1 e
theorem putP_fresh (W:Wk) (n:Nd):(putP W n).2.fresh.length≤W.fresh.length + 1:=by
 unfold putP
 split
 ·exact Nat.le_succ _
 ·cases tkAt W.X.l with
  | none=>simp
  | some i=>simp
theorem TWlay_one {w q wk vf vo W root Z v n B} (h:WkW w q wk vf vo W root Z) (hn:IsNd w B v n) (hf:n.Fit) (hZ:Z≤w.heap.size) (hl:W.fresh.length≤1000) (ho:n.over=false) :
  Calls Tryz.prog 96 #[.pointer (some ⟨wk,0,none⟩),v] w (LayTo (layP W n) w q wk vf vo root Z):=by
 have CO:=Lib.hid fun w' (kk:Kept (fun _=>False) w w')=>NdOver_calls (hn.kept kk)
 have CP:=Lib.hid fun w' (kk:Kept (fun _=>False) w w')=>TWput_calls (h.keptF kk) (hn.kept kk) hf (Nat.le_trans hZ kk.size) hl
 rw[ho] at CO
 obtain⟨l,A1,n1,c1,A2,n2,c2,A3,n3,c3,rfl⟩:=hn.agg
 obtain⟨r,hr⟩:∃r,r=layP W n:=⟨_,rfl⟩
 rw[←hr]
 unfold PutTo at CP
 have HR:Hid (r=(([(putP W n).1.1], []),(putP W n).1.2,(putP W n).2)):=by show _=_;rw[hr];unfold layP;rw[if_pos ho]
 obtain⟨⟨⟨ti,te⟩,W'⟩,hp⟩:∃x,x=putP W n:=⟨_,rfl⟩
 rw[←hp] at CP HR
 dsimp only at CP HR
 have H:=Lib.hid h
 clear h hn hf hZ hl ho hr hp
 go_enter Tryz.func96,Tryz.ntmps96
 go_wp2_with fail
 refine(CO.out _ (by repeat (first|exact Kept.refl _ _|refine Kept.alloc ?_ _))).mono ?_
 rintro e w1 ⟨rfl,k1⟩
 have K1:=Lib.hid ((((Kept.refl (fun _=>False) w).alloc _).alloc _).trans k1)
 have hb0:=k1.heap (heap_old (heap_new w _) _) not_false
 have hb1:=k1.heap (heap_newAt (w:=w.alloc (.cells #[.bool l,.slice A1 n1 c1,.slice A2 n2 c2,.slice A3 n3 c3] 148)) (n:=w.heap.size + 1) (by simp) _) not_false
 have HB1:=Lib.hid hb1
 obtain⟨c0,c1',c2',c3'⟩:=nd_cells hb0
 obtain⟨N,hN⟩:∃N,N=w.heap.size:=⟨_,rfl⟩
 have HN:=Lib.hid hN
 rw[←hN] at HB1 c0 c1' c2' c3'⊢
 have hlN:Hid (N + 1 < w1.heap.size):=lt_heap HB1.out
 clear hb0 hb1 k1 CO hN
 go_wp2_with fail
 refine(CP.out _ K1.out).mono ?_
 rintro e w2 ⟨rfl,vf',hw,hk,hv⟩
 have HW:=Lib.hid hw;have HK:=Lib.hid hk;have HV:=Lib.hid hv
 have hpb:Hid (w2.heap[N + 1]? = some (.cells #[.slice none 0 0,.string ⟨#[]⟩] 169 (0,0))):=hk.heap HB1.out (by
  intro hs
  rcases hs with e|e|e|e
  ·have:=(H.out.keptF K1.out).below _ (.inl e)
   have:=H.out.below _ (.inl rfl)
   have:=HN.out
   omega
  ·have:=H.out.below _ (.inr (.inl rfl))
   have:=HN.out
   omega
  ·have:=H.out.below _ (.inr (.inr (.inl rfl)))
   have:=HN.out
   omega
  ·have:=H.out.below _ (.inr (.inr (.inr e)))
   have:=HN.out
   omega)
 obtain⟨p0,p1⟩:=pair_cells hpb.out
 have fp:∀i,w2.frozen? ⟨N + 1,i,none⟩=false:=fun i=>free_heap hpb.out i
 have hl2:=lt_heap hpb.out
 clear hw hk hv c0 c1' c2' c3' CP
 go_wp2
 have hst:=set2_kept w2 (N + 1) (.slice (some ⟨w2.heap.size,0,none⟩) 1 1) (.string ⟨#[]⟩)
 have hf:=heap_old (set2_heap hpb.out (.slice (some ⟨w2.heap.size,0,none⟩) 1 1) (.string ⟨#[]⟩)) (.cells #[.int .i64 ti] 3)
 obtain⟨q0,q1⟩:=pair_cells hf
 refine bodyPost_ret (v:=.tuple #[.agg #[.slice (some ⟨w2.heap.size,0,none⟩) 1 1,.string ⟨#[]⟩],.int .i64 te]) (by simp[results,Tryz.f96,go_sem,q0,q1]) rfl ?_
 rw[HR.out]
 have hw1:=K1.out.size
 have hw2:=HK.out.size
 refine⟨_,_,_,_,rfl,fun _=>⟨?_,rfl⟩,vf',((HW.out.asideOne hpb.out hst (by decide) (by decide) (by decide)).keptF ((Kept.refl _ _).alloc _)),?_,fun g hg=>(HV.out g hg).imp id fun h=>by omega⟩
 ·have hh:(((w2.setCell ⟨N + 1,0,none⟩ (.slice (some ⟨w2.heap.size,0,none⟩) 1 1)).setCell ⟨N + 1,1,none⟩ (.string ⟨#[]⟩)).alloc (.cells #[.int .i64 ti] 3)).heap[w2.heap.size]? = some (.cells #[.int .i64 ti] 3 (0,0)):=heap_newAt (by simp) _
  exact own_list (L := [.int .i64 ti]) (n:=1) hh (by omega) (by simp) (by simp[maxLen]) rfl rfl
 ·exact(((K1.out.mono fun _ _=>False.elim).then HK.out fun i hi e=>e).then hst fun i hi e=>by have:=HN.out;omega).alloc _
theorem put_keeps {w w1 w2 q wk vf vo W root Z} (h:WkW w q wk vf vo W root Z) (_k1:Kept (fun _=>False) w w1) (k2:Kept (fun k=>k=q.c∨k=q.m∨k=wk∨vf.ownBlock=some k) w1 w2) {N:Nat} {o:Obj} (hN:w.heap.size≤N) (hh:w1.heap[N]? = some o):w2.heap[N]? = some o :=
 k2.heap hh fun hs=>by have:=h.below N hs;omega
theorem TWlay_two {w q wk vf vo W root Z v n B} (h:WkW w q wk vf vo W root Z) (hn:IsNd w B v n) (hB:B≤w.heap.size) (hf:n.Fit) (hZ:Z≤w.heap.size) (hl:W.fresh.length≤900) (ho:n.over=true) :
  Calls Tryz.prog 96 #[.pointer (some ⟨wk,0,none⟩),v] w (LayTo (layP W n) w q wk vf vo root Z):=by
 obtain⟨flo,fhi,hmid, -⟩:=hf.halves ho
 have CO:=Lib.hid fun w' (kk:Kept (fun _=>False) w w')=>NdOver_calls (hn.kept kk)
 have CS:=Lib.hid fun w' (kk:Kept (fun _=>False) w w')=>NdSplit_calls (hn.kept kk) (Nat.le_trans hB kk.size) hf.sm ho hf.sh
 rw[ho] at CO
 obtain⟨l,A1,n1,c1,A2,n2,c2,A3,n3,c3,rfl⟩:=hn.agg
 obtain⟨r,hr⟩:∃r,r=layP W n:=⟨_,rfl⟩
 rw[←hr]
 have HR:Hid (r=if (putP W n.lo).1.2 ≠ 0 then (([], []),(putP W n.lo).1.2,(putP W n.lo).2)
   else (([(putP W n.lo).1.1,(putP (putP W n.lo).2 n.hi).1.1],n.mid),(putP (putP W n.lo).2 n.hi).1.2,(putP (putP W n.lo).2 n.hi).2)):=by show _=_;rw[hr];unfold layP;rw[if_neg (by simp[ho])]
 obtain⟨sm,hsm⟩:∃s,s=ba n.mid:=⟨_,rfl⟩
 unfold SplitTo at CS
 have esm:Ss n.mid = .string sm:=by rw[hsm];rfl
 rw[esm] at CS
 have HSM:=Lib.hid hsm
 have H:=Lib.hid h;have HZ:=Lib.hid hZ;have HL:=Lib.hid hl;have FLO:=Lib.hid flo;have FHI:=Lib.hid fhi
 clear h hn hf hZ hl ho hr hsm esm flo fhi hmid hB
 go_enter Tryz.func96,Tryz.ntmps96
 go_wp2_with fail
 refine(CO.out _ (by repeat (first|exact Kept.refl _ _|refine Kept.alloc ?_ _))).mono ?_
 rintro e w1 ⟨rfl,k1⟩
 have K1:=Lib.hid ((((Kept.refl (fun _=>False) w).alloc _).alloc _).trans k1)
 have hb0:=k1.heap (heap_old (heap_new w _) _) not_false
 have hb1:=k1.heap (heap_newAt (w:=w.alloc (.cells #[.bool l,.slice A1 n1 c1,.slice A2 n2 c2,.slice A3 n3 c3] 148)) (n:=w.heap.size + 1) (by simp) _) not_false
 have HB1:=Lib.hid hb1
 obtain⟨c0,c1',c2',c3'⟩:=nd_cells hb0
 obtain⟨N,hN⟩:∃N,N=w.heap.size:=⟨_,rfl⟩
 have HN:=Lib.hid hN
 rw[←hN] at HB1 c0 c1' c2' c3'⊢
 clear hb0 hb1 k1 CO hN
 go_wp2_with fail
 refine(CS.out _ K1.out).mono ?_
 rintro e w2 ⟨va,vb,rfl,ha,hb,k2⟩
 obtain⟨la,X1,x1,y1,X2,x2,y2,X3,x3,y3,rfl⟩:=ha.agg
 obtain⟨lb,X4,x4,y4,X5,x5,y5,X6,x6,y6,rfl⟩:=hb.agg
 have K2:=Lib.hid (K1.out.trans k2)
 have NA:=Lib.hid (ha.base (B':=w.heap.size) K1.out.size)
 have NB:=Lib.hid (hb.base (B':=w.heap.size) K1.out.size)
 have HB2:=Lib.hid (k2.heap HB1.out not_false)
 clear ha hb k2 CS c0 c1' c2' c3'
 go_wp2_with fail
 obtain⟨w3,hw3⟩:∃w3,w3=(w2.alloc (.cells #[.bool la,.slice X1 x1 y1,.slice X2 x2 y2,.slice X3 x3 y3] 148)).alloc (.cells #[.bool lb,.slice X4 x4 y4,.slice X5 x5 y5,.slice X6 x6 y6] 148):=⟨_,rfl⟩
 have K23:Kept (fun _=>False) w2 w3:=by rw[hw3];exact((Kept.refl _ _).alloc _).alloc _
 have HB3:=Lib.hid (K23.heap HB2.out not_false)
 have HBb:Hid (w3.heap[w2.heap.size + 1]? = some (.cells #[.bool lb,.slice X4 x4 y4,.slice X5 x5 y5,.slice X6 x6 y6] 148 (0,0))):=by show _=_;rw[hw3];exact heap_newAt (by simp) _
 have NA3:=Lib.hid (NA.out.kept K23)
 have NB3:=Lib.hid (NB.out.kept K23)
 have K3:=Lib.hid (K2.out.trans K23)
 have H3:=Lib.hid (H.out.keptF K3.out)
 have CP1:=Lib.hid (TWput_calls H3.out NA3.out FLO.out (Nat.le_trans HZ.out K3.out.size) (by have:=HL.out;omega))
 unfold PutTo at CP1
 obtain⟨⟨⟨ti,te⟩,W'⟩,hp⟩:∃x,x=putP W n.lo:=⟨_,rfl⟩
 rw[←hp] at CP1 HR
 dsimp only at CP1 HR
 have HP1:=Lib.hid hp
 obtain⟨Mb,hMb⟩:∃M,M=w2.heap.size:=⟨_,rfl⟩
 have HMb:Hid (w.heap.size≤Mb):=by show _≤_;rw[hMb];exact K2.out.size
 rw[←hMb] at HBb
 rw[←hw3, ←hMb]
 clear hw3 K23 hp hMb
 refine CP1.out.mono ?_
 rintro e w4 ⟨rfl,vf',hw,hk,hv⟩
 have HW:=Lib.hid hw;have HK:=Lib.hid hk;have HV:=Lib.hid hv
 have hpb:Hid (w4.heap[N + 1]? = some (.cells #[.slice none 0 0,.string ⟨#[]⟩] 169 (0,0))):=put_keeps H.out K3.out hk (by have:=HN.out;omega) HB3.out
 have hbb:Hid (w4.heap[Mb + 1]? = some (.cells #[.bool lb,.slice X4 x4 y4,.slice X5 x5 y5,.slice X6 x6 y6] 148 (0,0))):=put_keeps H.out K3.out hk (by have:=HMb.out;omega) HBb.out
 have NB4:Hid (IsNd w4 w.heap.size (.agg #[.bool lb,.slice X4 x4 y4,.slice X5 x5 y5,.slice X6 x6 y6]) n.hi):=NB3.out.keptS hk fun k hs=>H.out.below k hs
 clear hw hk hv CP1
 by_cases hz:te=0
 ·subst hz
  have CP2:=Lib.hid (TWput_calls HW.out NB4.out FHI.out (Nat.le_trans HZ.out (Nat.le_trans K3.out.size HK.out.size)) (by
   have h1:=HP1.out
   have h2:W'.fresh.length≤W.fresh.length + 1:=by
    have:W'=(putP W n.lo).2:=by rw[←h1]
    rw[this];exact putP_fresh W n.lo
   have:=HL.out
   omega))
  unfold PutTo at CP2
  obtain⟨⟨⟨tj,tf⟩,W''⟩,hp2⟩:∃x,x=putP W' n.hi:=⟨_,rfl⟩
  have HR2:Hid (r=(([ti,tj],n.mid),tf,W'')):=by show _=_;rw[HR.out,if_neg (by simp), ←hp2]
  rw[←hp2] at CP2
  dsimp only at CP2
  obtain⟨d0,d1,d2,d3⟩:=nd_cells hbb.out
  clear hp2 HR
  go_wp2_with fail
  refine CP2.out.mono ?_
  rintro e w5 ⟨rfl,vf'',hw5,hk5,hv5⟩
  have HW5:=Lib.hid hw5;have HK5:=Lib.hid hk5;have HV5:=Lib.hid hv5
  have hpb5:Hid (w5.heap[N + 1]? = some (.cells #[.slice none 0 0,.string ⟨#[]⟩] 169 (0,0))):=hk5.heap hpb.out (by
   intro hs
   have hn1:=HN.out
   rcases hs with e|e|e|e
   ·have:=H.out.below _ (.inl rfl);omega
   ·have:=H.out.below _ (.inr (.inl rfl));omega
   ·have:=H.out.below _ (.inr (.inr (.inl rfl)));omega
   ·exact own_ne HW.out.rf hpb.out (by decide) _ e rfl)
  obtain⟨p0,p1⟩:=pair_cells hpb5.out
  have fp:∀i,w5.frozen? ⟨N + 1,i,none⟩=false:=fun i=>free_heap hpb5.out i
  have hl5:=lt_heap hpb5.out
  clear hw5 hk5 hv5 CP2 d0 d1 d2 d3
  go_wp2
  have hst:=set2_kept w5 (N + 1) (.slice (some ⟨w5.heap.size,0,none⟩) 2 2) (.string sm)
  have hf:=heap_old (set2_heap hpb5.out (.slice (some ⟨w5.heap.size,0,none⟩) 2 2) (.string sm)) (.cells #[.int .i64 ti,.int .i64 tj] 3)
  obtain⟨q0,q1⟩:=pair_cells hf
  refine bodyPost_ret (v:=.tuple #[.agg #[.slice (some ⟨w5.heap.size,0,none⟩) 2 2,.string sm],.int .i64 tf]) (by simp[results,Tryz.f96,go_sem,q0,q1]) rfl ?_
  rw[HR2.out]
  have s3:=K3.out.size
  have s4:=HK.out.size
  have s5:=HK5.out.size
  refine⟨_,_,_,_,rfl,fun _=>⟨?_,by rw[HSM.out]⟩,vf'',((HW5.out.asideOne hpb5.out hst (by decide) (by decide) (by decide)).keptF ((Kept.refl _ _).alloc _)),?_,fun g hg=>?_⟩
  ·have hh:(((w5.setCell ⟨N + 1,0,none⟩ (.slice (some ⟨w5.heap.size,0,none⟩) 2 2)).setCell ⟨N + 1,1,none⟩ (.string sm)).alloc (.cells #[.int .i64 ti,.int .i64 tj] 3)).heap[w5.heap.size]? = some (.cells #[.int .i64 ti,.int .i64 tj] 3 (0,0)):=heap_newAt (by simp) _
   exact own_list (L := [.int .i64 ti,.int .i64 tj]) (n:=2) hh (by omega) (by simp) (by simp[maxLen]) rfl rfl
  ·refine((((K3.out.mono fun _ _=>False.elim).then HK.out fun i hi e=>e).then HK5.out fun i hi e=>?_).then hst fun i hi e=>by have:=HN.out;omega).alloc _
   rcases e with e|e|e|e
   ·exact .inl e
   ·exact .inr (.inl e)
   ·exact .inr (.inr (.inl e))
   ·rcases HV.out i e with e|e
    ·exact .inr (.inr (.inr e))
    ·omega
  ·rcases HV5.out g hg with e|e
   ·rcases HV.out g e with e|e
    ·exact .inl e
    ·exact .inr (by omega)
   ·exact .inr (by omega)
 ·have HR2:Hid (r=(([], []),te,W')):=by show _=_;rw[HR.out,if_pos hz]
  have hz1:(te == 0)=false:=by rw[beq_eq_false_iff_ne];exact hz
  have hz2:(te != 0)=true:=by rw[bne_iff_ne];exact hz
  have HZz:=Lib.hid hz
  obtain⟨p0,p1⟩:=pair_cells hpb.out
  have fp:∀i,w4.frozen? ⟨N + 1,i,none⟩=false:=fun i=>free_heap hpb.out i
  clear hz HR
  go_wp2
  have hst:=set2_kept w4 (N + 1) (.slice none 0 0) (.string ⟨#[]⟩)
  have hf:=set2_heap hpb.out (.slice none 0 0) (.string ⟨#[]⟩)
  obtain⟨q0,q1⟩:=pair_cells hf
  refine bodyPost_ret (v:=.tuple #[.agg #[.slice none 0 0,.string ⟨#[]⟩],.int .i64 te]) (by simp[results,Tryz.f96,go_sem,q0,q1]) rfl ?_
  rw[HR2.out]
  have s3:=K3.out.size
  have s4:=HK.out.size
  refine⟨_,_,_,_,rfl,fun h=>absurd h HZz.out,vf',HW.out.asideOne hpb.out hst (by decide) (by decide) (by decide),?_,fun g hg=>(HV.out g hg).imp id fun h=>by omega⟩
  exact((K3.out.mono fun _ _=>False.elim).then HK.out fun i hi e=>e).then hst fun i hi e=>by have:=HN.out;omega
theorem TWlay_calls {w q wk vf vo W root Z v n B} (h:WkW w q wk vf vo W root Z) (hn:IsNd w B v n) (hB:B≤w.heap.size) (hf:n.Fit) (hZ:Z≤w.heap.size) (hl:W.fresh.length≤900) :
  Calls Tryz.prog 96 #[.pointer (some ⟨wk,0,none⟩),v] w (LayTo (layP W n) w q wk vf vo root Z):=by
 cases ho:n.over
 ·exact TWlay_one h hn hf hZ (by omega) ho
 ·exact TWlay_two h hn hB hf hZ hl ho
def TopTo (r:(Nat×Int)×Wk) (w:World) (q:TQ) (wk:Nat) (vf vo:Value) (root:Int) (Z:Nat) (e:Ending) (w':World):Prop:=PutTo r w q wk vf vo root Z e w'
theorem TWtop_calls {w q wk vf vo W root Z A m c} {p:Parts} {Bp:Nat} (h:WkW w q wk vf vo W root Z) (hi:IRow w Bp (.slice A m c) p.1) (h12:p.1.length=1∨p.1.length=2) (h128:∀x∈p.1,x < 128) (hk:p.2.length≤24) (hZ:Z≤w.heap.size) (hl:W.fresh.length≤1000) :
  Calls Tryz.prog 97 #[.pointer (some ⟨wk,0,none⟩),.agg #[.slice A m c,.string (ba p.2)]] w (TopTo (topP W p) w q wk vf vo root Z):=by
 obtain⟨ids,key⟩:=p
 dsimp only at hi h12 h128 hk⊢
 have hm:m=ids.length:=row_len hi
 obtain⟨ks,hks⟩:∃s,s=ba key:=⟨_,rfl⟩
 rw[←hks]
 obtain⟨r,hr⟩:∃r,r=topP W (ids,key):=⟨_,rfl⟩
 rw[←hr]
 have HKS:=Lib.hid hks
 obtain⟨g,c',e⟩:=own_form hi (by omega)
 injection e with e1 e2 e3
 subst e1
 clear e2 e3
 have H:=Lib.hid h;have HI:=Lib.hid hi
 rcases h12 with h1|h2
 ·have hm1:m=1:=by omega
  subst hm1
  have q1:w.cell? ⟨g,0,none⟩=some (.int .i64 (ids[0]'(by omega):Nat)):=hi.atI (by omega)
  have hgl:g < w.heap.size:=own_lt hi rfl
  obtain⟨x,hx⟩:∃x,x=ids[0]'(by omega):=⟨_,rfl⟩
  rw[←hx] at q1
  have HR:Hid (r=((x,0),W)):=by
   show _=_
   rw[hr]
   unfold topP
   rw[if_pos h1,hx]
   simp[List.getD,show 0 < ids.length by omega]
  clear h hi h128 hks hr h1 hx hm
  go_enter Tryz.func97,Tryz.ntmps97
  go_wp2
  refine bodyPost_ret (v:=.tuple #[.int .i64 x,.int .i64 0]) (by simp[results,Tryz.f97,go_sem]) rfl ?_
  rw[HR.out]
  exact⟨rfl,vf,H.out.keptF ((Kept.refl _ _).alloc _),((Kept.refl _ _).alloc _),fun g hg=>.inl hg⟩
 ·have hm2:m=2:=by omega
  subst hm2
  have HR:Hid (r=putP W ⟨false, [key], [],ids⟩):=by
   show _=_
   rw[hr]
   unfold topP
   rw[if_neg (by simp only;omega)]
  have HF:Hid (Nd.Fit ⟨false, [key], [],ids⟩):=⟨(fun h=>by cases h),fun _=>⟨by simp[h2],rfl⟩,(fun k hk'=>by simp at hk';rw[hk'];exact hk),(fun v hv=>by simp at hv),h128,by simp[Nd.len,h2]⟩
  have CP:=Lib.hid fun w' (k:Kept (fun _=>False) w w')=>TWput_calls (v:=.agg #[.bool false,.slice (some ⟨w.heap.size + 1,0,none⟩) 1 1,.slice none 0 0,.slice (some ⟨g,0,none⟩) 2 c]) (n:=⟨false, [key], [],ids⟩) (B:=0) (h.keptF k)
  have HZ:=Lib.hid hZ;have HL:=Lib.hid hl
  clear h hi h128 hks hr h2 hm hZ hl
  go_enter Tryz.func97,Tryz.ntmps97
  go_wp2_with fail
  have hh:((w.alloc (.cells #[.slice (some ⟨g,0,none⟩) 2 c,.string ks] 169)).alloc (.cells #[.string ks] 9)).heap[w.heap.size + 1]? = some (.cells #[.string ks] 9 (0,0)):=heap_newAt (by simp) _
  have r1:SRow ((w.alloc (.cells #[.slice (some ⟨g,0,none⟩) 2 c,.string ks] 169)).alloc (.cells #[.string ks] 9)) 0 (.slice (some ⟨w.heap.size + 1,0,none⟩) 1 1) [key] :=
   own_list (L := [.string ks]) (n:=1) hh (by omega) (by simp) (by simp[maxLen]) (by rw[HKS.out];rfl) rfl
  have hnd:IsNd ((w.alloc (.cells #[.slice (some ⟨g,0,none⟩) 2 c,.string ks] 169)).alloc (.cells #[.string ks] 9)) 0 (.agg #[.bool false,.slice (some ⟨w.heap.size + 1,0,none⟩) 1 1,.slice none 0 0,.slice (some ⟨g,0,none⟩) 2 c]) ⟨false, [key], [],ids⟩ :=
   IsNd.made rfl r1 (SRow.nil _ _) ((HI.out.keptF (((Kept.refl _ _).alloc _).alloc _)).base (Nat.zero_le _))
  have CP':=Lib.hid (CP.out _ (((Kept.refl _ _).alloc _).alloc _) hnd HF.out (by have:=HZ.out;simp;omega) HL.out)
  clear hh r1 hnd CP
  refine CP'.out.mono ?_
  rintro e w1 ⟨rfl,vf',hw,hk,hv⟩
  have HW:=Lib.hid hw;have HK:=Lib.hid hk;have HV:=Lib.hid hv
  obtain⟨⟨⟨ti,te⟩,W'⟩,hp⟩:∃x,x=putP W ⟨false, [key], [],ids⟩:=⟨_,rfl⟩
  rw[←hp] at HW HR⊢
  clear hw hk hv CP' hp
  go_wp2
  refine bodyPost_ret (v:=.tuple #[.int .i64 ti,.int .i64 te]) (by simp[results,Tryz.f97,go_sem]) rfl ?_
  rw[HR.out]
  refine⟨rfl,vf',HW.out,(((Kept.refl _ w).alloc _).alloc _).trans HK.out,fun g hg=>(HV.out g hg).imp id fun h=>by simp at h;omega⟩
end Go.Proofs.YtfgjehecjgebdaaGreat
