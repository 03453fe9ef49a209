/- Nodes: Join. -/
import Derived.Test.YtfgjehecjgebdaaGreatMg19
import Derived.Test.YtfgjehecjgebdaaGreatMg06
namespace Go.Proofs.YtfgjehecjgebdaaGreat
open Go.RowKit
set_option maxHeartbeats 4000000
set_option maxRecDepth 100000
theorem row_len {w:World} {B:Nat} {e:TypeId} {A:Option Addr} {a c m:Nat} {xs:List Value} (h:w.ownsRow B e 1 (.slice A a c) m xs):a=m:=by
 rcases h.2 with⟨e,hn⟩|⟨g,cap,cur,e,_⟩
 ·injection e with _ e2 _;omega
 ·injection e
theorem own_ne {w:World} {B:Nat} {e:TypeId} {v:Value} {n:Nat} {xs:List Value} (h:w.ownsRow B e 1 v n xs) {g:Nat} {cs:Array Value} {T:TypeId} {f:Nat×Nat} (hg:w.heap[g]? = some (.cells cs T f)) (hT:T ≠ e):∀b,v.ownBlock=some b→b ≠ g:=by
 rintro b hb rfl
 rcases h.2 with⟨rfl,_⟩|⟨g',cap,cur,rfl,_,hh,_⟩
 ·cases hb
 ·injection hb with hb
  subst hb
  rw[hh] at hg
  injection hg with hg
  injection hg with _ e _
  exact hT e.symm
theorem app_row {w2 W' w':World} {B:Nat} {v v':Value} {T T':List Bs} {n m:Nat} (h:SRow w2 B v T) (k0:Kept (fun _=>False) w2 W') (hB:B≤w2.heap.size) (hn:n=T.length) (hm:m=T'.length) (h1:w'.ownsRow 0 9 1 v' (n + m) (T.map Ss ++ T'.map Ss)) (h2:W'.grownBy w' v.ownBlock)
  (h3:v'.ownBlock=v.ownBlock∨v'.ownBlock=some W'.heap.size):SRow w' B v' (T ++ T')∧Kept (fun k=>v.ownBlock=some k) w2 w'∧(v'.ownBlock=v.ownBlock ∨ ∃g,v'.ownBlock=some g∧w2.heap.size≤g):=by
 subst hn hm
 have hk:=k0.size
 refine⟨?_,?_,?_⟩
 ·show w'.ownsRow _ _ _ _ _ _
  rw[List.length_append,List.map_append]
  refine own_base h1 fun k hk'=>?_
  rcases h3 with e|e
  ·exact own_ge h (e ▸ hk')
  ·rw[hk'] at e
   injection e with e
   omega
 ·exact(k0.mono fun _ _=>False.elim).trans ⟨h2.os,h2.tape,h2.output,h2.size,fun k hk' hne=>h2.block k hk' fun e=>hne e.symm⟩
 ·rcases h3 with e|e
  ·exact .inl e
  ·exact .inr ⟨_,e,hk⟩
def zeroNd:Array Value := #[.bool false,.slice none 0 0,.slice none 0 0,.slice none 0 0]
theorem own_ne2 {w:World} {B B':Nat} {e e':TypeId} {v v':Value} {n n':Nat} {xs xs':List Value} (h:w.ownsRow B e 1 v n xs) (h':w.ownsRow B' e' 1 v' n' xs') (hT:e ≠ e'):∀b,v.ownBlock=some b → ¬v'.ownBlock=some b:=by
 intro b hb hb'
 rcases h.2 with⟨rfl,_⟩|⟨g,cap,cur,rfl,_,hh,_⟩
 ·cases hb
 rcases h'.2 with⟨rfl,_⟩|⟨g',cap',cur',rfl,_,hh',_⟩
 ·cases hb'
 injection hb with hb
 injection hb' with hb'
 subst hb hb'
 rw[hh] at hh'
 injection hh' with hh'
 injection hh' with _ e _
 exact hT e
structure JS (w w3:World) (N g:Nat) (l:Bool) (kv v1 v2 v3:Value) (T vs:List Bs) (is:List Nat) (cb:Array Value):Prop where
 row1:SRow w3 N v1 T
 row2:SRow w3 N v2 vs
 row3:IRow w3 N v3 is
 ne:∀b,v2.ownBlock=some b→v1.ownBlock ≠ some b
 kept:Kept (fun _=>False) w w3
 hN:N=w.heap.size
 hg:N≤g
 blk:w3.heap[g]? = some (.cells #[.bool l,kv,v2,v3] 148 (0,0))
 blkB:w3.heap[N + 1]? = some (.cells cb 148 (0,0))
 blkR:w3.heap[N + 1 + 1]? = some (.cells zeroNd 148 (0,0))
 n1:N + 1 ≠ g
 n2:N + 1 + 1 ≠ g
theorem JS.own {w w3 N g l kv v1 v2 v3 T vs is cb} (h:JS w w3 N g l kv v1 v2 v3 T vs is cb) {n:Nat} (hn:n=T.length) {W:World} (k:Kept (fun _=>False) w3 W):W.ownsRow 0 9 1 v1 n (T.map Ss):=by
 subst hn
 exact own_base (h.row1.keptF k) fun _ _=>Nat.zero_le _
theorem JS.app {w w3 W w4 N g l kv v1 v2 v3 v' T T' vs is cb} {n m:Nat} (h:JS w w3 N g l kv v1 v2 v3 T vs is cb) (k0:Kept (fun _=>False) w3 W) (hn:n=T.length) (hm:m=T'.length)
  (h1:w4.ownsRow 0 9 1 v' (n + m) (T.map Ss ++ T'.map Ss)) (h2:W.grownBy w4 v1.ownBlock) (h3:v'.ownBlock=v1.ownBlock∨v'.ownBlock=some W.heap.size) :
  ∃A c,v' = .slice A (n + m) c∧JS w w4 N g l kv (.slice A (n + m) c) v2 v3 (T ++ T') vs is cb:=by
 have hNs:N≤w3.heap.size:=by rw[h.hN];exact h.kept.size
 obtain⟨r,k,ho⟩:=app_row h.row1 k0 hNs hn hm h1 h2 h3
 obtain⟨A,c,rfl⟩:=own_slice r
 have hl:(T ++ T').length=n + m:=by rw[hn,hm,List.length_append]
 rw[hl] at r
 refine⟨A,c,by rw[hl],?_⟩
 refine⟨r,?_,?_,?_,?_,h.hN,h.hg,?_,?_,?_,h.n1,h.n2⟩
 ·exact SRow.kept h.row2 k h.ne
 ·exact IRow.kept h.row3 k (own_ne2 h.row3 h.row1 (by decide))
 ·intro b hb
  rw[hl] at ho
  rcases ho with e|⟨g',e,hg'⟩
  ·rw[e];exact h.ne b hb
  ·rw[e];intro e';injection e' with e'
   have:=own_lt h.row2 hb
   omega
 ·refine h.kept.then k fun i hi e=>?_
  have:=own_ge h.row1 e
  have:=h.hN
  omega
 ·exact k.heap h.blk fun e=>own_ne h.row1 h.blk (by decide) _ e rfl
 ·exact k.heap h.blkB fun e=>own_ne h.row1 h.blkB (by decide) _ e rfl
 ·exact k.heap h.blkR fun e=>own_ne h.row1 h.blkR (by decide) _ e rfl
theorem JS.store {w w3 N g l kv v1 v2 v3 T vs is cb} (h:JS w w3 N g l kv v1 v2 v3 T vs is cb):JS w (w3.setCell ⟨g,1,none⟩ v1) N g l v1 v1 v2 v3 T vs is cb:=by
 have k:Kept (· = g) w3 (w3.setCell ⟨g,1,none⟩ v1):=(Kept.refl (· = g) w3).set1 1 v1
 refine⟨SRow.kept h.row1 k (own_ne h.row1 h.blk (by decide)),SRow.kept h.row2 k (own_ne h.row2 h.blk (by decide)),IRow.kept h.row3 k (own_ne h.row3 h.blk (by decide)),h.ne,?_,h.hN,h.hg,heap_set h.blk 1 v1,?_,?_,h.n1,h.n2⟩
 ·exact h.kept.then k fun i hi e=>by have:=h.hg;have:=h.hN;omega
 ·exact k.heap h.blkB h.n1
 ·exact k.heap h.blkR h.n2
theorem JS.fin {w u N g l kv v1 v2 v3 T vs is cb} (h:JS w u N g l kv v1 v2 v3 T vs is cb) (x0 x1 x2 x3:Value):let u':=(((u.setCell ⟨N + 1 + 1,0,none⟩ x0).setCell ⟨N + 1 + 1,1,none⟩ x1).setCell ⟨N + 1 + 1,2,none⟩ x2).setCell ⟨N + 1 + 1,3,none⟩ x3
  SRow u' N v1 T∧SRow u' N v2 vs∧IRow u' N v3 is∧Kept (fun _=>False) w u':=by
 intro u'
 have k:Kept (· = N + 1 + 1) u u':=((((Kept.refl (· = N + 1 + 1) u).set1 0 x0).set1 1 x1).set1 2 x2).set1 3 x3
 exact⟨SRow.kept h.row1 k (own_ne h.row1 h.blkR (by decide)),SRow.kept h.row2 k (own_ne h.row2 h.blkR (by decide)),IRow.kept h.row3 k (own_ne h.row3 h.blkR (by decide)),h.kept.then k fun i hi e=>by have:=h.hN;omega⟩
theorem NdJoin_calls {w B va vb a b} (ha:IsNd w B va a) (hb:IsNd w B vb b) (hB:B≤w.heap.size) (k:Bs) (fa:a.Fit) (fb:b.Fit) (hab:b.leaf=a.leaf):Calls Tryz.prog 153 #[va,.string (ba k),vb] w (NdTo (nJoin a k b) w.heap.size w):=by
 obtain⟨l,Ak,a1,ck,Av,a2,cv,Ai,a3,ci,rfl,HE,H,H1,H2,H3⟩:=ha.opened
 obtain⟨l',Ak',a1',ck',Av',a2',cv',Ai',a3',ci',rfl,HE',H',H1',H2',H3'⟩:=hb.opened
 clear ha hb
 obtain⟨s,hs⟩:∃s,s=ba k:=⟨_,rfl⟩
 rw[←hs]
 have HS:=Lib.hid hs;have HFA:=Lib.hid fa;have HFB:=Lib.hid fb;have HBB:=Lib.hid hB;have HAB:=Lib.hid hab
 clear hs fa fb hB hab
 go_enter Tryz.func153,Tryz.ntmps153
 go_wp2_with fail
 obtain⟨W,hW⟩:∃W,W=((w.alloc (.cells #[.bool l,.slice Ak a1 ck,.slice Av a2 cv,.slice Ai a3 ci] 148)).alloc (.cells #[.bool l',.slice Ak' a1' ck',.slice Av' a2' cv',.slice Ai' a3' ci'] 148)).alloc (.cells #[.bool false,.slice none 0 0,.slice none 0 0,.slice none 0 0] 148):=⟨_,rfl⟩
 have hb0:W.heap[w.heap.size]? = some (.cells #[.bool l,.slice Ak a1 ck,.slice Av a2 cv,.slice Ai a3 ci] 148 (0,0)):=by
  rw[hW];exact heap_old (heap_old (heap_new w _) _) _
 have hb1:W.heap[w.heap.size + 1]? = some (.cells #[.bool l',.slice Ak' a1' ck',.slice Av' a2' cv',.slice Ai' a3' ci'] 148 (0,0)):=by
  rw[hW];exact heap_old (heap_newAt (w:=w.alloc _) (n:=w.heap.size + 1) (by simp) _) _
 have hb2:W.heap[w.heap.size + 1 + 1]? = some (.cells #[.bool false,.slice none 0 0,.slice none 0 0,.slice none 0 0] 148 (0,0)):=by
  rw[hW];exact heap_newAt (by simp) _
 have KW:Hid (Kept (fun _=>False) w W):=by rw[hW];exact(((Kept.refl _ _).alloc _).alloc _).alloc _
 obtain⟨N,hN⟩:∃N,N=w.heap.size:=⟨_,rfl⟩
 rw[←hN] at hb0 hb1 hb2
 rw[←hW, ←hN]
 obtain⟨c0,c1,c2,c3⟩:=nd_cells hb0
 obtain⟨d0,d1,d2,d3⟩:=nd_cells hb1
 have HB2:=Lib.hid hb2;have HB1:=Lib.hid hb1
 have HN:=Lib.hid hN
 clear hW hN hb0 hb1 hb2
 refine wp_region_held_drew (S:=(fun w'=>w'.cell? ⟨N,0,none⟩=some (.bool l)∧w'.cell? ⟨N,1,none⟩=some (.slice Ak a1 ck)∧w'.cell? ⟨N,2,none⟩=some (.slice Av a2 cv)∧w'.cell? ⟨N,3,none⟩=some (.slice Ai a3 ci)∧w'.cell? ⟨N + 1,2,none⟩=some (.slice Av' a2' cv')∧w'.cell? ⟨N + 1,3,none⟩=some (.slice Ai' a3' ci'))) (by kernel_rfl) ⟨c0,c1,c2,c3,d2,d3⟩ (fun hHeld=>?_)
 refine tk 0 (h:=?_)
 (try simp only[lits])
 refine tk 1 (h:=?_)
 (try simp only[lits])
 refine tk 2 (h:=?_)
 (try simp only[lits])
 refine tk 3 (h:=?_)
 (try simp only[lits])
 refine tk 5 (h:=?_)
 (try simp only[lits])
 refine tk 6 (h:=?_)
 (try simp only[lits])
 refine tk 7 (h:=?_)
 (try simp only[lits])
 refine tk 8 (h:=?_)
 (try simp only[lits])
 refine tk 11 (h:=?_)
 (try simp only[lits])
 refine tk 12 (h:=?_)
 (try simp only[lits])
 refine tk 13 (h:=?_)
 (try simp only[lits])
 refine tk 14 (h:=?_)
 (try simp only[lits])
 have HS0:Hid (∀w1,Kept (fun _=>False) W.drew w1→w1.cell? ⟨N,0,none⟩=some (.bool l)∧w1.cell? ⟨N,1,none⟩=some (.slice Ak a1 ck)∧w1.cell? ⟨N,2,none⟩=some (.slice Av a2 cv)∧w1.cell? ⟨N,3,none⟩=some (.slice Ai a3 ci)∧w1.cell? ⟨N + 1,2,none⟩=some (.slice Av' a2' cv')∧w1.cell? ⟨N + 1,3,none⟩=some (.slice Ai' a3' ci')):=fun w1 k=>by
  have hl2:=lt_heap HB2.out
  have e0:∀i,w1.cell? ⟨N,i,none⟩=W.cell? ⟨N,i,none⟩:=fun i=>World.cell?_of_block (k.block N (by show N < W.heap.size;omega) id)
  have e1:∀i,w1.cell? ⟨N + 1,i,none⟩=W.cell? ⟨N + 1,i,none⟩:=fun i=>World.cell?_of_block (k.block (N + 1) (by show N + 1 < W.heap.size;omega) id)
  exact⟨(e0 0).trans c0,(e0 1).trans c1,(e0 2).trans c2,(e0 3).trans c3,(e1 2).trans d2,(e1 3).trans d3⟩
 have HKW:Hid (∀w1,Kept (fun _=>False) W.drew w1→Kept (fun _=>False) w w1):=fun w1 k=>KW.out.drew.trans k
 have HL:=Lib.hid HFA.out.lens
 have HL':=Lib.hid HFB.out.lens
 have HNW:Hid (∀w1,Kept (fun _=>False) W.drew w1→N≤w1.heap.size):=fun w1 k=>by have:=k.size;have:=lt_heap HB2.out;have e:W.drew.heap.size=W.heap.size:=rfl;omega
 clear c0 c1 c2 c3 d0 d1 d2 d3 hHeld
 obtain⟨n1,hn1⟩:∃n,n=a.keys.length:=⟨_,rfl⟩
 obtain⟨n2,hn2⟩:∃n,n=(a.vals ++ b.vals).length:=⟨_,rfl⟩
 obtain⟨n3,hn3⟩:∃n,n=(a.kids ++ b.kids).length:=⟨_,rfl⟩
 have Hn1:=Lib.hid hn1;have Hn2:=Lib.hid hn2;have Hn3:=Lib.hid hn3
 clear hn1 hn2 hn3
 refine wpAnyH_grow (Kept (fun _=>False)) (Kept.refl _) (fun h k=>Kept.trans h k) [(4,12),(9,17),(10,18),(15,23),(16,24),(17,25),(18,7)] (fun _=>false)
  (fun j V w1=>match j with
   | 4=>SRow w1 N (V 12) a.keys
   | 9=>∃g,V 17 = .slice (some ⟨g,0,none⟩) 2 2∧w1.heap[g]? = some (.cells #[.slice Av a2 cv,.slice Av' a2' cv'] 29 (0,0))
   | 10=>SRow w1 N (V 18) (a.vals ++ b.vals) ∧ ∀g,(V 18).ownBlock=some g→(V 12).ownBlock ≠ some g
   | 15=>∃g,V 23 = .slice (some ⟨g,0,none⟩) 2 2∧w1.heap[g]? = some (.cells #[.slice Ai a3 ci,.slice Ai' a3' ci'] 28 (0,0))
   | 16=>IRow w1 N (V 24) (a.kids ++ b.kids)
   | 17=>∃A1 m1 A2 m2 A3 m3,V 25 = .agg #[.bool l,.slice A1 n1 m1,.slice A2 n2 m2,.slice A3 n3 m3]∧SRow w1 N (.slice A1 n1 m1) a.keys∧SRow w1 N (.slice A2 n2 m2) (a.vals ++ b.vals)∧IRow w1 N (.slice A3 n3 m3) (a.kids ++ b.kids) ∧
     ∀g,(Value.slice A2 n2 m2).ownBlock=some g→(Value.slice A1 n1 m1).ownBlock ≠ some g
   | _=>∃g,V 7 = .pointer (some ⟨g,0,none⟩)∧W.heap.size≤g∧w1.heap[g]? = some (.cells zeroNd 148 (0,0)))
  (n:=1) (by kernel_rfl) rfl HS0.out (fun _ _ h=>by cases h) ?_ (fun _ _ h=>by cases h) ?_ ?_
 ·intro p hp V V' x y h e d k
  simp only[List.mem_cons,List.not_mem_nil,or_false] at hp
  rcases hp with rfl|rfl|rfl|rfl|rfl|rfl|rfl<;>simp only at h e⊢ <;> rw[e]
  ·exact h.keptF k
  ·obtain⟨g,e,h⟩:=h;exact⟨g,e,k.heap h id⟩
  ·have e4:V' 12=V 12:=d (4,12) (by simp) (by kernel_rfl)
   rw[e4];exact⟨h.1.keptF k,h.2⟩
  ·obtain⟨g,e,h⟩:=h;exact⟨g,e,k.heap h id⟩
  ·exact h.keptF k
  ·obtain⟨A1,m1,A2,m2,A3,m3,e,h1,h2,h3,h4⟩:=h;exact⟨A1,m1,A2,m2,A3,m3,e,h1.keptF k,h2.keptF k,h3.keptF k,h4⟩
  ·obtain⟨g,e,hg,h⟩:=h;exact⟨g,e,hg,k.heap h id⟩
 ·intro p hp _ V w1 hG hd
  simp only[List.mem_cons,List.not_mem_nil,or_false] at hp
  rcases hp with rfl|rfl|rfl|rfl|rfl|rfl|rfl
  ·clear hd
   have C:=Lib.hid (cloneS_calls ((H1.out.keptF (HKW.out _ hG)).sl) (by have:=HL.out;omega))
   have hN1:=HNW.out _ hG
   simp only[puts,Act.put,lit4,lit5,lit6]
   refine grow_step rfl (fun K' hK=>?_)
   go_simp
   refine C.out.mono ?_
   rintro e x ⟨v,rfl,h,k⟩
   exact hK.out _ _ ⟨_,rfl,h.base hN1,k⟩
  ·clear hd
   simp only[puts,Act.put,lit4,lit5,lit6]
   refine grow_step rfl (fun K' hK=>?_)
   go_simp
   exact hK.out _ _ ⟨_,rfl,⟨_,rfl,heap_new _ _⟩,(Kept.refl _ _).alloc _⟩
  ·obtain⟨g,e9,hg⟩:=hd (9,17) (by simp) (by kernel_rfl)
   have r1:SRow w1 N (V 12) a.keys:=hd (4,12) (by simp) (by kernel_rfl)
   have hlt:Hid (∀g,(V 12).ownBlock=some g→g < w1.heap.size):=fun g hg=>own_lt r1 hg
   clear hd r1
   have C:=Lib.hid (concS_calls (H2.out.keptF (HKW.out _ hG)).sl (H2'.out.keptF (HKW.out _ hG)).sl hg (by have:=HL.out;omega) (by have:=HL'.out;omega))
   have hN1:=HNW.out _ hG
   simp only[puts,Act.put,lit4,lit5,lit6]
   simp only[e9]
   refine grow_step rfl (fun K' hK=>?_)
   go_simp
   refine C.out.mono ?_
   rintro e x ⟨v,rfl,h,k⟩
   exact hK.out _ _ ⟨_,rfl,⟨h.base hN1,fun g hg h1=>by have:=hlt.out g h1;have:=own_ge h hg;omega⟩,k⟩
  ·clear hd
   simp only[puts,Act.put,lit4,lit5,lit6]
   refine grow_step rfl (fun K' hK=>?_)
   go_simp
   exact hK.out _ _ ⟨_,rfl,⟨_,rfl,heap_new _ _⟩,(Kept.refl _ _).alloc _⟩
  ·obtain⟨g,e9,hg⟩:=hd (15,23) (by simp) (by kernel_rfl)
   clear hd
   have C:=Lib.hid (concI_calls (H3.out.keptF (HKW.out _ hG)).sl (H3'.out.keptF (HKW.out _ hG)).sl hg (by have:=HL.out;omega) (by have:=HL'.out;omega))
   have hN1:=HNW.out _ hG
   simp only[puts,Act.put,lit4,lit5,lit6]
   simp only[e9]
   refine grow_step rfl (fun K' hK=>?_)
   go_simp
   refine C.out.mono ?_
   rintro e x ⟨v,rfl,h,k⟩
   exact hK.out _ _ ⟨_,rfl,h.base hN1,k⟩
  ·have r1:SRow w1 N (V 12) a.keys:=hd (4,12) (by simp) (by kernel_rfl)
   obtain⟨r2,hne⟩:SRow w1 N (V 18) (a.vals ++ b.vals) ∧ ∀g,(V 18).ownBlock=some g→(V 12).ownBlock ≠ some g:=hd (10,18) (by simp) (by kernel_rfl)
   have r3:IRow w1 N (V 24) (a.kids ++ b.kids):=hd (16,24) (by simp) (by kernel_rfl)
   obtain⟨A1,m1,e1⟩:=own_slice r1
   obtain⟨A2,m2,e2⟩:=own_slice r2
   obtain⟨A3,m3,e3⟩:=own_slice r3
   rw[←Hn1.out] at e1
   rw[←Hn2.out] at e2
   rw[←Hn3.out] at e3
   rw[e1,e2] at hne
   rw[e1] at r1
   rw[e2] at r2
   rw[e3] at r3
   have R1:=Lib.hid r1;have R2:=Lib.hid r2;have R3:=Lib.hid r3;have RN:=Lib.hid hne
   clear hd r1 r2 r3 hne
   simp only[puts,Act.put,lit4,lit5,lit6]
   simp only[e1,e2,e3]
   clear e1 e2 e3
   refine grow_step rfl (fun K' hK=>?_)
   go_simp
   exact hK.out _ _ ⟨_,rfl,⟨_,_,_,_,_,_,rfl,R1.out,R2.out,R3.out,RN.out⟩,Kept.refl _ _⟩
  ·clear hd
   simp only[puts,Act.put,lit4,lit5,lit6]
   refine grow_step rfl (fun K' hK=>?_)
   go_simp
   refine hK.out _ _ ⟨_,rfl,⟨_,rfl,?_,heap_new _ _⟩,(Kept.refl _ _).alloc _⟩
   have:=hG.size
   exact this
 ·intro V w1 hG hR
  obtain⟨A1,m1,A2,m2,A3,m3,e17,R1,R2,R3,RN⟩:=hR (17,25) (by simp)
  obtain⟨g,e18,hgW,hg⟩:=hR (18,7) (by simp)
  have X1:=Lib.hid R1;have X2:=Lib.hid R2;have X3:=Lib.hid R3;have XG:=Lib.hid hg;have XN:=Lib.hid RN
  clear hR R1 R2 R3 RN
  simp only[puts,Act.put,lit4,lit5,lit6]
  simp only[e17,e18]
  obtain⟨u1,hu1⟩:∃u,u=V 12:=⟨_,rfl⟩
  obtain⟨u2,hu2⟩:∃u,u=V 17:=⟨_,rfl⟩
  obtain⟨u3,hu3⟩:∃u,u=V 18:=⟨_,rfl⟩
  obtain⟨u4,hu4⟩:∃u,u=V 23:=⟨_,rfl⟩
  obtain⟨u5,hu5⟩:∃u,u=V 24:=⟨_,rfl⟩
  rw[←hu1, ←hu2, ←hu3, ←hu4, ←hu5]
  obtain⟨c0,c1,c2,c3⟩:=nd_cells hg
  have fz:∀i,w1.frozen? ⟨g,i,none⟩=false:=fun i=>free_heap hg i
  have XW:=Lib.hid hgW
  have hlW:=lt_heap HB2.out
  have XL:=Lib.hid hlW
  clear hg hgW e17 e18 hu1 hu2 hu3 hu4 hu5 hlW
  refine wpAnyH_ready (rs := [19]) (by kernel_rfl) (by simp) ?_
  refine AllReadyH.cons rfl (fun K hK=>?_) AllReadyH.nil
  go_simp
  have hgN:N ≠ g:=by have:=XL.out;have:=XW.out;omega
  have hgN1:N + 1 ≠ g:=by have:=XL.out;have:=XW.out;omega
  have hgN2:N + 1 + 1 ≠ g:=by have:=XL.out;have:=XW.out;omega
  obtain⟨w2,hw2⟩:∃w2,w2=(((w1.setCell ⟨g,0,none⟩ (.bool l)).setCell ⟨g,1,none⟩ (.slice A1 n1 m1)).setCell ⟨g,2,none⟩ (.slice A2 n2 m2)).setCell ⟨g,3,none⟩ (.slice A3 n3 m3):=⟨_,rfl⟩
  rw[←hw2]
  have k2:Kept (· = g) w1 w2:=by rw[hw2];exact((((Kept.refl (· = g) w1).set1 0 _).set1 1 _).set1 2 _).set1 3 _
  have hg2:w2.heap[g]? = some (.cells #[.bool l,.slice A1 n1 m1,.slice A2 n2 m2,.slice A3 n3 m3] 148 (0,0)):=by rw[hw2];exact heap_set (heap_set (heap_set (heap_set XG.out 0 _) 1 _) 2 _) 3 _
  have Y1:Hid (SRow w2 N (.slice A1 n1 m1) a.keys):=SRow.kept X1.out k2 (own_ne X1.out XG.out (by decide))
  have Y2:Hid (SRow w2 N (.slice A2 n2 m2) (a.vals ++ b.vals)):=SRow.kept X2.out k2 (own_ne X2.out XG.out (by decide))
  have Y3:Hid (IRow w2 N (.slice A3 n3 m3) (a.kids ++ b.kids)):=IRow.kept X3.out k2 (own_ne X3.out XG.out (by decide))
  have hS2:=HS0.out w1 hG
  have kk:Hid (Kept (fun _=>False) W w2):=(((Kept.refl _ W).drew.trans hG)).then k2 (fun i hi e=>by have:=XW.out;omega)
  have YG:=Lib.hid hg2
  clear hw2
  refine hK.out _ _ ?_ (fun hHeld=>?_)
  ·have e0:∀i,w2.cell? ⟨N,i,none⟩=w1.cell? ⟨N,i,none⟩:=fun i=>World.cell?_of_block (k2.block N (by have:=hG.size;have:=XL.out;have e:W.drew.heap.size=W.heap.size:=rfl;omega) hgN)
   have e1:∀i,w2.cell? ⟨N + 1,i,none⟩=w1.cell? ⟨N + 1,i,none⟩:=fun i=>World.cell?_of_block (k2.block (N + 1) (by have:=hG.size;have:=XL.out;have e:W.drew.heap.size=W.heap.size:=rfl;omega) hgN1)
   obtain⟨p0,p1,p2,p3,p4,p5⟩:=hS2
   exact⟨(e0 0).trans p0,(e0 1).trans p1,(e0 2).trans p2,(e0 3).trans p3,(e1 2).trans p4,(e1 3).trans p5⟩
  ·clear hS2 fz c0 c1 c2 c3 hK k2 hG HS0 HNW HKW
   obtain⟨p0,p1,p2,p3,p4,p5⟩:=hHeld
   refine wpAnyH_done (by kernel_rfl) ?_ _
   obtain⟨c0,c1,c2,c3⟩:=nd_cells hg2
   obtain⟨d0,d1,d2,d3⟩:=nd_cells (kk.out.heap HB1.out id)
   have fg:∀i,w2.frozen? ⟨g,i,none⟩=false:=fun i=>free_heap hg2 i
   have kw2:Hid (Kept (fun _=>False) w w2):=KW.out.trans kk.out
   have R2:Hid (w2.heap[N + 1 + 1]? = some (.cells zeroNd 148 (0,0))):=kk.out.heap HB2.out id
   have hs2:Hid (N + 1 + 1 < w2.heap.size∧g < w2.heap.size):=⟨lt_heap R2.out,lt_heap hg2⟩
   have gn:¬(g=N + 1 + 1):=fun e=>hgN2 e.symm
   clear hg2
   have js0:Hid (JS w w2 N g l (.slice A1 n1 m1) (.slice A1 n1 m1) (.slice A2 n2 m2) (.slice A3 n3 m3) a.keys (a.vals ++ b.vals) (a.kids ++ b.kids) #[.bool l',.slice Ak' a1' ck',.slice Av' a2' cv',.slice Ai' a3' ci']) :=
    ⟨Y1.out,Y2.out,Y3.out,XN.out,kw2.out,HN.out,by have:=XW.out;have:=XL.out;omega,YG.out,kk.out.heap HB1.out id,R2.out,hgN1,hgN2⟩
   have hl1:=HL.out
   have hl2:=HL'.out
   have hn1k:n1≤20:=by have:=Hn1.out;omega
   have hb1k:a1'≤20:=by have:=HE'.out;omega
   have HM1:Hid (n1 + 1≤maxLen):=by show _≤_;unfold maxLen;omega
   have HM2:Hid ((n1 + 1) * 16≤140737488355328):=by show _≤_;omega
   have HM3:Hid (n1 + 1 + a1'≤maxLen):=by show _≤_;unfold maxLen;omega
   have HM4:Hid ((n1 + 1 + a1') * 16≤140737488355328):=by show _≤_;omega
   have HM5:Hid (n1 + a1'≤maxLen):=by show _≤_;unfold maxLen;omega
   have HM6:Hid ((n1 + a1') * 16≤140737488355328):=by show _≤_;omega
   have rd1:=Lib.hid (reads_one w2 (.string s) 9)
   have HO1:Hid (∀u ∈ [Value.string s],u.oneCell'=true):=by show ∀ _,_;simp[Value.oneCell']
   have one1' : [Value.string s] = [k].map Ss:=by rw[HS.out];rfl
   have HO2:=Lib.hid one1'
   have rdb:Hid (∀W,Kept (fun _=>False) w W→Reads W W.heap.size 1 Ak' a1' (b.keys.map Ss)):=fun W k=>by
    have h:=(SRow.sl (H1'.out.keptF k))
    rw[show a1'=b.keys.length from HE'.out.2.1] at h⊢
    exact h.reads
   clear hl1 hl2 one1' kw2 Y1 Y2 Y3 X1 X2 X3 XN XG YG kk XW XL R2 HN HL HL' H1 H2 H3 H1' H2' H3' KW HB1 HB2
   cases l
   ·go_wp2_with (at_builtin;first
     | (refine app_one (v:=.slice A1 n1 m1) rfl (.tmp 30) (.tmp 32) rfl Tryz.underlying29 info_str rfl rfl (js0.out.own Hn1.out ((Kept.refl _ w2).alloc _)) _ rfl rd1.out HO1.out HM1.out HM2.out ?_;intro v' w3 hv' hg' hob;rw[HO2.out] at hv';obtain⟨A4,m4,rfl,j3⟩:=js0.out.app ((Kept.refl _ w2).alloc _) Hn1.out (T' := [k]) rfl hv' hg' hob;clear hv' hg' hob;have js1:=Lib.hid j3;have js2:=Lib.hid j3.store;obtain⟨x0,x1,x2,x3⟩:=nd_cells j3.blk;obtain⟨y0,y1,y2,y3⟩:=nd_cells j3.blkB;have fx:∀i,w3.frozen? ⟨g,i,none⟩=false:=fun i=>free_heap j3.blk i;clear j3 c0 c1 c2 c3 d0 d1 d2 d3 fg p0 p1 p2 p3 p4 p5)
     | (refine app_one (v:=.slice A4 (n1 + 1) m4) rfl (.tmp 36) (.tmp 38) rfl Tryz.underlying29 info_str rfl rfl (js2.out.own (n:=n1 + 1) (by rw[Hn1.out];simp) (Kept.refl _ _)) _ rfl (rdb.out _ js2.out.kept) (ss_one _) HM3.out HM4.out ?_;intro v' w4 hv' hg' hob;obtain⟨A5,m5,rfl,j5⟩:=js2.out.app (Kept.refl _ _) (n:=n1 + 1) (by rw[Hn1.out];simp) (T':=b.keys) HE'.out.2.1 hv' hg' hob;clear hv' hg' hob;have js4:=Lib.hid j5;have js5:=Lib.hid j5.store;obtain⟨z0,z1,z2,z3⟩:=nd_cells j5.blk;obtain⟨r0,r1,r2,r3⟩:=nd_cells j5.blkR;have fz4:∀i,w4.frozen? ⟨g,i,none⟩=false:=fun i=>free_heap j5.blk i;have fr4:∀i,w4.frozen? ⟨N + 1 + 1,i,none⟩=false:=fun i=>free_heap j5.blkR i;clear j5 x0 x1 x2 x3 y0 y1 y2 y3 fx))
    refine bodyPost_ret (v:=.agg #[.bool false,.slice A5 (n1 + 1 + a1') m5,.slice A2 n2 m2,.slice A3 n3 m3]) (by simp[results,Tryz.f153,go_sem,r0,r1,r2,r3]) rfl ?_
    obtain⟨f1,f2,f3,f4⟩:=js5.out.fin (.bool false) (.slice A5 (n1 + 1 + a1') m5) (.slice A2 n2 m2) (.slice A3 n3 m3)
    have hNB:w.heap.size≤N:=by rw[js5.out.hN];exact Nat.le_refl _
    have hla:false=a.leaf:=HE.out.1
    refine⟨_,rfl,IsNd.made (n:=nJoin a k b) hla ?_ (f2.base hNB) (f3.base hNB),f4⟩
    have e:(nJoin a k b).keys=a.keys ++ [k] ++ b.keys:=by simp[nJoin, ←hla]
    rw[e]
    exact f1.base hNB
   ·go_wp2_with (at_builtin;(refine app_one (v:=.slice A1 n1 m1) rfl (.tmp 36) (.tmp 38) rfl Tryz.underlying29 info_str rfl rfl (js0.out.own Hn1.out (Kept.refl _ _)) _ rfl (rdb.out _ js0.out.kept) (ss_one _) HM5.out HM6.out ?_;intro v' w4 hv' hg' hob;obtain⟨A5,m5,rfl,j5⟩:=js0.out.app (Kept.refl _ _) Hn1.out (T':=b.keys) HE'.out.2.1 hv' hg' hob;clear hv' hg' hob;have js4:=Lib.hid j5;have js5:=Lib.hid j5.store;obtain⟨z0,z1,z2,z3⟩:=nd_cells j5.blk;obtain⟨r0,r1,r2,r3⟩:=nd_cells j5.blkR;have fz4:∀i,w4.frozen? ⟨g,i,none⟩=false:=fun i=>free_heap j5.blk i;have fr4:∀i,w4.frozen? ⟨N + 1 + 1,i,none⟩=false:=fun i=>free_heap j5.blkR i;clear j5 c0 c1 c2 c3 d0 d1 d2 d3 fg p0 p1 p2 p3 p4 p5))
    refine bodyPost_ret (v:=.agg #[.bool true,.slice A5 (n1 + a1') m5,.slice A2 n2 m2,.slice A3 n3 m3]) (by simp[results,Tryz.f153,go_sem,r0,r1,r2,r3]) rfl ?_
    obtain⟨f1,f2,f3,f4⟩:=js5.out.fin (.bool true) (.slice A5 (n1 + a1') m5) (.slice A2 n2 m2) (.slice A3 n3 m3)
    have hNB:w.heap.size≤N:=by rw[js5.out.hN];exact Nat.le_refl _
    have hla:true=a.leaf:=HE.out.1
    refine⟨_,rfl,IsNd.made (n:=nJoin a k b) hla ?_ (f2.base hNB) (f3.base hNB),f4⟩
    have e:(nJoin a k b).keys=a.keys ++ b.keys:=by simp[nJoin, ←hla]
    rw[e]
    exact f1.base hNB
end Go.Proofs.YtfgjehecjgebdaaGreat
