/- TreePlays: what stands between two acts. -/
import Derived.Test.YtfgjehecjgebdaaGreatMg51
import Derived.Test.YtfgjehecjgebdaaGreatMg48
namespace Go.Proofs.YtfgjehecjgebdaaGreat
open Go.RowKit Go.Maps Go.ChangeMaps
theorem FS.two {w wr q p n X r E} (h:FS w wr q q p n X r E) (hn:n≤900) (hp:p≤128):(∀j,(X.check r 1 1).2.s j < 2)∧(X.check r 1 1).2.sup.root=r∧(X.check r 1 1).2.D.secs.length=X.D.secs.length:=by
 obtain⟨N,l0,K,h1,h2⟩:=h.ck
 obtain⟨c1,c2,c3,c4,c5,c6,c7⟩:=h2.check h.ti h.tw.txt (by omega) hp
 exact⟨c5,by rw[c7],c6⟩
theorem open_hit {w:World} {d:Nat} {vs vc:Value} {p g:Nat} {D:Dev} {e:Ending} {w':World} {l:List Nat} {s:Sup} {K:Nat→List UInt8} (hh:Hale D) (hod:OnDisk p D.secs l s K) (hp:p≤128) {r:Option (Sec×Bool)}
  (hn:Newest (D.text 0) (D.text 1) r) (ho:OpenPost w d vs vc p g D r e w') :
  Kept (fun _=>False) w w' ∧ ∃st,e = .returned (.tuple #[.pointer (some ⟨st,0,none⟩),.int .i64 0])∧MadeAt w d vs vc p g ⟨l,fun _ => [],s,D⟩ st w':=by
 rw[hh.text,hh.text] at hn
 obtain⟨rfl,hs⟩:=hod.found hp hn
 obtain⟨k,h⟩:=ho
 refine⟨k,?_⟩
 simp only at h
 rw[if_neg (by rcases Nat.mod_two_eq_zero_or_one s.gen with e|e<;>simp[e]),hs] at h
 exact h
abbrev Sto.re (X:Sto):Sto:=⟨X.l,fun _ => [],X.sup,X.D⟩
theorem FS.open {w wr q p n X r E} (h:FS w wr q q p n X r E) (h2:∀j,X.s j < 2) (hp:p≤128) (hsec:2 + 4 * q.p + q.g≤X.D.secs.length):Calls Tryz.prog 26 #[.pointer (some ⟨q.d,0,none⟩),layV q.p q.g] wr fun e w' =>
  Kept (fun _=>False) wr w' ∧ ∃st b c m vc',e = .returned (.tuple #[.pointer (some ⟨st,0,none⟩),.int .i64 0])∧IsStore w' st b c m q.d q.vs vc' q.p q.g X.re ∧
   ∀t w'',Kept (fun _=>False) w' w''→w'.heap.size≤t→w''.heap[t]? = some (.cells #[.pointer (some ⟨st,0,none⟩),.int .i64 r] 152 (0,0))→FS w w'' ⟨t,st,b,c,m,q.d,q.vs,vc',q.p,q.g⟩ ⟨t,st,b,c,m,q.d,q.vs,vc',q.p,q.g⟩ p n X.re r E:=by
 obtain⟨N,l0,K,h1,h3⟩:=h.ck
 obtain⟨e0,eq⟩:=reopened h3 h2
 have hqp:q.p=p:=by rw[←h.tw.sto.len,h3.len]
 refine(Open_calls h.tw.sto.dev h.tw.sto.lay hsec h.tw.cache h.tw.up).mono ?_
 rintro e w' ⟨rr,hn,ho⟩
 obtain⟨k,st,he,b,c,m,vc',g1,g2,g3,g4,hs, -,hv⟩:=open_hit (K:=K) (l:=l0) (s:=X.sup) h3.hale (by rw[hqp];exact h3.disk) (by omega) hn ho
 rw[e0] at hs
 refine⟨k,st,b,c,m,vc',he,hs,fun t w'' k2 ht hc=>⟨rfl,rfl,rfl,⟨hs.keptF k2,hc,h.tw.up,h.tw.secs,h.tw.cache,fun i hi=>by simp⟩,h.ti.eqv eq,⟨N,l0,K,h1,h3.stays eq.stays⟩,fun i hi=>?_,(h.kw.trans k).trans k2⟩⟩
 have z1:=h.kw.size
 have z2:=k.size
 rcases hi with e|e|e|e|e|e|e|e
 ·dsimp only at e;omega
 ·dsimp only at e;omega
 ·dsimp only at e;omega
 ·dsimp only at e;omega
 ·dsimp only at e;omega
 ·exact h.own _ (by simp[e])
 ·exact h.own _ (by simp[e])
 ·rcases hv _ e with e|e
  ·exact h.own _ (by simp[e])
  ·omega
structure FP (w wr:World) (q:TQ) (n:Nat) (X:Sto) (r:Int) (E:List KV):Prop where
 fs:FS w wr q q 128 n X r E
 sec:2 + 4 * q.p + q.g≤X.D.secs.length
 rm:∃Y x u v,Rm Y X r E x u v∧x + u + v≤n∧(x=0∨x + u + v + 1≤n)
theorem FP.keptF {w wr w' q n X r E} (h:FP w wr q n X r E) (k:Kept (fun _=>False) wr w'):FP w w' q n X r E:=⟨h.fs.keptF k,h.sec,h.rm⟩
theorem FP.keptG {w wr w' q n X r E} {G:Nat} (h:FP w wr q n X r E) (k:Kept (· = G) wr w') (hG:q.In (· < G)) (hw:w.heap.size≤G):FP w w' q n X r E:=⟨h.fs.keptG k hG hw,h.sec,h.rm⟩
theorem FP.more {w wr q n X r E} (h:FP w wr q n X r E):FP w wr q (n + 1) X r E:=⟨h.fs.more,h.sec,by obtain⟨Y,x,u,v,a,b,c⟩:=h.rm;exact⟨Y,x,u,v,a,by omega,by omega⟩⟩
theorem FP.put {w wr q n X r E} {k v:Bs} (h:FP w wr q n X r E) (hn:n≤99) (hk:k.length≤24) (hv:v.length≤32):∃r' X',putT X r k v=(0,r',X') ∧ ∀w',TW w' q X' r'→Kept (fun k=>k=q.c∨k=q.m∨k=q.t) wr w'→FP w w' q (n + 1) X' r' (insE E k v):=by
 obtain⟨Y,x,u,vv,a,b,c⟩:=h.rm
 obtain⟨r',X',p,s,rm⟩:=a.put (k:=k) (w:=v) ⟨by omega,by omega⟩ hk hv
 exact⟨r',X',p,fun w' tw kk=>⟨(h.fs.step tw kk rm.t s).more,by rw[s.dv.1];exact h.sec,Y,x,u + 1,vv,rm,by omega,by omega⟩⟩
theorem FP.del {w wr q n X r E} {k:Bs} (h:FP w wr q n X r E) (hn:n≤99):(getE E k=none∧delT X r k=(false,0,r,X))∨((∃e,getE E k=some e) ∧ ∃r' X',delT X r k=(true,0,r',X') ∧ ∀w',TW w' q X' r'→Kept (fun k=>k=q.c∨k=q.m∨k=q.t) wr w'→FP w w' q (n + 1) X' r' (delE E k)):=by
 obtain⟨Y,x,u,vv,a,b,c⟩:=h.rm
 rcases a.del (k:=k) ⟨by omega,by omega⟩ with h1|⟨h1,r',X',p,s,rm⟩
 ·exact .inl h1
 ·exact .inr ⟨h1,r',X',p,fun w' tw kk=>⟨(h.fs.step tw kk rm.t s).more,by rw[s.dv.1];exact h.sec,Y,x,u,vv + 1,rm,by omega,by omega⟩⟩
theorem FP.ck {w wr w2 q q2 n X r E} (h:FP w wr q n X r E) (hn:n≤99) (f:FS w w2 q2 q2 128 (n + 1) (X.check r 1 1).2.re r E) (h1:q2.p=q.p∧q2.g=q.g):FP w w2 q2 (n + 1) (X.check r 1 1).2.re r E:=by
 obtain⟨a, -,b⟩:=h.fs.two (by omega) (by omega)
 obtain⟨Y,x,u,v,c,d,e⟩:=h.rm
 obtain⟨N,l0,K, -,g⟩:=f.ck
 exact⟨f,by rw[h1.1,h1.2];show _≤(X.check r 1 1).2.D.secs.length;rw[b];exact h.sec,_,x + u,0,0,Rm.again f.ti a g.len (by have:=c.e;omega),by omega,by omega⟩
theorem FP.blank {w wr q} (tw:TW wr q (blankX 128) (-1)) (hp:q.p=128) (hg:q.g=4) (own:q.In (w.heap.size ≤ ·)) (kw:Kept (fun _=>False) w wr):FP w wr q 0 (blankX 128) (-1) []:=by
 obtain⟨-, -, -, -,h5, -⟩:=blank_disk (p:=128) (by omega) (by omega)
 exact⟨⟨rfl,rfl,rfl,tw,Rm.blank.t,⟨1,_,_,Nat.le_refl _,Ckd.blank (by omega) (by omega)⟩,own,kw⟩,by rw[hp,hg,h5];omega,_,0,0,0,Rm.blank,by omega,.inl rfl⟩
theorem PyDevice_calls {w st b c m d vs vc p g X} (h:IsStore w st b c m d vs vc p g X):Calls Tryz.prog 29 #[.pointer (some ⟨st,0,none⟩)] w fun e w'=>e = .returned (.pointer (some ⟨d,0,none⟩))∧w=w':=by
 have hc:w.cell? ⟨st,1,none⟩=some (.pointer (some ⟨d,0,none⟩)):=(cell_heap h.head 1).trans rfl
 clear h
 go_enter Tryz.func29,Tryz.ntmps29
 go_wp2
 go_ret
 exact⟨rfl,rfl⟩
theorem PyLay_calls {w st b c m d vs vc p g X} (h:IsStore w st b c m d vs vc p g X):Calls Tryz.prog 30 #[.pointer (some ⟨st,0,none⟩)] w fun e w'=>e = .returned (.agg #[.int .i64 p,.int .i64 g])∧Kept (fun _=>False) w w':=by
 have hhd:=h.head
 have c2:w.cell? ⟨st,2,none⟩=some (.int .i64 p):=(cell_heap hhd 2).trans rfl
 have c3:w.cell? ⟨st,3,none⟩=some (.int .i64 g):=(cell_heap hhd 3).trans rfl
 have hl:=lt_heap hhd
 clear h hhd
 go_enter Tryz.func30,Tryz.ntmps30
 go_wp2
 refine bodyPost_ret (v:=.agg #[.int .i64 p,.int .i64 g]) ?_ rfl ⟨rfl,(Kept.refl _ _).alloc _⟩
 have hh:=heap_new w (.cells #[.int .i64 p,.int .i64 g] 52)
 have g0:=(cell_heap hh 0).trans rfl
 have g1:=(cell_heap hh 1).trans rfl
 simp[results,Tryz.f30,go_sem,g0,g1]
end Go.Proofs.YtfgjehecjgebdaaGreat
