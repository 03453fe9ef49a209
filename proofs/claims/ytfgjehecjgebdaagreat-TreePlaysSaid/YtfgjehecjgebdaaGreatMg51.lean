/- A tree's blocks by their types; a tree's checkpoint. -/
import Derived.Test.YtfgjehecjgebdaaGreatMg45
import Derived.Test.YtfgjehecjgebdaaGreatMg49
import Derived.Test.YtfgjehecjgebdaaGreatMg50
namespace Go.Proofs.YtfgjehecjgebdaaGreat
open Go.RowKit Go.Maps Go.ChangeMaps
def TQ.Any (q:TQ) (k:Nat):Prop:=k=q.st∨k=q.c∨k=q.m∨k=q.d∨k=q.t∨q.vs.ownBlock=some k∨q.vc.ownBlock=some k
theorem TQ.cmt {q:TQ} {w w':World} (k:Kept (fun k=>k=q.c∨k=q.m∨k=q.t) w w'):Kept q.Any w w':=k.mono fun i _ e=>by
 rcases e with rfl|rfl|rfl<;>simp[TQ.Any]
theorem TQ.In.any {q:TQ} {S:Nat→Prop} (h:q.In S) {k:Nat} (hk:q.Any k):S k:=by
 rcases hk with rfl|rfl|rfl|rfl|rfl|e|e<;>exact h _ (by simp[*])
theorem TW.far {w q X r} (h:TW w q X r) {g:Nat} {cs:Array Value} {T:TypeId} {f:Nat×Nat} (hg:w.heap[g]? = some (.cells cs T f)) (h1:T ≠ 81) (h2:T ≠ 5) (h3:T ≠ 136) (h4:T ≠ 152) (h5:T ≠ 9) (h6:T ≠ 138):¬q.Any g:=by
 obtain⟨_,hd⟩:=h.sto.dev.head
 obtain⟨es,clock,hm⟩:=h.sto.put.heap
 rintro(e|e|e|e|e|e|e)
 ·exact ne_type hg h.sto.head h1 e
 ·exact ne_type hg h.sto.sp.row h2 e
 ·exact map_ne hm hg e
 ·exact ne_type hg hd h3 e
 ·exact ne_type hg h.tree h4 e
 ·obtain⟨cs',f',hh⟩:=own_type h.sto.dev.secs e
  exact ne_type hg hh h5 rfl
 ·obtain⟨cs',f',hh⟩:=own_type h.sto.dev.cache e
  exact ne_type hg hh h6 rfl
theorem ERow.keptQ {w w' q X r B v E} (hr:ERow w B v E) (h:TW w q X r) (k:Kept q.Any w w'):ERow w' B v E:=hr.kept k fun g hg=>by
 obtain⟨cs,f,hh⟩:=own_type hr hg
 exact h.far hh (by decide) (by decide) (by decide) (by decide) (by decide) (by decide)
theorem TW.ck {w q X root E p N l0 K} (tw:TW w q X root) (ti:TI X root E) (ck:Ckd p N X l0 K) (hN:N≤1000) (hp8:p≤128):Calls Tryz.prog 21 #[.pointer (some ⟨q.st,0,none⟩),.int .i64 root,.int .i64 1,.int .i64 1] w fun e w' =>
  e = .returned (.int .i64 0)∧Kept q.Any w w' ∧ ∃vc',TW w' { q with vc:=vc' } (X.check root 1 1).2 root ∧ ∀k,vc'.ownBlock=some k→q.vc.ownBlock=some k∨w.heap.size≤k:=by
 obtain⟨c1,c2,c3,c4,c5,c6,c7⟩:=ck.check ti tw.txt hN hp8
 have hT:∀i∈fresh X.l,(X.T i).length≤248:=fun i hi=>tw.txt i (mem_fresh.1 hi).2
 refine(Ck_calls tw.sto root 1 1 hT tw.cache (by have:=ck.gen;omega)).mono ?_
 rintro e w' ⟨he,vc',hto⟩
 refine⟨by rw[he,c1],hto.kept.mono fun i _ hi=>?_,vc',⟨hto.sto,?_,c2.hale.down,?_,?_,fun i hi=>?_⟩,hto.own⟩
 ·rcases hi with rfl|rfl|rfl|rfl|e|e<;>simp[TQ.Any, *]
 ·refine hto.kept.heap tw.tree fun hi=>?_
  obtain⟨_,hd⟩:=tw.sto.dev.head
  obtain⟨es,clock,hm⟩:=tw.sto.put.heap
  rcases hi with e|e|e|e|e|e
  ·exact ne_type tw.tree tw.sto.head (by decide) e
  ·exact ne_type tw.tree tw.sto.sp.row (by decide) e
  ·exact map_ne hm tw.tree e
  ·exact ne_type tw.tree hd (by decide) e
  ·obtain⟨cs',f',hh⟩:=own_type tw.sto.dev.secs e
   exact ne_type tw.tree hh (by decide) rfl
  ·obtain⟨cs',f',hh⟩:=own_type tw.sto.dev.cache e
   exact ne_type tw.tree hh (by decide) rfl
 ·show 2 + 4 * q.p≤_
  rw[c6];exact tw.secs
 ·rw[c2.hale.cache];simp
 ·have:=c5 i
  unfold Sto.s at this
  omega
structure FS (w wr:World) (q0 q:TQ) (p n:Nat) (X:Sto) (r:Int) (E:List KV):Prop where
 qt:q.t=q0.t
 qst:q.st=q0.st
 qb:q.b=q0.b
 tw:TW wr q X r
 ti:TI X r E
 ck:∃N l0 K,N≤n + 1∧Ckd p N X l0 K
 own:q.In (w.heap.size ≤ ·)
 kw:Kept (fun _=>False) w wr
theorem FS.keptF {w wr w' q0 q p n X r E} (h:FS w wr q0 q p n X r E) (k:Kept (fun _=>False) wr w'):FS w w' q0 q p n X r E:=⟨h.qt,h.qst,h.qb,h.tw.keptF k,h.ti,h.ck,h.own,h.kw.trans k⟩
theorem FS.keptG {w wr w' q0 q p n X r E} {G:Nat} (h:FS w wr q0 q p n X r E) (k:Kept (· = G) wr w') (hG:q.In (· < G)) (hw:w.heap.size≤G):FS w w' q0 q p n X r E :=
 ⟨h.qt,h.qst,h.qb,h.tw.keptS k fun i hi e=>by have:=hG i hi;omega,h.ti,h.ck,h.own,h.kw.then k fun i hi e=>by omega⟩
theorem FS.more {w wr q0 q p n X r E} (h:FS w wr q0 q p n X r E):FS w wr q0 q p (n + 1) X r E:=⟨h.qt,h.qst,h.qb,h.tw,h.ti,by obtain⟨N,l0,K,h1,h2⟩:=h.ck;exact⟨N,l0,K,by omega,h2⟩,h.own,h.kw⟩
theorem FS.step {w wr w' q0 q p n X r E X' r' E'} (h:FS w wr q0 q p n X r E) (tw:TW w' q X' r') (k:Kept (fun k=>k=q.c∨k=q.m∨k=q.t) wr w') (ti:TI X' r' E') (s:Stays X X'):FS w w' q0 q p n X' r' E' :=
 ⟨h.qt,h.qst,h.qb,tw,ti,by obtain⟨N,l0,K,h1,h2⟩:=h.ck;exact⟨N,l0,K,h1,h2.stays s⟩,h.own,h.kw.then (TQ.cmt k) fun i hi e=>by have:=h.own.any e;omega⟩
end Go.Proofs.YtfgjehecjgebdaaGreat
