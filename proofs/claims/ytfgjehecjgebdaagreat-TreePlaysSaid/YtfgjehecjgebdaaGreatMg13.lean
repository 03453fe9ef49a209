/- Device: zeros, New, Len, call. -/
import Derived.Test.YtfgjehecjgebdaaGreatMg05
import Derived.Shelf.Abstract
namespace Go.Proofs.YtfgjehecjgebdaaGreat
open Go.RowKit
def Ss (t:List UInt8):Value:=.string (ba t)
def Wr (p:Nat×List UInt8):List Value := [.int .i64 p.1,.string (ba p.2)]
def wrs (c:List (Nat×List UInt8)):List Value:=c.flatMap Wr
theorem ss_one (l:List (List UInt8)):∀u∈l.map Ss,u.oneCell'=true:=by
 intro u hu
 obtain⟨x,_,rfl⟩:=List.mem_map.1 hu
 rfl
theorem wrs_one (c:List (Nat×List UInt8)):∀u∈wrs c,u.oneCell'=true:=by
 intro u hu
 simp only[wrs,List.mem_flatMap] at hu
 obtain⟨p,_,hp⟩:=hu
 simp[Wr] at hp
 rcases hp with rfl|rfl<;>rfl
theorem wrs_at (c:List (Nat×List UInt8)) (k:Nat) (hk:k < c.length):(wrs c)[k * 2]? = some (.int .i64 c[k].1)∧(wrs c)[k * 2 + 1]? = some (.string (ba c[k].2)):=by
 induction c generalizing k with
 | nil=>simp at hk
 | cons x t ih =>
  cases k with
  | zero=>simp[wrs,Wr]
  | succ k =>
   have:=ih k (by simpa using hk)
   simp only[wrs,List.flatMap_cons,Wr,List.cons_append,List.nil_append] at this⊢
   rw[show(k + 1) * 2=k * 2 + 1 + 1 by omega,show k * 2 + 1 + 1 + 1=k * 2 + 1 + 1 + 1 by rfl]
   simpa using this
theorem und_strs:Tryz.prog.underlying 29=some (.slice 9):=by kernel_rfl
theorem info_str:(Tryz.prog.info? 9).map (fun i=>(i.zero,i.size,i.bytes))=some (some (.string ⟨#[]⟩),1,16):=by kernel_rfl
structure IsDev (w:World) (d:Nat) (vs vc:Value) (D:Dev):Prop where
 head:∃c:Int,w.heap[d]? = some (.cells #[vs,vc,.int .i64 D.left,.bool D.down,.int .i64 c] 136 (0,0))
 secs:w.ownsRow 0 9 1 vs D.secs.length (D.secs.map Ss)
 cache:w.ownsRow 0 138 2 vc D.cache.length (wrs D.cache)
 good:D.Good
structure DevTo (w:World) (d:Nat) (vs vc:Value) (w':World) (vc':Value) (D':Dev):Prop where
 dev:IsDev w' d vs vc' D'
 kept:Kept (fun k=>k=d∨vs.ownBlock=some k∨vc.ownBlock=some k) w w'
 own:∀k,vc'.ownBlock=some k→vc.ownBlock=some k∨w.heap.size≤k
theorem DevTo.refl {w d vs vc D} (h:IsDev w d vs vc D):DevTo w d vs vc w vc D:=⟨h,Kept.refl _ _,fun _ h=>.inl h⟩
theorem DevTo.trans {w d vs vc w1 v1 D1 w2 v2 D2} (h:DevTo w d vs vc w1 v1 D1) (k:DevTo w1 d vs v1 w2 v2 D2):DevTo w d vs vc w2 v2 D2:=by
 refine⟨k.dev,h.kept.then k.kept ?_,?_⟩
 ·rintro i hi (rfl|e|e)
  ·exact .inl rfl
  ·exact .inr (.inl e)
  ·rcases h.own i e with e|e
   ·exact .inr (.inr e)
   ·omega
 ·intro i e
  rcases k.own i e with e|e
  ·exact h.own i e
  ·exact .inr (Nat.le_trans h.kept.size e)
theorem IsDev.kept {w w' d vs vc D} {S:Nat→Prop} (h:IsDev w d vs vc D) (k:Kept S w w') (hd:¬S d) (hs:∀g,vs.ownBlock=some g → ¬S g) (hc:∀g,vc.ownBlock=some g → ¬S g):IsDev w' d vs vc D:=by
 obtain⟨c,hh⟩:=h.head
 exact⟨⟨c,k.heap hh hd⟩,k.own h.secs hs,k.own h.cache hc,h.good⟩
theorem IsDev.keptF {w w' d vs vc D} (h:IsDev w d vs vc D) (k:Kept (fun _=>False) w w'):IsDev w' d vs vc D:=h.kept k id (fun _ _=>id) (fun _ _=>id)
theorem DevTo.behind {w W d vs vc D w2 v2 D2} (h:IsDev w d vs vc D) (k:Kept (fun _=>False) w W) (t:DevTo W d vs vc w2 v2 D2):DevTo w d vs vc w2 v2 D2 :=
 (⟨h.keptF k,k.mono fun _ _ f=>f.elim,fun _ h=>.inl h⟩:DevTo w d vs vc W vc D).trans t
theorem DevTo.after {w d vs vc w1 v1 D1 w2} (t:DevTo w d vs vc w1 v1 D1) (k:Kept (fun _=>False) w1 w2):DevTo w d vs vc w2 v1 D1 :=
 t.trans ⟨t.dev.keptF k,k.mono fun _ _ f=>f.elim,fun _ h=>.inl h⟩
theorem own_type {w:World} {base:Nat} {e:TypeId} {size:Nat} {v:Value} {n:Nat} {xs:List Value} (h:w.ownsRow base e size v n xs) {g:Nat} (hg:v.ownBlock=some g):∃cs f,w.heap[g]? = some (.cells cs e f):=by
 rcases h.2 with⟨rfl,_⟩|⟨g',cap,cur,rfl,_,hh,_⟩
 ·simp[Value.ownBlock] at hg
 ·simp[Value.ownBlock] at hg
  subst hg
  exact⟨_,_,hh⟩
theorem ne_type {w:World} {a b:Nat} {ca cb:Array Value} {ea eb:TypeId} {fa fb:Nat×Nat} (ha:w.heap[a]? = some (.cells ca ea fa)) (hb:w.heap[b]? = some (.cells cb eb fb)) (h:ea ≠ eb):a ≠ b:=by
 rintro rfl
 have:=ha.symm.trans hb
 simp at this
 exact h this.2.1
theorem own_form2 {w:World} {base:Nat} {e:TypeId} {size:Nat} {v:Value} {n:Nat} {xs:List Value} (h:w.ownsRow base e size v n xs) (hn:0 < n):∃g cap,v = .slice (some ⟨g,0,none⟩) n cap:=by
 rcases h.2 with⟨_,h0⟩|⟨g,cap,_,hv,_⟩
 ·omega
 ·exact⟨g,cap,hv⟩
theorem reads_new {w:World} {n:Nat} (hn:n=w.heap.size) (u:Value) (e:TypeId):Reads (w.alloc (.cells #[u] e)) (n + 1) 1 (some ⟨n,0,none⟩) 1 [u]:=by
 subst hn;exact reads_one w u e
theorem reads_new2 {w:World} {n:Nat} (hn:n=w.heap.size) (u v:Value) (e:TypeId):Reads (w.alloc (.cells #[u,v] e)) (n + 1) 2 (some ⟨n,0,none⟩) 1 [u,v]:=by
 subst hn
 refine⟨rfl,fun _=>⟨_,rfl,Nat.lt_succ_self _,fun j x hj=>?_⟩⟩
 match j,hj with
 | 0,hj=>simp at hj;subst hj;simp[Addr.add]
 | 1,hj=>simp at hj;subst hj;simp[Addr.add]
theorem step_many {P:Program} {w:World} {ops:Array Oper} {o:Oper} {a:Act} {K:Act→World→Prop} {Q:Exit→Act→World→Prop} {E:Prop} (hgd:o.guard=none) (s x:Operand) {t e:TypeId} {z:Value} {size bytes:Nat}
  (ho:o.op = .call { callee:=.builtin .append,args := #[s,x],argTypes := #[t,t] })
  (ht:P.underlying t=some (.slice e)) (hi:(P.info? e).map (fun i=>(i.zero,i.size,i.bytes))=some (some z,size,bytes)) (hz:z.cells.size=size) (hsz:0 < size)
  {v:Value} {n:Nat} {xs:List Value} (hs:a.eval s=v) (hown:w.ownsRow 0 e size v n xs)
  (B:Nat) {A:Option Addr} {m c:Nat} {news:List Value} (hx:a.eval x = .slice A m c) (hr:Reads w B size A m news) (h1:∀u∈news,u.oneCell'=true)
  (h63:n + m≤maxLen) (hbytes:(n + m) * bytes≤140737488355328)
  (h:∀v' w',w'.ownsRow 0 e size v' (n + m) (xs ++ news)→w.grownBy w' v.ownBlock→(v'.ownBlock=v.ownBlock∨v'.ownBlock=some w.heap.size)→K (a.put o.dst v') w') :
  if Region.wanted o (yielded ops a.tmps)=true then Oper.wp P o a w K Q else E:=by
 obtain⟨i,hi,h1',h2,h3⟩:=info_parts hi
 exact step_append_any w hgd s x t ho 0 e i z size bytes ht hi h1' h2 h3 hz hsz v n xs hs hown B A m c news hx hr h1 h63 hbytes (Nat.zero_le _) h
theorem step_call {P:Program} {ops:Array Oper} {o:Oper} {a:Act} {w:World} {K:Act→World→Prop} {Q:Exit→Act→World→Prop} {E:Prop}
  (hg:o.guard=none) {n:FuncId} (he:Enters P n) {args:Array Operand} {tys:Array TypeId} (ho:o.op = .call { callee:=.value (.func n),args,argTypes:=tys }) {R:Ending→World→Prop}
  {xs:Array Value} (hx:args.map a.eval=xs) (hc:Calls P n xs w R) (hK:∀e w',R e w' → ∃v,e = .returned v∧K (a.put o.dst v) w'):if Region.wanted o (yielded ops a.tmps)=true then Oper.wp P o a w K Q else E:=by
 have hw:Region.wanted o (yielded ops a.tmps)=true:=by simp[Region.wanted,hg]
 rw[if_pos hw]
 have e1:execOp a.eval o=callFunc n (#[] ++ args.map a.eval ++ #[]):=by unfold execOp;rw[ho];rfl
 subst hx
 unfold Oper.wp
 rw[e1,he]
 rw[show(#[] ++ args.map a.eval ++ #[])=args.map a.eval by simp,Oper.upon_enter]
 refine Calls.mono hc ?_
 intro e w' hR
 obtain⟨v,rfl,hk⟩:=hK e w' hR
 exact hk
theorem zeros_calls:∃O:Obj, ∀w:World,Calls Tryz.prog 101 #[] w fun e w'=>e = .returned (.string (ba zero64))∧w.alloc O=w':=by
 obtain⟨O,hmk,hcv⟩:=run_zeros 64 (by omega)
 refine⟨O,fun w=>?_⟩
 have hmk':∀w:World,(Instr.makeSlice 177 (.int .i64 64) (.int .i64 64)).run Tryz.prog w = .ok (.slice (some ⟨w.heap.size,0,none⟩) 64 64) (w.alloc O):=hmk
 go_enter Tryz.func101,Tryz.ntmps101
 go_wp2
 go_ret
 exact⟨rfl,rfl⟩
theorem DevLen_calls {w d vs vc D} (h:IsDev w d vs vc D):Calls Tryz.prog 80 #[.pointer (some ⟨d,0,none⟩)] w fun e w'=>e = .returned (.int .i64 D.secs.length)∧w=w':=by
 obtain⟨c,hh⟩:=h.head
 have hc:w.cell? ⟨d,0,none⟩=some vs:=(cell_heap hh 0).trans rfl
 obtain⟨g,cap,rfl⟩:=own_form h.secs h.good.one
 clear h hh
 go_enter Tryz.func80,Tryz.ntmps80
 go_wp2
 go_ret
 exact⟨rfl,rfl⟩
theorem zeros_enters:Enters Tryz.prog 101:=enters_of Tryz.func101 (by kernel_rfl) rfl
set_option maxRecDepth 100000 in
theorem DevCall_calls {w d vs vc D} (h:IsDev w d vs vc D):Calls Tryz.prog 113 #[.pointer (some ⟨d,0,none⟩)] w fun e w'=>e = .returned (.bool D.call.1)∧DevTo w d vs vc w' vc D.call.2∧w'.heap.size=w.heap.size:=by
 obtain⟨c,hh⟩:=h.head
 have hl:=h.good.left
 have hne1:vs.ownBlock ≠ some d:=fun e=>by obtain⟨cs,f,hg⟩:=own_type h.secs e;exact ne_type hg hh (by decide) rfl
 have hne2:vc.ownBlock ≠ some d:=fun e=>by obtain⟨cs,f,hg⟩:=own_type h.cache e;exact ne_type hg hh (by decide) rfl
 have key:∀(W:World) (l:Int) (dn:Bool) (c':Int),W.heap[d]? = some (.cells #[vs,vc,.int .i64 l,.bool dn,.int .i64 c'] 136 (0,0))→Kept (· = d) w W→D.call.2.left=l→D.call.2.down=dn→DevTo w d vs vc W vc D.call.2:=by
  intro W l dn c' hW hk e1 e2
  refine⟨⟨⟨c',by rw[e1,e2];exact hW⟩,?_,?_,h.good.called⟩,hk.mono fun _ _ e=>.inl e,fun k hk=>.inl hk⟩
  ·rw[call_secs];exact hk.own h.secs (fun g hg e=>hne1 (e ▸ hg))
  ·rw[call_cache];exact hk.own h.cache (fun g hg e=>hne2 (e ▸ hg))
 have KEY:=Lib.hid key
 have h2:w.cell? ⟨d,2,none⟩=some (.int .i64 D.left):=(cell_heap hh 2).trans rfl
 have h3:w.cell? ⟨d,3,none⟩=some (.bool D.down):=(cell_heap hh 3).trans rfl
 have h4:w.cell? ⟨d,4,none⟩=some (.int .i64 c):=(cell_heap hh 4).trans rfl
 have f2:w.frozen? ⟨d,2,none⟩=false:=free_heap hh 2
 have f3:w.frozen? ⟨d,3,none⟩=false:=free_heap hh 3
 have f4:w.frozen? ⟨d,4,none⟩=false:=free_heap hh 4
 have HH:=Lib.hid hh
 clear h hh hne1 hne2 key
 cases hd:D.down with
 | true =>
  have HC:Hid (D.call=(false,D)):=by simp[Hid,Dev.call,hd]
  rw[hd] at h3
  have HD:=Lib.hid hd;clear hd
  have R:=KEY.out w D.left D.down c HH.out (Kept.refl _ _) (by rw[HC.out]) (by rw[HC.out])
  have HR:=Lib.hid R;clear R
  go_enter Tryz.func113,Tryz.ntmps113
  go_wp2
  go_ret
  exact⟨by rw[HC.out];rfl,HR.out,rfl⟩
 | false =>
  rw[hd] at h3
  have HD:=Lib.hid hd;clear hd
  by_cases h0:D.left=0
  ·have HC:Hid (D.call=(false, { D with down:=true })):=by simp[Hid,Dev.call,HD.out,h0]
   rw[h0] at h2
   have R:=KEY.out (w.setCell ⟨d,3,none⟩ (.bool true)) 0 true c (by rw[heap_set HH.out,h0];rfl) ((Kept.refl _ _).set1 _ _) (by rw[HC.out];exact h0) (by rw[HC.out])
   have HR:=Lib.hid R;clear R hl h0
   go_enter Tryz.func113,Tryz.ntmps113
   go_wp2
   go_ret
   exact⟨by rw[HC.out];rfl,HR.out,by simp[World.setCell]⟩
  ·have ht:(D.left == 0)=false:=by simpa using h0
   by_cases hp:0 < D.left
   ·have HC:Hid (D.call=(true, { D with left:=D.left - 1 })):=by simp[Hid,Dev.call,HD.out,h0,hp]
    have hw1:IntKind.i64.wrap (D.left - 1)=D.left - 1:=by rw[IntKind.wrap_i64];omega
    have R:=KEY.out ((w.setCell ⟨d,2,none⟩ (.int .i64 (D.left - 1))).setCell ⟨d,4,none⟩ (.int .i64 (wrap64 (c + 1)))) (D.left - 1) false (wrap64 (c + 1)) (by rw[heap_set (heap_set HH.out 2 _),HD.out];rfl) (((Kept.refl _ _).set1 _ _).set1 _ _) (by rw[HC.out]) (by rw[HC.out];exact HD.out)
    have HR:=Lib.hid R;clear R
    generalize D.left=l at *
    go_enter Tryz.func113,Tryz.ntmps113
    go_wp2
    go_ret
    exact⟨by rw[HC.out];rfl,HR.out,by simp[World.setCell]⟩
   ·have HC:Hid (D.call=(true,D)):=by simp[Hid,Dev.call,HD.out,h0,hp]
    have R:=KEY.out (w.setCell ⟨d,4,none⟩ (.int .i64 (wrap64 (c + 1)))) D.left false (wrap64 (c + 1)) (by rw[heap_set HH.out,HD.out];rfl) ((Kept.refl _ _).set1 _ _) (by rw[HC.out]) (by rw[HC.out];exact HD.out)
    have HR:=Lib.hid R;clear R
    generalize D.left=l at *
    go_enter Tryz.func113,Tryz.ntmps113
    go_wp2
    go_ret
    exact⟨by rw[HC.out];rfl,HR.out,by simp[World.setCell]⟩
end Go.Proofs.YtfgjehecjgebdaaGreat
/- Device: New. -/
namespace Go.Proofs.YtfgjehecjgebdaaGreat
open Go.RowKit
def newCells (v:Value):Array Value := #[v,.slice none 0 0,.int .i64 (-1),.bool false,.int .i64 0]
def NewAt (w:World) (k:Nat) (wr:World) (v:Value):Prop :=
 wr.heap[w.heap.size]? = some (.cells (newCells v) 136 (0,0))∧wr.ownsRow 0 9 1 v k ((List.replicate k zero64).map Ss)∧(∀g,v.ownBlock=some g→w.heap.size≤g)∧Kept (fun _=>False) w wr
theorem new_step {w wr v k W w1 v1} (h:NewAt w k wr v) (k0:Kept (fun _=>False) wr W)
  (hown:w1.ownsRow 0 9 1 v1 (k + 1) ((List.replicate k zero64).map Ss ++ [Ss zero64])) (hg:W.grownBy w1 v.ownBlock) (hat:v1.ownBlock=v.ownBlock∨v1.ownBlock=some W.heap.size) :
  w1.heap[w.heap.size]? = some (.cells (newCells v) 136 (0,0))∧NewAt w (k + 1) (w1.setCell ⟨w.heap.size,0,none⟩ v1) v1:=by
 obtain⟨hh,ho,hn,hk⟩:=h
 have hno:v.ownBlock ≠ some w.heap.size:=fun e=>by obtain⟨cs,f,hg⟩:=own_type ho e;exact ne_type hg hh (by decide) rfl
 have h0:=k0.heap hh id
 have h1:w1.heap[w.heap.size]? = some (.cells (newCells v) 136 (0,0)):=(hg.block _ (lt_heap h0) (fun e=>hno e.symm)).trans h0
 refine⟨h1,by rw[heap_set h1];rfl,?_,?_,?_⟩
 ·have hne:v1.ownBlock ≠ some (⟨w.heap.size,0,none⟩:Addr).block:=by
   rcases hat with e|e
   ·rw[e];exact hno
   ·rw[e];intro e2;simp at e2
    have:=lt_heap h0
    omega
  have:=ownsRow_setCell_other hown (a:=⟨w.heap.size,0,none⟩) hne v1
  rw[List.replicate_succ',List.map_append]
  exact this
 ·intro g hg
  rcases hat with e|e
  ·rw[e] at hg;exact hn g hg
  ·rw[e] at hg;simp at hg;have:=hk.size;have:=k0.size;omega
 ·exact((hk.trans k0).grown hg (fun g hg=>.inr (hn g hg))).setCell (.inr (Nat.le_refl _)) _
def NewPost (n:Nat) (w:World) (e:Ending) (w':World):Prop :=
 ∃vs,e = .returned (.tuple #[.pointer (some ⟨w.heap.size,0,none⟩),.int .i64 0])∧IsDev w' w.heap.size vs (.slice none 0 0) (dev0 n)∧Kept (fun _=>False) w w' ∧ ∀g,vs.ownBlock=some g→w.heap.size≤g
set_option maxRecDepth 100000 in
theorem DevNew_calls (n:Nat) (h0:0 < n) (hn:n≤65536) (w:World):Calls Tryz.prog 59 #[.int .i64 n] w (NewPost n w):=by
 obtain⟨O,Z⟩:=zeros_calls
 have HZ:=Lib.hid Z;clear Z
 go_enter Tryz.func59,Tryz.ntmps59
 go_wp2
 have HA:Hid (NewAt w 0 (w.alloc (.cells (newCells (.slice none 0 0)) 136)) (.slice none 0 0)) :=
  ⟨heap_new w _,World.ownsRow_nil _ _ _ _,by simp[Value.ownBlock],(Kept.refl _ _).alloc _⟩
 go_loopw [14] (fun i wr=>∃k:Nat,k≤n∧i = .int .i64 k ∧ ∃v,NewAt w k wr v) (fun i _=>n - (intOf i).toNat)
 case atStart=>exact⟨0,Nat.zero_le _,rfl,_,HA.out⟩
 case round =>
  obtain⟨k,hk,rfl,v,hA⟩:=hrel
  have HN:=Lib.hid hA
  obtain⟨hh,ho,_,hkp⟩:=hA
  by_cases hlt:k < n
  ·have hc:wr.cell? ⟨w.heap.size,0,none⟩=some v:=(cell_heap hh 0).trans rfl
   have hdl:=lt_heap hh
   have HO:=Lib.hid ho
   clear ho hkp HA hh
   go_wp2
   go_region_law (first
    | (refine step_call (args := #[]) rfl zeros_enters rfl (by simp) (HZ.out _) ?_;rintro e w' ⟨rfl,rfl⟩;refine⟨_,rfl,?_⟩)
    | (refine step_one (v:=v) rfl (.tmp 20) (.tmp 22) rfl und_strs info_str rfl rfl ((HO.out.alloc _).alloc _).drew (wr.heap.size + 1 + 1) rfl (reads_new (w:=wr.alloc O) (by simp) (.string (ba zero64)) _).drew (ss_one [zero64]) (by unfold maxLen;omega) (by omega) ?_;intro v1 w1 hown1 hg1 hat1;have R:=new_step HN.out (((Kept.refl _ wr).alloc O).alloc _).drew hown1 hg1 hat1;obtain⟨g1,cap1,rfl⟩:=own_form hown1 (by omega);have hc1:w1.cell? ⟨w.heap.size,0,none⟩=some v:=(cell_heap R.1 0).trans rfl;have hf1:w1.frozen? ⟨w.heap.size,0,none⟩=false:=free_heap R.1 0;have HR:=Lib.hid R.2;clear R hown1 hg1 hat1))
   all_goals
    go_wp2
    go_roundw
    case rel=>exact⟨k + 1,by omega,by go_num,_,HR.out⟩
    case measure=>simp[intOf];omega
  ·obtain rfl:k=n:=by omega
   go_wp2
   go_ret2
   obtain⟨hh,ho,hn,hkp⟩:=HN.out
   exact⟨v,rfl,⟨⟨0,hh⟩,by simpa[dev0] using ho,World.ownsRow_nil _ _ _ _,dev0_good k h0 (by omega)⟩,hkp,hn⟩
end Go.Proofs.YtfgjehecjgebdaaGreat
