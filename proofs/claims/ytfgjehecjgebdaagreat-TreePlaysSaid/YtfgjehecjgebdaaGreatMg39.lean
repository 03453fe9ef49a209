/- slices.Backward over the steps of a way: the iterator's contract, where the body turns older blocks; a region that draws within a round. -/
import Derived.RangeFuncNested
import Derived.RangeFuncBound
import Derived.RangeFuncCalls
import Derived.RangeFuncLeaves
import Derived.Shelf.Abstract
import Derived.WalkKit
import Derived.OwnWalkIn
import Derived.TacticsInMore
import Derived.LoopNIn
import Derived.LoopIn
import Derived.Test.YtfgjehecjgebdaaGreatMg37
import Derived.Test.YtfgjehecjgebdaaGreatMg03
import Derived.Test.YtfgjehecjgebdaaGreatMg25
namespace Go.Proofs.YtfgjehecjgebdaaGreat
open Go.RowKit Go.Maps Go.ChangeMaps Go.Shelf
attribute [local go_sem] Oper.semAt_some
def Still (B b:Nat) (W W':World):Prop:=W.heap.size≤W'.heap.size ∧ ∀k,k=B∨k=b→W'.heap[k]? = W.heap[k]?
theorem Still.refl (B b:Nat) (W:World):Still B b W W:=⟨Nat.le_refl _,fun _ _=>rfl⟩
theorem Still.trans {B b:Nat} {X Y Z:World} (h:Still B b X Y) (k:Still B b Y Z):Still B b X Z:=⟨Nat.le_trans h.1 k.1,fun i hi=>(k.2 i hi).trans (h.2 i hi)⟩
theorem Still.of_kept {B b:Nat} {X Y:World} {S:Nat→Prop} (h:Kept S X Y) (hB:B < X.heap.size) (hb:b < X.heap.size) (h1:¬S B) (h2:¬S b):Still B b X Y :=
 ⟨h.size,fun k hk=>by rcases hk with rfl|rfl;exact h.block _ hB h1;exact h.block _ hb h2⟩
theorem stillK_b {B b:Nat} {w:World} (hB:B < w.heap.size) (hb:b < w.heap.size) (W:World) (l:Nat) (o':Obj) (hl:w.heap.size≤l):Still B b W (W.putObj l o') :=
 ⟨by simp,fun k hk=>World.putObj_heap_other (by omega)⟩
theorem Still.cellB {B b:Nat} {X Y:World} (h:Still B b X Y) (i:Nat):Y.cell? ⟨B,i,none⟩=X.cell? ⟨B,i,none⟩:=World.cell?_of_block (h.2 B (.inl rfl))
theorem Still.cellb {B b:Nat} {X Y:World} (h:Still B b X Y) (i:Nat):Y.cell? ⟨b,i,none⟩=X.cell? ⟨b,i,none⟩:=World.cell?_of_block (h.2 b (.inr rfl))
def backI (n:Nat):List Nat:=(List.range n).map fun j=>n - 1 - j
theorem backI_len (n:Nat):(backI n).length=n:=by simp[backI]
theorem backI_at {n m:Nat} (h:m + 1≤n):(backI n)[n - (m + 1)]? = some m:=by
 simp only[backI,List.getElem?_map,List.getElem?_range (show n - (m + 1) < n by omega),Option.map_some]
 congr 1;omega
theorem backI_get {n i x:Nat} (h:(backI n)[i]? = some x):i < n∧x=n - 1 - i:=by
 have hi:i < n:=by have:=(List.getElem?_eq_some_iff.1 h).1;rwa [backI_len] at this
 simp only[backI,List.getElem?_map,List.getElem?_range hi,Option.map_some,Option.some.injEq] at h
 exact⟨hi,h.symm⟩
abbrev stpV (A:Nat→Nat→Value) (i:Nat):Array Value := #[Value.int .i64 (i:Int),.agg #[A i 0,A i 1,A i 2,A i 3,A i 4,A i 5]]
set_option maxRecDepth 100000 in
set_option maxHeartbeats 2000000 in
theorem stepsBack1_in (F:Fence) (n:Nat) (h7:F.fn 132) (hro:F.round=none) (hn:1≤n) (l Bs b len cap:Nat) (A:Nat→Nat→Value) (hreach:len≤1000000) (J:Nat→World→Prop) (Jx:World→Prop)
  (hY:∀i x W,(backI len)[i]? = some x→J i W→YieldAt F (n - 1) Tryz.prog l (stpV A x) W fun e W' =>
   (e = .returned (.bool true)∧J (i + 1) W'∧Still Bs b W W')∨(e = .returned (.bool false)∧Jx W'))
  (W:World) (hBs:W.cell? ⟨Bs,0,none⟩=some (.slice (some ⟨b,0,none⟩) len cap)) (hc:∀j,j < len → ∀i,i < 6→W.cell? ⟨b,j * 6 + i,none⟩=some (A j i)) (h0:J 0 W) :
  CallsIn F n Tryz.prog 132 #[.func (.yield l) #[] #[],.pointer (some ⟨Bs,0,none⟩)] W fun e W'=>(∃v,e = .returned v)∧(J len W'∨Jx W'):=by
 refine callsIn_of_wp Tryz.func132 rfl h7 ?_ hro
 simp only[Tryz.ntmps132,List.size_toArray,List.length_cons,List.length_nil,Nat.reduceAdd,Nat.reduceSub,Array.replicate_succ,Array.replicate_zero,List.push_toArray,List.append_toArray,List.nil_append,List.cons_append]
 gi_wp2
 gi_loopw [3] (fun i wr=>∃c:Nat,c≤len∧i = .int .i64 ((c:Int) - 1)∧J (len - c) wr∧Still Bs b W wr)
  (fun i _=>(intOf i + 1).toNat)
 case atStart=>exact⟨len,Nat.le_refl _,by go_num,by rw[Nat.sub_self];exact h0,Still.refl _ _ _⟩
 case round =>
  obtain⟨c,hk,rfl,hJs,hnx⟩:=hrel
  have hbs':=(hnx.cellB 0).trans hBs
  rcases Nat.eq_zero_or_pos c with rfl|hp
  ·gi_wp2
   go_end0
   exact⟨⟨_,rfl⟩,.inl hJs⟩
  ·obtain⟨m,rfl⟩:∃m,c=m + 1:=⟨c - 1,by omega⟩
   rw[show((m + 1:Nat):Int) - 1=m by omega]
   have d0:=(hnx.cellb _).trans (hc m (by omega) 0 (by omega))
   have d1:=(hnx.cellb _).trans (hc m (by omega) 1 (by omega))
   have d2:=(hnx.cellb _).trans (hc m (by omega) 2 (by omega))
   have d3:=(hnx.cellb _).trans (hc m (by omega) 3 (by omega))
   have d4:=(hnx.cellb _).trans (hc m (by omega) 4 (by omega))
   have d5:=(hnx.cellb _).trans (hc m (by omega) 5 (by omega))
   simp only[Nat.add_zero] at d0
   obtain⟨fn,tmps,assign,body,hy,hR⟩:=hY _ m wr (backI_at hk) hJs
   dsimp only[stpV] at hy
   have HB:Hid (len - (m + 1) + 1=len - m):=by show _=_;omega
   gi_wp2
   refine hR.mono ?_
   rintro e W3 (⟨rfl,hJ3,hk3⟩|⟨rfl,hJx3⟩)
   ·gi_wp2
    go_roundw
    case rel=>exact⟨m,by omega,by go_num,by rw[←HB.out];exact hJ3,hnx.trans hk3⟩
    case measure=>simp[intOf]
   ·gi_wp2
    refine bodyPost_ret (results_none rfl _ _ _) rfl ?_
    exact⟨⟨_,rfl⟩,.inr hJx3⟩
set_option maxHeartbeats 1000000 in
theorem stepsBack_in (F:Fence) (n:Nat) (h5:F.fn 94) (hro:F.round=none) (a:Option Addr) (len cap:Nat) (w:World) :
  CallsIn F n Tryz.prog 94 #[.slice a len cap] w fun e w'=>e = .returned (.func (.func 132) #[] #[.pointer (some ⟨w.heap.size,0,none⟩)])∧w'=w.alloc (.cells #[.slice a len cap] 153):=by
 refine callsIn_of_wp Tryz.func94 rfl h5 ?_ hro
 simp only[Tryz.ntmps94,List.size_toArray,List.length_cons,List.length_nil,Nat.reduceAdd,Nat.reduceSub,Array.replicate_succ,Array.replicate_zero,List.push_toArray,List.append_toArray,List.nil_append,List.cons_append]
 gi_wp2
 go_ret
 exact⟨rfl,rfl⟩
theorem stepsBack_run (F:Fence) (n:Nat) (h8:F.fn 132) (hro:F.round=none) (hn:1≤n) (Bs b len cap:Nat) (A:Nat→Nat→Value) (hreach:len≤1000000) (w:World) (hBs:Bs < w.heap.size) (hb:b < w.heap.size)
  (hc:w.cell? ⟨Bs,0,none⟩=some (.slice (some ⟨b,0,none⟩) len cap)) (hI:∀j,j < len → ∀i,i < 6→w.cell? ⟨b,j * 6 + i,none⟩=some (A j i)) :
  SeqRun F n Tryz.prog 132 #[.pointer (some ⟨Bs,0,none⟩)] (stpV A) (Still Bs b) (backI len) w:=fun l J Jx W hW hY h0=>by
 rw[backI_len]
 exact stepsBack1_in F n h8 hro hn l Bs b len cap A hreach J Jx hY W ((hW.cell (p:=⟨Bs,0,none⟩) hBs).trans hc) (fun j hj i hi=>(hW.cell (p:=⟨b,j * 6 + i,none⟩) hb).trans (hI j hj i hi)) h0
section
variable {P:Program} {ops:Array Oper} {Q:Exit→Act→World→Prop} {md:Region.Mode}
theorem wpOp_in {ro:Option Nat} {n:Nat} (hd:∀o∈ops, ∀c,o.op ≠ .defer c) (hL:¬LetsOut Q) {i:Nat} {K:Act→World→Prop} {a:Act} {w:World}
  (h:wpOp P ops Q i K a w):wpOpIn { Fence.wide with round:=ro } n P ops Q i K a w:=by
 unfold wpOp at h
 unfold wpOpIn
 cases ho:ops[i]? with
 | none=>rw[ho] at h;exact h
 | some o =>
  rw[ho] at h
  dsimp only at h⊢
  have hm:o∈ops:=by obtain⟨hi,rfl⟩:=Array.getElem?_eq_some_iff.1 ho;exact Array.getElem_mem hi
  by_cases hw:Region.wanted o (yielded ops a.tmps)=true
  ·rw[if_pos hw] at h⊢
   rcases h with h|h
   ·refine⟨fun _ _=>trivial,?_⟩
    rw[Oper.semAt_eq _ _ _ (hd o hm)]
    unfold Oper.wp at h
    generalize (execOp a.eval o).run P w=r at *
    cases r with
    | ok x w' =>
     cases x with
     | value v=>exact h
     | skip=>exact h
     | defer d=>exact h
     | enter f args=>exact⟨fun hf=>(by cases hf),callsIn_wide.2 h⟩
     | row row args=>exact⟨fun hf=>(by cases hf),fun c cs _=>let ⟨v,w',r,s⟩:=h c cs;⟨v,w',r,stepsIn_wide.2 s⟩⟩
     | _=>exact h.elim
    | halt x w'=>cases x<;>exact h
   ·exact absurd h.2 hL
  ·rw[if_neg hw] at h⊢
   exact⟨fun _ _=>trivial,h⟩
theorem wpAny_in {ro:Option Nat} {n:Nat} (hd:∀o∈ops, ∀c,o.op ≠ .defer c) (hL:¬LetsOut Q):∀(fuel:Nat) (listed:Array Bool) (a:Act) (w:World),
  wpAny P md ops Q fuel listed a w→wpAnyIn { Fence.wide with round:=ro } n P md ops Q fuel listed a w
 | 0,_,_,_,h=>h
 | fuel + 1,_,_,_,h=>⟨h.1,fun i hi=>wpOpIn_mono (fun a' w' h'=>wpAny_in hd hL fuel _ a' w' h') (wpOp_in hd hL (h.2 i hi))⟩
theorem wpIn_round_z (z:Nat) (C:World→Prop) {l n id:Nat} {a:Act} {w:World} (hm:P.follows .mixedOrders=true) (hd:∀o∈ops, ∀c,o.op ≠ .defer c) (hL:¬LetsOut Q)
  (h:wpAnyZ P .any ops Q C z ops.size (Array.replicate ops.size false) a w.drew):(Code.region id ops true).wpIn (Fence.wide.inRound l) n P Q a w :=
 wpIn_region_any hm (wpAny_in (ro:=some l) hd hL _ _ _ _ (wpAny_of_z _ _ _ _ h))
end
end Go.Proofs.YtfgjehecjgebdaaGreat
/- The tree: Put where there is no root, or no way. -/
namespace Go.Proofs.YtfgjehecjgebdaaGreat
open Go.RowKit Go.Maps Go.ChangeMaps
attribute [local go_sem] Oper.semAt_some
theorem Nd.Ok.fit {n:Nd} (h:n.Ok):n.Fit:=⟨h.leaf,fun hl=>(h.inner hl).2,h.kl,h.vl,h.kid,by
 have hm:=h.most
 unfold Nd.over at hm
 have:=of_decide_eq_false hm
 split at this<;>omega⟩
theorem leaf0_fit:leaf0.Fit:=⟨fun _=>⟨rfl,rfl⟩,(fun h=>by cases h),(by simp[leaf0]),(by simp[leaf0]),(by simp[leaf0]),(by simp[leaf0,Nd.len])⟩
theorem leaf0_is (w:World) (B:Nat):IsNd w B (.agg #[.bool true,.slice none 0 0,.slice none 0 0,.slice none 0 0]) leaf0:=IsNd.made (n:=leaf0) rfl (SRow.nil _ _) (SRow.nil _ _) (IRow.nil _ _)
theorem putP_old (W:Wk) (n:Nd):(putP W n).2.old=W.old:=by
 unfold putP
 split
 ·rfl
 ·split<;>rfl
theorem WkW.new {w q X root} (h:TW w q X root) {wk:Nat} (hb:w.heap[wk]? = some (.cells #[.pointer (some ⟨q.t,0,none⟩),.slice none 0 0,.slice none 0 0] 162 (0,0))) (Z:Nat):WkW w q wk (.slice none 0 0) (.slice none 0 0) (wk0 X) root Z :=
 ⟨h,hb,IRow.nil _ _,IRow.nil _ _,fun _ h=>by cases h⟩
set_option maxHeartbeats 1000000 in
theorem TreePut_big {w q X root} (h:TW w q X root) (k v:Bs) (hkv:24 < k.length∨32 < v.length) :
  Calls Tryz.prog 36 #[.pointer (some ⟨q.t,0,none⟩),.string (ba k),.string (ba v)] w (DoneTo (putT X root k v) w q):=by
 have HP:Hid (putT X root k v=(3,root,X)):=by show _=_;unfold putT;rw[if_pos hkv]
 have H:=Lib.hid h
 have hks:(ba k).size=k.length:=by simp[ba,ByteArray.size]
 have hvs:(ba v).size=v.length:=by simp[ba,ByteArray.size]
 obtain⟨ks,eks⟩:∃s,s=ba k:=⟨_,rfl⟩
 obtain⟨vs,evs⟩:∃s,s=ba v:=⟨_,rfl⟩
 rw[←eks] at hks⊢
 rw[←evs] at hvs⊢
 rw[←hks, ←hvs] at hkv
 clear h eks evs hks hvs
 by_cases hk:24 < ks.size
 ·have g1:decide ((24:Int) < (ks.size:Int))=true:=by simp;omega
  clear hkv
  go_enter Tryz.func36,Tryz.ntmps36
  go_wp2
  refine bodyPost_ret (v:=.int .i64 3) (by simp[results,Tryz.f36,go_sem]) rfl ?_
  rw[HP.out]
  have k':Kept (fun _=>False) w (((w.alloc (Obj.cells #[Value.string ks] 9)).alloc (Obj.cells #[Value.string vs] 9)).alloc (Obj.cells #[Value.int IntKind.i64 3] 36)):=(((Kept.refl _ w).alloc _).alloc _).alloc _
  exact⟨rfl,H.out.keptF k',k'.mono fun _ _=>False.elim⟩
 ·have g1:decide ((24:Int) < (ks.size:Int))=false:=by simp;omega
  have g2:decide ((32:Int) < (vs.size:Int))=true:=by simp;omega
  clear hkv
  go_enter Tryz.func36,Tryz.ntmps36
  go_wp2
  refine bodyPost_ret (v:=.int .i64 3) (by simp[results,Tryz.f36,go_sem]) rfl ?_
  rw[HP.out]
  have k':Kept (fun _=>False) w (((w.alloc (Obj.cells #[Value.string ks] 9)).alloc (Obj.cells #[Value.string vs] 9)).alloc (Obj.cells #[Value.int IntKind.i64 3] 36)):=(((Kept.refl _ w).alloc _).alloc _).alloc _
  exact⟨rfl,H.out.keptF k',k'.mono fun _ _=>False.elim⟩
set_option maxHeartbeats 2000000 in
theorem TreePut_none {w q X root} (h:TW w q X root) (hr:root < 0) (k v:Bs) (hk:k.length≤24) (hv:v.length≤32) :
  Calls Tryz.prog 36 #[.pointer (some ⟨q.t,0,none⟩),.string (ba k),.string (ba v)] w (DoneTo (putT X root k v) w q):=by
 obtain⟨r,er⟩:∃r,r=putT X root k v:=⟨_,rfl⟩
 have HP:Hid (r=doneP (putP (wk0 X) (leaf0.set k v)).2 (putP (wk0 X) (leaf0.set k v)).1.1 (putP (wk0 X) (leaf0.set k v)).1.2 root):=by show _=_;rw[er];unfold putT;rw[if_neg (by omega),if_pos hr]
 rw[←er]
 have CS:=Lib.hid fun w'=>NdSet_calls (leaf0_is w' w'.heap.size) (Nat.le_refl _) leaf0_fit.sm (show Up [] by simp[Up]) rfl rfl k v
 have FS:=Lib.hid (leaf0_fit.set rfl hk hv (by simp[leaf0,Nd.len])).1
 have H:=Lib.hid h
 have hks:(ba k).size=k.length:=by simp[ba,ByteArray.size]
 have hvs:(ba v).size=v.length:=by simp[ba,ByteArray.size]
 have htl:=lt_heap h.tree
 have htl1:q.t < w.heap.size + 1:=by omega
 have htl2:q.t < w.heap.size + 1 + 1:=by omega
 have htl3:q.t < w.heap.size + 1 + 1 + 1:=by omega
 have htl4:q.t < w.heap.size + 1 + 1 + 1 + 1:=by omega
 have hr1:w.cell? ⟨q.t,1,none⟩=some (.int .i64 root):=(cell_heap h.tree 1).trans rfl
 obtain⟨ks,eks⟩:∃s,s=ba k:=⟨_,rfl⟩
 obtain⟨vs,evs⟩:∃s,s=ba v:=⟨_,rfl⟩
 rw[←eks, ←evs] at CS
 rw[←eks] at hks⊢
 rw[←evs] at hvs⊢
 have g1:decide ((24:Int) < (ks.size:Int))=false:=by simp;omega
 have g2:decide ((32:Int) < (vs.size:Int))=false:=by simp;omega
 have g3:decide (root < 0)=true:=by simp;exact hr
 clear h eks evs hks hvs hk hv er hr
 go_enter Tryz.func36,Tryz.ntmps36
 go_wp2_with fail
 obtain⟨w1,hw1⟩:∃w1,w1=((((w.alloc (Obj.cells #[Value.string ks] 9)).alloc (Obj.cells #[Value.string vs] 9)).alloc (Obj.cells #[Value.int IntKind.i64 0] 36)).alloc (Obj.cells #[.pointer (some ⟨q.t,0,none⟩),.slice none 0 0,.slice none 0 0] 162)).alloc (Obj.cells #[.pointer (some ⟨w.heap.size + 1 + 1 + 1,0,none⟩)] 160):=⟨_,rfl⟩
 rw[←hw1]
 obtain⟨N,hN⟩:∃N,N=w.heap.size:=⟨_,rfl⟩
 have HN:=Lib.hid hN
 have B0:Hid (w1.heap[N]? = some (Obj.cells #[Value.string ks] 9 (0,0))):=by show _=_;rw[hw1,hN];exact heap_old (heap_old (heap_old (heap_old (heap_new w _) _) _) _) _
 have B1:Hid (w1.heap[N + 1]? = some (Obj.cells #[Value.string vs] 9 (0,0))):=by show _=_;rw[hw1,hN];exact heap_old (heap_old (heap_old (heap_newAt (by simp) _) _) _) _
 have B2:Hid (w1.heap[N + 1 + 1]? = some (Obj.cells #[Value.int IntKind.i64 0] 36 (0,0))):=by show _=_;rw[hw1,hN];exact heap_old (heap_old (heap_newAt (by simp) _) _) _
 have B3:Hid (w1.heap[N + 1 + 1 + 1]? = some (Obj.cells #[.pointer (some ⟨q.t,0,none⟩),.slice none 0 0,.slice none 0 0] 162 (0,0))):=by show _=_;rw[hw1,hN];exact heap_old (heap_newAt (by simp) _) _
 have B4:Hid (w1.heap[N + 1 + 1 + 1 + 1]? = some (Obj.cells #[.pointer (some ⟨N + 1 + 1 + 1,0,none⟩)] 160 (0,0))):=by show _=_;rw[hw1,hN];exact heap_newAt (by simp) _
 have K1:Hid (Kept (fun _=>False) w w1):=by rw[hw1];exact((((((Kept.refl _ w).alloc _).alloc _).alloc _).alloc _).alloc _)
 have HW1:Hid (WkW w1 q (N + 1 + 1 + 1) (.slice none 0 0) (.slice none 0 0) (wk0 X) root 0):=WkW.new (H.out.keptF K1.out) B3.out 0
 rw[←hN] at htl htl1 htl2 htl3 htl4⊢
 have KS:Hid (∀w',Kept (fun k=>k=q.c∨k=q.m∨k=N + 1 + 1 + 1∨(Value.slice none 0 0).ownBlock=some k) w1 w' → ∀k o,N≤k→k ≠ N + 1 + 1 + 1→w1.heap[k]? = some o→w'.heap[k]? = some o):=fun w' kk k o hk hne ho=>kk.heap ho (by
  have h1:=H.out.sto
  rintro(e|e|e|e)
  ·have:=lt_heap h1.sp.row;have:=HN.out;omega
  ·obtain⟨es,clock,hm⟩:=h1.put.heap;have:=(Array.getElem?_eq_some_iff.1 hm).1;have:=HN.out;omega
  ·exact hne e
  ·cases e)
 have HS0:Hid (∀w',Kept (fun k=>k=q.c∨k=q.m∨k=N + 1 + 1 + 1∨(Value.slice none 0 0).ownBlock=some k) w1 w'→w'.cell? ⟨N,0,none⟩=some (.string ks)∧w'.cell? ⟨N + 1,0,none⟩=some (.string vs)∧w'.cell? ⟨N + 1 + 1 + 1 + 1,0,none⟩=some (.pointer (some ⟨N + 1 + 1 + 1,0,none⟩))):=fun w' kk =>
  ⟨(cell_heap (KS.out w' kk _ _ (by omega) (by omega) B0.out) 0).trans rfl,(cell_heap (KS.out w' kk _ _ (by omega) (by omega) B1.out) 0).trans rfl,(cell_heap (KS.out w' kk _ _ (by omega) (by omega) B4.out) 0).trans rfl⟩
 have hS1:=HS0.out w1.drew (Kept.refl _ w1).drew
 clear hw1 hN hr1 htl htl1 htl2 htl3 htl4
 refine wp_region_held_drew (S:=(fun w'=>w'.cell? ⟨N,0,none⟩=some (.string ks)∧w'.cell? ⟨N + 1,0,none⟩=some (.string vs)∧w'.cell? ⟨N + 1 + 1 + 1 + 1,0,none⟩=some (.pointer (some ⟨N + 1 + 1 + 1,0,none⟩)))) (by kernel_rfl) hS1 (fun hHeld=>?_)
 clear hS1
 refine tk 0 (h:=?_)
 (try simp only[lits])
 refine tk 1 (h:=?_)
 (try simp only[lits])
 refine tk 2 (h:=?_)
 (try simp only[lits])
 refine tk 3 (h:=?_)
 (try simp only[lits])
 refine wpAnyH_ready (rs := [4]) (by kernel_rfl) (by simp) ?_
 refine AllReadyH.cons rfl (fun K hK=>?_) AllReadyH.nil
 go_simp
 refine(CS.out _).mono ?_
 rintro e w2 ⟨vn,rfl,hn,k2⟩
 have K2:=Lib.hid ((Kept.refl (fun _=>False) w1).drew.trans k2)
 have HNd:=Lib.hid hn
 refine hK.out _ _ (HS0.out _ (K2.out.mono fun _ _=>False.elim)) (fun hHeld=>?_)
 clear hK k2 hn CS
 (try simp only[lits])
 refine wpAnyH_ready (rs := [5]) (by kernel_rfl) (by simp) ?_
 refine AllReadyH.cons rfl (fun K hK=>?_) AllReadyH.nil
 go_simp
 have CP:=Lib.hid (TWput_calls (HW1.out.keptF K2.out) HNd.out FS.out (Nat.zero_le _) (by simp[wk0]))
 have PF:=Lib.hid (putP_fresh (wk0 X) (leaf0.set k v))
 have PO:=Lib.hid (putP_old (wk0 X) (leaf0.set k v))
 obtain⟨⟨⟨ti,te⟩,W'⟩,hp⟩:∃x,x=putP (wk0 X) (leaf0.set k v):=⟨_,rfl⟩
 rw[←hp] at CP HP PF PO
 unfold PutTo at CP
 dsimp only at CP HP
 clear hp
 refine CP.out.mono ?_
 rintro e w3 ⟨rfl,vf',hw3,hk3, -⟩
 have K3:=Lib.hid ((K2.out.mono fun _ _=>False.elim).trans hk3)
 have HW3:=Lib.hid hw3
 refine hK.out _ _ (HS0.out _ K3.out) (fun hHeld=>?_)
 clear hK hw3 hk3 CP
 (try simp only[lits])
 refine tk 6 (h:=?_)
 (try simp only[lits])
 refine tk 7 (h:=?_)
 (try simp only[lits])
 refine tk 8 (h:=?_)
 (try simp only[lits])
 refine tk 9 (h:=?_)
 (try simp only[lits])
 refine tk 10 (h:=?_)
 (try simp only[lits])
 refine wpAnyH_done (by kernel_rfl) ?_ _
 clear hHeld
 have CD:=Lib.hid (TWdone_calls HW3.out ⟨by have:=PF.out;simp[wk0] at this;omega,by have:=PO.out;rw[this];simp[wk0]⟩ ti te)
 have b2:=KS.out _ K3.out _ _ (by omega) (by omega) B2.out
 have b4:=KS.out _ K3.out _ _ (by omega) (by omega) B4.out
 have HB2:=Lib.hid b2
 have d4:w3.cell? ⟨N + 1 + 1 + 1 + 1,0,none⟩=some (.pointer (some ⟨N + 1 + 1 + 1,0,none⟩)):=(cell_heap b4 0).trans rfl
 clear b2 b4
 go_wp2_with fail
 refine CD.out.mono ?_
 rintro e w4 ⟨rfl,tw4,k4⟩
 have TW4:=Lib.hid tw4;have K4:=Lib.hid k4
 have b4:=k4.heap HB2.out (by
  have h1:=H.out.sto
  rintro(e|e|e)
  ·have:=lt_heap h1.sp.row;have:=HN.out;omega
  ·obtain⟨es,clock,hm⟩:=h1.put.heap;have:=(Array.getElem?_eq_some_iff.1 hm).1;have:=HN.out;omega
  ·have:=lt_heap H.out.tree;have:=HN.out;omega)
 have HB4:=Lib.hid b4
 have f4:w4.frozen? ⟨N + 1 + 1,0,none⟩=false:=free_heap b4 0
 have c4:w4.cell? ⟨N + 1 + 1,0,none⟩=some (.int .i64 0):=(cell_heap b4 0).trans rfl
 clear b4 tw4 k4 CD d4
 go_wp2
 have hf:(w4.setCell ⟨N + 1 + 1,0,none⟩ (.int .i64 (doneP W' ti te root).1)).heap[N + 1 + 1]? = some (Obj.cells #[Value.int IntKind.i64 (doneP W' ti te root).1] 36 (0,0)):=heap_set HB4.out 0 _
 have q0:=cell_heap hf 0
 refine bodyPost_ret (v:=.int .i64 (doneP W' ti te root).1) (by simp[results,Tryz.f36,go_sem,q0]) rfl ?_
 rw[HP.out]
 refine⟨rfl,TW4.out.alien ((Kept.refl (· = N + 1 + 1) w4).set1 0 _) (Alien.one HB4.out (by decide)),?_⟩
 have hn:=HN.out
 refine(((K1.out.mono fun _ _=>False.elim).then K3.out fun i hi e=>?_).then K4.out fun i hi e=>e).then ((Kept.refl (· = N + 1 + 1) w4).set1 0 _) fun i hi e=>by omega
 rcases e with e|e|e|e
 ·exact .inl e
 ·exact .inr (.inl e)
 ·omega
 ·cases e
end Go.Proofs.YtfgjehecjgebdaaGreat
/- The tree: Put where the way is bad. -/
namespace Go.Proofs.YtfgjehecjgebdaaGreat
open Go.RowKit Go.Maps Go.ChangeMaps
attribute [local go_sem] Oper.semAt_some
set_option maxHeartbeats 2000000 in
theorem TreePut_bad {w q X} {root:Nat} (h:TW w q X root) (k v:Bs) (hk:k.length≤24) (hv:v.length≤32) (hd:(downT X k 12 root).2 ≠ 0) :
  Calls Tryz.prog 36 #[.pointer (some ⟨q.t,0,none⟩),.string (ba k),.string (ba v)] w (DoneTo (putT X root k v) w q):=by
 obtain⟨r,er⟩:∃r,r=putT X root k v:=⟨_,rfl⟩
 have HP:Hid (r=((downT X k 12 root).2,(root:Int),X)):=by show _=_;rw[er];unfold putT;rw[if_neg (by omega),if_neg (by omega),Int.toNat_natCast,if_pos hd]
 rw[←er]
 have CD:=Lib.hid fun w' (kk:Kept (fun _=>False) w w')=>TreeDown_calls (h.keptF kk) k
 obtain⟨R,eR⟩:∃R,R=downT X k 12 root:=⟨_,rfl⟩
 rw[←eR] at CD HP hd
 obtain⟨L,ee⟩:=R
 unfold DownTo at CD
 dsimp only at CD HP hd
 have H:=Lib.hid h
 have hks:(ba k).size=k.length:=by simp[ba,ByteArray.size]
 have hvs:(ba v).size=v.length:=by simp[ba,ByteArray.size]
 have htl:=lt_heap h.tree
 have htl1:q.t < w.heap.size + 1:=by omega
 have htl2:q.t < w.heap.size + 1 + 1:=by omega
 have htl3:q.t < w.heap.size + 1 + 1 + 1:=by omega
 have htl4:q.t < w.heap.size + 1 + 1 + 1 + 1:=by omega
 have hr1:w.cell? ⟨q.t,1,none⟩=some (.int .i64 root):=(cell_heap h.tree 1).trans rfl
 obtain⟨ks,eks⟩:∃s,s=ba k:=⟨_,rfl⟩
 obtain⟨vs,evs⟩:∃s,s=ba v:=⟨_,rfl⟩
 rw[←eks] at CD
 rw[←eks] at hks⊢
 rw[←evs] at hvs⊢
 have g1:decide ((24:Int) < (ks.size:Int))=false:=by simp;omega
 have g2:decide ((32:Int) < (vs.size:Int))=false:=by simp;omega
 have g3:decide ((root:Int) < 0)=false:=by simp
 have g4:(ee == 0)=false:=by rw[beq_eq_false_iff_ne];exact hd
 have g5:(ee != 0)=true:=by rw[bne_iff_ne];exact hd
 clear h eks evs hks hvs hk hv er hd eR
 go_enter Tryz.func36,Tryz.ntmps36
 go_wp2_with fail
 refine(CD.out _ (by repeat (first|exact Kept.refl _ _|refine Kept.alloc ?_ _))).mono ?_
 rintro e w1 ⟨k1,vw,rfl,hw⟩
 obtain⟨A,cw,rfl⟩:=hw.slice
 have b2:=k1.heap (heap_old (heap_old (heap_newAt (w:=(w.alloc (Obj.cells #[Value.string ks] 9)).alloc (Obj.cells #[Value.string vs] 9)) (n:=w.heap.size + 1 + 1) (by simp) (Obj.cells #[Value.int .i64 0] 36)) (Obj.cells #[.pointer (some ⟨q.t,0,none⟩),.slice none 0 0,.slice none 0 0] 162)) (Obj.cells #[.pointer (some ⟨w.heap.size + 1 + 1 + 1,0,none⟩)] 160)) not_false
 have K1:=Lib.hid ((((((((Kept.refl (fun _=>False) w).alloc _).alloc _).alloc _).alloc _).alloc _)).trans k1)
 obtain⟨N,hN⟩:∃N,N=w.heap.size:=⟨_,rfl⟩
 have HN:=Lib.hid hN
 rw[←hN] at b2 htl htl1 htl2 htl3 htl4⊢
 have HB2:=Lib.hid b2
 have f4:w1.frozen? ⟨N + 1 + 1,0,none⟩=false:=free_heap b2 0
 have c4:w1.cell? ⟨N + 1 + 1,0,none⟩=some (.int .i64 0):=(cell_heap b2 0).trans rfl
 have hl4:=lt_heap b2
 have hl5:N + 1 + 1 < w1.heap.size + 1:=by omega
 clear b2 k1 CD hN hw
 go_wp2
 have hf:=heap_old (heap_old (heap_set HB2.out 0 (.int .i64 ee)) (Obj.cells #[Value.slice A L.length cw] 153)) (Obj.cells #[Value.int .i64 ee] 36)
 have q0:=cell_heap hf 0
 refine bodyPost_ret (v:=.int .i64 ee) (by simp[results,Tryz.f36,go_sem,q0]) rfl ?_
 rw[HP.out]
 have hn:=HN.out
 have k5:=((Kept.refl (fun _=>False) (w1.setCell ⟨N + 1 + 1,0,none⟩ (.int .i64 ee))).alloc (Obj.cells #[Value.slice A L.length cw] 153)).alloc (Obj.cells #[Value.int .i64 ee] 36)
 refine⟨rfl,((H.out.keptF K1.out).alien ((Kept.refl (· = N + 1 + 1) w1).set1 0 _) (Alien.one HB2.out (by decide))).keptF k5,?_⟩
 exact(((K1.out.mono fun _ _=>False.elim).then ((Kept.refl (· = N + 1 + 1) w1).set1 0 _) fun i hi e=>by omega)).then k5 fun i hi e=>e.elim
end Go.Proofs.YtfgjehecjgebdaaGreat
/- The tree: what stands in memory while Put goes up its way. -/
namespace Go.Proofs.YtfgjehecjgebdaaGreat
open Go.RowKit Go.Maps Go.ChangeMaps
structure POk (p:Parts):Prop where
 n:p.1.length=1∨p.1.length=2
 lt:∀x∈p.1,x < 128
 key:p.2.length≤24
theorem putP_lt {W:Wk} {n:Nd} (h0:(putP W n).1.2=0):(putP W n).1.1 < W.X.l.length∧(putP W n).2.X.l.length=W.X.l.length:=by
 unfold putP at *
 split at h0
 ·cases h0
 ·next h1 =>
  rw[if_neg h1]
  cases ht:tkAt W.X.l with
  | none=>rw[ht] at h0;cases h0
  | some i=>exact⟨(tk_lt ht).1,by simp⟩
theorem layP_ok {W:Wk} {n:Nd} (hf:n.Fit) (hl:W.X.l.length≤128) (h0:(layP W n).2.1=0):POk (layP W n).1:=by
 unfold layP at *
 split at h0
 ·next ho =>
  rw[if_pos ho]
  have:=(putP_lt h0).1
  exact⟨.inl rfl,fun x hx=>by simp at hx;omega,by simp⟩
 ·next ho =>
  rw[if_neg ho]
  split at h0
  ·next h1=>exact absurd h0 h1
  ·next h1 =>
   rw[if_neg h1]
   obtain⟨a1,a2⟩:=putP_lt (Classical.not_not.1 h1)
   have a3:=(putP_lt h0).1
   refine⟨.inr rfl,fun x hx=>?_,(hf.halves (by simpa using ho)).2.2.1⟩
   simp only[List.mem_cons,List.not_mem_nil,or_false] at hx
   omega
theorem layP_counts (W:Wk) (n:Nd):(layP W n).2.2.fresh.length≤W.fresh.length + 2∧(layP W n).2.2.old=W.old:=by
 unfold layP
 split
 ·exact⟨Nat.le_trans (putP_fresh W n) (by omega),putP_old W n⟩
 ·split
  ·exact⟨Nat.le_trans (putP_fresh W n.lo) (by omega),putP_old W n.lo⟩
  ·have h1:=putP_fresh W n.lo
   have h2:=putP_fresh (putP W n.lo).2 n.hi
   exact⟨by simp only;omega,(putP_old _ _).trans (putP_old _ _)⟩
theorem take_rev {α} (L:List α) (m:Nat) (h:m < L.length):(L.take (m + 1)).reverse=L[m] :: (L.take m).reverse:=by
 rw[List.take_succ_eq_append_getElem h,List.reverse_append];rfl
theorem Kept.put {W:World} (l:Nat) (o:Obj):Kept (· = l) W (W.putObj l o):=⟨rfl,rfl,rfl,by simp,fun _ _ hk=>World.putObj_heap_other hk⟩
def NoCells (w:World) (S:Nat→Prop):Prop:=∀i,S i → ∃o,w.heap[i]? = some o∧o.isCells=false
theorem NoCells.not {w S i cs T f} (h:NoCells w S) (hh:w.heap[i]? = some (.cells cs T f)):¬S i:=fun hs=>by
 obtain⟨o,ho,hc⟩:=h i hs
 rw[hh] at ho;cases ho;cases hc
theorem NoCells.notRow {w S B e sz v n xs} (h:NoCells w S) (hr:w.ownsRow B e sz v n xs):∀g,v.ownBlock=some g → ¬S g:=fun g hg=>by
 obtain⟨cs,f,hh⟩:=own_type hr hg
 exact h.not hh
theorem TW.off {w w' q X root} {S:Nat→Prop} (h:TW w q X root) (k:Kept S w w') (hs:NoCells w S) (hm:¬S q.m):TW w' q X root:=by
 obtain⟨c,hd⟩:=h.sto.dev.head
 exact⟨⟨k.heap h.sto.head (hs.not h.sto.head),h.sto.sp.kept k (hs.not h.sto.sp.head) (hs.not h.sto.sp.row),h.sto.put.kept k hm,h.sto.dev.kept k (hs.not hd) (hs.notRow h.sto.dev.secs) (hs.notRow h.sto.dev.cache),h.sto.len,h.sto.lay⟩,k.heap h.tree (hs.not h.tree),h.up,h.secs,h.cache,h.txt⟩
theorem WkW.off {w w' q wk vf vo W root Z} {S:Nat→Prop} (h:WkW w q wk vf vo W root Z) (k:Kept S w w') (hs:NoCells w S) (hm:¬S q.m):WkW w' q wk vf vo W root Z :=
 ⟨h.tw.off k hs hm,k.heap h.blk (hs.not h.blk),IRow.kept h.rf k (hs.notRow h.rf),IRow.kept h.ro k (hs.notRow h.ro),h.ne⟩
theorem keepsFrom_of {B:Nat} {S:Nat→Prop} {W W':World} (k:Kept S W W') (hs:∀i,S i→i < B ∨ ∃cs T f,W.heap[i]? = some (.cells cs T f)):KeepsFrom B W W' :=
 ⟨k.size,fun i o hi ho hc=>k.heap ho fun h=>by
  rcases hs i h with h|⟨cs,T,f,h⟩
  ·omega
  ·rw[ho] at h;cases h;cases hc⟩
theorem TW.small {w q X root} (h:TW w q X root):q.c < w.heap.size∧q.m < w.heap.size∧q.t < w.heap.size:=by
 refine⟨lt_heap h.sto.sp.row,?_,lt_heap h.tree⟩
 obtain⟨es,clock,hm⟩:=h.sto.put.heap
 exact(Array.getElem?_eq_some_iff.1 hm).1
structure StpT where
 id:Nat
 at_:Nat
 l:Bool
 P1:Option Addr
 n1:Nat
 c1:Nat
 P2:Option Addr
 n2:Nat
 c2:Nat
 P3:Option Addr
 n3:Nat
 c3:Nat
def StpT.cell (t:StpT):Nat→Value
 | 0=>.int .i64 (t.id:Int)
 | 1=>.int .i64 (t.at_:Int)
 | 2=>.bool t.l
 | 3=>.slice t.P1 t.n1 t.c1
 | 4=>.slice t.P2 t.n2 t.c2
 | 5=>.slice t.P3 t.n3 t.c3
 | _=>undef
theorem stepsTable {w B E g c L} (h:IsWay w B E (.slice (some ⟨g,0,none⟩) (List.length L) c) L):∃T:Nat→StpT, ∀j (hj:j < L.length),(T j).id=L[j].id∧(T j).at_=L[j].at_∧IsNd w B (.agg #[.bool (T j).l,.slice (T j).P1 (T j).n1 (T j).c1,.slice (T j).P2 (T j).n2 (T j).c2,.slice (T j).P3 (T j).n3 (T j).c3]) L[j].n ∧
  rowsLt (.agg #[.bool (T j).l,.slice (T j).P1 (T j).n1 (T j).c1,.slice (T j).P2 (T j).n2 (T j).c2,.slice (T j).P3 (T j).n3 (T j).c3]) E ∧ ∀i,i < 6→w.cell? ⟨g,j * 6 + i,none⟩=some ((T j).cell i):=by
 have key:∀j, ∃t:StpT, ∀(hj:j < L.length),t.id=L[j].id∧t.at_=L[j].at_∧IsNd w B (.agg #[.bool t.l,.slice t.P1 t.n1 t.c1,.slice t.P2 t.n2 t.c2,.slice t.P3 t.n3 t.c3]) L[j].n ∧
   rowsLt (.agg #[.bool t.l,.slice t.P1 t.n1 t.c1,.slice t.P2 t.n2 t.c2,.slice t.P3 t.n3 t.c3]) E ∧ ∀i,i < 6→w.cell? ⟨g,j * 6 + i,none⟩=some (t.cell i):=fun j=>by
  by_cases hj:j < L.length
  ·obtain⟨g',c',v0,v1,v2,v3,e, -,c0,c1,c2,c3,c4,c5,hn,hlt⟩:=h.at hj
   injection e with e
   injection e with e
   injection e with e
   subst e
   obtain⟨l,P1,n1,d1,P2,n2,d2,P3,n3,d3,e⟩:=hn.agg
   injection e with e
   injection e with e
   injection e with e0 e
   injection e with e1 e
   injection e with e2 e
   injection e with e3 e
   subst e0 e1 e2 e3
   refine⟨⟨L[j].id,L[j].at_,l,P1,n1,d1,P2,n2,d2,P3,n3,d3⟩,fun _=>⟨rfl,rfl,hn,hlt,fun i hi=>?_⟩⟩
   rcases i with _|_|_|_|_|_|i
   ·exact c0
   ·exact c1
   ·exact c2
   ·exact c3
   ·exact c4
   ·exact c5
   ·omega
  ·exact⟨⟨0,0,false,none,0,0,none,0,0,none,0,0⟩,fun h=>absurd h hj⟩
 exact⟨fun j=>Classical.choose (key j),fun j=>Classical.choose_spec (key j)⟩
structure PutB (w w1:World) (q:TQ) (root:Int) (ln N M g cw:Nat) (ks vs:ByteArray) (U:Wk) (vf vo:Value) (W:World):Prop where
 kw:Kept (fun k=>k=q.c∨k=q.m) w W
 kz:Kept (fun b=>b < N + 1 + 1 + 1 + 1 + 1∨M≤b) w1 W
 wk:WkW W q (N + 1 + 1 + 1) vf vo U root M
 b0:W.heap[N]? = some (.cells #[.string ks] 9 (0,0))
 b1:W.heap[N + 1]? = some (.cells #[.string vs] 9 (0,0))
 b4:W.heap[N + 1 + 1 + 1 + 1]? = some (.cells #[.pointer (some ⟨N + 1 + 1 + 1,0,none⟩)] 160 (0,0))
 bw:W.heap[M]? = some (.cells #[.slice (some ⟨g,0,none⟩) ln cw] 153 (0,0))
 bs:W.heap[M + 1 + 1 + 1]? = some (.cells #[.slice (some ⟨g,0,none⟩) ln cw] 153 (0,0))
structure PutX (N M:Nat) (p:Parts) (er:Int) (vo sp:Value) (W:World):Prop where
 b2:W.heap[N + 1 + 1]? = some (.cells #[.int .i64 0] 36 (0,0))
 be:W.heap[M + 1]? = some (.cells #[.int .i64 er] 36 (0,0))
 bp:W.heap[M + 1 + 1]? = some (.cells #[sp,.string (ba p.2)] 169 (0,0))
 ip:IRow W M sp p.1
 nvo:∀b,sp.ownBlock=some b→vo.ownBlock ≠ some b
section
variable {w w1:World} {q:TQ} {root:Int} {ln N M g cw:Nat} {ks vs:ByteArray} {U:Wk} {vf vo:Value} {W W':World} {p:Parts} {er:Int} {sp:Value}
theorem PutB.off {S:Nat→Prop} (h:PutB w w1 q root ln N M g cw ks vs U vf vo W) (k:Kept S W W') (hs:NoCells W S) (hS:∀i,S i→w.heap.size≤i∧M≤i) (hm:¬S q.m):PutB w w1 q root ln N M g cw ks vs U vf vo W' :=
 ⟨h.kw.then k fun i hi hs'=>by have:=(hS i hs').1;omega,h.kz.then k fun i hi hs'=>.inr (hS i hs').2,h.wk.off k hs hm,k.heap h.b0 (hs.not h.b0),k.heap h.b1 (hs.not h.b1),k.heap h.b4 (hs.not h.b4),k.heap h.bw (hs.not h.bw),k.heap h.bs (hs.not h.bs)⟩
theorem PutB.keptF (h:PutB w w1 q root ln N M g cw ks vs U vf vo W) (k:Kept (fun _=>False) W W'):PutB w w1 q root ln N M g cw ks vs U vf vo W' :=
 ⟨h.kw.then k fun _ _ e=>e.elim,h.kz.then k fun _ _ e=>e.elim,h.wk.keptF k,k.heap h.b0 id,k.heap h.b1 id,k.heap h.b4 id,k.heap h.bw id,k.heap h.bs id⟩
theorem PutX.off {S:Nat→Prop} (h:PutX N M p er vo sp W) (k:Kept S W W') (hs:NoCells W S):PutX N M p er vo sp W' :=
 ⟨k.heap h.b2 (hs.not h.b2),k.heap h.be (hs.not h.be),k.heap h.bp (hs.not h.bp),IRow.kept h.ip k (hs.notRow h.ip),h.nvo⟩
theorem PutX.keptF (h:PutX N M p er vo sp W) (k:Kept (fun _=>False) W W'):PutX N M p er vo sp W' :=
 ⟨k.heap h.b2 id,k.heap h.be id,k.heap h.bp id,IRow.keptF h.ip k,h.nvo⟩
def turnS (q:TQ) (N:Nat) (vf vo:Value) (i:Nat):Prop:=i=q.c∨i=q.m∨i=N + 1 + 1 + 1∨vf.ownBlock=some i∨vo.ownBlock=some i
theorem PutB.not {i:Nat} {cs:Array Value} {T:TypeId} {f:Nat×Nat} (h:PutB w w1 q root ln N M g cw ks vs U vf vo W) (hc:q.c < N∧q.m < N) (hi:N≤i) (hh:W.heap[i]? = some (.cells cs T f)) (h1:T ≠ 3) (h2:T ≠ 162):¬turnS q N vf vo i:=by
 rintro(e|e|e|e|e)
 ·omega
 ·omega
 ·subst e
  have:=h.wk.blk
  rw[hh] at this
  injection this with e
  injection e with _ e _
  exact h2 e
 ·exact own_neH h.wk.rf hh h1 _ e rfl
 ·exact own_neH h.wk.ro hh h1 _ e rfl
theorem PutB.turn {S:Nat→Prop} {U':Wk} {vf' vo':Value} (h:PutB w w1 q root ln N M g cw ks vs U vf vo W) (hc:q.c < N∧q.m < N) (hN:N=w.heap.size) (hNM:N + 1 + 1 + 1 + 1 + 1≤M) (k:Kept S W W') (hS:∀i,S i→turnS q N vf vo i) (hw:WkW W' q (N + 1 + 1 + 1) vf' vo' U' root M):PutB w w1 q root ln N M g cw ks vs U' vf' vo' W':=by
 refine⟨h.kw.then k fun i hi hs=>?_,h.kz.then k fun i hi hs=>?_,hw,k.heap h.b0 fun e=>h.not hc (Nat.le_refl _) h.b0 (by decide) (by decide) (hS _ e),k.heap h.b1 fun e=>h.not hc (by omega) h.b1 (by decide) (by decide) (hS _ e),k.heap h.b4 fun e=>h.not hc (by omega) h.b4 (by decide) (by decide) (hS _ e),k.heap h.bw fun e=>h.not hc (by omega) h.bw (by decide) (by decide) (hS _ e),k.heap h.bs fun e=>h.not hc (by omega) h.bs (by decide) (by decide) (hS _ e)⟩
 ·rcases hS i hs with e|e|e|e|e
  ·exact .inl e
  ·exact .inr e
  ·omega
  ·have:=own_ge h.wk.rf e;omega
  ·have:=own_ge h.wk.ro e;omega
 ·rcases hS i hs with e|e|e|e|e
  ·exact .inl (by omega)
  ·exact .inl (by omega)
  ·exact .inl (by omega)
  ·exact .inr (own_ge h.wk.rf e)
  ·exact .inr (own_ge h.wk.ro e)
theorem PutB.box {b:Nat} {cs:Array Value} {T:TypeId} {f:Nat×Nat} (h:PutB w w1 q root ln N M g cw ks vs U vf vo W) (hN:N=w.heap.size) (hb:N≤b∧(b < N + 1 + 1 + 1 + 1 + 1∨M≤b)) (k:Kept (· = b) W W') (hh:W.heap[b]? = some (.cells cs T f)) (hT:T=148∨T=36∨T=169):PutB w w1 q root ln N M g cw ks vs U vf vo W':=by
 have ne:∀ {i:Nat} {cs':Array Value} {T':TypeId} {f':Nat×Nat},W.heap[i]? = some (.cells cs' T' f')→T' ≠ 148∧T' ≠ 36∧T' ≠ 169→i ≠ b:=fun hi ht e=>by
  subst e
  rw[hi] at hh
  injection hh with e
  injection e with _ e _
  subst e
  rcases hT with e|e|e
  ·exact ht.1 e
  ·exact ht.2.1 e
  ·exact ht.2.2 e
 refine⟨h.kw.then k fun i hi hs=>by omega,h.kz.then k fun i hi hs=>by subst hs;exact hb.2,?_,k.heap h.b0 (ne h.b0 (by decide)),k.heap h.b1 (ne h.b1 (by decide)),k.heap h.b4 (ne h.b4 (by decide)),k.heap h.bw (ne h.bw (by decide)),k.heap h.bs (ne h.bs (by decide))⟩
 rcases hT with e|e|e
 ·subst e;exact h.wk.asideOne hh k (by decide) (by decide) (by decide)
 ·subst e;exact h.wk.asideOne hh k (by decide) (by decide) (by decide)
 ·subst e;exact h.wk.asideOne hh k (by decide) (by decide) (by decide)
theorem PutX.node {b:Nat} {cs:Array Value} {f:Nat×Nat} (h:PutX N M p er vo sp W) (k:Kept (· = b) W W') (hh:W.heap[b]? = some (.cells cs 148 f)):PutX N M p er vo sp W':=by
 have ne:∀ {i:Nat} {cs':Array Value} {T':TypeId} {f':Nat×Nat},W.heap[i]? = some (.cells cs' T' f')→T' ≠ 148→i ≠ b:=fun hi ht e=>by
  subst e
  rw[hi] at hh
  injection hh with e
  injection e with _ e _
  exact ht e
 exact⟨k.heap h.b2 (ne h.b2 (by decide)),k.heap h.be (ne h.be (by decide)),k.heap h.bp (ne h.bp (by decide)),IRow.kept h.ip k (own_neH h.ip hh (by decide)),h.nvo⟩
end
def noDefer (ops:Array Oper):Bool:=ops.all fun o=>match o.op with
 | .defer _=>false
 | _=>true
theorem noDefer_spec {ops:Array Oper} (h:noDefer ops=true):∀o∈ops, ∀c,o.op ≠ .defer c:=fun o ho c e=>by
 have:=(Array.all_eq_true_iff_forall_mem.1 h) o ho
 rw[e] at this
 cases this
theorem wpIn_round_zK {P:Program} {ops:Array Oper} {K:Act→World→Prop} {Q:Exit→Act→World→Prop} (z:Nat) (C:World→Prop) {l n id:Nat} {a:Act} {w:World} (hm:P.follows .mixedOrders=true) (hd:noDefer ops=true)
  (h:wpAnyZ P .any ops (Exit.then K (fun _ _ _=>False)) C z ops.size (Array.replicate ops.size false) a w.drew):(Code.region id ops true).wpIn (Fence.wide.inRound l) n P (Exit.then K Q) a w :=
 wpIn_mono (wpIn_round_z z C hm (noDefer_spec hd) (fun⟨_,_,e⟩=>e) h) fun e _ _ hq=>by cases e<;>first|exact hq|exact hq.elim
end Go.Proofs.YtfgjehecjgebdaaGreat
/- The tree: Put along a way. -/
namespace Go.Proofs.YtfgjehecjgebdaaGreat
open Go.RowKit Go.Maps Go.ChangeMaps
attribute [local go_sem] Oper.semAt_some
set_option maxRecDepth 100000 in
set_option maxHeartbeats 4000000 in
theorem TreePut_way {w q X} {root:Nat} (h:TW w q X root) (k v:Bs) (hk:k.length≤24) (hv:v.length≤32) (hd:(downT X k 12 root).2=0) :
  Calls Tryz.prog 36 #[.pointer (some ⟨q.t,0,none⟩),.string (ba k),.string (ba v)] w (DoneTo (putT X root k v) w q):=by
 have hwo:=downT_ok 12 root hd
 obtain⟨r,er⟩:∃r,r=putT X root k v:=⟨_,rfl⟩
 have HP:Hid (r=if (upP (wk0 X) k v (downT X k 12 root).1.reverse).2.1 ≠ 0 then doneP (upP (wk0 X) k v (downT X k 12 root).1.reverse).2.2 0 (upP (wk0 X) k v (downT X k 12 root).1.reverse).2.1 root
   else doneP (topP (upP (wk0 X) k v (downT X k 12 root).1.reverse).2.2 (upP (wk0 X) k v (downT X k 12 root).1.reverse).1).2 (topP (upP (wk0 X) k v (downT X k 12 root).1.reverse).2.2 (upP (wk0 X) k v (downT X k 12 root).1.reverse).1).1.1 (topP (upP (wk0 X) k v (downT X k 12 root).1.reverse).2.2 (upP (wk0 X) k v (downT X k 12 root).1.reverse).1).1.2 root):=by
  show _=_;rw[er];unfold putT;rw[if_neg (by omega),if_neg (by omega),Int.toNat_natCast,if_neg (by simp[hd])]
 rw[←er]
 have CD:=Lib.hid fun w' (kk:Kept (fun _=>False) w w')=>TreeDown_calls (h.keptF kk) k
 obtain⟨R,eR⟩:∃R,R=downT X k 12 root:=⟨_,rfl⟩
 rw[←eR] at CD HP hd hwo
 obtain⟨L,ee⟩:=R
 unfold DownTo at CD
 dsimp only at CD HP hd hwo
 subst hd
 have H:=Lib.hid h;have HWO:=Lib.hid hwo;have HKL:=Lib.hid hk;have HVL:=Lib.hid hv
 have hks:(ba k).size=k.length:=by simp[ba,ByteArray.size]
 have hvs:(ba v).size=v.length:=by simp[ba,ByteArray.size]
 have htl:=lt_heap h.tree
 have htl1:q.t < w.heap.size + 1:=by omega
 have htl2:q.t < w.heap.size + 1 + 1:=by omega
 have htl3:q.t < w.heap.size + 1 + 1 + 1:=by omega
 have htl4:q.t < w.heap.size + 1 + 1 + 1 + 1:=by omega
 have hr1:w.cell? ⟨q.t,1,none⟩=some (.int .i64 root):=(cell_heap h.tree 1).trans rfl
 obtain⟨ks,eks⟩:∃s,s=ba k:=⟨_,rfl⟩
 obtain⟨vs,evs⟩:∃s,s=ba v:=⟨_,rfl⟩
 have HKS:=Lib.hid eks;have HVS:=Lib.hid evs
 rw[←eks] at CD
 rw[←eks] at hks⊢
 rw[←evs] at hvs⊢
 have g1:decide ((24:Int) < (ks.size:Int))=false:=by simp;omega
 have g2:decide ((32:Int) < (vs.size:Int))=false:=by simp;omega
 have g3:decide ((root:Int) < 0)=false:=by simp
 have hro:Fence.wide.round=none:=rfl
 clear h eks evs hks hvs hk hv er hwo
 refine(callsIn_wide (n:=6)).1 ?_
 refine callsIn_of_wp_marks Tryz.func36 rfl trivial ?_ hro
 simp only[Tryz.ntmps36,List.size_toArray,List.length_cons,List.length_nil,Nat.reduceAdd,Nat.reduceSub,Array.replicate_succ,Array.replicate_zero,List.push_toArray,List.append_toArray,List.nil_append,List.cons_append]
 gi_wp2_with fail
 refine⟨trivial,?_⟩
 refine CallsIn.mono (callsIn_wide.2 (CD.out _ (by repeat (first|exact Kept.refl _ _|refine Kept.alloc ?_ _)))) ?_
 rintro e w1 ⟨k1,vw,rfl,hw⟩
 have hlen:0 < L.length:=List.length_pos_iff.2 HWO.out.ne
 obtain⟨g,cw, -, -, -, -,rfl,hgl, -⟩:=hw.at (i:=0) hlen
 obtain⟨N,hN⟩:∃N,N=w.heap.size:=⟨_,rfl⟩
 have B0:Hid (w1.heap[N]? = some (Obj.cells #[Value.string ks] 9 (0,0))):=by show _=_;rw[hN];exact k1.heap (heap_old (heap_old (heap_old (heap_old (heap_new w _) _) _) _) _) not_false
 have B1:Hid (w1.heap[N + 1]? = some (Obj.cells #[Value.string vs] 9 (0,0))):=by show _=_;rw[hN];exact k1.heap (heap_old (heap_old (heap_old (heap_newAt (by simp) _) _) _) _) not_false
 have B2:Hid (w1.heap[N + 1 + 1]? = some (Obj.cells #[Value.int IntKind.i64 0] 36 (0,0))):=by show _=_;rw[hN];exact k1.heap (heap_old (heap_old (heap_newAt (by simp) _) _) _) not_false
 have B3:Hid (w1.heap[N + 1 + 1 + 1]? = some (Obj.cells #[.pointer (some ⟨q.t,0,none⟩),.slice none 0 0,.slice none 0 0] 162 (0,0))):=by show _=_;rw[hN];exact k1.heap (heap_old (heap_newAt (by simp) _) _) not_false
 have B4:Hid (w1.heap[N + 1 + 1 + 1 + 1]? = some (Obj.cells #[.pointer (some ⟨N + 1 + 1 + 1,0,none⟩)] 160 (0,0))):=by show _=_;rw[hN];exact k1.heap (heap_newAt (by simp) _) not_false
 have K1:Hid (Kept (fun _=>False) w w1):=((((((Kept.refl _ w).alloc _).alloc _).alloc _).alloc _).alloc _).trans k1
 simp only[World.size_alloc] at hw
 have HWay:Hid (IsWay w1 (N + 1 + 1 + 1 + 1 + 1) w1.heap.size (.slice (some ⟨g,0,none⟩) L.length cw) L):=by show IsWay _ _ _ _ _;rw[hN];exact hw
 obtain⟨ln,hln⟩:∃n,n=L.length:=⟨_,rfl⟩
 have HLN:=Lib.hid hln
 obtain⟨V,hV⟩:∃V,V=upP (wk0 X) k v L.reverse:=⟨_,rfl⟩
 have HV:=Lib.hid hV
 rw[←hV] at HP
 rw[←hln] at hlen HWay
 rw[←hln]
 have HN:=Lib.hid hN
 have HGL:=Lib.hid hgl
 rw[←hN]
 obtain⟨M,hM⟩:∃M,M=w1.heap.size:=⟨_,rfl⟩
 have HM:=Lib.hid hM
 rw[←hM] at HWay
 clear hN k1 hw htl htl1 htl2 htl3 htl4 hr1 CD hln hV
 have hee:((0:Int) != 0)=false:=rfl
 gi_wp2_with fail
 refine⟨trivial,?_⟩
 refine(stepsBack_in Fence.wide _ trivial hro _ _ _ _).mono ?_
 rintro e w' ⟨rfl,rfl⟩
 rw[←hM]
 clear hM
 gi_wp2_with fail
 rw[←HM.out]
 obtain⟨w3,hw3⟩:∃w3,w3=((((w1.alloc (Obj.cells #[Value.slice (some ⟨g,0,none⟩) ln cw] 153)).alloc (Obj.cells #[Value.int .i64 0] 36)).alloc (Obj.cells #[Value.slice none 0 0,Value.string ⟨#[]⟩] 169)).alloc (Obj.cells #[Value.slice (some ⟨g,0,none⟩) ln cw] 153)):=⟨_,rfl⟩
 rw[←hw3]
 have K3:Hid (Kept (fun _=>False) w1 w3):=by rw[hw3];exact((((Kept.refl _ w1).alloc _).alloc _).alloc _).alloc _
 have hs3:w3.heap.size=M + 1 + 1 + 1 + 1:=by rw[hw3];simp only[World.size_alloc];rw[←HM.out]
 have P0:Hid (PutB w w1 q root ln N M g cw ks vs (wk0 X) (.slice none 0 0) (.slice none 0 0) w3):=by
  refine⟨(K1.out.trans K3.out).mono fun _ _=>False.elim,K3.out.mono fun _ _=>False.elim,WkW.new (H.out.keptF (K1.out.trans K3.out)) (K3.out.heap B3.out id) M,K3.out.heap B0.out id,K3.out.heap B1.out id,K3.out.heap B4.out id,?_,?_⟩
  ·rw[hw3,HM.out];exact heap_old (heap_old (heap_old (heap_new w1 _) _) _) _
  ·rw[hw3,HM.out];exact heap_newAt (by simp) _
 have PX:Hid (PutX N M ([], []) 0 (.slice none 0 0) (.slice none 0 0) w3):=by
  refine⟨K3.out.heap B2.out id,?_,?_,IRow.nil _ _,fun _ e=>by cases e⟩
  ·rw[hw3,HM.out];exact heap_old (heap_old (heap_newAt (by simp) _) _) _
  ·rw[hw3,HM.out];exact heap_old (heap_newAt (by simp) _) _
 have HS3:=Lib.hid hs3
 obtain⟨T,HT⟩:∃T:Nat→StpT,Hid (∀j (hj:j < L.length),(T j).id=L[j].id∧(T j).at_=L[j].at_∧IsNd w1 (N + 1 + 1 + 1 + 1 + 1) (.agg #[.bool (T j).l,.slice (T j).P1 (T j).n1 (T j).c1,.slice (T j).P2 (T j).n2 (T j).c2,.slice (T j).P3 (T j).n3 (T j).c3]) L[j].n∧rowsLt (.agg #[.bool (T j).l,.slice (T j).P1 (T j).n1 (T j).c1,.slice (T j).P2 (T j).n2 (T j).c2,.slice (T j).P3 (T j).n3 (T j).c3]) M ∧ ∀i,i < 6→w1.cell? ⟨g,j * 6 + i,none⟩=some ((T j).cell i)):=by
  have hw:=HWay.out
  rw[HLN.out] at hw
  exact⟨_,Classical.choose_spec (stepsTable hw)⟩
 have hgM:g < M:=by rw[HM.out];exact HGL.out
 have hl12:ln≤12:=by rw[HLN.out];exact HWO.out.len
 have hNM:N + 1 + 1 + 1 + 1 + 1≤M:=by have:=(Array.getElem?_eq_some_iff.1 B4.out).1;have:=HM.out;omega
 have hgN:N + 1 + 1 + 1 + 1 + 1≤g:=by
  obtain⟨cs,h1, -, -⟩:=HWay.out
  exact own_ge h1 rfl
 have HSeq:=Lib.hid (stepsBack_run Fence.wide (6 - 1) trivial hro (by omega) (M + 1 + 1 + 1) g ln cw (fun j=>(T j).cell) (by omega) w3 (by omega) (by omega) ((cell_heap P0.out.bs 0).trans rfl) (fun j hj i hi=>(World.cell?_of_block (K3.out.block g (by rw[←HM.out];exact hgM) id)).trans ((HT.out j (by rw[←HLN.out];exact hj)).2.2.2.2 i hi)))
 have HGM:=Lib.hid hgM;have HL12:=Lib.hid hl12;have HNM:=Lib.hid hNM;have HGN:=Lib.hid hgN
 have HLen:=Lib.hid hlen
 clear hw3 hs3 hgM hl12 hNM hgN hlen B0 B1 B2 B3 B4
 refine wpIn_rangeSeq hro (by omega:1≤6) (gf:=132) (lb := #[.pointer (some ⟨M + 1 + 1 + 1,0,none⟩)]) rfl trivial (enters_of Tryz.func132 (by kernel_rfl) rfl) HSeq.out (fun _=>rfl) (fun h k=>h.trans k) (fun W l o' hl=>stillK_b (w:=w3) (by rw[HS3.out];omega) (by have:=HGM.out;rw[HS3.out];omega) W l o' hl)
  (fun i W=>∃p U vf vo sp,PutB w w1 q root ln N M g cw ks vs U vf vo W∧PutX N M p 0 vo sp W∧U.fresh.length≤2 * i∧U.old.length=i∧((i=0∧U=wk0 X∧vo = .slice none 0 0)∨(0 < i∧V=riseP U p (L.take (ln - i)).reverse∧POk p)))
  (fun W=>W.heap[N + 1 + 1]? = some (.cells #[.int .i64 r.1] 36 (0,0))∧TW W q r.2.2 r.2.1∧Kept (fun k=>k=q.c∨k=q.m∨k=q.t) w W)
  ?hI ?hIx ?h0
  (fun x a' W=>∃Bx,W.heap[Bx]? = some (.cells #[.int .i64 ((T x).id:Int),.int .i64 ((T x).at_:Int),.bool (T x).l,.slice (T x).P1 (T x).n1 (T x).c1,.slice (T x).P2 (T x).n2 (T x).c2,.slice (T x).P3 (T x).n3 (T x).c3] 157 (0,0))∧a' = { tmps := #[.pointer (some ⟨q.t,0,none⟩),.string ks,.string vs,undef,.pointer (some ⟨N,0,none⟩),.pointer (some ⟨N + 1,0,none⟩),.pointer (some ⟨N + 1 + 1,0,none⟩),.pointer (some ⟨N + 1 + 1 + 1 + 1,0,none⟩),undef,undef,.pointer (some ⟨M,0,none⟩),.pointer (some ⟨M + 1,0,none⟩),.pointer (some ⟨M + 1 + 1,0,none⟩),.int .i64 (x:Int),.pointer (some ⟨Bx,0,none⟩),undef,undef,.string ks,.int .i64 (ks.size:Int),.bool false,.bool false,.string vs,.int .i64 (vs.size:Int),.bool false,.bool false,.pointer (some ⟨q.t,0,none⟩),.agg #[.pointer (some ⟨q.t,0,none⟩),.slice none 0 0,.slice none 0 0],.pointer (some ⟨N + 1 + 1 + 1,0,none⟩),.pointer (some ⟨q.t,0,none⟩),.pointer (some ⟨q.t,0,none⟩),.pointer (some ⟨q.t,1,none⟩),.int .i64 (root:Int),.bool false,undef,undef,undef,undef,undef,undef,undef,undef,undef,undef,undef,undef,undef,.tuple #[.slice (some ⟨g,0,none⟩) ln cw,.int .i64 0],.pointer (some ⟨q.t,0,none⟩),.string ks,.tuple #[.slice (some ⟨g,0,none⟩) ln cw,.int .i64 0],.slice (some ⟨g,0,none⟩) ln cw,.int .i64 0,.int .i64 0,.bool false,undef,.agg #[.slice none 0 0,.string ⟨#[]⟩],.slice (some ⟨g,0,none⟩) ln cw,.func (.func 132) #[] #[.pointer (some ⟨M + 1 + 1 + 1,0,none⟩)],.int .i64 (x:Int),.agg #[.int .i64 ((T x).id:Int),.int .i64 ((T x).at_:Int),.bool (T x).l,.slice (T x).P1 (T x).n1 (T x).c1,.slice (T x).P2 (T x).n2 (T x).c2,.slice (T x).P3 (T x).n3 (T x).c3],undef,undef,undef,undef,undef,undef,undef,undef,undef,undef,undef,undef,undef,undef,undef,undef,undef,undef,undef,undef,undef,undef,undef,undef,undef,undef,undef,undef,undef,undef,undef,undef,undef,undef,undef,undef,undef,undef,undef,undef,undef,undef,undef,undef,undef,undef,undef,undef,undef,undef,undef],defers := [] })
  ?hAx ?assign ?body ?done ?stop
 case hI =>
  rintro i W l o o' ⟨p,U,vf,vo,sp,hB,hX,h1,h2,h3⟩ hl ho hc
  have hn:NoCells W (· = l):=fun k hk=>by subst hk;exact⟨o,ho,hc⟩
  refine⟨p,U,vf,vo,sp,hB.off (Kept.put l o') hn (fun k hk=>?_) ?_,hX.off (Kept.put l o') hn,h1,h2,h3⟩
  ·subst hk
   have:=HS3.out;have:=HN.out;have:=HNM.out
   omega
  ·intro e
   have:=H.out.small
   have:=HS3.out;have:=HN.out;have:=HNM.out
   omega
 case hIx =>
  rintro W l o o' ⟨h1,h2,h3⟩ hl ho hc
  have hn:NoCells W (· = l):=fun k hk=>by subst hk;exact⟨o,ho,hc⟩
  have:=H.out.small
  have:=HS3.out;have:=HN.out;have:=HNM.out
  exact⟨(Kept.put l o').heap h1 (hn.not h1),h2.off (Kept.put l o') hn (by omega),h3.then (Kept.put l o') fun i hi e=>by omega⟩
 case h0 =>
  intro o o'
  exact⟨_,_,_,_,_,P0.out.keptF (((Kept.refl _ w3).alloc o).alloc o'),PX.out.keptF (((Kept.refl _ w3).alloc o).alloc o'),by simp[wk0],by simp[wk0],.inl ⟨rfl,rfl,rfl⟩⟩
 case hAx =>
  rintro x a' W l o o' ⟨Bx,h1,h2⟩ hl ho hc
  have hn:NoCells W (· = l):=fun k hk=>by subst hk;exact⟨o,ho,hc⟩
  exact⟨Bx,(Kept.put l o').heap h1 (hn.not h1),h2⟩
 case assign =>
  rintro l i x W K ⟨p,U,vf,vo,sp,hB,hXX,h1,h2,h3⟩ hl hK
  have HB:=Lib.hid hB;have HXX:=Lib.hid hXX;have H1:=Lib.hid h1;have H2:=Lib.hid h2;have H3:=Lib.hid h3;have HK:=Lib.hid hK
  clear hB hXX h1 h2 h3 hK
  simp only[stpV,StpT.cell]
  gi_wp2
  have k1:Kept (fun _=>False) W (W.alloc (Obj.cells #[.int .i64 ((T x).id:Int),.int .i64 ((T x).at_:Int),.bool (T x).l,.slice (T x).P1 (T x).n1 (T x).c1,.slice (T x).P2 (T x).n2 (T x).c2,.slice (T x).P3 (T x).n3 (T x).c3] 157)):=(Kept.refl _ W).alloc _
  refine HK.out _ _ (keepsFrom_of k1 fun _=>False.elim) ?_ ⟨p,U,vf,vo,sp,HB.out.keptF k1,HXX.out.keptF k1,H1.out,H2.out,H3.out⟩ ⟨W.heap.size,heap_new W _,rfl⟩
  exact Still.of_kept k1 (lt_heap HB.out.bs) (by have:=lt_heap HB.out.bs;have:=HGM.out;omega) id id
 case body =>
  rintro l i x a' W hx ⟨p,⟨UX,UF,UO⟩,vf,vo,sp,hB,hXX,hfr,hol,hi⟩ ⟨Bx,hbx,rfl⟩
  obtain⟨hin,hxe⟩:=backI_get hx
  have hxl:x < L.length:=by have:=HLN.out;omega
  obtain⟨s,hs⟩:∃s,s=L[x]:=⟨_,rfl⟩
  obtain⟨a0,a1,an,alt, -⟩:=HT.out x hxl
  have hok:=HWO.out.ok L[x] (List.getElem_mem _)
  have hx7:=an.keptZ alt hB.kz fun b hb=>hb
  have hz8:(L.take (ln - i)).reverse=s :: (L.take x).reverse:=by rw[hs,show ln - i=x + 1 by omega];exact take_rev L x hxl
  have hlast:i=0→s.n.leaf=true:=fun h=>HWO.out.last s (by rw[List.getLast?_eq_getElem?,hs,show L.length - 1=x from by have:=HLN.out;omega,List.getElem?_eq_getElem hxl])
  have hinner:0 < i→s.n.leaf=false:=fun h=>HWO.out.inner s (by
   rw[hs,List.mem_iff_getElem]
   exact⟨x,by rw[List.length_dropLast];have:=HLN.out;omega,by rw[List.getElem_dropLast]⟩)
  rw[←hs] at a0 a1 an hok hx7
  generalize (T x)=tx at a0 a1 an alt hx7 hbx⊢
  obtain⟨tid,tat,tl,P1,n1,c1,P2,n2,c2,P3,n3,c3⟩:=tx
  dsimp only at a0 a1 an alt hx7 hbx⊢
  subst a0 a1
  obtain⟨Ap,cp,rfl⟩:=own_slice hXX.ip
  obtain⟨lp,hlp⟩:∃n,n=p.1.length:=⟨_,rfl⟩
  obtain⟨pk,hpk⟩:∃s,s=ba p.2:=⟨_,rfl⟩
  have hbp:=hXX.bp
  rw[←hlp] at hbp hXX
  rw[←hpk] at hbp
  have HLP:=Lib.hid hlp;have HPK:=Lib.hid hpk
  have z0:W.cell? ⟨M + 1 + 1,0,none⟩=some (.slice Ap lp cp):=(cell_heap hbp 0).trans rfl
  have z1:W.cell? ⟨M + 1 + 1,1,none⟩=some (.string pk):=(cell_heap hbp 1).trans rfl
  have l4:=lt_heap hbp
  have HB:=Lib.hid hB;have HXX:=Lib.hid hXX;have HFr:=Lib.hid hfr;have HOl:=Lib.hid hol;have HOK:=Lib.hid hok;have HNd:=Lib.hid hx7;have HI:=Lib.hid hi
  have HBx:=Lib.hid hbx;have HZ8:=Lib.hid hz8;have HLa:=Lib.hid hlast;have HIn:=Lib.hid hinner;have HX:=Lib.hid hx;have HXE:=Lib.hid hxe;have HXL:=Lib.hid hxl;have HIN:=Lib.hid hin
  obtain⟨y2,hy2⟩:∃y,y=s.id:=⟨_,rfl⟩
  have x0:W.cell? ⟨Bx,0,none⟩=some (.int .i64 s.id):=(cell_heap hbx 0).trans rfl
  have x1:W.cell? ⟨Bx,1,none⟩=some (.int .i64 s.at_):=(cell_heap hbx 1).trans rfl
  have x2:W.cell? ⟨Bx,2,none⟩=some (.bool tl):=(cell_heap hbx 2).trans rfl
  have x3:W.cell? ⟨Bx,3,none⟩=some (.slice P1 n1 c1):=(cell_heap hbx 3).trans rfl
  have x4:W.cell? ⟨Bx,4,none⟩=some (.slice P2 n2 c2):=(cell_heap hbx 4).trans rfl
  have x5:W.cell? ⟨Bx,5,none⟩=some (.slice P3 n3 c3):=(cell_heap hbx 5).trans rfl
  have y0:W.cell? ⟨M,0,none⟩=some (.slice (some ⟨g,0,none⟩) ln cw):=(cell_heap hB.bw 0).trans rfl
  have y1:W.cell? ⟨N,0,none⟩=some (.string ks):=(cell_heap hB.b0 0).trans rfl
  have y3:W.cell? ⟨N + 1,0,none⟩=some (.string vs):=(cell_heap hB.b1 0).trans rfl
  have l0:=lt_heap hbx
  have l1:=lt_heap hB.bw
  have l2:=lt_heap hB.b0
  have l3:=lt_heap hB.b1
  have hatb:s.at_≤20:=by have:=find_le s.n k hok.1.up;have:=hok.2;have:=hok.1.len;omega
  have hln1:ln≤12:=HL12.out
  have hln0:0 < ln:=HLen.out
  have hro1:(Fence.wide.inRound l).round=some l:=rfl
  clear hB hXX hfr hol hok hx7 hbx hz8 hlast hinner hx an alt hi hy2 hs hlp hpk hbp hxe hin hxl
  by_cases hi0:i=0
  ·have g7:((x:Int) == (ln:Int) - 1)=true:=by rw[beq_iff_eq];have:=HXE.out;have:=HLen.out;omega
   have CS:=Lib.hid fun w' (kk:Kept (fun _=>False) W w')=>NdSet_calls (HNd.out.kept kk) (by have:=HB.out.kz.size;have:=kk.size;have:=HM.out;have:=HNM.out;omega) HOK.out.1.sm HOK.out.1.up (HLa.out hi0) (HOK.out.1.leaf (HLa.out hi0)).1 k v
   rw[←HKS.out, ←HVS.out] at CS
   obtain⟨nn,hnn⟩:∃n,n=s.n.set k v:=⟨_,rfl⟩
   have FN:Hid nn.Fit:=by show nn.Fit;rw[hnn];exact(HOK.out.1.fit.set (HLa.out hi0) HKL.out HVL.out (by have:=HOK.out.1.len;unfold Nd.len;split<;>omega)).1
   have HVN:Hid (V=if (layP (Wk.add ⟨UX,UF,UO⟩ s.id) nn).2.1 ≠ 0 then layP (Wk.add ⟨UX,UF,UO⟩ s.id) nn else riseP (layP (Wk.add ⟨UX,UF,UO⟩ s.id) nn).2.2 (layP (Wk.add ⟨UX,UF,UO⟩ s.id) nn).1 (L.take x).reverse):=by
    show _=_
    have hu:(⟨UX,UF,UO⟩:Wk)=wk0 X:=by
     rcases HI.out with h|h
     ·exact h.2.1
     ·omega
    have hz:=HZ8.out
    rw[hi0,Nat.sub_zero,HLN.out,List.take_length] at hz
    rw[HV.out,hz,hnn,hu]
    rfl
   rw[←hnn] at CS
   clear hnn
   have HI0:=Lib.hid hi0
   clear hi0
   gi_wp2_with fail
   refine⟨trivial,?_⟩
   refine CallsIn.mono (CallsIn.inRound l (callsIn_wide.2 (CS.out _ ((Kept.refl _ W).alloc _)))) ?_
   rintro e w2 ⟨vn,rfl,hn,k2⟩
   have HBN:Hid (∀b,(b=N + 1 + 1 + 1∨vo.ownBlock=some b)→b < N + 1 + 1 + 1 + 1 + 1):=fun b hb=>by
    rcases hb with e|e
    ·omega
    ·rcases HI.out with h|h
     ·rw[h.2.2] at e;cases e
     ·have:=HI0.out;omega
   have HBS:Hid (N + 1 + 1 + 1 + 1 + 1≤w2.heap.size):=by
    have h2:=k2.size;have:=HB.out.kz.size;have:=HM.out;have:=HNM.out
    rw[World.size_alloc] at h2
    show _≤_
    omega
   generalize N + 1 + 1 + 1 + 1 + 1=Bn at hn HBN HBS
   obtain⟨lb,X1,m1,e1,X2,m2,e2,X3,m3,e3,rfl⟩:=hn.agg
   have HN2:=Lib.hid hn
   have K2:=Lib.hid (((Kept.refl (fun _=>False) W).alloc (Obj.cells #[Value.bool tl,Value.slice P1 n1 c1,Value.slice P2 n2 c2,Value.slice P3 n3 c3] 148)).trans k2)
   have hb2:=k2.heap (heap_new W _) not_false
   obtain⟨E,hE⟩:∃E,E=W.heap.size:=⟨_,rfl⟩
   have HE:=Lib.hid hE
   rw[←hE] at hb2⊢
   have HB2:=Lib.hid hb2
   obtain⟨d0,d1,d2,d3⟩:=nd_cells hb2
   have fz2:∀i,w2.frozen? ⟨E,i,none⟩=false:=fun i=>free_heap hb2 i
   clear hn k2 CS x0 x1 x2 x3 x4 x5 y0 y1 y3 z0 z1 l0 l1 l2 l3 l4 g7 hb2 hE hatb hln1 hln0
   gi_wp2_with fail
   obtain⟨w4,hw4⟩:∃w4,w4=((((w2.setCell ⟨E,0,none⟩ (Value.bool lb)).setCell ⟨E,1,none⟩ (Value.slice X1 m1 e1)).setCell ⟨E,2,none⟩ (Value.slice X2 m2 e2)).setCell ⟨E,3,none⟩ (Value.slice X3 m3 e3)):=⟨_,rfl⟩
   rw[←hw4]
   have K4:Hid (Kept (· = E) w2 w4):=by rw[hw4];exact set4_kept w2 E _ _ _ _
   have hb4:w4.heap[E]? = some (.cells #[.bool lb,.slice X1 m1 e1,.slice X2 m2 e2,.slice X3 m3 e3] 148 (0,0)):=by rw[hw4];exact set4_heap HB2.out (by simp) _ _ _ _
   have HEM:Hid (N≤E∧(E < N + 1 + 1 + 1 + 1 + 1∨M≤E)):=by have:=HE.out;have:=HB.out.kz.size;have:=HM.out;have:=HNM.out;exact⟨by omega,.inr (by omega)⟩
   have PB4:=Lib.hid ((HB.out.keptF K2.out).box HN.out HEM.out K4.out HB2.out (.inl rfl))
   have PX4:=Lib.hid ((HXX.out.keptF K2.out).node K4.out HB2.out)
   have bx4:=K4.out.heap (K2.out.heap HBx.out not_false) (by intro e;subst e;have h:=K2.out.heap HBx.out not_false;rw[HB2.out] at h;injection h with h;injection h with _ h _;exact absurd h (by decide))
   have HB4:=Lib.hid hb4;have HX4:=Lib.hid bx4
   have HN4:=Lib.hid (HN2.out.keptB HB2.out K4.out fun _ e=>e)
   obtain⟨Ao,co,evo⟩:=own_slice PB4.out.wk.ro
   subst evo
   obtain⟨lo,hlo⟩:∃n,n=UO.length:=⟨_,rfl⟩
   have HLO:=Lib.hid hlo
   have cb4:w4.cell? ⟨N + 1 + 1 + 1 + 1,0,none⟩=some (.pointer (some ⟨N + 1 + 1 + 1,0,none⟩)):=(cell_heap PB4.out.b4 0).trans rfl
   have cwk:w4.cell? ⟨N + 1 + 1 + 1,2,none⟩=some (.slice Ao lo co):=by rw[hlo];exact(cell_heap PB4.out.wk.blk 2).trans rfl
   have cbx:w4.cell? ⟨Bx,0,none⟩=some (.int .i64 s.id):=(cell_heap bx4 0).trans rfl
   have CC:Hid (∀w',Kept (fun k=>k=N + 1 + 1 + 1∨(Value.slice Ao lo co).ownBlock=some k) w4 w'→w'.cell? ⟨N + 1 + 1 + 1 + 1,0,none⟩=some (.pointer (some ⟨N + 1 + 1 + 1,0,none⟩))∧w'.cell? ⟨Bx,0,none⟩=some (.int .i64 s.id)):=fun w' kk=>by
    have ho:=PB4.out.wk.ro
    have hne:∀ {i:Nat} {cs:Array Value} {T:TypeId} {f:Nat×Nat},w4.heap[i]? = some (.cells cs T f)→T ≠ 3→T ≠ 162 → ¬(i=N + 1 + 1 + 1∨(Value.slice Ao lo co).ownBlock=some i):=fun hi h1 h2=>by
     rintro(e|e)
     ·subst e
      have h:=PB4.out.wk.blk
      rw[hi] at h
      injection h with h
      injection h with _ h _
      exact h2 h
     ·exact own_neH ho hi h1 _ (by rw[own_anylen _ _ lo];exact e) rfl
    exact⟨(cell_heap (kk.heap PB4.out.b4 (hne PB4.out.b4 (by decide) (by decide))) 0).trans rfl,(cell_heap (kk.heap HX4.out (hne HX4.out (by decide) (by decide))) 0).trans rfl⟩
   clear hw4 hb4 bx4 d0 d1 d2 d3 fz2 hlo
   refine wpIn_round_zK 11 (fun w'=>w'.cell? ⟨N + 1 + 1 + 1 + 1,0,none⟩=some (.pointer (some ⟨N + 1 + 1 + 1,0,none⟩))∧w'.cell? ⟨N + 1 + 1 + 1,2,none⟩=some (.slice Ao lo co)∧w'.cell? ⟨Bx,0,none⟩=some (.int .i64 s.id)) (by kernel_rfl) (by kernel_rfl) ?_
   have hC:(fun w':World=>w'.cell? ⟨N + 1 + 1 + 1 + 1,0,none⟩=some (.pointer (some ⟨N + 1 + 1 + 1,0,none⟩))∧w'.cell? ⟨N + 1 + 1 + 1,2,none⟩=some (.slice Ao lo co)∧w'.cell? ⟨Bx,0,none⟩=some (.int .i64 s.id)) w4.drew:=⟨cb4,cwk,cbx⟩
   clear cb4 cwk cbx
   refine tz 0 (h:=?_)
   (try simp only[lits])
   refine tz 1 (h:=?_)
   (try simp only[lits])
   refine tz 2 (h:=?_)
   (try simp only[lits])
   refine tz 3 (h:=?_)
   (try simp only[lits])
   refine tz 4 (h:=?_)
   (try simp only[lits])
   refine tz 5 (h:=?_)
   (try simp only[lits])
   refine tz 6 (h:=?_)
   (try simp only[lits])
   refine wpAnyZ_one (i:=7) (by kernel_rfl) rfl (fun K hK=>?_)
   go_simp
   have k5:Kept (fun _=>False) w4 ((w4.alloc (.cells #[.int .i64 (s.id:Nat)] 3)).drew):=((Kept.refl _ w4).alloc _).drew
   have PB5:=Lib.hid (PB4.out.keptF k5)
   have OW:Hid (((w4.alloc (.cells #[.int .i64 (s.id:Nat)] 3)).drew).ownsRow 0 3 1 (.slice Ao lo co) lo (UO.map I)):=by
    have h:=PB5.out.wk.ro
    unfold IRow at h
    dsimp only at h
    rw[←HLO.out] at h
    exact own_base h fun _ _=>Nat.zero_le _
   have CW5:Hid (((w4.alloc (.cells #[.int .i64 (s.id:Nat)] 3)).drew).cell? ⟨N + 1 + 1 + 1,2,none⟩=some (.slice Ao lo co)):=by show _=_;rw[HLO.out];exact(cell_heap PB5.out.wk.blk 2).trans rfl
   have HLB:Hid (lo≤12):=by have:=HOl.out;have:=HLO.out;have:=HIN.out;have:=HL12.out;simp only at *;show _≤_;omega
   have K5:=Lib.hid k5
   refine hK.out _ _ (fun _=>⟨(CC.out _ (k5.mono fun _ _=>False.elim)).1,CW5.out,(CC.out _ (k5.mono fun _ _=>False.elim)).2⟩) ?_
   clear hK hC k5
   (try simp only[lits])
   refine wpAnyZ_one (i:=8) (by kernel_rfl) rfl (fun K hK=>?_)
   refine step_one (v:=.slice Ao lo co) rfl (.tmp 83) (.tmp 86) rfl Tryz.underlying28 info_int rfl rfl OW.out _ rfl (reads_one w4.drew (.int .i64 (s.id:Nat)) 3) (ints_one [s.id]) (by have:=HLB.out;unfold maxLen;omega) (by have:=HLB.out;omega) ?_
   intro v' z1 hv1 hg1 hob1
   have WK4:WkW w4 q (N + 1 + 1 + 1) vf (.slice Ao lo co) ⟨UX,UF,UO⟩ root M:=by rw[HLO.out];exact PB4.out.wk
   obtain⟨A6,c6,rfl,hb6,hw6,hk6,ho6⟩:=wk_appO (x:=s.id) WK4 K5.out (by have:=lt_heap PB4.out.bs;omega) HLO.out hv1 hg1 hob1
   have HW6:=Lib.hid hw6;have HK6:=Lib.hid hk6;have HO6:=Lib.hid ho6
   have HB6:=Lib.hid hb6
   have cwk6:z1.cell? ⟨N + 1 + 1 + 1,2,none⟩=some (.slice Ao lo co):=(cell_heap hb6 2).trans rfl
   have fz6:z1.frozen? ⟨N + 1 + 1 + 1,2,none⟩=false:=free_heap hb6 2
   have kz1:Kept (fun k=>k=N + 1 + 1 + 1∨(Value.slice Ao lo co).ownBlock=some k) w4 z1:=(K5.out.mono fun _ _=>False.elim).trans ⟨hg1.os,hg1.tape,hg1.output,hg1.size,fun k hk' hne=>hg1.block k hk' fun e=>hne (.inr e.symm)⟩
   have cc1:=CC.out z1 kz1
   refine hK.out _ _ (fun _=>⟨cc1.1,cwk6,cc1.2⟩) ?_
   clear hK WK4 hw6 hk6 ho6 hb6 kz1 hv1 hg1 hob1
   (try simp only[lits])
   refine wpAnyZ_one (i:=9) (by kernel_rfl) rfl (fun K hK=>?_)
   go_simp
   refine hK.out _ _ (fun _=>⟨cc1.1,cwk6,cc1.2⟩) ?_
   clear hK
   (try simp only[lits])
   refine wpAnyZ_one (i:=10) (by kernel_rfl) rfl (fun K hK=>?_)
   go_simp
   refine hK.out _ _ (fun _=>⟨cc1.1,cwk6,cc1.2⟩) ?_
   clear hK
   (try simp only[lits])
   refine wpAnyZ_one (i:=11) (by kernel_rfl) rfl (fun K hK=>?_)
   go_simp
   refine hK.out _ _ (fun h=>by cases h) ?_
   clear hK
   (try simp only[lits])
   refine wpAnyZ_done (by kernel_rfl) ?_ _
   clear cc1 cwk6 fz6
   obtain⟨w6,hw6⟩:∃w6,w6=z1.setCell ⟨N + 1 + 1 + 1,2,none⟩ (.slice A6 (lo + 1) c6):=⟨_,rfl⟩
   rw[←hw6] at HW6 HK6⊢
   clear hw6 HB6
   have HCN:Hid (q.c < N∧q.m < N):=by have:=H.out.small;have:=HN.out;exact⟨by omega,by omega⟩
   have tS:∀i,(i=N + 1 + 1 + 1∨(Value.slice Ao lo co).ownBlock=some i)→turnS q N vf (.slice Ao UO.length co) i:=fun i hi=>by
    rcases hi with e|e
    ·exact .inr (.inr (.inl e))
    ·exact .inr (.inr (.inr (.inr ((own_anylen _ _ _ _).trans e))))
   have PB6:=Lib.hid (PB4.out.turn HCN.out HN.out HNM.out HK6.out tS HW6.out)
   have hb6:=HK6.out.heap HB4.out fun e=>PB4.out.not HCN.out HEM.out.1 HB4.out (by decide) (by decide) (tS _ e)
   have HN6:Hid (IsNd w6 Bn (.agg #[.bool lb,.slice X1 m1 e1,.slice X2 m2 e2,.slice X3 m3 e3]) nn):=HN4.out.keptS HK6.out fun k hk=>by
    refine HBN.out k ?_
    rcases hk with e|e
    ·exact .inl e
    ·exact .inr ((own_anylen _ _ _ _).trans e)
   have HXE2:Hid (w6.heap[N + 1 + 1]? = some (.cells #[.int .i64 0] 36 (0,0))):=HK6.out.heap PX4.out.b2 fun e=>PB4.out.not HCN.out (by omega) PX4.out.b2 (by decide) (by decide) (tS _ e)
   have HXEE:Hid (w6.heap[M + 1]? = some (.cells #[.int .i64 0] 36 (0,0))):=HK6.out.heap PX4.out.be fun e=>PB4.out.not HCN.out (by have:=HNM.out;omega) PX4.out.be (by decide) (by decide) (tS _ e)
   have HXP:Hid (w6.heap[M + 1 + 1]? = some (.cells #[.slice Ap lp cp,.string pk] 169 (0,0))):=by rw[HPK.out];exact HK6.out.heap PX4.out.bp fun e=>PB4.out.not HCN.out (by have:=HNM.out;omega) PX4.out.bp (by decide) (by decide) (tS _ e)
   have CL:=Lib.hid (TWlay_calls HW6.out HN6.out (Nat.le_trans HBS.out (Nat.le_trans K4.size HK6.out.size)) FN.out (by have:=lt_heap PB6.out.bs;omega) (by have:=HFr.out;have:=HIN.out;have:=HL12.out;simp only at *;omega))
   have LC:=Lib.hid (layP_counts (Wk.add ⟨UX,UF,UO⟩ s.id) nn)
   have LK:Hid ((layP (Wk.add ⟨UX,UF,UO⟩ s.id) nn).2.1=0→POk (layP (Wk.add ⟨UX,UF,UO⟩ s.id) nn).1):=fun h=>layP_ok FN.out HW6.out.tw.sto.sp.len h
   have hadd:(⟨UX,UF,UO ++ [s.id]⟩:Wk)=Wk.add ⟨UX,UF,UO⟩ s.id:=rfl
   rw[hadd] at CL
   obtain⟨⟨⟨ids,key⟩,ee,U7⟩,hY⟩:∃Y,Y=layP (Wk.add ⟨UX,UF,UO⟩ s.id) nn:=⟨_,rfl⟩
   rw[←hY] at CL LC LK HVN
   unfold LayTo at CL
   dsimp only at CL LC LK HVN
   have cb6:w6.cell? ⟨N + 1 + 1 + 1 + 1,0,none⟩=some (.pointer (some ⟨N + 1 + 1 + 1,0,none⟩)):=(cell_heap PB6.out.b4 0).trans rfl
   obtain⟨d0,d1,d2,d3⟩:=nd_cells hb6
   clear hY hadd hb6 tS
   dsimp only[Exit.then]
   gi_wp2_with fail
   refine⟨trivial,?_⟩
   refine CallsIn.mono (CallsIn.inRound l (callsIn_wide.2 CL.out)) ?_
   rintro e w7 ⟨A7,m7,c7,s7,rfl,himp,vf7,hwk7,hk7,hv7⟩
   have tS7:∀i,(i=q.c∨i=q.m∨i=N + 1 + 1 + 1∨vf.ownBlock=some i)→turnS q N vf (.slice A6 (lo + 1) c6) i:=fun i hi=>by
    rcases hi with e|e|e|e
    ·exact .inl e
    ·exact .inr (.inl e)
    ·exact .inr (.inr (.inl e))
    ·exact .inr (.inr (.inr (.inl e)))
   have PB7:=Lib.hid (PB6.out.turn HCN.out HN.out HNM.out hk7 tS7 hwk7)
   have HK7:=Lib.hid hk7;have HIM:=Lib.hid himp
   have HE2:Hid (w7.heap[N + 1 + 1]? = some (.cells #[.int .i64 0] 36 (0,0))):=hk7.heap HXE2.out fun e=>PB6.out.not HCN.out (by omega) HXE2.out (by decide) (by decide) (tS7 _ e)
   have HEE:Hid (w7.heap[M + 1]? = some (.cells #[.int .i64 0] 36 (0,0))):=hk7.heap HXEE.out fun e=>PB6.out.not HCN.out (by have:=HNM.out;omega) HXEE.out (by decide) (by decide) (tS7 _ e)
   have HPP:Hid (w7.heap[M + 1 + 1]? = some (.cells #[.slice Ap lp cp,.string pk] 169 (0,0))):=hk7.heap HXP.out fun e=>PB6.out.not HCN.out (by have:=HNM.out;omega) HXP.out (by decide) (by decide) (tS7 _ e)
   have KT:Hid (Kept (turnS q N vf (.slice Ao UO.length co)) W w7):=by
    refine((((K2.out.mono fun _ _=>False.elim).then K4 fun i hi e=>?_).then HK6.out fun i hi e=>?_).then hk7 fun i hi e=>?_)
    ·have:=HE.out;omega
    ·rcases e with e|e
     ·exact .inr (.inr (.inl e))
     ·exact .inr (.inr (.inr (.inr ((own_anylen _ _ _ _).trans e))))
    ·rcases e with e|e|e|e
     ·exact .inl e
     ·exact .inr (.inl e)
     ·exact .inr (.inr (.inl e))
     ·exact .inr (.inr (.inr (.inl e)))
   obtain⟨p0,p1⟩:=pair_cells HPP.out
   have fp:∀i,w7.frozen? ⟨M + 1 + 1,i,none⟩=false:=fun i=>free_heap HPP.out i
   have ce0:w7.cell? ⟨M + 1,0,none⟩=some (.int .i64 0):=(cell_heap HEE.out 0).trans rfl
   have fe0:w7.frozen? ⟨M + 1,0,none⟩=false:=free_heap HEE.out 0
   have cr0:w7.cell? ⟨N + 1 + 1,0,none⟩=some (.int .i64 0):=(cell_heap HE2.out 0).trans rfl
   have fr0:w7.frozen? ⟨N + 1 + 1,0,none⟩=false:=free_heap HE2.out 0
   have cb7:w7.cell? ⟨N + 1 + 1 + 1 + 1,0,none⟩=some (.pointer (some ⟨N + 1 + 1 + 1,0,none⟩)):=(cell_heap PB7.out.b4 0).trans rfl
   have st1:=Lib.hid (set2_kept w7 (M + 1 + 1) (.slice A7 m7 c7) (.string s7))
   have st2:=Lib.hid ((Kept.refl (· = M + 1) ((w7.setCell ⟨M + 1 + 1,0,none⟩ (.slice A7 m7 c7)).setCell ⟨M + 1 + 1,1,none⟩ (.string s7))).set1 0 (.int .i64 ee))
   have hq0:N ≠ M:=by have:=HNM.out;omega
   have hq1:N + 1 ≠ M:=by have:=HNM.out;omega
   have hq2:N + 1 + 1 ≠ M:=by have:=HNM.out;omega
   have hq3:N + 1 + 1 + 1 ≠ M:=by have:=HNM.out;omega
   have hp0:M ≠ N:=by have:=HNM.out;omega
   have hp1:M ≠ N + 1:=by have:=HNM.out;omega
   have hp2:M ≠ N + 1 + 1:=by have:=HNM.out;omega
   have hp3:M ≠ N + 1 + 1 + 1:=by have:=HNM.out;omega
   have PB8:=Lib.hid (((PB7.out.box HN.out ⟨by have:=HNM.out;omega,.inr (by omega)⟩ st1.out HPP.out (.inr (.inr rfl)))).box HN.out ⟨by have:=HNM.out;omega,.inr (by omega)⟩ st2.out (st1.out.heap HEE.out (by omega)) (.inr (.inl rfl)))
   have HP8:Hid ((((w7.setCell ⟨M + 1 + 1,0,none⟩ (.slice A7 m7 c7)).setCell ⟨M + 1 + 1,1,none⟩ (.string s7)).setCell ⟨M + 1,0,none⟩ (.int .i64 ee)).heap[M + 1 + 1]? = some (.cells #[.slice A7 m7 c7,.string s7] 169 (0,0))):=st2.out.heap (set2_heap HPP.out _ _) (by omega)
   have HE8:Hid ((((w7.setCell ⟨M + 1 + 1,0,none⟩ (.slice A7 m7 c7)).setCell ⟨M + 1 + 1,1,none⟩ (.string s7)).setCell ⟨M + 1,0,none⟩ (.int .i64 ee)).heap[M + 1]? = some (.cells #[.int .i64 ee] 36 (0,0))):=heap_set (st1.out.heap HEE.out (by omega)) 0 _
   have HR8:Hid ((((w7.setCell ⟨M + 1 + 1,0,none⟩ (.slice A7 m7 c7)).setCell ⟨M + 1 + 1,1,none⟩ (.string s7)).setCell ⟨M + 1,0,none⟩ (.int .i64 ee)).heap[N + 1 + 1]? = some (.cells #[.int .i64 0] 36 (0,0))):=st2.out.heap (st1.out.heap HE2.out (by have:=HNM.out;omega)) (by have:=HNM.out;omega)
   have KT8:Hid (Kept (fun i=>turnS q N vf (.slice Ao UO.length co) i∨i=M + 1∨i=M + 1 + 1) W (((w7.setCell ⟨M + 1 + 1,0,none⟩ (.slice A7 m7 c7)).setCell ⟨M + 1 + 1,1,none⟩ (.string s7)).setCell ⟨M + 1,0,none⟩ (.int .i64 ee))) :=
    ((KT.out.mono fun _ _ e=>.inl e).then st1.out fun i hi e=>.inr (.inr e)).then st2.out fun i hi e=>.inr (.inl e)
   have FK:Hid (KeepsFrom w3.heap.size W (((w7.setCell ⟨M + 1 + 1,0,none⟩ (.slice A7 m7 c7)).setCell ⟨M + 1 + 1,1,none⟩ (.string s7)).setCell ⟨M + 1,0,none⟩ (.int .i64 ee))):=by
    refine keepsFrom_of KT8.out fun i hi=>?_
    have h1:=HCN.out;have h2:=HNM.out;have h3:=HS3.out
    rcases hi with(e|e|e|e|e)|e|e
    ·exact .inl (by omega)
    ·exact .inl (by omega)
    ·exact .inl (by omega)
    ·obtain⟨cs,f,h⟩:=own_type HB.out.wk.rf e;exact .inr ⟨cs,_,f,h⟩
    ·obtain⟨cs,f,h⟩:=own_type HB.out.wk.ro e;exact .inr ⟨cs,_,f,h⟩
    ·exact .inl (by omega)
    ·exact .inl (by omega)
   have SK:Hid (Still (M + 1 + 1 + 1) g W (((w7.setCell ⟨M + 1 + 1,0,none⟩ (.slice A7 m7 c7)).setCell ⟨M + 1 + 1,1,none⟩ (.string s7)).setCell ⟨M + 1,0,none⟩ (.int .i64 ee))):=by
    have h1:=HCN.out;have h2:=HNM.out;have h3:=HGN.out;have h4:=HGM.out
    refine Still.of_kept KT8.out (lt_heap HB.out.bs) (by have:=lt_heap HB.out.bs;omega) ?_ ?_
    ·rintro(e|e|e)
     ·exact HB.out.not HCN.out (by omega) HB.out.bs (by decide) (by decide) e
     ·omega
     ·omega
    ·rintro((e|e|e|e|e)|e|e)
     ·omega
     ·omega
     ·omega
     ·have:=own_ge HB.out.wk.rf e;omega
     ·have:=own_ge HB.out.wk.ro e;omega
     ·omega
     ·omega
   clear himp hwk7 hk7 tS7 CL d0 d1 d2 d3 cb6
   by_cases hz:ee=0
   ·subst hz
    obtain⟨him,hs7⟩:=HIM.out rfl
    have HI7:=Lib.hid him;have HS7:=Lib.hid hs7
    clear him hs7
    gi_wp2_with fail
    refine⟨FK.out,SK.out,(ids,key),U7,vf7,_,_,PB8.out,⟨HR8.out,HE8.out,by rw[←HS7.out];exact HP8.out,?_,?_⟩,?_,?_,.inr ⟨by omega,?_,LK.out trivial⟩⟩
    ·have h6:=lt_heap PB6.out.bs
     have ip7:=IRow.base HI7.out (show M≤w6.heap.size by omega)
     exact IRow.kept (IRow.kept ip7 st1.out (own_neH ip7 HPP.out (by decide))) st2.out (own_neH (IRow.kept ip7 st1.out (own_neH ip7 HPP.out (by decide))) (st1.out.heap HEE.out (by omega)) (by decide))
    ·intro b hb e
     have h1:=own_ge HI7.out hb
     have h2:=own_lt PB6.out.wk.ro e
     omega
    ·have h1:=LC.out.1;have h2:=HFr.out
     simp only[Wk.add] at h1 h2
     omega
    ·have h1:=LC.out.2;have h2:=HOl.out
     simp only[Wk.add] at h1 h2
     rw[h1,List.length_append,h2];rfl
    ·have h1:=HVN.out
     rw[if_neg (by simp)] at h1
     rw[h1,show ln - (i + 1)=x from by have:=HXE.out;omega]
   ·have hz1:(ee == 0)=false:=by rw[beq_eq_false_iff_ne];exact hz
    have hz2:(ee != 0)=true:=by rw[bne_iff_ne];exact hz
    have HZ:=Lib.hid hz
    have HR:Hid (r=doneP U7 0 ee root):=by
     show _=_
     have h1:=HVN.out
     rw[if_pos hz] at h1
     rw[HP.out,h1,if_pos hz]
    clear hz
    have CDn:=Lib.hid (TWdone_calls PB8.out.wk ⟨by have h1:=LC.out.1;have h2:=HFr.out;have:=HIN.out;have:=HL12.out;simp only[Wk.add] at h1 h2;omega,by have h1:=LC.out.2;have h2:=HOl.out;have:=HIN.out;have:=HL12.out;simp only[Wk.add] at h1 h2;rw[h1,List.length_append,h2];simp;omega⟩ 0 ee)
    gi_wp2_with fail
    refine⟨trivial,?_⟩
    refine CallsIn.mono (CallsIn.inRound l (callsIn_wide.2 CDn.out)) ?_
    rintro e w9 ⟨rfl,tw9,k9⟩
    have hts:q.t < N:=by have:=H.out.small;have:=HN.out;omega
    have hb9:=k9.heap HR8.out (by have:=HCN.out;omega)
    have HB9:=Lib.hid hb9;have T9:=Lib.hid tw9;have K9:=Lib.hid k9;have HTS:=Lib.hid hts
    have cr9:w9.cell? ⟨N + 1 + 1,0,none⟩=some (.int .i64 0):=(cell_heap hb9 0).trans rfl
    have fr9:w9.frozen? ⟨N + 1 + 1,0,none⟩=false:=free_heap hb9 0
    clear hb9 tw9 k9 CDn p0 p1 fp ce0 fe0 cr0 fr0 cb7 hts
    gi_wp2_with fail
    have hs9:=(Kept.refl (· = N + 1 + 1) w9).set1 0 (.int .i64 (doneP U7 0 ee root).1)
    have KTf:=(KT8.out.mono (T:=fun i=>(turnS q N vf (.slice Ao UO.length co) i∨i=M + 1∨i=M + 1 + 1)∨i=q.t∨i=N + 1 + 1) fun _ _ e=>.inl e).then K9.out (fun i hi e=>by
     rcases e with e|e|e
     ·exact .inl (.inl (.inl e))
     ·exact .inl (.inl (.inr (.inl e)))
     ·exact .inr (.inl e))
    refine⟨keepsFrom_of (KTf.then hs9 fun i hi e=>.inr (.inr e)) fun i hi=>?_,?_,?_,?_⟩
    ·have h1:=HCN.out;have h2:=HNM.out;have h3:=HS3.out;have h4:=HTS.out
     rcases hi with((e|e|e|e|e)|e|e)|e|e
     ·exact .inl (by omega)
     ·exact .inl (by omega)
     ·exact .inl (by omega)
     ·obtain⟨cs,f,h⟩:=own_type HB.out.wk.rf e;exact .inr ⟨cs,_,f,h⟩
     ·obtain⟨cs,f,h⟩:=own_type HB.out.wk.ro e;exact .inr ⟨cs,_,f,h⟩
     ·exact .inl (by omega)
     ·exact .inl (by omega)
     ·exact .inl (by omega)
     ·exact .inl (by omega)
    ·rw[HR.out];exact heap_set HB9.out 0 _
    ·rw[HR.out];exact T9.out.alien hs9 (Alien.one HB9.out (by decide))
    ·refine(((PB8.out.kw.mono (T:=fun k=>k=q.c∨k=q.m∨k=q.t) fun i hi e=>?_).then K9.out fun _ _ e=>e).then hs9 fun i hi e=>by have:=HN.out;omega)
     rcases e with e|e
     ·exact .inl e
     ·exact .inr (.inl e)
  ·have g7:((x:Int) == (ln:Int) - 1)=false:=by rw[beq_eq_false_iff_ne];have:=HXE.out;have:=HLen.out;have:=HIN.out;omega
   have HJ:Hid (V=riseP ⟨UX,UF,UO⟩ p (L.take (ln - i)).reverse∧POk p):=by
    rcases HI.out with h|h
    ·exact absurd h.1 hi0
    ·exact h.2
   have hlf:=HIn.out (by omega)
   have hkk:=(HOK.out.1.inner hlf).2.1
   have hat:s.at_ + 1≤s.n.kids.length:=by have:=find_le s.n k HOK.out.1.up;have:=HOK.out.2;omega
   have CS:=Lib.hid fun w' (kk:Kept (fun _=>False) W w')=>TWrepl1_calls (HNd.out.kept kk) (IRow.keptF HXX.out.ip kk) HJ.out.2.n p.2 s.at_ hat hkk (by have:=HOK.out.1.len;omega)
   rw[←HPK.out] at CS
   obtain⟨nn,hnn⟩:∃n,n=s.n.repl s.at_ (s.at_ + 1) p.1 p.2:=⟨_,rfl⟩
   have FN:Hid nn.Fit:=by show nn.Fit;rw[hnn];exact(HOK.out.1.fit.repl hlf (by omega) hat HJ.out.2.lt HJ.out.2.n HJ.out.2.key (by have:=HOK.out.1.len;unfold Nd.len;split<;>omega)).1
   have HVN:Hid (V=if (layP (Wk.add ⟨UX,UF,UO⟩ s.id) nn).2.1 ≠ 0 then layP (Wk.add ⟨UX,UF,UO⟩ s.id) nn else riseP (layP (Wk.add ⟨UX,UF,UO⟩ s.id) nn).2.2 (layP (Wk.add ⟨UX,UF,UO⟩ s.id) nn).1 (L.take x).reverse):=by
    show _=_
    rw[HJ.out.1,HZ8.out,hnn]
    rfl
   rw[←hnn] at CS
   clear hnn hlf hkk hat
   have HI0:=Lib.hid hi0
   clear hi0
   gi_wp2_with fail
   refine⟨trivial,?_⟩
   refine CallsIn.mono (CallsIn.inRound l (callsIn_wide.2 (CS.out _ ((Kept.refl _ W).alloc _)))) ?_
   rintro e w2 ⟨vn,rfl,hn,k2⟩
   have HBN:Hid (∀b,(b=N + 1 + 1 + 1∨vo.ownBlock=some b)→b < (W.alloc (Obj.cells #[Value.bool tl,Value.slice P1 n1 c1,Value.slice P2 n2 c2,Value.slice P3 n3 c3] 148)).heap.size):=fun b hb=>by
    rw[World.size_alloc]
    rcases hb with e|e
    ·have:=lt_heap HB.out.b4;omega
    ·have:=own_lt HB.out.wk.ro e;omega
   have HBS:Hid ((W.alloc (Obj.cells #[Value.bool tl,Value.slice P1 n1 c1,Value.slice P2 n2 c2,Value.slice P3 n3 c3] 148)).heap.size≤w2.heap.size):=k2.size
   generalize (W.alloc (Obj.cells #[Value.bool tl,Value.slice P1 n1 c1,Value.slice P2 n2 c2,Value.slice P3 n3 c3] 148)).heap.size=Bn at hn HBN HBS
   obtain⟨lb,X1,m1,e1,X2,m2,e2,X3,m3,e3,rfl⟩:=hn.agg
   have HN2:=Lib.hid hn
   have K2:=Lib.hid (((Kept.refl (fun _=>False) W).alloc (Obj.cells #[Value.bool tl,Value.slice P1 n1 c1,Value.slice P2 n2 c2,Value.slice P3 n3 c3] 148)).trans k2)
   have hb2:=k2.heap (heap_new W _) not_false
   obtain⟨E,hE⟩:∃E,E=W.heap.size:=⟨_,rfl⟩
   have HE:=Lib.hid hE
   rw[←hE] at hb2⊢
   have HB2:=Lib.hid hb2
   obtain⟨d0,d1,d2,d3⟩:=nd_cells hb2
   have fz2:∀i,w2.frozen? ⟨E,i,none⟩=false:=fun i=>free_heap hb2 i
   clear hn k2 CS x0 x1 x2 x3 x4 x5 y0 y1 y3 z0 z1 l0 l1 l2 l3 l4 g7 hb2 hE hatb hln1 hln0
   gi_wp2_with fail
   obtain⟨w4,hw4⟩:∃w4,w4=((((w2.setCell ⟨E,0,none⟩ (Value.bool lb)).setCell ⟨E,1,none⟩ (Value.slice X1 m1 e1)).setCell ⟨E,2,none⟩ (Value.slice X2 m2 e2)).setCell ⟨E,3,none⟩ (Value.slice X3 m3 e3)):=⟨_,rfl⟩
   rw[←hw4]
   have K4:Hid (Kept (· = E) w2 w4):=by rw[hw4];exact set4_kept w2 E _ _ _ _
   have hb4:w4.heap[E]? = some (.cells #[.bool lb,.slice X1 m1 e1,.slice X2 m2 e2,.slice X3 m3 e3] 148 (0,0)):=by rw[hw4];exact set4_heap HB2.out (by simp) _ _ _ _
   have HEM:Hid (N≤E∧(E < N + 1 + 1 + 1 + 1 + 1∨M≤E)):=by have:=HE.out;have:=HB.out.kz.size;have:=HM.out;have:=HNM.out;exact⟨by omega,.inr (by omega)⟩
   have PB4:=Lib.hid ((HB.out.keptF K2.out).box HN.out HEM.out K4.out HB2.out (.inl rfl))
   have PX4:=Lib.hid ((HXX.out.keptF K2.out).node K4.out HB2.out)
   have bx4:=K4.out.heap (K2.out.heap HBx.out not_false) (by intro e;subst e;have h:=K2.out.heap HBx.out not_false;rw[HB2.out] at h;injection h with h;injection h with _ h _;exact absurd h (by decide))
   have HB4:=Lib.hid hb4;have HX4:=Lib.hid bx4
   have HN4:=Lib.hid (HN2.out.keptB HB2.out K4.out fun _ e=>e)
   obtain⟨Ao,co,evo⟩:=own_slice PB4.out.wk.ro
   subst evo
   obtain⟨lo,hlo⟩:∃n,n=UO.length:=⟨_,rfl⟩
   have HLO:=Lib.hid hlo
   have cb4:w4.cell? ⟨N + 1 + 1 + 1 + 1,0,none⟩=some (.pointer (some ⟨N + 1 + 1 + 1,0,none⟩)):=(cell_heap PB4.out.b4 0).trans rfl
   have cwk:w4.cell? ⟨N + 1 + 1 + 1,2,none⟩=some (.slice Ao lo co):=by rw[hlo];exact(cell_heap PB4.out.wk.blk 2).trans rfl
   have cbx:w4.cell? ⟨Bx,0,none⟩=some (.int .i64 s.id):=(cell_heap bx4 0).trans rfl
   have CC:Hid (∀w',Kept (fun k=>k=N + 1 + 1 + 1∨(Value.slice Ao lo co).ownBlock=some k) w4 w'→w'.cell? ⟨N + 1 + 1 + 1 + 1,0,none⟩=some (.pointer (some ⟨N + 1 + 1 + 1,0,none⟩))∧w'.cell? ⟨Bx,0,none⟩=some (.int .i64 s.id)):=fun w' kk=>by
    have ho:=PB4.out.wk.ro
    have hne:∀ {i:Nat} {cs:Array Value} {T:TypeId} {f:Nat×Nat},w4.heap[i]? = some (.cells cs T f)→T ≠ 3→T ≠ 162 → ¬(i=N + 1 + 1 + 1∨(Value.slice Ao lo co).ownBlock=some i):=fun hi h1 h2=>by
     rintro(e|e)
     ·subst e
      have h:=PB4.out.wk.blk
      rw[hi] at h
      injection h with h
      injection h with _ h _
      exact h2 h
     ·exact own_neH ho hi h1 _ (by rw[own_anylen _ _ lo];exact e) rfl
    exact⟨(cell_heap (kk.heap PB4.out.b4 (hne PB4.out.b4 (by decide) (by decide))) 0).trans rfl,(cell_heap (kk.heap HX4.out (hne HX4.out (by decide) (by decide))) 0).trans rfl⟩
   clear hw4 hb4 bx4 d0 d1 d2 d3 fz2 hlo
   refine wpIn_round_zK 11 (fun w'=>w'.cell? ⟨N + 1 + 1 + 1 + 1,0,none⟩=some (.pointer (some ⟨N + 1 + 1 + 1,0,none⟩))∧w'.cell? ⟨N + 1 + 1 + 1,2,none⟩=some (.slice Ao lo co)∧w'.cell? ⟨Bx,0,none⟩=some (.int .i64 s.id)) (by kernel_rfl) (by kernel_rfl) ?_
   have hC:(fun w':World=>w'.cell? ⟨N + 1 + 1 + 1 + 1,0,none⟩=some (.pointer (some ⟨N + 1 + 1 + 1,0,none⟩))∧w'.cell? ⟨N + 1 + 1 + 1,2,none⟩=some (.slice Ao lo co)∧w'.cell? ⟨Bx,0,none⟩=some (.int .i64 s.id)) w4.drew:=⟨cb4,cwk,cbx⟩
   clear cb4 cwk cbx
   refine tz 0 (h:=?_)
   (try simp only[lits])
   refine tz 1 (h:=?_)
   (try simp only[lits])
   refine tz 2 (h:=?_)
   (try simp only[lits])
   refine tz 3 (h:=?_)
   (try simp only[lits])
   refine tz 4 (h:=?_)
   (try simp only[lits])
   refine tz 5 (h:=?_)
   (try simp only[lits])
   refine tz 6 (h:=?_)
   (try simp only[lits])
   refine wpAnyZ_one (i:=7) (by kernel_rfl) rfl (fun K hK=>?_)
   go_simp
   have k5:Kept (fun _=>False) w4 ((w4.alloc (.cells #[.int .i64 (s.id:Nat)] 3)).drew):=((Kept.refl _ w4).alloc _).drew
   have PB5:=Lib.hid (PB4.out.keptF k5)
   have OW:Hid (((w4.alloc (.cells #[.int .i64 (s.id:Nat)] 3)).drew).ownsRow 0 3 1 (.slice Ao lo co) lo (UO.map I)):=by
    have h:=PB5.out.wk.ro
    unfold IRow at h
    dsimp only at h
    rw[←HLO.out] at h
    exact own_base h fun _ _=>Nat.zero_le _
   have CW5:Hid (((w4.alloc (.cells #[.int .i64 (s.id:Nat)] 3)).drew).cell? ⟨N + 1 + 1 + 1,2,none⟩=some (.slice Ao lo co)):=by show _=_;rw[HLO.out];exact(cell_heap PB5.out.wk.blk 2).trans rfl
   have HLB:Hid (lo≤12):=by have:=HOl.out;have:=HLO.out;have:=HIN.out;have:=HL12.out;simp only at *;show _≤_;omega
   have K5:=Lib.hid k5
   refine hK.out _ _ (fun _=>⟨(CC.out _ (k5.mono fun _ _=>False.elim)).1,CW5.out,(CC.out _ (k5.mono fun _ _=>False.elim)).2⟩) ?_
   clear hK hC k5
   (try simp only[lits])
   refine wpAnyZ_one (i:=8) (by kernel_rfl) rfl (fun K hK=>?_)
   refine step_one (v:=.slice Ao lo co) rfl (.tmp 83) (.tmp 86) rfl Tryz.underlying28 info_int rfl rfl OW.out _ rfl (reads_one w4.drew (.int .i64 (s.id:Nat)) 3) (ints_one [s.id]) (by have:=HLB.out;unfold maxLen;omega) (by have:=HLB.out;omega) ?_
   intro v' z1 hv1 hg1 hob1
   have WK4:WkW w4 q (N + 1 + 1 + 1) vf (.slice Ao lo co) ⟨UX,UF,UO⟩ root M:=by rw[HLO.out];exact PB4.out.wk
   obtain⟨A6,c6,rfl,hb6,hw6,hk6,ho6⟩:=wk_appO (x:=s.id) WK4 K5.out (by have:=lt_heap PB4.out.bs;omega) HLO.out hv1 hg1 hob1
   have HW6:=Lib.hid hw6;have HK6:=Lib.hid hk6;have HO6:=Lib.hid ho6
   have HB6:=Lib.hid hb6
   have cwk6:z1.cell? ⟨N + 1 + 1 + 1,2,none⟩=some (.slice Ao lo co):=(cell_heap hb6 2).trans rfl
   have fz6:z1.frozen? ⟨N + 1 + 1 + 1,2,none⟩=false:=free_heap hb6 2
   have kz1:Kept (fun k=>k=N + 1 + 1 + 1∨(Value.slice Ao lo co).ownBlock=some k) w4 z1:=(K5.out.mono fun _ _=>False.elim).trans ⟨hg1.os,hg1.tape,hg1.output,hg1.size,fun k hk' hne=>hg1.block k hk' fun e=>hne (.inr e.symm)⟩
   have cc1:=CC.out z1 kz1
   refine hK.out _ _ (fun _=>⟨cc1.1,cwk6,cc1.2⟩) ?_
   clear hK WK4 hw6 hk6 ho6 hb6 kz1 hv1 hg1 hob1
   (try simp only[lits])
   refine wpAnyZ_one (i:=9) (by kernel_rfl) rfl (fun K hK=>?_)
   go_simp
   refine hK.out _ _ (fun _=>⟨cc1.1,cwk6,cc1.2⟩) ?_
   clear hK
   (try simp only[lits])
   refine wpAnyZ_one (i:=10) (by kernel_rfl) rfl (fun K hK=>?_)
   go_simp
   refine hK.out _ _ (fun _=>⟨cc1.1,cwk6,cc1.2⟩) ?_
   clear hK
   (try simp only[lits])
   refine wpAnyZ_one (i:=11) (by kernel_rfl) rfl (fun K hK=>?_)
   go_simp
   refine hK.out _ _ (fun h=>by cases h) ?_
   clear hK
   (try simp only[lits])
   refine wpAnyZ_done (by kernel_rfl) ?_ _
   clear cc1 cwk6 fz6
   obtain⟨w6,hw6⟩:∃w6,w6=z1.setCell ⟨N + 1 + 1 + 1,2,none⟩ (.slice A6 (lo + 1) c6):=⟨_,rfl⟩
   rw[←hw6] at HW6 HK6⊢
   clear hw6 HB6
   have HCN:Hid (q.c < N∧q.m < N):=by have:=H.out.small;have:=HN.out;exact⟨by omega,by omega⟩
   have tS:∀i,(i=N + 1 + 1 + 1∨(Value.slice Ao lo co).ownBlock=some i)→turnS q N vf (.slice Ao UO.length co) i:=fun i hi=>by
    rcases hi with e|e
    ·exact .inr (.inr (.inl e))
    ·exact .inr (.inr (.inr (.inr ((own_anylen _ _ _ _).trans e))))
   have PB6:=Lib.hid (PB4.out.turn HCN.out HN.out HNM.out HK6.out tS HW6.out)
   have hb6:=HK6.out.heap HB4.out fun e=>PB4.out.not HCN.out HEM.out.1 HB4.out (by decide) (by decide) (tS _ e)
   have HN6:Hid (IsNd w6 Bn (.agg #[.bool lb,.slice X1 m1 e1,.slice X2 m2 e2,.slice X3 m3 e3]) nn):=HN4.out.keptS HK6.out fun k hk=>by
    refine HBN.out k ?_
    rcases hk with e|e
    ·exact .inl e
    ·exact .inr ((own_anylen _ _ _ _).trans e)
   have HXE2:Hid (w6.heap[N + 1 + 1]? = some (.cells #[.int .i64 0] 36 (0,0))):=HK6.out.heap PX4.out.b2 fun e=>PB4.out.not HCN.out (by omega) PX4.out.b2 (by decide) (by decide) (tS _ e)
   have HXEE:Hid (w6.heap[M + 1]? = some (.cells #[.int .i64 0] 36 (0,0))):=HK6.out.heap PX4.out.be fun e=>PB4.out.not HCN.out (by have:=HNM.out;omega) PX4.out.be (by decide) (by decide) (tS _ e)
   have HXP:Hid (w6.heap[M + 1 + 1]? = some (.cells #[.slice Ap lp cp,.string pk] 169 (0,0))):=by rw[HPK.out];exact HK6.out.heap PX4.out.bp fun e=>PB4.out.not HCN.out (by have:=HNM.out;omega) PX4.out.bp (by decide) (by decide) (tS _ e)
   have CL:=Lib.hid (TWlay_calls HW6.out HN6.out (Nat.le_trans HBS.out (Nat.le_trans K4.size HK6.out.size)) FN.out (by have:=lt_heap PB6.out.bs;omega) (by have:=HFr.out;have:=HIN.out;have:=HL12.out;simp only at *;omega))
   have LC:=Lib.hid (layP_counts (Wk.add ⟨UX,UF,UO⟩ s.id) nn)
   have LK:Hid ((layP (Wk.add ⟨UX,UF,UO⟩ s.id) nn).2.1=0→POk (layP (Wk.add ⟨UX,UF,UO⟩ s.id) nn).1):=fun h=>layP_ok FN.out HW6.out.tw.sto.sp.len h
   have hadd:(⟨UX,UF,UO ++ [s.id]⟩:Wk)=Wk.add ⟨UX,UF,UO⟩ s.id:=rfl
   rw[hadd] at CL
   obtain⟨⟨⟨ids,key⟩,ee,U7⟩,hY⟩:∃Y,Y=layP (Wk.add ⟨UX,UF,UO⟩ s.id) nn:=⟨_,rfl⟩
   rw[←hY] at CL LC LK HVN
   unfold LayTo at CL
   dsimp only at CL LC LK HVN
   have cb6:w6.cell? ⟨N + 1 + 1 + 1 + 1,0,none⟩=some (.pointer (some ⟨N + 1 + 1 + 1,0,none⟩)):=(cell_heap PB6.out.b4 0).trans rfl
   obtain⟨d0,d1,d2,d3⟩:=nd_cells hb6
   clear hY hadd hb6 tS
   dsimp only[Exit.then]
   gi_wp2_with fail
   refine⟨trivial,?_⟩
   refine CallsIn.mono (CallsIn.inRound l (callsIn_wide.2 CL.out)) ?_
   rintro e w7 ⟨A7,m7,c7,s7,rfl,himp,vf7,hwk7,hk7,hv7⟩
   have tS7:∀i,(i=q.c∨i=q.m∨i=N + 1 + 1 + 1∨vf.ownBlock=some i)→turnS q N vf (.slice A6 (lo + 1) c6) i:=fun i hi=>by
    rcases hi with e|e|e|e
    ·exact .inl e
    ·exact .inr (.inl e)
    ·exact .inr (.inr (.inl e))
    ·exact .inr (.inr (.inr (.inl e)))
   have PB7:=Lib.hid (PB6.out.turn HCN.out HN.out HNM.out hk7 tS7 hwk7)
   have HK7:=Lib.hid hk7;have HIM:=Lib.hid himp
   have HE2:Hid (w7.heap[N + 1 + 1]? = some (.cells #[.int .i64 0] 36 (0,0))):=hk7.heap HXE2.out fun e=>PB6.out.not HCN.out (by omega) HXE2.out (by decide) (by decide) (tS7 _ e)
   have HEE:Hid (w7.heap[M + 1]? = some (.cells #[.int .i64 0] 36 (0,0))):=hk7.heap HXEE.out fun e=>PB6.out.not HCN.out (by have:=HNM.out;omega) HXEE.out (by decide) (by decide) (tS7 _ e)
   have HPP:Hid (w7.heap[M + 1 + 1]? = some (.cells #[.slice Ap lp cp,.string pk] 169 (0,0))):=hk7.heap HXP.out fun e=>PB6.out.not HCN.out (by have:=HNM.out;omega) HXP.out (by decide) (by decide) (tS7 _ e)
   have KT:Hid (Kept (turnS q N vf (.slice Ao UO.length co)) W w7):=by
    refine((((K2.out.mono fun _ _=>False.elim).then K4 fun i hi e=>?_).then HK6.out fun i hi e=>?_).then hk7 fun i hi e=>?_)
    ·have:=HE.out;omega
    ·rcases e with e|e
     ·exact .inr (.inr (.inl e))
     ·exact .inr (.inr (.inr (.inr ((own_anylen _ _ _ _).trans e))))
    ·rcases e with e|e|e|e
     ·exact .inl e
     ·exact .inr (.inl e)
     ·exact .inr (.inr (.inl e))
     ·exact .inr (.inr (.inr (.inl e)))
   obtain⟨p0,p1⟩:=pair_cells HPP.out
   have fp:∀i,w7.frozen? ⟨M + 1 + 1,i,none⟩=false:=fun i=>free_heap HPP.out i
   have ce0:w7.cell? ⟨M + 1,0,none⟩=some (.int .i64 0):=(cell_heap HEE.out 0).trans rfl
   have fe0:w7.frozen? ⟨M + 1,0,none⟩=false:=free_heap HEE.out 0
   have cr0:w7.cell? ⟨N + 1 + 1,0,none⟩=some (.int .i64 0):=(cell_heap HE2.out 0).trans rfl
   have fr0:w7.frozen? ⟨N + 1 + 1,0,none⟩=false:=free_heap HE2.out 0
   have cb7:w7.cell? ⟨N + 1 + 1 + 1 + 1,0,none⟩=some (.pointer (some ⟨N + 1 + 1 + 1,0,none⟩)):=(cell_heap PB7.out.b4 0).trans rfl
   have st1:=Lib.hid (set2_kept w7 (M + 1 + 1) (.slice A7 m7 c7) (.string s7))
   have st2:=Lib.hid ((Kept.refl (· = M + 1) ((w7.setCell ⟨M + 1 + 1,0,none⟩ (.slice A7 m7 c7)).setCell ⟨M + 1 + 1,1,none⟩ (.string s7))).set1 0 (.int .i64 ee))
   have hq0:N ≠ M:=by have:=HNM.out;omega
   have hq1:N + 1 ≠ M:=by have:=HNM.out;omega
   have hq2:N + 1 + 1 ≠ M:=by have:=HNM.out;omega
   have hq3:N + 1 + 1 + 1 ≠ M:=by have:=HNM.out;omega
   have hp0:M ≠ N:=by have:=HNM.out;omega
   have hp1:M ≠ N + 1:=by have:=HNM.out;omega
   have hp2:M ≠ N + 1 + 1:=by have:=HNM.out;omega
   have hp3:M ≠ N + 1 + 1 + 1:=by have:=HNM.out;omega
   have PB8:=Lib.hid (((PB7.out.box HN.out ⟨by have:=HNM.out;omega,.inr (by omega)⟩ st1.out HPP.out (.inr (.inr rfl)))).box HN.out ⟨by have:=HNM.out;omega,.inr (by omega)⟩ st2.out (st1.out.heap HEE.out (by omega)) (.inr (.inl rfl)))
   have HP8:Hid ((((w7.setCell ⟨M + 1 + 1,0,none⟩ (.slice A7 m7 c7)).setCell ⟨M + 1 + 1,1,none⟩ (.string s7)).setCell ⟨M + 1,0,none⟩ (.int .i64 ee)).heap[M + 1 + 1]? = some (.cells #[.slice A7 m7 c7,.string s7] 169 (0,0))):=st2.out.heap (set2_heap HPP.out _ _) (by omega)
   have HE8:Hid ((((w7.setCell ⟨M + 1 + 1,0,none⟩ (.slice A7 m7 c7)).setCell ⟨M + 1 + 1,1,none⟩ (.string s7)).setCell ⟨M + 1,0,none⟩ (.int .i64 ee)).heap[M + 1]? = some (.cells #[.int .i64 ee] 36 (0,0))):=heap_set (st1.out.heap HEE.out (by omega)) 0 _
   have HR8:Hid ((((w7.setCell ⟨M + 1 + 1,0,none⟩ (.slice A7 m7 c7)).setCell ⟨M + 1 + 1,1,none⟩ (.string s7)).setCell ⟨M + 1,0,none⟩ (.int .i64 ee)).heap[N + 1 + 1]? = some (.cells #[.int .i64 0] 36 (0,0))):=st2.out.heap (st1.out.heap HE2.out (by have:=HNM.out;omega)) (by have:=HNM.out;omega)
   have KT8:Hid (Kept (fun i=>turnS q N vf (.slice Ao UO.length co) i∨i=M + 1∨i=M + 1 + 1) W (((w7.setCell ⟨M + 1 + 1,0,none⟩ (.slice A7 m7 c7)).setCell ⟨M + 1 + 1,1,none⟩ (.string s7)).setCell ⟨M + 1,0,none⟩ (.int .i64 ee))) :=
    ((KT.out.mono fun _ _ e=>.inl e).then st1.out fun i hi e=>.inr (.inr e)).then st2.out fun i hi e=>.inr (.inl e)
   have FK:Hid (KeepsFrom w3.heap.size W (((w7.setCell ⟨M + 1 + 1,0,none⟩ (.slice A7 m7 c7)).setCell ⟨M + 1 + 1,1,none⟩ (.string s7)).setCell ⟨M + 1,0,none⟩ (.int .i64 ee))):=by
    refine keepsFrom_of KT8.out fun i hi=>?_
    have h1:=HCN.out;have h2:=HNM.out;have h3:=HS3.out
    rcases hi with(e|e|e|e|e)|e|e
    ·exact .inl (by omega)
    ·exact .inl (by omega)
    ·exact .inl (by omega)
    ·obtain⟨cs,f,h⟩:=own_type HB.out.wk.rf e;exact .inr ⟨cs,_,f,h⟩
    ·obtain⟨cs,f,h⟩:=own_type HB.out.wk.ro e;exact .inr ⟨cs,_,f,h⟩
    ·exact .inl (by omega)
    ·exact .inl (by omega)
   have SK:Hid (Still (M + 1 + 1 + 1) g W (((w7.setCell ⟨M + 1 + 1,0,none⟩ (.slice A7 m7 c7)).setCell ⟨M + 1 + 1,1,none⟩ (.string s7)).setCell ⟨M + 1,0,none⟩ (.int .i64 ee))):=by
    have h1:=HCN.out;have h2:=HNM.out;have h3:=HGN.out;have h4:=HGM.out
    refine Still.of_kept KT8.out (lt_heap HB.out.bs) (by have:=lt_heap HB.out.bs;omega) ?_ ?_
    ·rintro(e|e|e)
     ·exact HB.out.not HCN.out (by omega) HB.out.bs (by decide) (by decide) e
     ·omega
     ·omega
    ·rintro((e|e|e|e|e)|e|e)
     ·omega
     ·omega
     ·omega
     ·have:=own_ge HB.out.wk.rf e;omega
     ·have:=own_ge HB.out.wk.ro e;omega
     ·omega
     ·omega
   clear himp hwk7 hk7 tS7 CL d0 d1 d2 d3 cb6
   by_cases hz:ee=0
   ·subst hz
    obtain⟨him,hs7⟩:=HIM.out rfl
    have HI7:=Lib.hid him;have HS7:=Lib.hid hs7
    clear him hs7
    gi_wp2_with fail
    refine⟨FK.out,SK.out,(ids,key),U7,vf7,_,_,PB8.out,⟨HR8.out,HE8.out,by rw[←HS7.out];exact HP8.out,?_,?_⟩,?_,?_,.inr ⟨by omega,?_,LK.out trivial⟩⟩
    ·have h6:=lt_heap PB6.out.bs
     have ip7:=IRow.base HI7.out (show M≤w6.heap.size by omega)
     exact IRow.kept (IRow.kept ip7 st1.out (own_neH ip7 HPP.out (by decide))) st2.out (own_neH (IRow.kept ip7 st1.out (own_neH ip7 HPP.out (by decide))) (st1.out.heap HEE.out (by omega)) (by decide))
    ·intro b hb e
     have h1:=own_ge HI7.out hb
     have h2:=own_lt PB6.out.wk.ro e
     omega
    ·have h1:=LC.out.1;have h2:=HFr.out
     simp only[Wk.add] at h1 h2
     omega
    ·have h1:=LC.out.2;have h2:=HOl.out
     simp only[Wk.add] at h1 h2
     rw[h1,List.length_append,h2];rfl
    ·have h1:=HVN.out
     rw[if_neg (by simp)] at h1
     rw[h1,show ln - (i + 1)=x from by have:=HXE.out;omega]
   ·have hz1:(ee == 0)=false:=by rw[beq_eq_false_iff_ne];exact hz
    have hz2:(ee != 0)=true:=by rw[bne_iff_ne];exact hz
    have HZ:=Lib.hid hz
    have HR:Hid (r=doneP U7 0 ee root):=by
     show _=_
     have h1:=HVN.out
     rw[if_pos hz] at h1
     rw[HP.out,h1,if_pos hz]
    clear hz
    have CDn:=Lib.hid (TWdone_calls PB8.out.wk ⟨by have h1:=LC.out.1;have h2:=HFr.out;have:=HIN.out;have:=HL12.out;simp only[Wk.add] at h1 h2;omega,by have h1:=LC.out.2;have h2:=HOl.out;have:=HIN.out;have:=HL12.out;simp only[Wk.add] at h1 h2;rw[h1,List.length_append,h2];simp;omega⟩ 0 ee)
    gi_wp2_with fail
    refine⟨trivial,?_⟩
    refine CallsIn.mono (CallsIn.inRound l (callsIn_wide.2 CDn.out)) ?_
    rintro e w9 ⟨rfl,tw9,k9⟩
    have hts:q.t < N:=by have:=H.out.small;have:=HN.out;omega
    have hb9:=k9.heap HR8.out (by have:=HCN.out;omega)
    have HB9:=Lib.hid hb9;have T9:=Lib.hid tw9;have K9:=Lib.hid k9;have HTS:=Lib.hid hts
    have cr9:w9.cell? ⟨N + 1 + 1,0,none⟩=some (.int .i64 0):=(cell_heap hb9 0).trans rfl
    have fr9:w9.frozen? ⟨N + 1 + 1,0,none⟩=false:=free_heap hb9 0
    clear hb9 tw9 k9 CDn p0 p1 fp ce0 fe0 cr0 fr0 cb7 hts
    gi_wp2_with fail
    have hs9:=(Kept.refl (· = N + 1 + 1) w9).set1 0 (.int .i64 (doneP U7 0 ee root).1)
    have KTf:=(KT8.out.mono (T:=fun i=>(turnS q N vf (.slice Ao UO.length co) i∨i=M + 1∨i=M + 1 + 1)∨i=q.t∨i=N + 1 + 1) fun _ _ e=>.inl e).then K9.out (fun i hi e=>by
     rcases e with e|e|e
     ·exact .inl (.inl (.inl e))
     ·exact .inl (.inl (.inr (.inl e)))
     ·exact .inr (.inl e))
    refine⟨keepsFrom_of (KTf.then hs9 fun i hi e=>.inr (.inr e)) fun i hi=>?_,?_,?_,?_⟩
    ·have h1:=HCN.out;have h2:=HNM.out;have h3:=HS3.out;have h4:=HTS.out
     rcases hi with((e|e|e|e|e)|e|e)|e|e
     ·exact .inl (by omega)
     ·exact .inl (by omega)
     ·exact .inl (by omega)
     ·obtain⟨cs,f,h⟩:=own_type HB.out.wk.rf e;exact .inr ⟨cs,_,f,h⟩
     ·obtain⟨cs,f,h⟩:=own_type HB.out.wk.ro e;exact .inr ⟨cs,_,f,h⟩
     ·exact .inl (by omega)
     ·exact .inl (by omega)
     ·exact .inl (by omega)
     ·exact .inl (by omega)
    ·rw[HR.out];exact heap_set HB9.out 0 _
    ·rw[HR.out];exact T9.out.alien hs9 (Alien.one HB9.out (by decide))
    ·refine(((PB8.out.kw.mono (T:=fun k=>k=q.c∨k=q.m∨k=q.t) fun i hi e=>?_).then K9.out fun _ _ e=>e).then hs9 fun i hi e=>by have:=HN.out;omega)
     rcases e with e|e
     ·exact .inl e
     ·exact .inr (.inl e)
 case done =>
  rintro D W hD ⟨p,U,vf,vo,sp,hB,hXX,hfr,hol,hi⟩ hK
  rw[backI_len] at hfr hol hi
  have hVU:V=riseP U p (L.take (ln - ln)).reverse∧POk p:=by
   rcases hi with h|h
   ·have:=HLen.out;omega
   ·exact h.2
  obtain⟨Ap,cp,rfl⟩:=own_slice hXX.ip
  have HR:Hid (r=doneP (topP U p).2 (topP U p).1.1 (topP U p).1.2 root):=by
   show _=_
   have h1:=hVU.1
   rw[Nat.sub_self,List.take_zero] at h1
   rw[HP.out,h1]
   simp[riseP]
  have HB:=Lib.hid hB;have HXX:=Lib.hid hXX;have HD:=Lib.hid hD;have HK:=Lib.hid hK
  have CT:=Lib.hid (TWtop_calls hB.wk hXX.ip hVU.2.n hVU.2.lt hVU.2.key (by have:=lt_heap hB.bs;omega) (by have:=HL12.out;omega))
  have TF:Hid ((topP U p).2.fresh.length≤30∧(topP U p).2.old.length≤12):=by
   have:=HL12.out
   unfold topP
   split
   ·exact⟨by dsimp only;omega,by dsimp only;omega⟩
   ·have h1:=putP_fresh U ⟨false, [p.2], [],p.1⟩
    have h2:=putP_old U ⟨false, [p.2], [],p.1⟩
    exact⟨by omega,by rw[h2];omega⟩
  obtain⟨⟨⟨ti,te⟩,U7⟩,hY⟩:∃Y,Y=topP U p:=⟨_,rfl⟩
  rw[←hY] at CT TF HR
  unfold TopTo PutTo at CT
  dsimp only at CT TF HR
  obtain⟨pk,hpk⟩:∃s,s=ba p.2:=⟨_,rfl⟩
  obtain⟨lp,hlp⟩:∃n,n=p.1.length:=⟨_,rfl⟩
  have hbp:=hXX.bp
  rw[←hlp] at hbp CT
  rw[←hpk] at hbp CT
  obtain⟨z0,z1⟩:=pair_cells hbp
  have y4:W.cell? ⟨N + 1 + 1 + 1 + 1,0,none⟩=some (.pointer (some ⟨N + 1 + 1 + 1,0,none⟩)):=(cell_heap hB.b4 0).trans rfl
  have HCN:Hid (q.c < N∧q.m < N):=by have:=H.out.small;have:=HN.out;exact⟨by omega,by omega⟩
  have hq2:N + 1 + 1 ≠ M:=by have:=HNM.out;omega
  have hq3:N + 1 + 1 + 1 ≠ M:=by have:=HNM.out;omega
  have hq1:N + 1 ≠ M:=by have:=HNM.out;omega
  clear hB hXX hD hK hfr hol hi hVU hY hpk hlp hbp
  gi_wp2_with fail
  refine⟨trivial,?_⟩
  refine CallsIn.mono (callsIn_wide.2 CT.out) ?_
  rintro e w7 ⟨rfl,vf7,hwk7,hk7,hv7⟩
  have tS7:∀i,(i=q.c∨i=q.m∨i=N + 1 + 1 + 1∨vf.ownBlock=some i)→turnS q N vf vo i:=fun i hi=>by
   rcases hi with e|e|e|e
   ·exact .inl e
   ·exact .inr (.inl e)
   ·exact .inr (.inr (.inl e))
   ·exact .inr (.inr (.inr (.inl e)))
  have PB7:=Lib.hid (HB.out.turn HCN.out HN.out HNM.out hk7 tS7 hwk7)
  have HE2:Hid (w7.heap[N + 1 + 1]? = some (.cells #[.int .i64 0] 36 (0,0))):=hk7.heap HXX.out.b2 fun e=>HB.out.not HCN.out (by omega) HXX.out.b2 (by decide) (by decide) (tS7 _ e)
  have HEE:Hid (w7.heap[M + 1]? = some (.cells #[.int .i64 0] 36 (0,0))):=hk7.heap HXX.out.be fun e=>HB.out.not HCN.out (by have:=HNM.out;omega) HXX.out.be (by decide) (by decide) (tS7 _ e)
  have HDD:Hid (w7.heap[D]? = some (.deferred (some []))):=hk7.heap HK.out fun e=>by
   have h1:=HCN.out;have h2:=HNM.out;have h3:=HS3.out;have h4:=HD.out
   rcases e with e|e|e|e
   ·omega
   ·omega
   ·omega
   ·obtain⟨cs,f,h⟩:=own_type HB.out.wk.rf e
    have:=HK.out
    rw[h] at this
    cases this
  have ce0:w7.cell? ⟨M + 1,0,none⟩=some (.int .i64 0):=(cell_heap HEE.out 0).trans rfl
  have fe0:w7.frozen? ⟨M + 1,0,none⟩=false:=free_heap HEE.out 0
  have cb7:w7.cell? ⟨N + 1 + 1 + 1 + 1,0,none⟩=some (.pointer (some ⟨N + 1 + 1 + 1,0,none⟩)):=(cell_heap PB7.out.b4 0).trans rfl
  have st2:=Lib.hid ((Kept.refl (· = M + 1) w7).set1 0 (.int .i64 te))
  have PB8:=Lib.hid (PB7.out.box HN.out ⟨by have:=HNM.out;omega,.inr (by omega)⟩ st2.out HEE.out (.inr (.inl rfl)))
  have HE8:Hid ((w7.setCell ⟨M + 1,0,none⟩ (.int .i64 te)).heap[M + 1]? = some (.cells #[.int .i64 te] 36 (0,0))):=heap_set HEE.out 0 _
  have HR8:Hid ((w7.setCell ⟨M + 1,0,none⟩ (.int .i64 te)).heap[N + 1 + 1]? = some (.cells #[.int .i64 0] 36 (0,0))):=st2.out.heap HE2.out (by have:=HNM.out;omega)
  have HD8:Hid ((w7.setCell ⟨M + 1,0,none⟩ (.int .i64 te)).heap[D]? = some (.deferred (some []))):=st2.out.heap HDD.out (by have:=HS3.out;have:=HD.out;omega)
  have CDn:=Lib.hid (TWdone_calls PB8.out.wk ⟨by have:=TF.out.1;omega,by have:=TF.out.2;omega⟩ ti te)
  clear hwk7 hk7 tS7 CT z0 z1 y4
  gi_wp2_with fail
  refine⟨trivial,?_⟩
  refine CallsIn.mono (callsIn_wide.2 CDn.out) ?_
  rintro e w9 ⟨rfl,tw9,k9⟩
  have hts:q.t < N:=by have:=H.out.small;have:=HN.out;omega
  have hb9:=k9.heap HR8.out (by have:=HCN.out;omega)
  have HB9:=Lib.hid hb9;have T9:=Lib.hid tw9;have K9:=Lib.hid k9;have HTS:=Lib.hid hts
  have HD9:Hid (w9.heap[D]? = some (.deferred (some []))):=k9.heap HD8.out (by have:=HS3.out;have:=HD.out;have:=HCN.out;have:=HNM.out;omega)
  have cr9:w9.cell? ⟨N + 1 + 1,0,none⟩=some (.int .i64 0):=(cell_heap hb9 0).trans rfl
  have fr9:w9.frozen? ⟨N + 1 + 1,0,none⟩=false:=free_heap hb9 0
  clear hb9 tw9 k9 CDn ce0 fe0 cb7 hts
  gi_wp2_with fail
  have hs9:=(Kept.refl (· = N + 1 + 1) w9).set1 0 (.int .i64 (doneP U7 ti te root).1)
  have hbF:(w9.setCell ⟨N + 1 + 1,0,none⟩ (.int .i64 (doneP U7 ti te root).1)).heap[N + 1 + 1]? = some (.cells #[.int .i64 r.1] 36 (0,0)):=by rw[HR.out];exact heap_set HB9.out 0 _
  have tF:TW (w9.setCell ⟨N + 1 + 1,0,none⟩ (.int .i64 (doneP U7 ti te root).1)) q r.2.2 r.2.1:=by rw[HR.out];exact T9.out.alien hs9 (Alien.one HB9.out (by decide))
  have hDF:(w9.setCell ⟨N + 1 + 1,0,none⟩ (.int .i64 (doneP U7 ti te root).1)).heap[D]? = some (.deferred (some [])):=hs9.heap HD9.out (by have:=HS3.out;have:=HD.out;have:=HNM.out;omega)
  have hkF:Kept (fun k=>k=q.c∨k=q.m∨k=q.t) w (w9.setCell ⟨N + 1 + 1,0,none⟩ (.int .i64 (doneP U7 ti te root).1)):=by
   refine(((PB8.out.kw.mono (T:=fun k=>k=q.c∨k=q.m∨k=q.t) fun i hi e=>?_).then K9.out fun _ _ e=>e).then hs9 fun i hi e=>by have:=HN.out;omega)
   rcases e with e|e
   ·exact .inl e
   ·exact .inr (.inl e)
  have hD':=HD.out
  generalize (w9.setCell ⟨N + 1 + 1,0,none⟩ (.int .i64 (doneP U7 ti te root).1))=WF at hbF tF hDF hkF⊢
  have hoff:NoCells WF (· = D):=fun k hk=>by subst hk;exact⟨_,hDF,rfl⟩
  have kF:=Kept.put (W:=WF) D (.deferred none)
  have hcF:=cell_heap (kF.heap hbF (hoff.not hbF)) 0
  have TF9:=Lib.hid (tF.off kF hoff (by have:=H.out.small;have:=HS3.out;have:=HNM.out;have:=HN.out;omega))
  have KF9:=Lib.hid (hkF.then kF fun i hi e=>by have:=HS3.out;have:=HNM.out;have:=HN.out;omega)
  refine⟨by simp,.inl ⟨_,_,rfl,run_takeDeferred hDF,?_⟩⟩
  refine⟨.int .i64 r.1,?_,rfl,TF9.out,KF9.out⟩
  simp[results,Tryz.f36,go_sem,hcF]
 case stop =>
  rintro D W hD ⟨h1,h2,h3⟩ hK
  have HH:=Lib.hid h1;have HH2:=Lib.hid h2;have HH3:=Lib.hid h3;have HD:=Lib.hid hD;have HK:=Lib.hid hK
  clear h1 h2 h3 hD hK
  gi_wp2
  have hbF:=HH.out;have tF:=HH2.out;have hkF:=HH3.out;have hDF:=HK.out;have hD':=HD.out
  generalize W=WF at hbF tF hDF hkF hD'⊢
  have hoff:NoCells WF (· = D):=fun k hk=>by subst hk;exact⟨_,hDF,rfl⟩
  have kF:=Kept.put (W:=WF) D (.deferred none)
  have hcF:=cell_heap (kF.heap hbF (hoff.not hbF)) 0
  have TF9:=Lib.hid (tF.off kF hoff (by have:=H.out.small;have:=HS3.out;have:=HNM.out;have:=HN.out;omega))
  have KF9:=Lib.hid (hkF.then kF fun i hi e=>by have:=HS3.out;have:=HNM.out;have:=HN.out;omega)
  refine⟨by simp,.inl ⟨_,_,rfl,run_takeDeferred hDF,?_⟩⟩
  refine⟨.int .i64 r.1,?_,rfl,TF9.out,KF9.out⟩
  simp[results,Tryz.f36,go_sem,hcF]
theorem TreePut_calls {w q X root} (h:TW w q X root) (k v:Bs):Calls Tryz.prog 36 #[.pointer (some ⟨q.t,0,none⟩),.string (ba k),.string (ba v)] w (DoneTo (putT X root k v) w q):=by
 by_cases hkv:24 < k.length∨32 < v.length
 ·exact TreePut_big h k v hkv
 ·by_cases hr:root < 0
  ·exact TreePut_none h hr k v (by omega) (by omega)
  ·obtain⟨r,rfl⟩:=Int.eq_ofNat_of_zero_le (a:=root) (by omega)
   by_cases hd:(downT X k 12 r).2=0
   ·exact TreePut_way h k v (by omega) (by omega) hd
   ·exact TreePut_bad h k v (by omega) (by omega) hd
end Go.Proofs.YtfgjehecjgebdaaGreat
/- The tree: level, where the kid has enough. -/
namespace Go.Proofs.YtfgjehecjgebdaaGreat
open Go.RowKit Go.Maps Go.ChangeMaps
attribute [local go_sem] Oper.semAt_some
def wkS (q:TQ) (wk:Nat) (vf vo:Value) (g:Nat):Prop:=g=q.c∨g=q.m∨g=wk∨vf.ownBlock=some g∨vo.ownBlock=some g
def rowOf (v:Value) (g:Nat):Prop:=∃l A1 n1 c1 A2 n2 c2 A3 n3 c3,v = .agg #[.bool l,.slice A1 n1 c1,.slice A2 n2 c2,.slice A3 n3 c3]∧((Value.slice A1 n1 c1).ownBlock=some g∨(Value.slice A2 n2 c2).ownBlock=some g∨(Value.slice A3 n3 c3).ownBlock=some g)
theorem IsNd.row {w B v n} (h:IsNd w B v n) {g:Nat} (hg:rowOf v g):B≤g∧g < w.heap.size ∧ ∃cs T f,w.heap[g]? = some (.cells cs T f)∧(T=9∨T=3):=by
 obtain⟨l,A1,n1,c1,A2,n2,c2,A3,n3,c3,e',hg⟩:=hg
 obtain⟨Ak,ck,Av,cv,Ai,ci,e,r1,r2,r3⟩:=h
 rw[e'] at e
 injection e with e
 injection e with e
 injection e with _ e
 injection e with e1 e
 injection e with e2 e
 injection e with e3 _
 rw[e1,e2,e3] at hg
 rcases hg with hg|hg|hg
 ·obtain⟨cs,f,hh⟩:=own_type r1 hg;exact⟨own_ge r1 hg,own_lt r1 hg,cs,_,f,hh,.inl rfl⟩
 ·obtain⟨cs,f,hh⟩:=own_type r2 hg;exact⟨own_ge r2 hg,own_lt r2 hg,cs,_,f,hh,.inl rfl⟩
 ·obtain⟨cs,f,hh⟩:=own_type r3 hg;exact⟨own_ge r3 hg,own_lt r3 hg,cs,_,f,hh,.inr rfl⟩
theorem IsNd.keptD {w w' B v n} {S:Nat→Prop} (h:IsNd w B v n) (k:Kept S w w') (hs:∀g,rowOf v g → ¬S g):IsNd w' B v n:=by
 obtain⟨Ak,ck,Av,cv,Ai,ci,e,r1,r2,r3⟩:=h
 refine⟨Ak,ck,Av,cv,Ai,ci,e,r1.kept k fun g hg=>hs g ?_,r2.kept k fun g hg=>hs g ?_,r3.kept k fun g hg=>hs g ?_⟩
 ·exact⟨_,_,_,_,_,_,_,_,_,_,e,.inl hg⟩
 ·exact⟨_,_,_,_,_,_,_,_,_,_,e,.inr (.inl hg)⟩
 ·exact⟨_,_,_,_,_,_,_,_,_,_,e,.inr (.inr hg)⟩
def NdAp (w:World) (S:Nat→Prop) (v:Value) (n:Nd):Prop:=IsNd w 0 v n ∧ ∀g,rowOf v g → ¬S g
theorem NdAp.kept {w w' S S' v n} {T:Nat→Prop} (h:NdAp w S v n) (k:Kept T w w') (hT:∀g,T g→S g∨w.heap.size≤g) (hS:∀g,S' g→S g∨w.heap.size≤g):NdAp w' S' v n:=by
 refine⟨h.1.keptD k fun g hg e=>?_,fun g hg e=>?_⟩
 ·rcases hT g e with e|e
  ·exact h.2 g hg e
  ·have:=(h.1.row hg).2.1;omega
 ·rcases hS g e with e|e
  ·exact h.2 g hg e
  ·have:=(h.1.row hg).2.1;omega
theorem NdAp.zero {w S v n} (h:NdAp w S v n):IsNd w 0 v n:=h.1
theorem NdAp.keptF {w w' S v n} (h:NdAp w S v n) (k:Kept (fun _=>False) w w'):NdAp w' S v n:=h.kept k (fun _=>False.elim) fun _ e=>.inl e
theorem NdAp.between {w S v n B E} (h:IsNd w B v n) (hE:rowsLt v E) (hS:∀g,S g→g < B∨E≤g):NdAp w S v n:=by
 refine⟨h.base (Nat.zero_le _),fun g hg e=>?_⟩
 have h1:=(h.row hg).1
 obtain⟨l,A1,n1,c1,A2,n2,c2,A3,n3,c3,e',hg⟩:=hg
 obtain⟨a,b,c⟩:=hE _ _ _ _ _ _ _ _ _ _ e'
 have h2:g < E:=by
  rcases hg with hg|hg|hg
  ·exact a g hg
  ·exact b g hg
  ·exact c g hg
 rcases hS g e with e|e<;>omega
def LevTo (r:Nd×Int×Wk) (w:World) (q:TQ) (wk:Nat) (vf vo:Value) (root:Int) (Z:Nat) (e:Ending) (w':World):Prop :=
 ∃v vf' vo',e = .returned (.tuple #[v,.int .i64 r.2.1])∧NdAp w' (wkS q wk vf' vo') v r.1∧WkW w' q wk vf' vo' r.2.2 root Z∧Kept (wkS q wk vf vo) w w' ∧ ∀g,wkS q wk vf' vo' g→wkS q wk vf vo g∨w.heap.size≤g
theorem WkW.lt {w q wk vf vo W root Z} (h:WkW w q wk vf vo W root Z):∀g,wkS q wk vf vo g→g < w.heap.size:=fun g hg=>by
 have h1:=h.tw.small
 rcases hg with e|e|e|e|e
 ·omega
 ·omega
 ·subst e;exact lt_heap h.blk
 ·exact own_lt h.rf e
 ·exact own_lt h.ro e
theorem NdAp.new {w w' q wk vf vo W root Z v n B} (h:WkW w q wk vf vo W root Z) (hn:IsNd w' B v n) (hB:w.heap.size≤B):NdAp w' (wkS q wk vf vo) v n :=
 NdAp.between hn hn.lt fun g hg=>.inl (Nat.lt_of_lt_of_le (h.lt g hg) hB)
theorem NdAp.first {w q wk W root Z v n} (h:WkW w q wk (.slice none 0 0) (.slice none 0 0) W root Z) (hn:IsNd w 0 v n):NdAp w (wkS q wk (.slice none 0 0) (.slice none 0 0)) v n:=by
 refine⟨hn,fun g hg=>?_⟩
 obtain⟨-, -,cs,T,f,hh,hT⟩:=hn.row hg
 rintro(e|e|e|e|e)
 ·subst e
  have h1:=h.tw.sto.sp.row
  rw[h1] at hh
  injection hh with hh
  injection hh with _ e _
  rcases hT with hT|hT<;>(rw[hT] at e;exact absurd e (by decide))
 ·obtain⟨es,clock,hm⟩:=h.tw.sto.put.heap
  exact map_ne hm hh e
 ·subst e
  have h1:=h.blk
  rw[h1] at hh
  injection hh with hh
  injection hh with _ e _
  rcases hT with hT|hT<;>(rw[hT] at e;exact absurd e (by decide))
 ·cases e
 ·cases e
set_option maxHeartbeats 2000000 in
theorem TWlevel_fit {w q wk vf vo W root Z} {s:Stp} {l:Bool} {P1 P2 P3:Option Addr} {n1 c1 n2 c2 n3 c3:Nat} {vk:Value} {kid:Nd} (h:WkW w q wk vf vo W root Z) (hs:NdAp w (wkS q wk vf vo) (.agg #[.bool l,.slice P1 n1 c1,.slice P2 n2 c2,.slice P3 n3 c3]) s.n) (hk:NdAp w (wkS q wk vf vo) vk kid)
  (hok:s.n.Ok) (hlf:s.n.leaf=false) (hat:s.at_ + 1≤s.n.kids.length) (hf:kid.Fit) (hZ:Z≤w.heap.size) (hl:W.fresh.length≤900) (hu:kid.under=false) :
  Calls Tryz.prog 90 #[.pointer (some ⟨wk,0,none⟩),.agg #[.int .i64 (s.id:Int),.int .i64 (s.at_:Int),.bool l,.slice P1 n1 c1,.slice P2 n2 c2,.slice P3 n3 c3],vk] w (LevTo (levelP W s kid) w q wk vf vo root Z):=by
 have CU:=Lib.hid fun w' (kk:Kept (fun _=>False) w w')=>NdUnder_calls (hk.zero.kept kk)
 rw[hu] at CU
 obtain⟨l',A1,m1,d1,A2,m2,d2,A3,m3,d3,rfl⟩:=hk.zero.agg
 have HP:Hid (levelP W s kid=(s.n.repl s.at_ (s.at_ + 1) [(putP W kid).1.1] [],(putP W kid).1.2,(putP W kid).2)):=by show _=_;unfold levelP;rw[if_pos hu]
 obtain⟨r,hr⟩:∃r,r=levelP W s kid:=⟨_,rfl⟩
 rw[←hr] at HP⊢
 have hat20:s.at_≤20:=by have:=hok.len;omega
 have H:=Lib.hid h;have HS:=Lib.hid hs;have HK:=Lib.hid hk;have HOK:=Lib.hid hok;have HLF:=Lib.hid hlf;have HAT:=Lib.hid hat;have HF:=Lib.hid hf;have HZ:=Lib.hid hZ;have HL:=Lib.hid hl
 clear h hs hk hok hlf hat hf hZ hl hu hr
 go_enter Tryz.func90,Tryz.ntmps90
 go_wp2_with fail
 refine(CU.out _ (by repeat (first|exact Kept.refl _ _|refine Kept.alloc ?_ _))).mono ?_
 rintro e w1 ⟨rfl,k1⟩
 obtain⟨N,hN⟩:∃N,N=w.heap.size:=⟨_,rfl⟩
 have HN:=Lib.hid hN
 have B0:Hid (w1.heap[N]? = some (Obj.cells #[.int .i64 (s.id:Int),.int .i64 (s.at_:Int),.bool l,.slice P1 n1 c1,.slice P2 n2 c2,.slice P3 n3 c3] 157 (0,0))):=by show _=_;rw[hN];exact k1.heap (heap_old (heap_old (heap_new w _) _) _) not_false
 have B1:Hid (w1.heap[N + 1]? = some (Obj.cells #[.bool l',.slice A1 m1 d1,.slice A2 m2 d2,.slice A3 m3 d3] 148 (0,0))):=by show _=_;rw[hN];exact k1.heap (heap_old (heap_newAt (by simp) _) _) not_false
 have B2:Hid (w1.heap[N + 1 + 1]? = some (Obj.cells #[.bool false,.slice none 0 0,.slice none 0 0,.slice none 0 0] 148 (0,0))):=by show _=_;rw[hN];exact k1.heap (heap_newAt (by simp) _) not_false
 have K1:Hid (Kept (fun _=>False) w w1):=by exact((((Kept.refl _ w).alloc _).alloc _).alloc _).trans k1
 have CP:=Lib.hid (TWput_calls (H.out.keptF K1.out) (HK.out.keptF K1.out).zero HF.out (Nat.le_trans HZ.out K1.out.size) (by have:=HL.out;omega))
 obtain⟨⟨⟨ti,te⟩,W'⟩,hp⟩:∃x,x=putP W kid:=⟨_,rfl⟩
 rw[←hp] at CP HP
 unfold PutTo at CP
 dsimp only at CP HP
 rw[←hN]
 obtain⟨d0,d1',d2',d3'⟩:=nd_cells B1.out
 clear k1 CU hN hp
 go_wp2_with fail
 refine CP.out.mono ?_
 rintro e w2 ⟨rfl,vf',hw,hk2,hv⟩
 have PK:Hid (∀ {k:Nat} {o:Obj},N≤k→w1.heap[k]? = some o→w2.heap[k]? = some o):=fun hk ho=>put_keeps H.out K1.out hk2 (by rw[←HN.out];exact hk) ho
 have b0:=PK.out (Nat.le_refl _) B0.out
 have b2:=PK.out (by omega) B2.out
 have HB2:=Lib.hid b2
 have HW:=Lib.hid hw;have HK2:=Lib.hid hk2;have HV:=Lib.hid hv
 have x1:w2.cell? ⟨N,1,none⟩=some (.int .i64 s.at_):=(cell_heap b0 1).trans rfl
 have x2:w2.cell? ⟨N,2,none⟩=some (.bool l):=(cell_heap b0 2).trans rfl
 have x3:w2.cell? ⟨N,3,none⟩=some (.slice P1 n1 c1):=(cell_heap b0 3).trans rfl
 have x4:w2.cell? ⟨N,4,none⟩=some (.slice P2 n2 c2):=(cell_heap b0 4).trans rfl
 have x5:w2.cell? ⟨N,5,none⟩=some (.slice P3 n3 c3):=(cell_heap b0 5).trans rfl
 have CR:=Lib.hid fun w' (kk:Kept (fun _=>False) w2 w') (vi:Value) (hi:IRow w' 0 vi [ti])=>TWrepl1_calls ((((HS.out.keptF K1.out).kept hk2 (fun g hg=>.inl (by rcases hg with e|e|e|e;exact .inl e;exact .inr (.inl e);exact .inr (.inr (.inl e));exact .inr (.inr (.inr (.inl e))))) (S':=fun _=>False) fun _ e=>e.elim).keptF kk).zero) hi (.inl rfl) [] s.at_ HAT.out (HOK.out.inner HLF.out).2.1 (by have:=HOK.out.len;omega)
 rw[show ba []=⟨#[]⟩ from rfl] at CR
 have HN2:Hid (w.heap.size≤w2.heap.size):=by have:=K1.out.size;have:=hk2.size;show _≤_;omega
 have WA:Hid (∀u:Nat,IRow (w2.alloc (.cells #[.int .i64 (u:Nat)] 3)) 0 (.slice (some ⟨w2.heap.size,0,none⟩) 1 1) [u]):=fun u=>own_list (L := [.int .i64 u]) (n:=1) (heap_new w2 _) (Nat.zero_le _) (by simp) (by simp[maxLen]) rfl rfl
 clear b0 b2 hw hk2 hv CP d0 d1' d2' d3' hat20
 have hat20:s.at_≤20:=by have:=HOK.out.len;have:=HAT.out;omega
 go_wp2_with fail
 refine(CR.out _ ((Kept.refl _ w2).alloc _) _ (WA.out ti)).mono ?_
 rintro e w3 ⟨vn,rfl,hn,k3⟩
 obtain⟨lb,X1,y1,z1,X2,y2,z2,X3,y3,z3,rfl⟩:=hn.agg
 have K3:=Lib.hid (((Kept.refl (fun _=>False) w2).alloc _).trans k3)
 have NN:=Lib.hid (hn.base (B':=w2.heap.size) (by simp))
 have hb3:=K3.out.heap HB2.out not_false
 have HB3:=Lib.hid hb3
 obtain⟨d0,d1',d2',d3'⟩:=nd_cells hb3
 have fz:∀i,w3.frozen? ⟨N + 1 + 1,i,none⟩=false:=fun i=>free_heap hb3 i
 clear hn k3 CR hb3 x1 x2 x3 x4 x5
 go_wp2_with fail
 have hb4:=set4_heap HB3.out (by simp) (.bool lb) (.slice X1 y1 z1) (.slice X2 y2 z2) (.slice X3 y3 z3)
 have k4:=set4_kept w3 (N + 1 + 1) (.bool lb) (.slice X1 y1 z1) (.slice X2 y2 z2) (.slice X3 y3 z3)
 obtain⟨e0,e1,e2,e3⟩:=nd_cells hb4
 refine bodyPost_ret (v:=.tuple #[.agg #[.bool lb,.slice X1 y1 z1,.slice X2 y2 z2,.slice X3 y3 z3],.int .i64 te]) (by simp[results,Tryz.f90,go_sem,e0,e1,e2,e3]) rfl ?_
 rw[HP.out]
 have hn:=HN.out
 refine⟨_,vf',vo,rfl,NdAp.new HW.out (NN.out.keptB HB3.out k4 fun _ e=>e) (Nat.le_refl _),(HW.out.keptF K3.out).asideOne HB3.out k4 (by decide) (by decide) (by decide),?_,fun g hg=>?_⟩
 ·refine(((K1.out.mono fun _ _=>False.elim).then HK2.out fun i hi e=>?_).then K3.out fun i hi e=>e.elim).then k4 fun i hi e=>by omega
  rcases e with e|e|e|e
  ·exact .inl e
  ·exact .inr (.inl e)
  ·exact .inr (.inr (.inl e))
  ·exact .inr (.inr (.inr (.inl e)))
 ·rcases hg with e|e|e|e|e
  ·exact .inl (.inl e)
  ·exact .inl (.inr (.inl e))
  ·exact .inl (.inr (.inr (.inl e)))
  ·rcases HV.out g e with e|e
   ·exact .inl (.inr (.inr (.inr (.inl e))))
   ·exact .inr (Nat.le_trans K1.out.size e)
  ·exact .inl (.inr (.inr (.inr (.inr e))))
end Go.Proofs.YtfgjehecjgebdaaGreat
/- The tree: level, where the kid beside can't be read or is of the other kind. -/
namespace Go.Proofs.YtfgjehecjgebdaaGreat
open Go.RowKit Go.Maps Go.ChangeMaps
attribute [local go_sem] Oper.semAt_some
theorem IRow.at_ {w B g a c T j} (hr:IRow w B (.slice (some ⟨g,0,none⟩) a c) T) (hj:j < T.length):w.cell? ⟨g,j,none⟩=some (.int .i64 (T[j]:Nat)):=by
 have hl:a=T.length:=by
  rcases hr.2 with⟨e,_⟩|⟨g',cap,cur,e,_⟩
  ·cases e
  ·injection e
 subst hl
 have h1:=World.ownsRow.cellAt hr j (by rw[Nat.mul_one];exact hj)
 rw[h1]
 simp[hj,I]
theorem kid_cell {w B v n l P1 n1 c1 P2 n2 c2 P3 n3 c3} (h:IsNd w B v n) (e:v = .agg #[.bool l,.slice P1 n1 c1,.slice P2 n2 c2,.slice P3 n3 c3]) {i:Nat} (hi:i < n.kids.length) :
  n3=n.kids.length ∧ ∃g,P3=some ⟨g,0,none⟩∧g < w.heap.size∧w.cell? ⟨g,i,none⟩=some (.int .i64 (n.kids.getD i 0:Nat)):=by
 obtain⟨l',A1,m1,d1,A2,m2,d2,A3,m3,d3,e',HE, -, -, -,h3⟩:=h.opened
 rw[e] at e'
 injection e' with e'
 injection e' with e'
 injection e' with _ e'
 injection e' with _ e'
 injection e' with _ e'
 injection e' with e3 _
 injection e3 with ep en ec
 subst ep en ec
 have hl:=HE.out.2.2.2
 have h3:=h3.out
 obtain⟨g,c,ev⟩:=own_form h3 (by omega)
 injection ev with e1 _ _
 subst e1
 refine⟨hl,g,rfl,own_lt h3 rfl,?_⟩
 rw[IRow.at_ h3 hi]
 simp[hi,List.getD]
theorem key_cell {w B v n l P1 n1 c1 P2 n2 c2 P3 n3 c3} (h:IsNd w B v n) (e:v = .agg #[.bool l,.slice P1 n1 c1,.slice P2 n2 c2,.slice P3 n3 c3]) {i:Nat} (hi:i < n.keys.length) :
  n1=n.keys.length ∧ ∃g,P1=some ⟨g,0,none⟩∧g < w.heap.size∧w.cell? ⟨g,i,none⟩=some (.string (ba (n.keys.getD i []))) ∧ ∃cs f,w.heap[g]? = some (.cells cs 9 f):=by
 obtain⟨l',A1,m1,d1,A2,m2,d2,A3,m3,d3,e',HE, -,h1, -, -⟩:=h.opened
 rw[e] at e'
 injection e' with e'
 injection e' with e'
 injection e' with _ e'
 injection e' with e1 _
 injection e1 with ep en ec
 subst ep en ec
 have hl:=HE.out.2.1
 have h1:=h1.out
 obtain⟨g,c,ev⟩:=own_form h1 (by omega)
 injection ev with e1 _ _
 subst e1
 refine⟨hl,g,rfl,own_lt h1 rfl,?_,own_type h1 rfl⟩
 rw[SRow.at_ h1 hi]
 simp[hi,Ss,List.getD]
set_option maxHeartbeats 2000000 in
theorem TWlevel_load_a {w q wk vf vo W root Z} {s:Stp} {l:Bool} {P1 P2 P3:Option Addr} {n1 c1 n2 c2 n3 c3:Nat} {vk:Value} {kid:Nd} (h:WkW w q wk vf vo W root Z) (hs:NdAp w (wkS q wk vf vo) (.agg #[.bool l,.slice P1 n1 c1,.slice P2 n2 c2,.slice P3 n3 c3]) s.n) (hk:NdAp w (wkS q wk vf vo) vk kid)
  (hok:s.n.Ok) (hat:s.at_ + 1≤s.n.kids.length) (hlf:s.n.leaf=false) (hm:s.at_=0) (hu:kid.under=true) (he:(W.X.load (lvOther s)).2 ≠ 0) :
  Calls Tryz.prog 90 #[.pointer (some ⟨wk,0,none⟩),.agg #[.int .i64 (s.id:Int),.int .i64 (s.at_:Int),.bool l,.slice P1 n1 c1,.slice P2 n2 c2,.slice P3 n3 c3],vk] w (LevTo (levelP W s kid) w q wk vf vo root Z):=by
 have CU:=Lib.hid fun w' (kk:Kept (fun _=>False) w w')=>NdUnder_calls (hk.zero.kept kk)
 rw[hu] at CU
 obtain⟨l',A1,m1,d1,A2,m2,d2,A3,m3,d3,rfl⟩:=hk.zero.agg
 have HP:Hid (levelP W s kid=(nd0,(W.X.load (lvOther s)).2,W)):=by show _=_;unfold levelP;rw[if_neg (by simp[hu]),if_pos he]
 obtain⟨r,hr⟩:∃r,r=levelP W s kid:=⟨_,rfl⟩
 rw[←hr] at HP⊢
 have hlk:=hok.len
 have hot:lvOther s=s.n.kids.getD 1 0:=by unfold lvOther lvLeft;rw[if_pos (by omega),hm]
 have hk2:=(hok.inner hlf).1
 obtain⟨hn3,g,rfl,hg,hg0⟩:=kid_cell hs.zero rfl (i:=0) (by omega)
 obtain⟨-,g',eg, -,hgc⟩:=kid_cell hs.zero rfl (i:=1) (by omega)
 injection eg with eg
 injection eg with eg
 subst eg
 rw[←hot] at hgc
 obtain⟨k0,hk0⟩:∃k,k=s.n.kids.getD 0 0:=⟨_,rfl⟩
 rw[←hk0] at hg0
 have hmn:1 < n3:=by omega
 have hmn0:0 < n3:=by omega
 have CL:=Lib.hid fun w' (kk:Kept (fun _=>False) w w')=>TreeLoad_calls (h.keptF kk).tw (lvOther s)
 obtain⟨ot,hot'⟩:∃o,o=lvOther s:=⟨_,rfl⟩
 rw[←hot'] at hgc CL HP he
 have H:=Lib.hid h;have HS:=Lib.hid hs;have HK:=Lib.hid hk;have HOK:=Lib.hid hok;have HAT:=Lib.hid hat;have HE:=Lib.hid he
 rw[hm]
 have g2:max (-1:Int) 0=0:=by decide
 have cwk:=(wk_cells h.blk).1
 have lwk:=lt_heap h.blk
 clear h hs hk hok hat hu hr hm hot hot' hk0 hk2 hlf he hn3 hlk
 go_enter Tryz.func90,Tryz.ntmps90
 go_wp2_with fail
 refine(CU.out _ (by repeat (first|exact Kept.refl _ _|refine Kept.alloc ?_ _))).mono ?_
 rintro e w1 ⟨rfl,k1⟩
 obtain⟨N,hN⟩:∃N,N=w.heap.size:=⟨_,rfl⟩
 have HN:=Lib.hid hN
 have B0:Hid (w1.heap[N]? = some (Obj.cells #[.int .i64 (s.id:Int),.int .i64 ((0:Nat):Int),.bool l,.slice P1 n1 c1,.slice P2 n2 c2,.slice (some ⟨g,0,none⟩) n3 c3] 157 (0,0))):=by show _=_;rw[hN];exact k1.heap (heap_old (heap_old (heap_new w _) _) _) not_false
 have B1:Hid (w1.heap[N + 1]? = some (Obj.cells #[.bool l',.slice A1 m1 d1,.slice A2 m2 d2,.slice A3 m3 d3] 148 (0,0))):=by show _=_;rw[hN];exact k1.heap (heap_old (heap_newAt (by simp) _) _) not_false
 have B2:Hid (w1.heap[N + 1 + 1]? = some (Obj.cells #[.bool false,.slice none 0 0,.slice none 0 0,.slice none 0 0] 148 (0,0))):=by show _=_;rw[hN];exact k1.heap (heap_newAt (by simp) _) not_false
 have K1:Hid (Kept (fun _=>False) w w1):=by exact((((Kept.refl _ w).alloc _).alloc _).alloc _).trans k1
 rw[←hN]
 have hgc1:w1.cell? ⟨g,1,none⟩=some (.int .i64 (ot:Nat)):=(World.cell?_of_block (K1.out.block g hg id)).trans hgc
 have hgc0:w1.cell? ⟨g,0,none⟩=some (.int .i64 (k0:Nat)):=(World.cell?_of_block (K1.out.block g hg id)).trans hg0
 have x1:w1.cell? ⟨N,1,none⟩=some (.int .i64 ((0:Nat):Int)):=(cell_heap B0.out 1).trans rfl
 have x2:w1.cell? ⟨N,2,none⟩=some (.bool l):=(cell_heap B0.out 2).trans rfl
 have x3:w1.cell? ⟨N,3,none⟩=some (.slice P1 n1 c1):=(cell_heap B0.out 3).trans rfl
 have x4:w1.cell? ⟨N,4,none⟩=some (.slice P2 n2 c2):=(cell_heap B0.out 4).trans rfl
 have x5:w1.cell? ⟨N,5,none⟩=some (.slice (some ⟨g,0,none⟩) n3 c3):=(cell_heap B0.out 5).trans rfl
 have cwk1:w1.cell? ⟨wk,0,none⟩=some (.pointer (some ⟨q.t,0,none⟩)):=(World.cell?_of_block (K1.out.block wk lwk id)).trans cwk
 clear k1 CU hN cwk lwk hgc hg hg0
 go_wp2_with fail
 refine(CL.out _ K1.out).mono ?_
 rintro e w2 ⟨k2,vb,rfl,hb⟩
 obtain⟨lb,X1,y1,z1,X2,y2,z2,X3,y3,z3,rfl⟩:=hb.agg
 have K2:=Lib.hid (K1.out.trans k2)
 have hb2:=k2.heap B2.out not_false
 have HB2:=Lib.hid hb2
 have lb2:=lt_heap hb2
 obtain⟨d0,d1',d2',d3'⟩:=nd_cells hb2
 have fz:∀i,w2.frozen? ⟨N + 1 + 1,i,none⟩=false:=fun i=>free_heap hb2 i
 obtain⟨er,her⟩:∃e,e=(W.X.load (ot:Int)).2:=⟨_,rfl⟩
 rw[←her] at HP HE⊢
 have hz1:(er == 0)=false:=by rw[beq_eq_false_iff_ne];exact HE.out
 have hz2:(er != 0)=true:=by rw[bne_iff_ne];exact HE.out
 clear hb k2 CL hb2 her x1 x2 x3 x4 x5 cwk1 hgc1 hgc0
 go_wp2_with fail
 have hb4:=set4_heap HB2.out (by simp) (.bool false) (.slice none 0 0) (.slice none 0 0) (.slice none 0 0)
 have k4:=set4_kept w2 (N + 1 + 1) (.bool false) (.slice none 0 0) (.slice none 0 0) (.slice none 0 0)
 have hb5:=heap_old hb4 (.cells #[.bool lb,.slice X1 y1 z1,.slice X2 y2 z2,.slice X3 y3 z3] 148)
 have k5:=(Kept.refl (fun _=>False) ((((w2.setCell ⟨N + 1 + 1,0,none⟩ (.bool false)).setCell ⟨N + 1 + 1,1,none⟩ (.slice none 0 0)).setCell ⟨N + 1 + 1,2,none⟩ (.slice none 0 0)).setCell ⟨N + 1 + 1,3,none⟩ (.slice none 0 0))).alloc (.cells #[.bool lb,.slice X1 y1 z1,.slice X2 y2 z2,.slice X3 y3 z3] 148)
 obtain⟨e0,e1,e2,e3⟩:=nd_cells hb5
 refine bodyPost_ret (v:=.tuple #[.agg #[.bool false,.slice none 0 0,.slice none 0 0,.slice none 0 0],.int .i64 er]) (by simp[results,Tryz.f90,go_sem,e0,e1,e2,e3]) rfl ?_
 rw[HP.out]
 have hn:=HN.out
 refine⟨_,vf,vo,rfl,NdAp.new H.out (nd0_is _ w.heap.size) (Nat.le_refl _),((H.out.keptF K2.out).asideOne HB2.out k4 (by decide) (by decide) (by decide)).keptF k5,?_,fun g hg=>.inl hg⟩
 exact(((K2.out.mono fun _ _=>False.elim).then k4 fun i hi e=>by omega)).then k5 fun i hi e=>e.elim
set_option maxHeartbeats 2000000 in
theorem TWlevel_kind_a {w q wk vf vo W root Z} {s:Stp} {l:Bool} {P1 P2 P3:Option Addr} {n1 c1 n2 c2 n3 c3:Nat} {vk:Value} {kid:Nd} (h:WkW w q wk vf vo W root Z) (hs:NdAp w (wkS q wk vf vo) (.agg #[.bool l,.slice P1 n1 c1,.slice P2 n2 c2,.slice P3 n3 c3]) s.n) (hk:NdAp w (wkS q wk vf vo) vk kid)
  (hok:s.n.Ok) (hat:s.at_ + 1≤s.n.kids.length) (hlf:s.n.leaf=false) (hm:s.at_=0) (hu:kid.under=true) (he:(W.X.load (lvOther s)).2=0) (hkd:(W.X.load (lvOther s)).1.leaf ≠ kid.leaf) :
  Calls Tryz.prog 90 #[.pointer (some ⟨wk,0,none⟩),.agg #[.int .i64 (s.id:Int),.int .i64 (s.at_:Int),.bool l,.slice P1 n1 c1,.slice P2 n2 c2,.slice P3 n3 c3],vk] w (LevTo (levelP W s kid) w q wk vf vo root Z):=by
 have CU:=Lib.hid fun w' (kk:Kept (fun _=>False) w w')=>NdUnder_calls (hk.zero.kept kk)
 rw[hu] at CU
 obtain⟨l',A1,m1,d1,A2,m2,d2,A3,m3,d3,rfl⟩:=hk.zero.agg
 have HP:Hid (levelP W s kid=(nd0,17,W)):=by show _=_;unfold levelP;rw[if_neg (by simp[hu]),if_neg (by simp[he]),if_pos hkd]
 have HKD:=Lib.hid hkd
 obtain⟨r,hr⟩:∃r,r=levelP W s kid:=⟨_,rfl⟩
 rw[←hr] at HP⊢
 have hlk:=hok.len
 have hot:lvOther s=s.n.kids.getD 1 0:=by unfold lvOther lvLeft;rw[if_pos (by omega),hm]
 have hk2:=(hok.inner hlf).1
 obtain⟨hn3,g,rfl,hg,hg0⟩:=kid_cell hs.zero rfl (i:=0) (by omega)
 obtain⟨-,g',eg, -,hgc⟩:=kid_cell hs.zero rfl (i:=1) (by omega)
 injection eg with eg
 injection eg with eg
 subst eg
 rw[←hot] at hgc
 obtain⟨k0,hk0⟩:∃k,k=s.n.kids.getD 0 0:=⟨_,rfl⟩
 rw[←hk0] at hg0
 have hmn:1 < n3:=by omega
 have hmn0:0 < n3:=by omega
 have CL:=Lib.hid fun w' (kk:Kept (fun _=>False) w w')=>TreeLoad_calls (h.keptF kk).tw (lvOther s)
 obtain⟨ot,hot'⟩:∃o,o=lvOther s:=⟨_,rfl⟩
 rw[←hot'] at hgc CL he HKD
 have H:=Lib.hid h;have HS:=Lib.hid hs;have HK:=Lib.hid hk;have HOK:=Lib.hid hok;have HAT:=Lib.hid hat;have HE:=Lib.hid he
 rw[hm]
 have g2:max (-1:Int) 0=0:=by decide
 have cwk:=(wk_cells h.blk).1
 have lwk:=lt_heap h.blk
 clear h hs hk hok hat hu hr hm hot hot' hk0 hk2 hlf he hkd hn3 hlk
 go_enter Tryz.func90,Tryz.ntmps90
 go_wp2_with fail
 refine(CU.out _ (by repeat (first|exact Kept.refl _ _|refine Kept.alloc ?_ _))).mono ?_
 rintro e w1 ⟨rfl,k1⟩
 obtain⟨N,hN⟩:∃N,N=w.heap.size:=⟨_,rfl⟩
 have HN:=Lib.hid hN
 have B0:Hid (w1.heap[N]? = some (Obj.cells #[.int .i64 (s.id:Int),.int .i64 ((0:Nat):Int),.bool l,.slice P1 n1 c1,.slice P2 n2 c2,.slice (some ⟨g,0,none⟩) n3 c3] 157 (0,0))):=by show _=_;rw[hN];exact k1.heap (heap_old (heap_old (heap_new w _) _) _) not_false
 have B1:Hid (w1.heap[N + 1]? = some (Obj.cells #[.bool l',.slice A1 m1 d1,.slice A2 m2 d2,.slice A3 m3 d3] 148 (0,0))):=by show _=_;rw[hN];exact k1.heap (heap_old (heap_newAt (by simp) _) _) not_false
 have B2:Hid (w1.heap[N + 1 + 1]? = some (Obj.cells #[.bool false,.slice none 0 0,.slice none 0 0,.slice none 0 0] 148 (0,0))):=by show _=_;rw[hN];exact k1.heap (heap_newAt (by simp) _) not_false
 have K1:Hid (Kept (fun _=>False) w w1):=by exact((((Kept.refl _ w).alloc _).alloc _).alloc _).trans k1
 rw[←hN]
 have hgc1:w1.cell? ⟨g,1,none⟩=some (.int .i64 (ot:Nat)):=(World.cell?_of_block (K1.out.block g hg id)).trans hgc
 have hgc0:w1.cell? ⟨g,0,none⟩=some (.int .i64 (k0:Nat)):=(World.cell?_of_block (K1.out.block g hg id)).trans hg0
 have x1:w1.cell? ⟨N,1,none⟩=some (.int .i64 ((0:Nat):Int)):=(cell_heap B0.out 1).trans rfl
 have x2:w1.cell? ⟨N,2,none⟩=some (.bool l):=(cell_heap B0.out 2).trans rfl
 have x3:w1.cell? ⟨N,3,none⟩=some (.slice P1 n1 c1):=(cell_heap B0.out 3).trans rfl
 have x4:w1.cell? ⟨N,4,none⟩=some (.slice P2 n2 c2):=(cell_heap B0.out 4).trans rfl
 have x5:w1.cell? ⟨N,5,none⟩=some (.slice (some ⟨g,0,none⟩) n3 c3):=(cell_heap B0.out 5).trans rfl
 have cwk1:w1.cell? ⟨wk,0,none⟩=some (.pointer (some ⟨q.t,0,none⟩)):=(World.cell?_of_block (K1.out.block wk lwk id)).trans cwk
 clear k1 CU hN cwk lwk hgc hg hg0
 go_wp2_with fail
 refine(CL.out _ K1.out).mono ?_
 rintro e w2 ⟨k2,vb,rfl,hb⟩
 obtain⟨lb,X1,y1,z1,X2,y2,z2,X3,y3,z3,rfl⟩:=hb.agg
 have K2:=Lib.hid (K1.out.trans k2)
 have hb2:=k2.heap B2.out not_false
 have HB2:=Lib.hid hb2
 have lb2:=lt_heap hb2
 obtain⟨d0,d1',d2',d3'⟩:=nd_cells hb2
 have fz:∀i,w2.frozen? ⟨N + 1 + 1,i,none⟩=false:=fun i=>free_heap hb2 i
 have HO:=Lib.hid hb.opened
 have HO2:=Lib.hid HK.out.zero.opened
 have e0:(W.X.load (ot:Int)).2=0:=HE.out
 rw[e0]
 have hne:(lb != l')=true:=by
  obtain⟨_,_,_,_,_,_,_,_,_,_,e,h1, -⟩:=HO.out
  obtain⟨_,_,_,_,_,_,_,_,_,_,e',h2, -⟩:=HO2.out
  injection e with e;injection e with e;injection e with e _;injection e with e
  injection e' with e';injection e' with e';injection e' with e' _;injection e' with e'
  rw[bne_iff_ne,e,e',h1.out.1,h2.out.1]
  exact HKD.out
 have hne2:(lb == l')=false:=by rw[beq_eq_false_iff_ne];exact bne_iff_ne.1 hne
 have hne3:¬lb=l':=bne_iff_ne.1 hne
 have hb21:=k2.heap B1.out not_false
 have lb21:=lt_heap hb21
 obtain⟨f0, -, -, -⟩:=nd_cells hb21
 clear hb k2 CL hb2 e0 hb21 x1 x2 x3 x4 x5 cwk1 hgc1 hgc0
 go_wp2_with fail
 have hb4:=set4_heap HB2.out (by simp) (.bool false) (.slice none 0 0) (.slice none 0 0) (.slice none 0 0)
 have k4:=set4_kept w2 (N + 1 + 1) (.bool false) (.slice none 0 0) (.slice none 0 0) (.slice none 0 0)
 have hb5:=heap_old hb4 (.cells #[.bool lb,.slice X1 y1 z1,.slice X2 y2 z2,.slice X3 y3 z3] 148)
 have k5:=(Kept.refl (fun _=>False) ((((w2.setCell ⟨N + 1 + 1,0,none⟩ (.bool false)).setCell ⟨N + 1 + 1,1,none⟩ (.slice none 0 0)).setCell ⟨N + 1 + 1,2,none⟩ (.slice none 0 0)).setCell ⟨N + 1 + 1,3,none⟩ (.slice none 0 0))).alloc (.cells #[.bool lb,.slice X1 y1 z1,.slice X2 y2 z2,.slice X3 y3 z3] 148)
 obtain⟨e0,e1,e2,e3⟩:=nd_cells hb5
 refine bodyPost_ret (v:=.tuple #[.agg #[.bool false,.slice none 0 0,.slice none 0 0,.slice none 0 0],.int .i64 17]) (by simp[results,Tryz.f90,go_sem,e0,e1,e2,e3]) rfl ?_
 rw[HP.out]
 have hn:=HN.out
 refine⟨_,vf,vo,rfl,NdAp.new H.out (nd0_is _ w.heap.size) (Nat.le_refl _),((H.out.keptF K2.out).asideOne HB2.out k4 (by decide) (by decide) (by decide)).keptF k5,?_,fun g hg=>.inl hg⟩
 exact(((K2.out.mono fun _ _=>False.elim).then k4 fun i hi e=>by omega)).then k5 fun i hi e=>e.elim
set_option maxHeartbeats 2000000 in
theorem TWlevel_load_b {w q wk vf vo W root Z} {s:Stp} {m:Nat} {l:Bool} {P1 P2 P3:Option Addr} {n1 c1 n2 c2 n3 c3:Nat} {vk:Value} {kid:Nd} (h:WkW w q wk vf vo W root Z) (hs:NdAp w (wkS q wk vf vo) (.agg #[.bool l,.slice P1 n1 c1,.slice P2 n2 c2,.slice P3 n3 c3]) s.n) (hk:NdAp w (wkS q wk vf vo) vk kid)
  (hok:s.n.Ok) (hat:s.at_ + 1≤s.n.kids.length) (hm:s.at_=m + 1) (hu:kid.under=true) (he:(W.X.load (lvOther s)).2 ≠ 0) :
  Calls Tryz.prog 90 #[.pointer (some ⟨wk,0,none⟩),.agg #[.int .i64 (s.id:Int),.int .i64 (s.at_:Int),.bool l,.slice P1 n1 c1,.slice P2 n2 c2,.slice P3 n3 c3],vk] w (LevTo (levelP W s kid) w q wk vf vo root Z):=by
 have CU:=Lib.hid fun w' (kk:Kept (fun _=>False) w w')=>NdUnder_calls (hk.zero.kept kk)
 rw[hu] at CU
 obtain⟨l',A1,m1,d1,A2,m2,d2,A3,m3,d3,rfl⟩:=hk.zero.agg
 have HP:Hid (levelP W s kid=(nd0,(W.X.load (lvOther s)).2,W)):=by show _=_;unfold levelP;rw[if_neg (by simp[hu]),if_pos he]
 obtain⟨r,hr⟩:∃r,r=levelP W s kid:=⟨_,rfl⟩
 rw[←hr] at HP⊢
 have hlk:=hok.len
 have hot:lvOther s=s.n.kids.getD m 0:=by unfold lvOther lvLeft;rw[if_neg (by omega),hm,Nat.add_sub_cancel]
 obtain⟨hn3,g,rfl,hg,hgc⟩:=kid_cell hs.zero rfl (i:=m) (by omega)
 rw[←hot] at hgc
 have hm20:m≤20:=by omega
 have hmn:m < n3:=by omega
 have CL:=Lib.hid fun w' (kk:Kept (fun _=>False) w w')=>TreeLoad_calls (h.keptF kk).tw (lvOther s)
 obtain⟨ot,hot'⟩:∃o,o=lvOther s:=⟨_,rfl⟩
 rw[←hot'] at hgc CL HP he
 have H:=Lib.hid h;have HS:=Lib.hid hs;have HK:=Lib.hid hk;have HOK:=Lib.hid hok;have HAT:=Lib.hid hat;have HE:=Lib.hid he
 rw[hm]
 have g1:((m:Int) == (m:Int) + 1)=false:=by rw[beq_eq_false_iff_ne];omega
 have g2:max (m:Int) 0=m:=by omega
 have cwk:=(wk_cells h.blk).1
 have lwk:=lt_heap h.blk
 clear h hs hk hok hat hu hr hm hot hot' he hn3 hlk
 go_enter Tryz.func90,Tryz.ntmps90
 go_wp2_with fail
 refine(CU.out _ (by repeat (first|exact Kept.refl _ _|refine Kept.alloc ?_ _))).mono ?_
 rintro e w1 ⟨rfl,k1⟩
 obtain⟨N,hN⟩:∃N,N=w.heap.size:=⟨_,rfl⟩
 have HN:=Lib.hid hN
 have B0:Hid (w1.heap[N]? = some (Obj.cells #[.int .i64 (s.id:Int),.int .i64 ((m + 1:Nat):Int),.bool l,.slice P1 n1 c1,.slice P2 n2 c2,.slice (some ⟨g,0,none⟩) n3 c3] 157 (0,0))):=by show _=_;rw[hN];exact k1.heap (heap_old (heap_old (heap_new w _) _) _) not_false
 have B1:Hid (w1.heap[N + 1]? = some (Obj.cells #[.bool l',.slice A1 m1 d1,.slice A2 m2 d2,.slice A3 m3 d3] 148 (0,0))):=by show _=_;rw[hN];exact k1.heap (heap_old (heap_newAt (by simp) _) _) not_false
 have B2:Hid (w1.heap[N + 1 + 1]? = some (Obj.cells #[.bool false,.slice none 0 0,.slice none 0 0,.slice none 0 0] 148 (0,0))):=by show _=_;rw[hN];exact k1.heap (heap_newAt (by simp) _) not_false
 have K1:Hid (Kept (fun _=>False) w w1):=by exact((((Kept.refl _ w).alloc _).alloc _).alloc _).trans k1
 rw[←hN]
 have hgc1:w1.cell? ⟨g,m,none⟩=some (.int .i64 (ot:Nat)):=(World.cell?_of_block (K1.out.block g hg id)).trans hgc
 have x1:w1.cell? ⟨N,1,none⟩=some (.int .i64 ((m + 1:Nat):Int)):=(cell_heap B0.out 1).trans rfl
 have x2:w1.cell? ⟨N,2,none⟩=some (.bool l):=(cell_heap B0.out 2).trans rfl
 have x3:w1.cell? ⟨N,3,none⟩=some (.slice P1 n1 c1):=(cell_heap B0.out 3).trans rfl
 have x4:w1.cell? ⟨N,4,none⟩=some (.slice P2 n2 c2):=(cell_heap B0.out 4).trans rfl
 have x5:w1.cell? ⟨N,5,none⟩=some (.slice (some ⟨g,0,none⟩) n3 c3):=(cell_heap B0.out 5).trans rfl
 have cwk1:w1.cell? ⟨wk,0,none⟩=some (.pointer (some ⟨q.t,0,none⟩)):=(World.cell?_of_block (K1.out.block wk lwk id)).trans cwk
 clear k1 CU hN cwk lwk hgc hg
 go_wp2_with fail
 refine(CL.out _ K1.out).mono ?_
 rintro e w2 ⟨k2,vb,rfl,hb⟩
 obtain⟨lb,X1,y1,z1,X2,y2,z2,X3,y3,z3,rfl⟩:=hb.agg
 have K2:=Lib.hid (K1.out.trans k2)
 have hb2:=k2.heap B2.out not_false
 have HB2:=Lib.hid hb2
 have lb2:=lt_heap hb2
 obtain⟨d0,d1',d2',d3'⟩:=nd_cells hb2
 have fz:∀i,w2.frozen? ⟨N + 1 + 1,i,none⟩=false:=fun i=>free_heap hb2 i
 obtain⟨er,her⟩:∃e,e=(W.X.load (ot:Int)).2:=⟨_,rfl⟩
 rw[←her] at HP HE⊢
 have hz1:(er == 0)=false:=by rw[beq_eq_false_iff_ne];exact HE.out
 have hz2:(er != 0)=true:=by rw[bne_iff_ne];exact HE.out
 clear hb k2 CL hb2 her x1 x2 x3 x4 x5 cwk1 hgc1
 go_wp2_with fail
 have hb4:=set4_heap HB2.out (by simp) (.bool false) (.slice none 0 0) (.slice none 0 0) (.slice none 0 0)
 have k4:=set4_kept w2 (N + 1 + 1) (.bool false) (.slice none 0 0) (.slice none 0 0) (.slice none 0 0)
 have hb5:=heap_old hb4 (.cells #[.bool lb,.slice X1 y1 z1,.slice X2 y2 z2,.slice X3 y3 z3] 148)
 have k5:=(Kept.refl (fun _=>False) ((((w2.setCell ⟨N + 1 + 1,0,none⟩ (.bool false)).setCell ⟨N + 1 + 1,1,none⟩ (.slice none 0 0)).setCell ⟨N + 1 + 1,2,none⟩ (.slice none 0 0)).setCell ⟨N + 1 + 1,3,none⟩ (.slice none 0 0))).alloc (.cells #[.bool lb,.slice X1 y1 z1,.slice X2 y2 z2,.slice X3 y3 z3] 148)
 obtain⟨e0,e1,e2,e3⟩:=nd_cells hb5
 refine bodyPost_ret (v:=.tuple #[.agg #[.bool false,.slice none 0 0,.slice none 0 0,.slice none 0 0],.int .i64 er]) (by simp[results,Tryz.f90,go_sem,e0,e1,e2,e3]) rfl ?_
 rw[HP.out]
 have hn:=HN.out
 refine⟨_,vf,vo,rfl,NdAp.new H.out (nd0_is _ w.heap.size) (Nat.le_refl _),((H.out.keptF K2.out).asideOne HB2.out k4 (by decide) (by decide) (by decide)).keptF k5,?_,fun g hg=>.inl hg⟩
 exact(((K2.out.mono fun _ _=>False.elim).then k4 fun i hi e=>by omega)).then k5 fun i hi e=>e.elim
set_option maxHeartbeats 2000000 in
theorem TWlevel_kind_b {w q wk vf vo W root Z} {s:Stp} {m:Nat} {l:Bool} {P1 P2 P3:Option Addr} {n1 c1 n2 c2 n3 c3:Nat} {vk:Value} {kid:Nd} (h:WkW w q wk vf vo W root Z) (hs:NdAp w (wkS q wk vf vo) (.agg #[.bool l,.slice P1 n1 c1,.slice P2 n2 c2,.slice P3 n3 c3]) s.n) (hk:NdAp w (wkS q wk vf vo) vk kid)
  (hok:s.n.Ok) (hat:s.at_ + 1≤s.n.kids.length) (hm:s.at_=m + 1) (hu:kid.under=true) (he:(W.X.load (lvOther s)).2=0) (hkd:(W.X.load (lvOther s)).1.leaf ≠ kid.leaf) :
  Calls Tryz.prog 90 #[.pointer (some ⟨wk,0,none⟩),.agg #[.int .i64 (s.id:Int),.int .i64 (s.at_:Int),.bool l,.slice P1 n1 c1,.slice P2 n2 c2,.slice P3 n3 c3],vk] w (LevTo (levelP W s kid) w q wk vf vo root Z):=by
 have CU:=Lib.hid fun w' (kk:Kept (fun _=>False) w w')=>NdUnder_calls (hk.zero.kept kk)
 rw[hu] at CU
 obtain⟨l',A1,m1,d1,A2,m2,d2,A3,m3,d3,rfl⟩:=hk.zero.agg
 have HP:Hid (levelP W s kid=(nd0,17,W)):=by show _=_;unfold levelP;rw[if_neg (by simp[hu]),if_neg (by simp[he]),if_pos hkd]
 have HKD:=Lib.hid hkd
 obtain⟨r,hr⟩:∃r,r=levelP W s kid:=⟨_,rfl⟩
 rw[←hr] at HP⊢
 have hlk:=hok.len
 have hot:lvOther s=s.n.kids.getD m 0:=by unfold lvOther lvLeft;rw[if_neg (by omega),hm,Nat.add_sub_cancel]
 obtain⟨hn3,g,rfl,hg,hgc⟩:=kid_cell hs.zero rfl (i:=m) (by omega)
 rw[←hot] at hgc
 have hm20:m≤20:=by omega
 have hmn:m < n3:=by omega
 have CL:=Lib.hid fun w' (kk:Kept (fun _=>False) w w')=>TreeLoad_calls (h.keptF kk).tw (lvOther s)
 obtain⟨ot,hot'⟩:∃o,o=lvOther s:=⟨_,rfl⟩
 rw[←hot'] at hgc CL he HKD
 have H:=Lib.hid h;have HS:=Lib.hid hs;have HK:=Lib.hid hk;have HOK:=Lib.hid hok;have HAT:=Lib.hid hat;have HE:=Lib.hid he
 rw[hm]
 have g1:((m:Int) == (m:Int) + 1)=false:=by rw[beq_eq_false_iff_ne];omega
 have g2:max (m:Int) 0=m:=by omega
 have cwk:=(wk_cells h.blk).1
 have lwk:=lt_heap h.blk
 clear h hs hk hok hat hu hr hm hot hot' he hkd hn3 hlk
 go_enter Tryz.func90,Tryz.ntmps90
 go_wp2_with fail
 refine(CU.out _ (by repeat (first|exact Kept.refl _ _|refine Kept.alloc ?_ _))).mono ?_
 rintro e w1 ⟨rfl,k1⟩
 obtain⟨N,hN⟩:∃N,N=w.heap.size:=⟨_,rfl⟩
 have HN:=Lib.hid hN
 have B0:Hid (w1.heap[N]? = some (Obj.cells #[.int .i64 (s.id:Int),.int .i64 ((m + 1:Nat):Int),.bool l,.slice P1 n1 c1,.slice P2 n2 c2,.slice (some ⟨g,0,none⟩) n3 c3] 157 (0,0))):=by show _=_;rw[hN];exact k1.heap (heap_old (heap_old (heap_new w _) _) _) not_false
 have B1:Hid (w1.heap[N + 1]? = some (Obj.cells #[.bool l',.slice A1 m1 d1,.slice A2 m2 d2,.slice A3 m3 d3] 148 (0,0))):=by show _=_;rw[hN];exact k1.heap (heap_old (heap_newAt (by simp) _) _) not_false
 have B2:Hid (w1.heap[N + 1 + 1]? = some (Obj.cells #[.bool false,.slice none 0 0,.slice none 0 0,.slice none 0 0] 148 (0,0))):=by show _=_;rw[hN];exact k1.heap (heap_newAt (by simp) _) not_false
 have K1:Hid (Kept (fun _=>False) w w1):=by exact((((Kept.refl _ w).alloc _).alloc _).alloc _).trans k1
 rw[←hN]
 have hgc1:w1.cell? ⟨g,m,none⟩=some (.int .i64 (ot:Nat)):=(World.cell?_of_block (K1.out.block g hg id)).trans hgc
 have x1:w1.cell? ⟨N,1,none⟩=some (.int .i64 ((m + 1:Nat):Int)):=(cell_heap B0.out 1).trans rfl
 have x2:w1.cell? ⟨N,2,none⟩=some (.bool l):=(cell_heap B0.out 2).trans rfl
 have x3:w1.cell? ⟨N,3,none⟩=some (.slice P1 n1 c1):=(cell_heap B0.out 3).trans rfl
 have x4:w1.cell? ⟨N,4,none⟩=some (.slice P2 n2 c2):=(cell_heap B0.out 4).trans rfl
 have x5:w1.cell? ⟨N,5,none⟩=some (.slice (some ⟨g,0,none⟩) n3 c3):=(cell_heap B0.out 5).trans rfl
 have cwk1:w1.cell? ⟨wk,0,none⟩=some (.pointer (some ⟨q.t,0,none⟩)):=(World.cell?_of_block (K1.out.block wk lwk id)).trans cwk
 clear k1 CU hN cwk lwk hgc hg
 go_wp2_with fail
 refine(CL.out _ K1.out).mono ?_
 rintro e w2 ⟨k2,vb,rfl,hb⟩
 obtain⟨lb,X1,y1,z1,X2,y2,z2,X3,y3,z3,rfl⟩:=hb.agg
 have K2:=Lib.hid (K1.out.trans k2)
 have hb2:=k2.heap B2.out not_false
 have HB2:=Lib.hid hb2
 have lb2:=lt_heap hb2
 obtain⟨d0,d1',d2',d3'⟩:=nd_cells hb2
 have fz:∀i,w2.frozen? ⟨N + 1 + 1,i,none⟩=false:=fun i=>free_heap hb2 i
 have HO:=Lib.hid hb.opened
 have HO2:=Lib.hid HK.out.zero.opened
 have e0:(W.X.load (ot:Int)).2=0:=HE.out
 rw[e0]
 have hne:(lb != l')=true:=by
  obtain⟨_,_,_,_,_,_,_,_,_,_,e,h1, -⟩:=HO.out
  obtain⟨_,_,_,_,_,_,_,_,_,_,e',h2, -⟩:=HO2.out
  injection e with e;injection e with e;injection e with e _;injection e with e
  injection e' with e';injection e' with e';injection e' with e' _;injection e' with e'
  rw[bne_iff_ne,e,e',h1.out.1,h2.out.1]
  exact HKD.out
 have hne2:(lb == l')=false:=by rw[beq_eq_false_iff_ne];exact bne_iff_ne.1 hne
 have hne3:¬lb=l':=bne_iff_ne.1 hne
 have hb21:=k2.heap B1.out not_false
 have lb21:=lt_heap hb21
 obtain⟨f0, -, -, -⟩:=nd_cells hb21
 clear hb k2 CL hb2 e0 hb21 x1 x2 x3 x4 x5 cwk1 hgc1
 go_wp2_with fail
 have hb4:=set4_heap HB2.out (by simp) (.bool false) (.slice none 0 0) (.slice none 0 0) (.slice none 0 0)
 have k4:=set4_kept w2 (N + 1 + 1) (.bool false) (.slice none 0 0) (.slice none 0 0) (.slice none 0 0)
 have hb5:=heap_old hb4 (.cells #[.bool lb,.slice X1 y1 z1,.slice X2 y2 z2,.slice X3 y3 z3] 148)
 have k5:=(Kept.refl (fun _=>False) ((((w2.setCell ⟨N + 1 + 1,0,none⟩ (.bool false)).setCell ⟨N + 1 + 1,1,none⟩ (.slice none 0 0)).setCell ⟨N + 1 + 1,2,none⟩ (.slice none 0 0)).setCell ⟨N + 1 + 1,3,none⟩ (.slice none 0 0))).alloc (.cells #[.bool lb,.slice X1 y1 z1,.slice X2 y2 z2,.slice X3 y3 z3] 148)
 obtain⟨e0,e1,e2,e3⟩:=nd_cells hb5
 refine bodyPost_ret (v:=.tuple #[.agg #[.bool false,.slice none 0 0,.slice none 0 0,.slice none 0 0],.int .i64 17]) (by simp[results,Tryz.f90,go_sem,e0,e1,e2,e3]) rfl ?_
 rw[HP.out]
 have hn:=HN.out
 refine⟨_,vf,vo,rfl,NdAp.new H.out (nd0_is _ w.heap.size) (Nat.le_refl _),((H.out.keptF K2.out).asideOne HB2.out k4 (by decide) (by decide) (by decide)).keptF k5,?_,fun g hg=>.inl hg⟩
 exact(((K2.out.mono fun _ _=>False.elim).then k4 fun i hi e=>by omega)).then k5 fun i hi e=>e.elim
end Go.Proofs.YtfgjehecjgebdaaGreat
/- The tree: what level's loop keeps. -/
namespace Go.Proofs.YtfgjehecjgebdaaGreat
open Go.RowKit Go.Maps Go.ChangeMaps
theorem wp_hide {P:Program} {c:Code} {Q:Exit→Act→World→Prop} {a:Act} {w:World} (h:∀a0,a0=a→c.wp P Q a0 w):c.wp P Q a w:=h a rfl
theorem levelP_eq {W:Wk} {s:Stp} {kid a b:Nd} {key:Bs} {left x:Nat} (hu:kid.under=true) (hx:lvOther s=x) (hlf:lvLeft s=left) (h0:(W.X.load x).2=0) (hl:(W.X.load x).1.leaf=kid.leaf)
  (ha:a=if left=s.at_ then kid else (W.X.load x).1) (hb:b=if left=s.at_ then (W.X.load x).1 else kid) (hk:s.n.keys.getD left []=key) :
  levelP W s kid=if (putAll (W.add x) (nLevel a key b)).2.1 ≠ 0 then (nd0,(putAll (W.add x) (nLevel a key b)).2.1,(putAll (W.add x) (nLevel a key b)).2.2) else (s.n.repl left (left + 2) (putAll (W.add x) (nLevel a key b)).1 (if (nLevel a key b).length=2 then nBetween a key b else []),0,(putAll (W.add x) (nLevel a key b)).2.2):=by
 unfold levelP
 rw[if_neg (by simp[hu]),hx,if_neg (by simp[h0]),if_neg (by simp[hl]),hlf,hk, ←ha, ←hb]
theorem putP_fr1 (W:Wk) (n:Nd):(putP W n).2.fresh.length≤W.fresh.length + 1:=by
 unfold putP
 split
 ·simp
 ·split<;>simp
theorem putAll_step {U U':Wk} {n:Nd} {ti:Nat} (h:putP U n=((ti,0),U')) (l:List Nd):putAll U (n :: l)=(ti :: (putAll U' l).1,(putAll U' l).2)∧U'.fresh.length≤U.fresh.length + 1:=by
 have hf:=putP_fr1 U n
 simp only[putAll]
 rw[h] at hf⊢
 exact⟨by rw[if_neg (by simp)],hf⟩
theorem putAll_bad {U U':Wk} {n:Nd} {ti:Nat} {te:Int} (h:putP U n=((ti,te),U')) (hz:te ≠ 0) (l:List Nd):putAll U (n :: l)=([],te,U'):=by
 simp only[putAll]
 rw[h,if_pos hz]
theorem parts_app {w3 W' w4:World} {p M m x:Nat} {vp v' kv:Value} {ids:List Nat} (hp:w3.heap[p]? = some (.cells #[vp,kv] 169 (0,0))) (hr:IRow w3 M vp ids) (k0:Kept (fun _=>False) w3 W') (hZ:M≤w3.heap.size) (hm:m=ids.length)
  (h1:w4.ownsRow 0 3 1 v' (m + 1) (ids.map I ++ [I x])) (h2:W'.grownBy w4 vp.ownBlock) (h3:v'.ownBlock=vp.ownBlock∨v'.ownBlock=some W'.heap.size) :
  ∃A c,v' = .slice A (m + 1) c∧w4.heap[p]? = some (.cells #[vp,kv] 169 (0,0))∧(w4.setCell ⟨p,0,none⟩ (.slice A (m + 1) c)).heap[p]? = some (.cells #[.slice A (m + 1) c,kv] 169 (0,0))∧IRow (w4.setCell ⟨p,0,none⟩ (.slice A (m + 1) c)) M (.slice A (m + 1) c) (ids ++ [x]) ∧
   Kept (fun k=>k=p∨vp.ownBlock=some k) w3 (w4.setCell ⟨p,0,none⟩ (.slice A (m + 1) c)) ∧ ∀g,(Value.slice A (m + 1) c).ownBlock=some g→vp.ownBlock=some g∨w3.heap.size≤g:=by
 have hks:=k0.size
 have kg:Kept (fun k=>vp.ownBlock=some k) w3 w4:=(k0.mono fun _ _=>False.elim).trans ⟨h2.os,h2.tape,h2.output,h2.size,fun k hk' hne=>h2.block k hk' fun e=>hne e.symm⟩
 have hl:(ids ++ [x]).length=m + 1:=by rw[List.length_append,hm];rfl
 have r:IRow w4 M v' (ids ++ [x]):=by
  show w4.ownsRow _ _ _ _ _ _
  rw[hl,List.map_append]
  refine own_base h1 fun k hk'=>?_
  rcases h3 with e|e
  ·exact own_ge hr (e ▸ hk')
  ·rw[hk'] at e
   injection e with e
   omega
 obtain⟨A,c,rfl⟩:=own_slice h1
 have hb:=kg.heap hp fun e=>own_ne hr hp (by decide) _ e rfl
 have ks:Kept (· = p) w4 (w4.setCell ⟨p,0,none⟩ (.slice A (m + 1) c)):=(Kept.refl (· = p) w4).set1 0 _
 refine⟨A,c,rfl,hb,heap_set hb 0 _,IRow.kept r ks (own_ne r hb (by decide)),?_,?_⟩
 ·exact(kg.mono fun i _ e=>.inr e).then ks fun i hi e=>.inl e
 ·intro g hg
  rcases h3 with e|e
  ·rw[e] at hg;exact .inl hg
  ·rw[e] at hg;injection hg with hg;exact .inr (by omega)
structure LvL (w9 wr:World) (q:TQ) (wk:Nat) (vf vo:Value) (root:Int) (Z p:Nat) (kv:Value) (U:Wk) (vfk vp:Value) (ids:List Nat):Prop where
 hw:WkW wr q wk vfk vo U root Z
 kp:Kept (fun g=>wkS q wk vf vo g∨g=p) w9 wr
 fk:∀g,vfk.ownBlock=some g→vf.ownBlock=some g∨w9.heap.size≤g
 pb:wr.heap[p]? = some (.cells #[vp,kv] 169 (0,0))
 ip:IRow wr w9.heap.size vp ids
 nv:∀b,vp.ownBlock=some b→vfk.ownBlock ≠ some b
theorem LvL.keptF {w9 wr w' q wk vf vo root Z p kv U vfk vp ids} (h:LvL w9 wr q wk vf vo root Z p kv U vfk vp ids) (k:Kept (fun _=>False) wr w'):LvL w9 w' q wk vf vo root Z p kv U vfk vp ids :=
 ⟨h.hw.keptF k,h.kp.then k fun _ _ e=>e.elim,h.fk,k.heap h.pb id,h.ip.keptF k,h.nv⟩
theorem LvL.put {w9 wr w' q wk vf vo root Z p kv U vfk vp ids} {r:(Nat×Int)×Wk} {e:Ending} (h:LvL w9 wr q wk vf vo root Z p kv U vfk vp ids) (hp:PutTo r wr q wk vfk vo root Z e w') :
  e = .returned (.tuple #[.int .i64 r.1.1,.int .i64 r.1.2]) ∧ ∃vfk',LvL w9 w' q wk vf vo root Z p kv r.2 vfk' vp ids:=by
 obtain⟨rfl,vfk',hw,hk,hv⟩:=hp
 have hl:=h.hw.lt
 have hpne:∀ {T cs f},wr.heap[p]? = some (.cells cs T f)→T=169 → ¬(p=q.c∨p=q.m∨p=wk∨vfk.ownBlock=some p):=by
  rintro T cs f hh hT (e|e|e|e)
  ·subst e
   rw[h.hw.tw.sto.sp.row] at hh
   injection hh with hh
   injection hh with _ e _
   rw[hT] at e
   exact absurd e (by decide)
  ·obtain⟨es,clock,hm⟩:=h.hw.tw.sto.put.heap
   exact map_ne hm hh e
  ·subst e
   rw[h.hw.blk] at hh
   injection hh with hh
   injection hh with _ e _
   rw[hT] at e
   exact absurd e (by decide)
  ·exact own_neH h.hw.rf hh (by rw[hT];decide) _ e rfl
 refine⟨rfl,vfk',hw,h.kp.then hk ?_,?_,hk.heap h.pb (hpne h.pb rfl),IRow.kept h.ip hk ?_,?_⟩
 ·rintro i hi (e|e|e|e)
  ·exact .inl (.inl e)
  ·exact .inl (.inr (.inl e))
  ·exact .inl (.inr (.inr (.inl e)))
  ·rcases h.fk i e with e|e
   ·exact .inl (.inr (.inr (.inr (.inl e))))
   ·omega
 ·intro g hg
  rcases hv g hg with e|e
  ·exact h.fk g e
  ·exact .inr (Nat.le_trans h.kp.size e)
 ·rintro b hb (e|e|e|e)
  ·exact own_ne h.ip h.hw.tw.sto.sp.row (by decide) b hb e
  ·obtain⟨cs,f,hh⟩:=own_type h.ip hb
   obtain⟨es,clock,hm⟩:=h.hw.tw.sto.put.heap
   exact map_ne hm hh e
  ·exact own_ne h.ip h.hw.blk (by decide) b hb e
  ·exact h.nv b hb e
 ·intro b hb e
  rcases hv b e with e|e
  ·exact h.nv b hb e
  ·have:=own_lt h.ip hb;omega
theorem LvL.app {w9 wr W' w4 q wk vf vo root Z p kv U vfk vp ids} {m x:Nat} {v':Value} (h:LvL w9 wr q wk vf vo root Z p kv U vfk vp ids) (hvo:∀b,vo.ownBlock=some b→b < w9.heap.size) (k0:Kept (fun _=>False) wr W') (hm:m=ids.length)
  (h1:w4.ownsRow 0 3 1 v' (m + 1) (ids.map I ++ [I x])) (h2:W'.grownBy w4 vp.ownBlock) (h3:v'.ownBlock=vp.ownBlock∨v'.ownBlock=some W'.heap.size) :
  ∃A c,v' = .slice A (m + 1) c∧w4.heap[p]? = some (.cells #[vp,kv] 169 (0,0))∧LvL w9 (w4.setCell ⟨p,0,none⟩ (.slice A (m + 1) c)) q wk vf vo root Z p kv U vfk (.slice A (m + 1) c) (ids ++ [x]):=by
 obtain⟨A,c,e1,e2,e3,e4,e5,e6⟩:=parts_app h.pb h.ip k0 h.kp.size hm h1 h2 h3
 have hal:Alien wr (fun k=>k=p∨vp.ownBlock=some k):=by
  rintro i (e|e)
  ·subst e;exact⟨_,_,_,h.pb,by decide⟩
  ·obtain⟨cs,f,hh⟩:=own_type h.ip e
   exact⟨_,_,_,hh,by decide⟩
 refine⟨A,c,e1,e2,h.hw.aside e5 hal ?_ ?_ ?_,h.kp.then e5 ?_,h.fk,e3,e4,?_⟩
 ·rintro(e|e)
  ·have h1:=h.hw.blk
   rw[e,h.pb] at h1
   injection h1 with h1
   injection h1 with _ e _
   exact absurd e (by decide)
  ·exact own_ne h.ip h.hw.blk (by decide) _ e rfl
 ·rintro b hb (e|e)
  ·exact own_ne h.hw.rf h.pb (by decide) b hb e
  ·exact h.nv b e hb
 ·rintro b hb (e|e)
  ·exact own_ne h.hw.ro h.pb (by decide) b hb e
  ·have:=hvo b hb;have:=own_ge h.ip e;omega
 ·rintro i hi (e|e)
  ·exact .inr e
  ·have:=own_ge h.ip e;omega
 ·intro b hb e
  rcases e6 b hb with e'|e'
  ·exact h.nv b e' e
  ·have:=own_lt h.hw.rf e;omega
theorem nds_at {w9 w':World} {B:Nat} {v:Value} {ns:List Nd} {S:Nat→Prop} (h:IsNds w9 B v ns) (k:Kept S w9 w') (hs:∀b,S b→b < B) {g c n:Nat} (e:v = .slice (some ⟨g,0,none⟩) n c) {i:Nat} (hi:i < ns.length) :
  ∃l A1 n1 c1 A2 n2 c2 A3 n3 c3,w'.cell? ⟨g,i * 4,none⟩=some (.bool l)∧w'.cell? ⟨g,i * 4 + 1,none⟩=some (.slice A1 n1 c1)∧w'.cell? ⟨g,i * 4 + 2,none⟩=some (.slice A2 n2 c2)∧w'.cell? ⟨g,i * 4 + 3,none⟩=some (.slice A3 n3 c3)∧IsNd w' B (.agg #[.bool l,.slice A1 n1 c1,.slice A2 n2 c2,.slice A3 n3 c3]) ns[i]∧g < w'.heap.size:=by
 obtain⟨g',c',e',hB,hg,h⟩:=h
 rw[e] at e'
 injection e' with e1 e2 e3
 injection e1 with e1
 injection e1 with e1 _ _
 subst e1
 obtain⟨v0,v1,v2,v3,h0,h1,h2,h3,hn⟩:=h i hi
 obtain⟨l,A1,n1,c1,A2,n2,c2,A3,n3,c3,ea⟩:=hn.agg
 injection ea with ea
 injection ea with ea
 injection ea with ea1 ea
 injection ea with ea2 ea
 injection ea with ea3 ea
 injection ea with ea4 _
 subst ea1 ea2 ea3 ea4
 have hgS:¬S g:=fun e=>by have:=hs g e;omega
 have ce:∀i,w'.cell? ⟨g,i,none⟩=w9.cell? ⟨g,i,none⟩:=fun i=>World.cell?_of_block (k.block g hg hgS)
 exact⟨l,A1,n1,c1,A2,n2,c2,A3,n3,c3,(ce _).trans h0,(ce _).trans h1,(ce _).trans h2,(ce _).trans h3,hn.keptS k hs,Nat.lt_of_lt_of_le hg k.size⟩
end Go.Proofs.YtfgjehecjgebdaaGreat
