/- slices.Backward over writes: the iterator's contract. -/
import Derived.RangeFuncNested
import Derived.RangeFuncBound
import Derived.RangeFuncCalls
import Derived.RangeFuncLeaves
import Derived.Shelf.Abstract
import Derived.WalkKit
import Derived.OwnWalkIn
import Derived.TacticsInMore
import Derived.LoopNIn
import Derived.LoopIn
import Derived.Test.YtfgjehecjgebdaaGreatMg16
namespace Go.Proofs.YtfgjehecjgebdaaGreat
open Go.RowKit Go.Shelf
attribute [local go_sem] Oper.semAt_some
def back (A:Nat→Nat) (T:Nat→ByteArray) (n c:Nat):List (Nat×Nat×ByteArray):=(List.range (n - c)).map fun j=>(n - 1 - j,A (n - 1 - j),T (n - 1 - j))
theorem back_succ (A:Nat→Nat) (T:Nat→ByteArray) (n m:Nat) (h:m + 1≤n):back A T n m=back A T n (m + 1) ++ [(m,A m,T m)]:=by
 unfold back
 rw[show n - m=n - (m + 1) + 1 by omega,List.range_succ,List.map_append]
 simp[show n - 1 - (n - (m + 1))=m by omega]
theorem back_len (A:Nat→Nat) (T:Nat→ByteArray) (n c:Nat):(back A T n c).length=n - c:=by simp[back]
theorem back_start (A:Nat→Nat) (T:Nat→ByteArray) (n:Nat):back A T n n = []:=by simp[back]
set_option maxRecDepth 100000 in
set_option maxHeartbeats 2000000 in
theorem backward1_in (F:Fence) (n:Nat) (h7:F.fn 160) (hro:F.round=none) (hn:1≤n) (l Bs n₀ b len cap:Nat) (A:Nat→Nat) (T:Nat→ByteArray) (hreach:len≤1000000) (hb:b < n₀) (J Jx:List (Nat×Nat×ByteArray)→World→Prop)
  (hY:∀pre x W,J pre W→pre.length < len→YieldAt F (n - 1) Tryz.prog l #[.int .i64 (x.1:Int),.agg #[.int .i64 (x.2.1:Int),.string x.2.2]] W fun e W' =>
   (e = .returned (.bool true)∧J (pre ++ [x]) W'∧Below n₀ W W')∨(e = .returned (.bool false)∧Jx (pre ++ [x]) W'))
  (W:World) (hBs:W.cell? ⟨Bs,0,none⟩=some (.slice (some ⟨b,0,none⟩) len cap)) (hB0:Bs < n₀) (hc:∀j,j < len→W.cell? ⟨b,j * 2,none⟩=some (.int .i64 (A j:Nat))∧W.cell? ⟨b,j * 2 + 1,none⟩=some (.string (T j))) (h0:J [] W) :
  CallsIn F n Tryz.prog 160 #[.func (.yield l) #[] #[],.pointer (some ⟨Bs,0,none⟩)] W fun e W'=>(∃v,e = .returned v) ∧
   ((∃ys,ys=back A T len 0∧J ys W')∨(∃pre,(∃c,c≤len∧pre=back A T len c)∧Jx pre W')):=by
 refine callsIn_of_wp Tryz.func160 rfl h7 ?_ hro
 simp only[Tryz.ntmps160,List.size_toArray,List.length_cons,List.length_nil,Nat.reduceAdd,Nat.reduceSub,Array.replicate_succ,Array.replicate_zero,List.push_toArray,List.append_toArray,List.nil_append,List.cons_append]
 gi_wp2
 gi_loopw [3] (fun i wr=>∃c:Nat,c≤len∧i = .int .i64 ((c:Int) - 1)∧J (back A T len c) wr∧Below n₀ W wr)
  (fun i _=>(intOf i + 1).toNat)
 case atStart=>exact⟨len,Nat.le_refl _,by go_num,by rw[back_start];exact h0,Below.refl _ _⟩
 case round =>
  obtain⟨c,hk,rfl,hJs,hnx⟩:=hrel
  have hbs':=(hnx.cell (p:=⟨Bs,0,none⟩) hB0).trans hBs
  rcases Nat.eq_zero_or_pos c with rfl|hp
  ·gi_wp2
   go_end0
   exact⟨⟨_,rfl⟩,.inl ⟨_,rfl,hJs⟩⟩
  ·obtain⟨m,rfl⟩:∃m,c=m + 1:=⟨c - 1,by omega⟩
   rw[show((m + 1:Nat):Int) - 1=m by omega]
   obtain⟨hc1,hc2⟩:=hc m (by omega)
   have hc1':=(hnx.cell (p:=⟨b,m * 2,none⟩) hb).trans hc1
   have hc2':=(hnx.cell (p:=⟨b,m * 2 + 1,none⟩) hb).trans hc2
   obtain⟨fn,tmps,assign,body,hy,hR⟩:=hY _ (m,A m,T m) wr hJs (by rw[back_len];omega)
   dsimp only at hy
   have HB:=Lib.hid (back_succ A T len m hk)
   gi_wp2
   refine hR.mono ?_
   rintro e W3 (⟨rfl,hJ3,hk3⟩|⟨rfl,hJx3⟩)
   ·gi_wp2
    go_roundw
    case rel=>exact⟨m,by omega,by go_num,by rw[HB.out];exact hJ3,hnx.trans hk3⟩
    case measure=>simp[intOf]
   ·gi_wp2
    refine bodyPost_ret (results_none rfl _ _ _) rfl ?_
    exact⟨⟨_,rfl⟩,.inr ⟨_,⟨m,by omega,HB.out.symm⟩,hJx3⟩⟩
set_option maxRecDepth 100000 in
set_option maxHeartbeats 1000000 in
theorem backward1_nil_in (F:Fence) (n:Nat) (h7:F.fn 160) (hro:F.round=none) (l Bs cap:Nat) (Ad:Option Addr) (J:List (Nat×Nat×ByteArray)→World→Prop)
  (W:World) (hBs:W.cell? ⟨Bs,0,none⟩=some (.slice Ad 0 cap)) (h0:J [] W) :
  CallsIn F n Tryz.prog 160 #[.func (.yield l) #[] #[],.pointer (some ⟨Bs,0,none⟩)] W fun e W'=>(∃v,e = .returned v)∧J [] W':=by
 refine callsIn_of_wp Tryz.func160 rfl h7 ?_ hro
 simp only[Tryz.ntmps160,List.size_toArray,List.length_cons,List.length_nil,Nat.reduceAdd,Nat.reduceSub,Array.replicate_succ,Array.replicate_zero,List.push_toArray,List.append_toArray,List.nil_append,List.cons_append]
 gi_wp2
 gi_loopw [3] (fun i wr=>i = .int .i64 (-1)∧J [] wr) (fun _ _=>0)
 case atStart=>exact⟨by first|rfl|go_num,h0⟩
 case round =>
  obtain⟨rfl,hJs⟩:=hrel
  gi_wp2
  go_end0
  exact⟨⟨_,rfl⟩,hJs⟩
set_option maxHeartbeats 1000000 in
theorem backward_in (F:Fence) (n:Nat) (h5:F.fn 138) (hro:F.round=none) (a:Option Addr) (len cap:Nat) (w:World) :
  CallsIn F n Tryz.prog 138 #[.slice a len cap] w fun e w'=>e = .returned (.func (.func 160) #[] #[.pointer (some ⟨w.heap.size,0,none⟩)])∧w'=w.alloc (.cells #[.slice a len cap] 134):=by
 refine callsIn_of_wp Tryz.func138 rfl h5 ?_ hro
 simp only[Tryz.ntmps138,List.size_toArray,List.length_cons,List.length_nil,Nat.reduceAdd,Nat.reduceSub,Array.replicate_succ,Array.replicate_zero,List.push_toArray,List.append_toArray,List.nil_append,List.cons_append]
 gi_wp2
 go_ret
 exact⟨rfl,rfl⟩
def WrsAt (n₀:Nat) (W:World) (Ad:Option Addr) (len:Nat) (A:Nat→Nat) (T:Nat→ByteArray):Prop :=
 0 < len → ∃b,Ad=some ⟨b,0,none⟩∧b < n₀ ∧ ∀j,j < len→W.cell? ⟨b,j * 2,none⟩=some (.int .i64 (A j:Nat))∧W.cell? ⟨b,j * 2 + 1,none⟩=some (.string (T j))
theorem WrsAt.below {n₀:Nat} {X Y:World} (h:Below n₀ X Y) {Ad len A T} (k:WrsAt n₀ X Ad len A T):WrsAt n₀ Y Ad len A T:=by
 intro hp
 obtain⟨b,e,hb,hc⟩:=k hp
 exact⟨b,e,hb,fun j hj=>⟨(h.cell (p:=⟨b,j * 2,none⟩) hb).trans (hc j hj).1,(h.cell (p:=⟨b,j * 2 + 1,none⟩) hb).trans (hc j hj).2⟩⟩
theorem backward_stops (F:Fence) (n:Nat) (h8:F.fn 160) (hro:F.round=none) (hn:1≤n) (Bs n₀:Nat) (Ad:Option Addr) (len cap:Nat) (A:Nat→Nat) (T:Nat→ByteArray) (hreach:len≤1000000) (w:World) (hBs:Bs < n₀) (hn₀:n₀≤w.heap.size)
  (hc:w.cell? ⟨Bs,0,none⟩=some (.slice Ad len cap)) (hI:WrsAt n₀ w Ad len A T) :
  SeqStopsK F n Tryz.prog 160 #[.pointer (some ⟨Bs,0,none⟩)] (fun x:Nat×Nat×ByteArray => #[Value.int .i64 (x.1:Int),.agg #[.int .i64 (x.2.1:Int),.string x.2.2]]) (Below n₀) (fun ys=>ys=back A T len 0)
   (fun pre=>∃c,c≤len∧pre=back A T len c) len w:=fun l J Jx W hW _ _ hY h0=>by
 have hc':=(hW.cell (p:=⟨Bs,0,none⟩) (by show Bs < w.heap.size;omega)).trans hc
 rcases Nat.eq_zero_or_pos len with rfl|hp
 ·exact(backward1_nil_in F n h8 hro l Bs cap Ad J W hc' h0).mono fun e W' ⟨he,hj⟩=>⟨he,.inl ⟨_,by simp[back],hj⟩⟩
 ·obtain⟨b,rfl,hb,hcs⟩:=(hI.below (hW.mono hn₀)) hp
  exact backward1_in F n h8 hro hn l Bs n₀ b len cap A T hreach hb J Jx hY W hc' hBs hcs h0
end Go.Proofs.YtfgjehecjgebdaaGreat
/- Device: Read. -/
namespace Go.Proofs.YtfgjehecjgebdaaGreat
open Go.RowKit Go.Shelf
attribute [local go_sem] Oper.semAt_some
def cAt (D:Dev) (j:Nat):Nat:=(D.cache[j]?.getD (0, [])).1
def cTx (D:Dev) (j:Nat):ByteArray:=ba (D.cache[j]?.getD (0, [])).2
def DReadPost (r:List UInt8×Int) (w:World) (e:Ending) (w':World):Prop:=e = .returned (.tuple #[.string (ba r.1),.int .i64 r.2])∧Below w.heap.size w w'
theorem wrsAt_of {w d vs vc D} (h:IsDev w d vs vc D) {Ad n cap} (hv:vc = .slice Ad n cap) (hn:n=D.cache.length):WrsAt w.heap.size w Ad D.cache.length (cAt D) (cTx D):=by
 subst hv hn
 intro hp
 obtain⟨g,e,_,_,hg⟩:=cache_cells h (C:=D.cache) rfl 0 hp
 refine⟨g,e,hg,fun j hj=>?_⟩
 obtain⟨g',e',h1,h2,_⟩:=cache_cells h (C:=D.cache) rfl j hj
 rw[e] at e'
 simp only[Option.some.injEq,Addr.mk.injEq,and_true] at e'
 subst e'
 simp only[cAt,cTx,List.getElem?_eq_getElem hj,Option.getD_some]
 exact⟨h1,h2⟩
theorem text_none (D:Dev) (i:Nat) (h:∀p∈back (cAt D) (cTx D) D.cache.length 0,p.2.1 ≠ i):D.text i=D.secs.getD i []:=by
 have:D.cache.reverse.find? (fun p=>p.1 == i)=none:=by
  rw[List.find?_eq_none]
  intro p hp
  have hp:=List.mem_reverse.1 hp
  obtain⟨j,hj,rfl⟩:=List.mem_iff_getElem.1 hp
  have:=h (j,cAt D j,cTx D j) (by
   simp only[back,List.mem_map,List.mem_range]
   refine⟨D.cache.length - 1 - j,by omega,?_⟩
   rw[show D.cache.length - 1 - (D.cache.length - 1 - j)=j by omega])
  simp only[cAt,List.getElem?_eq_getElem hj,Option.getD_some] at this
  simpa using this
 simp[Dev.text,this]
theorem text_some (D:Dev) (i k:Nat) (hk:k≤D.cache.length) {ini:List (Nat×Nat×ByteArray)} {last:Nat×Nat×ByteArray} (e:back (cAt D) (cTx D) D.cache.length k=ini ++ [last]) (hi:∀p∈ini,p.2.1 ≠ i) (hl:last.2.1=i):ba (D.text i)=last.2.2:=by
 rcases Nat.lt_or_ge k D.cache.length with hlt|hge
 ·rw[back_succ _ _ _ _ hlt] at e
  obtain⟨e1,e2⟩:=List.append_inj' e rfl
  simp only[List.cons.injEq,and_true] at e2
  subst e1 e2
  have hne:∀p∈D.cache.drop (k + 1),p.1 ≠ i:=by
   intro p hp
   obtain⟨j,hj,rfl⟩:=List.mem_iff_getElem.1 hp
   simp only[List.length_drop] at hj
   have:=hi (k + 1 + j,cAt D (k + 1 + j),cTx D (k + 1 + j)) (by
    simp only[back,List.mem_map,List.mem_range]
    refine⟨D.cache.length - 1 - (k + 1 + j),by omega,?_⟩
    rw[show D.cache.length - 1 - (D.cache.length - 1 - (k + 1 + j))=k + 1 + j by omega])
   simp only[cAt,List.getElem?_eq_getElem (show k + 1 + j < D.cache.length by omega),Option.getD_some] at this
   rw[List.getElem_drop]
   exact this
  have hck:(D.cache[k]).1=i:=by
   simpa[cAt,List.getElem?_eq_getElem hlt] using hl
  have hs:D.cache.reverse=(D.cache.drop (k + 1)).reverse ++ (D.cache[k] :: (D.cache.take k).reverse):=by
   have h1:D.cache=D.cache.take k ++ D.cache[k] :: D.cache.drop (k + 1):=by
    rw[←List.drop_eq_getElem_cons hlt,List.take_append_drop]
   conv=>lhs;rw[h1]
   simp
  have hf:D.cache.reverse.find? (fun p=>p.1 == i)=some D.cache[k]:=by
   rw[hs,List.find?_append]
   have:(D.cache.drop (k + 1)).reverse.find? (fun p=>p.1 == i)=none:=by
    rw[List.find?_eq_none]
    intro p hp
    have:=hne p (List.mem_reverse.1 hp)
    simpa using this
   rw[this]
   simp[hck]
  simp[Dev.text,hf,cTx,List.getElem?_eq_getElem hlt]
 ·obtain rfl:k=D.cache.length:=by omega
  rw[back_start] at e
  simp at e
theorem Read_end {w W:World} (hB:Below w.heap.size w W) (e1:W.cell? ⟨w.heap.size + 1,0,none⟩=some (.string ⟨#[]⟩)) (e2:W.cell? ⟨w.heap.size + 1 + 1,0,none⟩=some (.int .i64 0)) (n:Int) :
  (((W.setCell ⟨w.heap.size + 1,0,none⟩ (.string ⟨#[]⟩)).setCell ⟨w.heap.size + 1 + 1,0,none⟩ (.int .i64 n)).drew).cell? ⟨w.heap.size + 1,0,none⟩=some (.string ⟨#[]⟩) ∧
  (((W.setCell ⟨w.heap.size + 1,0,none⟩ (.string ⟨#[]⟩)).setCell ⟨w.heap.size + 1 + 1,0,none⟩ (.int .i64 n)).drew).cell? ⟨w.heap.size + 1 + 1,0,none⟩=some (.int .i64 n) ∧
  Below w.heap.size w (((W.setCell ⟨w.heap.size + 1,0,none⟩ (.string ⟨#[]⟩)).setCell ⟨w.heap.size + 1 + 1,0,none⟩ (.int .i64 n)).drew):=by
 refine⟨?_,?_,((hB.setCell (p:=⟨w.heap.size + 1,0,none⟩) (by simp) _).setCell (p:=⟨w.heap.size + 1 + 1,0,none⟩) (by simp;omega) _).drew⟩
 ·show((W.setCell ⟨w.heap.size + 1,0,none⟩ (.string ⟨#[]⟩)).setCell ⟨w.heap.size + 1 + 1,0,none⟩ (.int .i64 n)).cell? ⟨w.heap.size + 1,0,none⟩=_
  rw[World.cell?_setCell_other _ _ _ _ (by simp)];exact World.cell?_setCell_same' _ _ _ (by rw[e1];rfl)
 ·show((W.setCell ⟨w.heap.size + 1,0,none⟩ (.string ⟨#[]⟩)).setCell ⟨w.heap.size + 1 + 1,0,none⟩ (.int .i64 n)).cell? ⟨w.heap.size + 1 + 1,0,none⟩=_
  exact World.cell?_setCell_same' _ _ _ (by rw[World.cell?_setCell_other _ _ _ _ (by simp),e2];rfl)
theorem Read_bad {w d vs vc D} (h:IsDev w d vs vc D) (a:Int) (hb:a < 0∨(D.secs.length:Int)≤a∨D.down=true) :
  Calls Tryz.prog 103 #[.pointer (some ⟨d,0,none⟩),.int .i64 a] w (DReadPost (D.read a) w):=by
 obtain⟨gs,caps,rfl⟩:=own_form h.secs h.good.one
 obtain⟨c0,hh⟩:=h.head
 have hc0:w.cell? ⟨d,0,none⟩=some (.slice (some ⟨gs,0,none⟩) D.secs.length caps):=(cell_heap hh 0).trans rfl
 have hc3:w.cell? ⟨d,3,none⟩=some (.bool D.down):=(cell_heap hh 3).trans rfl
 have hdl:=lt_heap hh
 clear hh
 by_cases h1:a < 0
 ·have hg1:decide (a < 0)=true:=by simpa using h1
  have HR:Hid (D.read a=([],4)):=by simp[Hid,Dev.read,h1]
  clear hb
  go_enter Tryz.func103,Tryz.ntmps103
  go_wp2
  obtain⟨W,hW⟩:∃W,W=((w.alloc (.cells #[.int .i64 a] 3)).alloc (.cells #[.string ⟨#[]⟩] 9)).alloc (.cells #[.int .i64 0] 36):=⟨_,rfl⟩
  rw[←hW]
  have hB:Below w.heap.size w W:=by rw[hW];exact(((Below.refl _ w).alloc (Nat.le_refl _) _).alloc (by simp) _).alloc (by simp;omega) _
  have b0:W.cell? ⟨w.heap.size,0,none⟩=some (.int .i64 a):=by rw[hW];exact(cell_heap (heap_old (heap_old (heap_new w _) _) _) 0).trans rfl
  have b1:W.heap[w.heap.size + 1]? = some (.cells #[.string ⟨#[]⟩] 9 (0,0)):=by rw[hW];exact heap_old (heap_newAt (by simp) _) _
  have b2:W.heap[w.heap.size + 1 + 1]? = some (.cells #[.int .i64 0] 36 (0,0)):=by rw[hW];exact heap_newAt (by simp) _
  have hc0':=(hB.cell (p:=⟨d,0,none⟩) hdl).trans hc0
  have hc3':=(hB.cell (p:=⟨d,3,none⟩) hdl).trans hc3
  have e1:W.cell? ⟨w.heap.size + 1,0,none⟩=some (.string ⟨#[]⟩):=(cell_heap b1 0).trans rfl
  have e2:W.cell? ⟨w.heap.size + 1 + 1,0,none⟩=some (.int .i64 0):=(cell_heap b2 0).trans rfl
  have f1:W.frozen? ⟨w.heap.size + 1,0,none⟩=false:=free_heap b1 0
  have f2:W.frozen? ⟨w.heap.size + 1 + 1,0,none⟩=false:=free_heap b2 0
  have R:=Read_end hB e1 e2 4
  have HB:=Lib.hid R
  clear hW hc0 hc3 b1 b2 hB R
  go_region
  go_wp2
  refine bodyPost_ret (v:=.tuple #[.string ⟨#[]⟩,.int .i64 4]) ?_ rfl ?_
  ·simp[results,Tryz.f103,go_sem,HB.out.1,HB.out.2.1]
  ·exact⟨by rw[HR.out];rfl,HB.out.2.2⟩
 ·obtain⟨i,rfl⟩:=Int.eq_ofNat_of_zero_le (show 0≤a by omega)
  have hg1:decide ((i:Int) < 0)=false:=by simp
  by_cases h2:D.secs.length≤i
  ·have hg2:decide ((D.secs.length:Int)≤(i:Int))=true:=by simpa using h2
   have HR:Hid (D.read i=([],4)):=by simp[Hid,Dev.read,h2]
   clear hb
   go_enter Tryz.func103,Tryz.ntmps103
   go_wp2
   obtain⟨W,hW⟩:∃W,W=((w.alloc (.cells #[.int .i64 i] 3)).alloc (.cells #[.string ⟨#[]⟩] 9)).alloc (.cells #[.int .i64 0] 36):=⟨_,rfl⟩
   rw[←hW]
   have hB:Below w.heap.size w W:=by rw[hW];exact(((Below.refl _ w).alloc (Nat.le_refl _) _).alloc (by simp) _).alloc (by simp;omega) _
   have b0:W.cell? ⟨w.heap.size,0,none⟩=some (.int .i64 i):=by rw[hW];exact(cell_heap (heap_old (heap_old (heap_new w _) _) _) 0).trans rfl
   have b1:W.heap[w.heap.size + 1]? = some (.cells #[.string ⟨#[]⟩] 9 (0,0)):=by rw[hW];exact heap_old (heap_newAt (by simp) _) _
   have b2:W.heap[w.heap.size + 1 + 1]? = some (.cells #[.int .i64 0] 36 (0,0)):=by rw[hW];exact heap_newAt (by simp) _
   have hc0':=(hB.cell (p:=⟨d,0,none⟩) hdl).trans hc0
   have hc3':=(hB.cell (p:=⟨d,3,none⟩) hdl).trans hc3
   have e1:W.cell? ⟨w.heap.size + 1,0,none⟩=some (.string ⟨#[]⟩):=(cell_heap b1 0).trans rfl
   have e2:W.cell? ⟨w.heap.size + 1 + 1,0,none⟩=some (.int .i64 0):=(cell_heap b2 0).trans rfl
   have f1:W.frozen? ⟨w.heap.size + 1,0,none⟩=false:=free_heap b1 0
   have f2:W.frozen? ⟨w.heap.size + 1 + 1,0,none⟩=false:=free_heap b2 0
   have R:=Read_end hB e1 e2 4
   have HB:=Lib.hid R
   clear hW hc0 hc3 b1 b2 hB R
   go_region
   go_wp2
   refine bodyPost_ret (v:=.tuple #[.string ⟨#[]⟩,.int .i64 4]) ?_ rfl ?_
   ·simp[results,Tryz.f103,go_sem,HB.out.1,HB.out.2.1]
   ·exact⟨by rw[HR.out];rfl,HB.out.2.2⟩
  ·have hg2:decide ((D.secs.length:Int)≤(i:Int))=false:=by simpa using h2
   have hdn:D.down=true:=by rcases hb with h|h|h;omega;omega;exact h
   have HR:Hid (D.read i=([],16)):=by simp[Hid,Dev.read,h2,hdn]
   rw[hdn] at hc3
   clear hb hdn
   go_enter Tryz.func103,Tryz.ntmps103
   go_wp2
   obtain⟨W,hW⟩:∃W,W=((w.alloc (.cells #[.int .i64 i] 3)).alloc (.cells #[.string ⟨#[]⟩] 9)).alloc (.cells #[.int .i64 0] 36):=⟨_,rfl⟩
   rw[←hW]
   have hB:Below w.heap.size w W:=by rw[hW];exact(((Below.refl _ w).alloc (Nat.le_refl _) _).alloc (by simp) _).alloc (by simp;omega) _
   have b0:W.cell? ⟨w.heap.size,0,none⟩=some (.int .i64 i):=by rw[hW];exact(cell_heap (heap_old (heap_old (heap_new w _) _) _) 0).trans rfl
   have b1:W.heap[w.heap.size + 1]? = some (.cells #[.string ⟨#[]⟩] 9 (0,0)):=by rw[hW];exact heap_old (heap_newAt (by simp) _) _
   have b2:W.heap[w.heap.size + 1 + 1]? = some (.cells #[.int .i64 0] 36 (0,0)):=by rw[hW];exact heap_newAt (by simp) _
   have hc0':=(hB.cell (p:=⟨d,0,none⟩) hdl).trans hc0
   have hc3':=(hB.cell (p:=⟨d,3,none⟩) hdl).trans hc3
   have e1:W.cell? ⟨w.heap.size + 1,0,none⟩=some (.string ⟨#[]⟩):=(cell_heap b1 0).trans rfl
   have e2:W.cell? ⟨w.heap.size + 1 + 1,0,none⟩=some (.int .i64 0):=(cell_heap b2 0).trans rfl
   have f1:W.frozen? ⟨w.heap.size + 1,0,none⟩=false:=free_heap b1 0
   have f2:W.frozen? ⟨w.heap.size + 1 + 1,0,none⟩=false:=free_heap b2 0
   have R:=Read_end hB e1 e2 16
   have HB:=Lib.hid R
   clear hW hc0 hc3 b1 b2 hB R
   go_region
   go_wp2
   refine bodyPost_ret (v:=.tuple #[.string ⟨#[]⟩,.int .i64 16]) ?_ rfl ?_
   ·simp[results,Tryz.f103,go_sem,HB.out.1,HB.out.2.1]
   ·exact⟨by rw[HR.out];rfl,HB.out.2.2⟩
set_option maxRecDepth 100000 in
set_option maxHeartbeats 2000000 in
theorem Read_good {w d vs vc D} (h:IsDev w d vs vc D) (i:Nat) (hi:i < D.secs.length) (hd:D.down=false) (hcl:D.cache.length≤1000000) :
  Calls Tryz.prog 103 #[.pointer (some ⟨d,0,none⟩),.int .i64 i] w (DReadPost (D.text i,0) w):=by
 obtain⟨gs,caps,rfl⟩:=own_form h.secs h.good.one
 obtain⟨C,capc,rfl,_⟩:=own_any h.cache
 obtain⟨c0,hh⟩:=h.head
 have hc0:w.cell? ⟨d,0,none⟩=some (.slice (some ⟨gs,0,none⟩) D.secs.length caps):=(cell_heap hh 0).trans rfl
 have hc1:w.cell? ⟨d,1,none⟩=some (.slice C D.cache.length capc):=(cell_heap hh 1).trans rfl
 have hc3:w.cell? ⟨d,3,none⟩=some (.bool false):=(cell_heap hh 3).trans (by rw[←hd];rfl)
 have hdl:=lt_heap hh
 have HI:=Lib.hid (wrsAt_of h rfl rfl)
 have H:=Lib.hid h
 have hro:Fence.wide.round=none:=rfl
 have hg1:decide ((i:Int) < 0)=false:=by simp
 have hg2:decide ((D.secs.length:Int)≤(i:Int))=false:=by simp;omega
 clear h hh
 refine(callsIn_wide (n:=4)).1 ?_
 refine callsIn_of_wp_marks Tryz.func103 rfl trivial ?_ hro
 simp only[Tryz.ntmps103,List.size_toArray,List.length_cons,List.length_nil,Nat.reduceAdd,Nat.reduceSub,Array.replicate_succ,Array.replicate_zero,List.push_toArray,List.append_toArray,List.nil_append,List.cons_append]
 gi_wp2_with fail
 obtain⟨W,hW⟩:∃W,W=((w.alloc (.cells #[.int .i64 i] 3)).alloc (.cells #[.string ⟨#[]⟩] 9)).alloc (.cells #[.int .i64 0] 36):=⟨_,rfl⟩
 rw[←hW]
 have hB:Below w.heap.size w W:=by rw[hW];exact(((Below.refl _ w).alloc (Nat.le_refl _) _).alloc (by simp) _).alloc (by simp;omega) _
 have hsz:W.heap.size=w.heap.size + 3:=by rw[hW];simp
 have b0:W.cell? ⟨w.heap.size,0,none⟩=some (.int .i64 i):=by rw[hW];exact(cell_heap (heap_old (heap_old (heap_new w _) _) _) 0).trans rfl
 have b1:W.heap[w.heap.size + 1]? = some (.cells #[.string ⟨#[]⟩] 9 (0,0)):=by rw[hW];exact heap_old (heap_newAt (by simp) _) _
 have b2:W.heap[w.heap.size + 2]? = some (.cells #[.int .i64 0] 36 (0,0)):=by rw[hW];exact heap_newAt (by simp) _
 have hc0':=(hB.cell (p:=⟨d,0,none⟩) hdl).trans hc0
 have hc1':=(hB.cell (p:=⟨d,1,none⟩) hdl).trans hc1
 have hc3':=(hB.cell (p:=⟨d,3,none⟩) hdl).trans hc3
 have HB1:=Lib.hid b1
 have HB2:=Lib.hid b2
 have HB:=Lib.hid hB
 have HSZ:=Lib.hid hsz
 clear hW hc0 hc1 hc3 b1 b2 hB hsz
 gi_region
 gi_wp2_with (refine⟨trivial,?_⟩;gi_at_call 138;refine(backward_in Fence.wide (4 - 1) trivial hro _ _ _ _).mono ?_;rintro e w' ⟨rfl,rfl⟩)
 obtain⟨W3,hW3⟩:∃W3,W3=(W.alloc (.cells #[.slice C D.cache.length capc] 134)).drew:=⟨_,rfl⟩
 rw[←hW3]
 have hk3:Kept (fun _=>False) W W3:=by rw[hW3];exact((Kept.refl _ _).alloc _).drew
 have hbb:Below W.heap.size W W3:=hk3.below
 have hsz:=HSZ.out
 have hs3:W3.heap.size=w.heap.size + 4:=by rw[hW3];simp;omega
 have hbox:W3.cell? ⟨W.heap.size,0,none⟩=some (.slice C D.cache.length capc):=by rw[hW3];exact(cell_heap (heap_new W _) 0).trans rfl
 have hB3:Below w.heap.size w W3:=HB.out.trans (hbb.mono (by omega))
 have hI3:WrsAt W3.heap.size W3 C D.cache.length (cAt D) (cTx D):=by
  have h:=HI.out.below hB3
  intro hp
  obtain⟨b,e,hb,hc⟩:=h hp
  exact⟨b,e,by omega,hc⟩
 have q0:W3.cell? ⟨w.heap.size,0,none⟩=some (.int .i64 i):=(hbb.cell (p:=⟨w.heap.size,0,none⟩) (by show w.heap.size < _;omega)).trans b0
 have q1:=hk3.heap HB1.out id
 have q2:=hk3.heap HB2.out id
 have hs4:w.heap.size + 4≤W3.heap.size:=by omega
 have hs5:W.heap.size < W3.heap.size:=by omega
 clear hsz hs3
 refine wpIn_rangeFunc_ownH hro (by omega:1≤4) (gf:=160) (lb := #[.pointer (some ⟨W.heap.size,0,none⟩)]) rfl trivial (enters_of Tryz.func160 (by kernel_rfl) rfl)
  (backward_stops Fence.wide (4 - 1) trivial hro (by omega) W.heap.size W3.heap.size C D.cache.length capc (cAt D) (cTx D) hcl W3 (by omega) (Nat.le_refl _) hbox hI3) belowK_t (belowK_b (Nat.le_refl _)) (Below.refl _ _) (fun _=>rfl)
  (fun pre Wx=>((∀p∈pre,p.2.1 ≠ i)∧Wx.cell? ⟨w.heap.size,0,none⟩=some (.int .i64 i)∧(Wx.cell? ⟨w.heap.size + 1,0,none⟩=some (.string ⟨#[]⟩)∧Wx.frozen? ⟨w.heap.size + 1,0,none⟩=false)∧(Wx.cell? ⟨w.heap.size + 1 + 1,0,none⟩=some (.int .i64 0)∧Wx.frozen? ⟨w.heap.size + 1 + 1,0,none⟩=false))∧Below W3.heap.size W3 Wx)
  (fun c pre Wx=>(c = .ret ∧ ∃ini last,pre=ini ++ [last]∧(∀p∈ini,p.2.1 ≠ i)∧last.2.1=i∧Wx.cell? ⟨w.heap.size + 1,0,none⟩=some (.string last.2.2)∧Wx.cell? ⟨w.heap.size + 1 + 1,0,none⟩=some (.int .i64 0))∧Below w.heap.size w Wx)
  (OwnFrom.and (Own.from (fun s A B row hs hg hr=>⟨hs.1,cell_kept hs.2.1 hg hr,⟨cell_kept hs.2.2.1.1 hg hr,(frozen_kept hs.2.2.1.1 hg hr).trans hs.2.2.1.2⟩,⟨cell_kept hs.2.2.2.1 hg hr,(frozen_kept hs.2.2.2.1 hg hr).trans hs.2.2.2.2⟩⟩) _) (ownFrom_below (Nat.le_refl _) (Nat.le_refl _)))
  (fun c=>OwnFrom.and (Own.from (fun s A B row hs hg hr=>by obtain⟨hc,ini,last,e1,e2,e3,e4,e5⟩:=hs;exact⟨hc,ini,last,e1,e2,e3,cell_kept e4 hg hr,cell_kept e5 hg hr⟩) _) (ownFrom_below (Nat.le_refl _) (by omega)))
  ⟨⟨by simp,q0,⟨(cell_heap q1 0).trans rfl,free_heap q1 0⟩,⟨(cell_heap q2 0).trans rfl,free_heap q2 0⟩⟩,Below.refl _ _⟩
  (fun x a' Wx=>∃Bx,w.heap.size + 3 < Bx∧Wx.cell? ⟨Bx,0,none⟩=some (.int .i64 (x.2.1:Int))∧Wx.cell? ⟨Bx,1,none⟩=some (.string x.2.2)∧a' = { tmps := #[.pointer (some ⟨d,0,none⟩),.int .i64 i,undef,.pointer (some ⟨w.heap.size,0,none⟩),.pointer (some ⟨w.heap.size + 1,0,none⟩),.pointer (some ⟨w.heap.size + 1 + 1,0,none⟩),undef,.pointer (some ⟨Bx,0,none⟩),.bool false,.int .i64 i,.bool false,.bool false,.int .i64 i,.pointer (some ⟨d,0,none⟩),.pointer (some ⟨d,0,none⟩),.pointer (some ⟨d,0,none⟩),.slice (some ⟨gs,0,none⟩) D.secs.length caps,.int .i64 D.secs.length,.bool false,.bool false,.bool false,.pointer (some ⟨d,0,none⟩),.pointer (some ⟨d,0,none⟩),.pointer (some ⟨d,3,none⟩),.bool false,.pointer (some ⟨d,0,none⟩),.pointer (some ⟨d,0,none⟩),.pointer (some ⟨d,1,none⟩),.slice C D.cache.length capc,.func (.func 160) #[] #[.pointer (some ⟨W.heap.size,0,none⟩)],.int .i64 (x.1:Int),.agg #[.int .i64 (x.2.1:Int),.string x.2.2],undef,undef,undef,undef,undef,undef,undef,undef,undef,undef,undef,undef,undef],defers := [] })
  (fun x a' _ X Y row hs hg hr=>by obtain⟨Bx,h1,h2,h3,h4⟩:=hs;exact⟨Bx,h1,cell_kept h2 hg (fun r e=>(hr r e).2),cell_kept h3 hg (fun r e=>(hr r e).2),h4⟩)
  ?assign ?body ?done ?stop
 case assign =>
  rintro l pre x Wx K ⟨⟨hp,hc0,⟨hc1,hf1⟩,⟨hc2,hf2⟩⟩,hBw⟩ hK
  have hsw:=hBw.size
  gi_wp2
  exact hK _ _ ((KeepsOthers.alloc _ _).from _) ((Below.refl _ Wx).alloc hsw _) ⟨⟨hp,cell_kept hc0 (World.grownBy_alloc Wx _ none) (by simp),⟨cell_kept hc1 (World.grownBy_alloc Wx _ none) (by simp),(frozen_kept hc1 (World.grownBy_alloc Wx _ none) (by simp)).trans hf1⟩,⟨cell_kept hc2 (World.grownBy_alloc Wx _ none) (by simp),(frozen_kept hc2 (World.grownBy_alloc Wx _ none) (by simp)).trans hf2⟩⟩,hBw.alloc hsw _⟩ ⟨Wx.heap.size,by omega,(cell_heap (heap_new Wx _) 0).trans rfl,(cell_heap (heap_new Wx _) 1).trans rfl,rfl⟩
 case body =>
  rintro l pre x a' Wx hl ⟨r,hr⟩ ⟨⟨hp,hc0,⟨hc1,hf1⟩,⟨hc2,hf2⟩⟩,hBw⟩ ⟨Bx,hBx,k0,k1,rfl⟩ hlt
  by_cases hx:x.2.1=i
  ·have ht:((x.2.1:Int) == (i:Int))=true:=by simp[hx]
   have hB4:Below w.heap.size w Wx:=hB3.trans (hBw.mono (by omega))
   gi_wp2
   exact⟨((KeepsOthers.setCell _ _ _).trans (KeepsOthers.setCell _ _ _)).from _,⟨rfl,pre,x,rfl,hp,hx,by rw[World.cell?_setCell_other _ _ _ _ (by simp)];exact World.cell?_setCell_same' _ _ _ (by rw[hc1];rfl),World.cell?_setCell_same' _ _ _ (by rw[World.cell?_setCell_other _ _ _ _ (by simp),hc2];rfl)⟩,(hB4.setCell (p:=⟨w.heap.size + 1,0,none⟩) (by simp) _).setCell (p:=⟨w.heap.size + 1 + 1,0,none⟩) (by simp;omega) _⟩
  ·have ht:((x.2.1:Int) == (i:Int))=false:=by simp;omega
   gi_wp2
   exact⟨KeepsFrom.refl _ _,Below.refl _ _,⟨fun p hp'=>(List.mem_append.1 hp').elim (hp p) (fun e=>by simp at e;subst e;exact hx),hc0,⟨hc1,hf1⟩,⟨hc2,hf2⟩⟩,hBw⟩
 case done =>
  rintro Dd ys Wx hDd rfl ⟨⟨hne,hc0,⟨hc1,hf1⟩,⟨hc2,hf2⟩⟩,hBw⟩ hK
  have hB4:Below w.heap.size w Wx:=hB3.trans (hBw.mono (by omega))
  obtain⟨c9,hh9⟩:=H.out.head
  have hd9:Wx.cell? ⟨d,0,none⟩=some (.slice (some ⟨gs,0,none⟩) D.secs.length caps):=(hB4.cell (p:=⟨d,0,none⟩) hdl).trans ((cell_heap hh9 0).trans rfl)
  have hgl:gs < w.heap.size:=by obtain⟨cs,f,hg⟩:=own_type H.out.secs (g:=gs) rfl;exact lt_heap hg
  have hs9:Wx.cell? ⟨gs,i,none⟩=some (.string (ba D.secs[i])):=(hB4.cell (p:=⟨gs,i,none⟩) hgl).trans (by rw[H.out.secs.cellAt i (by omega)];simp[hi,Ss])
  obtain⟨s9,hsv⟩:∃s,s=ba D.secs[i]:=⟨_,rfl⟩
  rw[←hsv] at hs9
  have HSV:=Lib.hid hsv
  have HNE:=Lib.hid hne
  clear hh9 hne hsv
  gi_wp2
  gi_region
  gi_wp2
  have hK':=((KeepsOthers.setCell Wx ⟨w.heap.size + 1,0,none⟩ (.string s9)).trans ((KeepsOthers.setCell _ ⟨w.heap.size + 1 + 1,0,none⟩ (.int .i64 0)).trans (KeepsOthers.drew _))).same Dd _ hK rfl
  refine⟨by simp,.inl ⟨_,_,rfl,run_takeDeferred hK',?_⟩⟩
  have hd1:(((Wx.setCell ⟨w.heap.size + 1,0,none⟩ (.string s9)).setCell ⟨w.heap.size + 1 + 1,0,none⟩ (.int .i64 0)).drew).cell? ⟨w.heap.size + 1,0,none⟩=some (.string s9):=by
   show((Wx.setCell ⟨w.heap.size + 1,0,none⟩ (.string s9)).setCell ⟨w.heap.size + 1 + 1,0,none⟩ (.int .i64 0)).cell? ⟨w.heap.size + 1,0,none⟩=_
   rw[World.cell?_setCell_other _ _ _ _ (by simp)];exact World.cell?_setCell_same' _ _ _ (by rw[hc1];rfl)
  have hd2:(((Wx.setCell ⟨w.heap.size + 1,0,none⟩ (.string s9)).setCell ⟨w.heap.size + 1 + 1,0,none⟩ (.int .i64 0)).drew).cell? ⟨w.heap.size + 1 + 1,0,none⟩=some (.int .i64 0):=by
   show((Wx.setCell ⟨w.heap.size + 1,0,none⟩ (.string s9)).setCell ⟨w.heap.size + 1 + 1,0,none⟩ (.int .i64 0)).cell? ⟨w.heap.size + 1 + 1,0,none⟩=_
   exact World.cell?_setCell_same' _ _ _ (by rw[World.cell?_setCell_other _ _ _ _ (by simp),hc2];rfl)
  have hc5:=cell_kept hd1 (grownBy_putObj' _ Dd (.deferred none)) (fun r e=>by cases e;exact⟨_,hK',rfl⟩)
  have hc6:=cell_kept hd2 (grownBy_putObj' _ Dd (.deferred none)) (fun r e=>by cases e;exact⟨_,hK',rfl⟩)
  have hBf:=(((hB4.setCell (p:=⟨w.heap.size + 1,0,none⟩) (by simp) (.string s9)).setCell (p:=⟨w.heap.size + 1 + 1,0,none⟩) (by simp;omega) (.int .i64 0)).drew).trans (belowK_b (w:=w) (Nat.le_refl _) _ Dd _ (.deferred none) (by omega) hK' rfl rfl)
  have HF:=Lib.hid hBf
  have HT:Hid (D.text i=D.secs[i]):=by
   simp only[Hid]
   rw[text_none D i HNE.out]
   simp[List.getD,hi]
  refine⟨.tuple #[.string s9,.int .i64 0],?_,?_,HF.out⟩
  ·simp[results,Tryz.f103,go_sem,hc5,hc6]
  ·rw[HT.out,HSV.out]
 case stop =>
  rintro Dd c pre Wx hDd ⟨k,hk,rfl⟩ ⟨⟨rfl,ini,last,e1,e2,e3,hcr,hce⟩,hBw⟩ hK
  gi_wp2
  refine⟨by simp,.inl ⟨_,_,rfl,run_takeDeferred hK,?_⟩⟩
  have hc5:=cell_kept hcr (grownBy_putObj' _ Dd (.deferred none)) (fun r e=>by cases e;exact⟨_,hK,rfl⟩)
  have hc6:=cell_kept hce (grownBy_putObj' _ Dd (.deferred none)) (fun r e=>by cases e;exact⟨_,hK,rfl⟩)
  have HT:Hid (ba (D.text i)=last.2.2):=text_some D i k hk e1 e2 e3
  have hBf:=hBw.trans (belowK_b (w:=w) (Nat.le_refl _) Wx Dd _ (.deferred none) (by omega) hK rfl rfl)
  refine⟨.tuple #[.string last.2.2,.int .i64 0],?_,?_,hBf⟩
  ·simp[results,Tryz.f103,go_sem,hc5,hc6]
  ·rw[HT.out]
theorem DevRead_calls {w d vs vc D} (h:IsDev w d vs vc D) (a:Int) (hcl:D.cache.length≤1000000) :
  Calls Tryz.prog 103 #[.pointer (some ⟨d,0,none⟩),.int .i64 a] w (DReadPost (D.read a) w):=by
 by_cases hb:a < 0∨(D.secs.length:Int)≤a∨D.down=true
 ·exact Read_bad h a hb
 ·obtain⟨i,rfl⟩:=Int.eq_ofNat_of_zero_le (show 0≤a by omega)
  have hi:i < D.secs.length:=by omega
  have hd:D.down=false:=by cases hdd:D.down;rfl;exact absurd (Or.inr (Or.inr hdd)) hb
  have e:D.read i=(D.text i,0):=by
   simp only[Dev.read,hd]
   rw[if_neg (by omega)]
   simp
  rw[e]
  exact Read_good h i hi hd hcl
end Go.Proofs.YtfgjehecjgebdaaGreat
