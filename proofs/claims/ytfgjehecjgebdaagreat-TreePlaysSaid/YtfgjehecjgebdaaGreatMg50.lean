/- The laws of 10: Build. -/
import Derived.Test.YtfgjehecjgebdaaGreatMg43
import Derived.Test.YtfgjehecjgebdaaGreatMg45
import Derived.Test.YtfgjehecjgebdaaGreatMg15
import Derived.StillTactics
import Derived.Test.YtfgjehecjgebdaaGreatMg06
namespace Go.Proofs.YtfgjehecjgebdaaGreat
open Go.RowKit Go.Maps Go.ChangeMaps
attribute [local go_sem] Oper.semAt_some
def cutB (s:ByteArray) (n:Nat):Bs:=(cutTo s n).data.toList
theorem cutB_ba (s:ByteArray) (n:Nat):cutTo s n=ba (cutB s n):=rfl
end Go.Proofs.YtfgjehecjgebdaaGreat
/- The laws' tidy. -/
namespace Go.Proofs.YtfgjehecjgebdaaGreat
open Go.RowKit Go.Maps Go.ChangeMaps
set_option maxRecDepth 100000
set_option maxHeartbeats 4000000
attribute [local go_sem] Oper.semAt_some
theorem tidy_calls (k n:Int) (s t:ByteArray) (hs:s.size≤maxLen) (ht:t.size≤maxLen) (w:World):Calls Tryz.prog 38 #[.agg #[.int .i64 k,.int .i64 n,.string s,.string t]] w fun e w'=>e = .returned (.agg #[.int .i64 k,.int .i64 n,.string (ba (cutB s 26)),.string (ba (cutB t 34))])∧Kept (fun _=>False) w w':=by
 have C1:=Lib.hid (fun w=>Cut_calls s 26 w hs (by omega))
 have C2:=Lib.hid (fun w=>Cut_calls t 34 w ht (by omega))
 rw[cutB_ba] at C1 C2
 obtain⟨xs,hxs⟩:∃x,x=ba (cutB s 26):=⟨_,rfl⟩
 obtain⟨ys,hys⟩:∃x,x=ba (cutB t 34):=⟨_,rfl⟩
 rw[←hxs] at C1⊢
 rw[←hys] at C2⊢
 clear hxs hys hs ht
 go_enter Tryz.func38,Tryz.ntmps38
 go_wp2_with fail
 obtain⟨W,hW⟩:∃W,W=(w.alloc (.cells #[.int .i64 k,.int .i64 n,.string s,.string t] 72)).alloc (.cells #[.int .i64 0,.int .i64 0,.string ⟨#[]⟩,.string ⟨#[]⟩] 72):=⟨_,rfl⟩
 rw[←hW]
 obtain⟨N,hN⟩:∃N,N=w.heap.size:=⟨_,rfl⟩
 have hb:W.heap[N]? = some (.cells #[.int .i64 k,.int .i64 n,.string s,.string t] 72 (0,0)):=by rw[hW,hN];exact heap_old (heap_new w _) _
 have hr:W.heap[N + 1]? = some (.cells #[.int .i64 0,.int .i64 0,.string ⟨#[]⟩,.string ⟨#[]⟩] 72 (0,0)):=by rw[hW,hN];exact heap_newAt (by simp) _
 have KW:Hid (Kept (fun _=>False) w W):=by rw[hW];exact((Kept.refl _ _).alloc _).alloc _
 have HN:=Lib.hid hN
 have HB:=Lib.hid hb;have HR:=Lib.hid hr
 rw[←hN]
 have e2:W.cell? ⟨N,2,none⟩=some (.string s):=(cell_heap hb 2).trans rfl
 have e3:W.cell? ⟨N,3,none⟩=some (.string t):=(cell_heap hb 3).trans rfl
 have f:∀i,W.frozen? ⟨N,i,none⟩=false:=fun i=>free_heap hb i
 have hl:=lt_heap hb
 clear hW hN hb hr
 refine wp_region_z 7 (fun w'=>w'.cell? ⟨N,2,none⟩=some (.string s)∧w'.cell? ⟨N,3,none⟩=some (.string t)) (by kernel_rfl) ⟨e2,e3⟩ (fun hC=>?_)
 refine tz 0 (h:=?_)
 (try simp only[lits])
 refine tz 1 (h:=?_)
 (try simp only[lits])
 refine tz 3 (h:=?_)
 (try simp only[lits])
 refine tz 4 (h:=?_)
 (try simp only[lits])
 refine wpAnyZ_one (i:=2) (by kernel_rfl) rfl (fun K hK=>?_)
 go_simp
 refine(C1.out _).mono ?_
 rintro e w5 ⟨rfl,rfl⟩
 refine hK.out _ _ (fun _=>hC) ?_
 clear hK
 (try simp only[lits])
 refine tz 6 (h:=?_)
 (try simp only[lits])
 refine wpAnyZ_one (i:=5) (by kernel_rfl) rfl (fun K hK=>?_)
 go_simp
 refine(C2.out _).mono ?_
 rintro e w5 ⟨rfl,rfl⟩
 refine hK.out _ _ (fun _=>hC) ?_
 clear hK
 (try simp only[lits])
 refine wpAnyZ_one (i:=7) (by kernel_rfl) rfl (fun K hK=>?_)
 go_simp
 refine hK.out _ _ (fun h=>by cases h) ?_
 clear hK hC
 (try simp only[lits])
 refine wpAnyZ_one (i:=8) (by kernel_rfl) rfl (fun K hK=>?_)
 go_simp
 refine hK.out _ _ (fun h=>by cases h) ?_
 clear hK
 (try simp only[lits])
 refine wpAnyZ_one (i:=9) (by kernel_rfl) rfl (fun K hK=>?_)
 go_simp
 refine hK.out _ _ (fun h=>by cases h) ?_
 clear hK
 (try simp only[lits])
 refine wpAnyZ_done (by kernel_rfl) ?_ _
 obtain⟨W2,hW2⟩:∃W2,W2=((W.setCell ⟨N,2,none⟩ (.string xs)).setCell ⟨N,3,none⟩ (.string ys)).drew:=⟨_,rfl⟩
 rw[←hW2]
 have hb2:W2.heap[N]? = some (.cells #[.int .i64 k,.int .i64 n,.string xs,.string ys] 72 (0,0)):=by
  rw[hW2]
  have h:=heap_set (heap_set HB.out 2 (.string xs)) 3 (.string ys)
  exact h
 have hr2:W2.heap[N + 1]? = some (.cells #[.int .i64 0,.int .i64 0,.string ⟨#[]⟩,.string ⟨#[]⟩] 72 (0,0)):=by
  rw[hW2]
  exact heap_set_other (heap_set_other HR.out (by simp)) (by simp)
 have K2:Hid (Kept (fun _=>False) w W2):=by
  rw[hW2]
  refine((KW.out.setCell (.inr ?_) _).setCell (.inr ?_) _).drew
  ·have:=HN.out;show _≤N;omega
  ·have:=HN.out;show _≤N;omega
 have HR2:=Lib.hid hr2
 have x0:W2.cell? ⟨N,0,none⟩=some (.int .i64 k):=(cell_heap hb2 0).trans rfl
 have x1:W2.cell? ⟨N,1,none⟩=some (.int .i64 n):=(cell_heap hb2 1).trans rfl
 have x2:W2.cell? ⟨N,2,none⟩=some (.string xs):=(cell_heap hb2 2).trans rfl
 have x3:W2.cell? ⟨N,3,none⟩=some (.string ys):=(cell_heap hb2 3).trans rfl
 have y00:W2.cell? ⟨N + 1,0,none⟩=some (.int .i64 0):=(cell_heap hr2 0).trans rfl
 have y01:W2.cell? ⟨N + 1,1,none⟩=some (.int .i64 0):=(cell_heap hr2 1).trans rfl
 have y02:W2.cell? ⟨N + 1,2,none⟩=some (.string ⟨#[]⟩):=(cell_heap hr2 2).trans rfl
 have y03:W2.cell? ⟨N + 1,3,none⟩=some (.string ⟨#[]⟩):=(cell_heap hr2 3).trans rfl
 have fr:∀i,W2.frozen? ⟨N + 1,i,none⟩=false:=fun i=>free_heap hr2 i
 have hl2:=lt_heap hr2
 clear e2 e3 hW2 hb2 hr2 f hl HB HR
 go_wp2
 have hz:=heap_set (heap_set (heap_set (heap_set HR2.out 0 (.int .i64 k)) 1 (.int .i64 n)) 2 (.string xs)) 3 (.string ys)
 have q0:=(cell_heap hz 0).trans rfl
 have q1:=(cell_heap hz 1).trans rfl
 have q2:=(cell_heap hz 2).trans rfl
 have q3:=(cell_heap hz 3).trans rfl
 refine bodyPost_ret (v:=.agg #[.int .i64 k,.int .i64 n,.string xs,.string ys]) (by simp[results,Tryz.f38,go_sem,q0,q1,q2,q3]) rfl ?_
 have h1:w.heap.size≤N + 1:=by have:=HN.out;omega
 exact⟨rfl,(((K2.out.setCell (.inr h1) _).setCell (.inr h1) _).setCell (.inr h1) _).setCell (.inr h1) _⟩
end Go.Proofs.YtfgjehecjgebdaaGreat
