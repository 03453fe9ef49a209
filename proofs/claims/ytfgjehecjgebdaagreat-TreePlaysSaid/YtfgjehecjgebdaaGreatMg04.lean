/- General words about worlds, blocks and frames; no program in sight. -/
import Derived.Test.YtfgjehecjgebdaaGreatMg01
import Derived.WalkKit
import Derived.WalkLawsBesides
import Derived.WalkSpells
import Derived.Deep.LoopGhost
import Derived.Deep.DeepCutAuto
import Derived.Deep.QuietTactic
import Derived.BigQuiet
import Derived.Lib.Hide
import Derived.ArgAppend
import Derived.Lib.AppendStr
import Derived.Laws.IdiomStrings
import Derived.ChangeSame
import Derived.Maps.AppendAt
import Derived.Deep.AppendLies
import Derived.Deep.Draws
import Derived.Laws.BitsLemmas
namespace Go.Proofs.YtfgjehecjgebdaaGreat
open Go.RowKit
structure Kept (S:Nat→Prop) (w w':World):Prop where
 os:w'.os=w.os
 tape:w'.tape=w.tape
 output:w'.output=w.output
 size:w.heap.size≤w'.heap.size
 block:∀k,k < w.heap.size → ¬S k→w'.heap[k]? = w.heap[k]?
theorem Kept.refl (S:Nat→Prop) (w:World):Kept S w w:=⟨rfl,rfl,rfl,Nat.le_refl _,fun _ _ _=>rfl⟩
theorem Kept.trans {S:Nat→Prop} {a b c:World} (h:Kept S a b) (k:Kept S b c):Kept S a c :=
 ⟨k.os.trans h.os,k.tape.trans h.tape,k.output.trans h.output,Nat.le_trans h.size k.size,
  fun i hi hs=>(k.block i (Nat.lt_of_lt_of_le hi h.size) hs).trans (h.block i hi hs)⟩
theorem Kept.mono {S T:Nat→Prop} {a b:World} (h:Kept S a b) (hst:∀k,k < a.heap.size→S k→T k):Kept T a b :=
 ⟨h.os,h.tape,h.output,h.size,fun i hi ht=>h.block i hi fun hs=>ht (hst i hi hs)⟩
theorem Kept.then {S T:Nat→Prop} {a b c:World} (h:Kept S a b) (k:Kept T b c) (hst:∀i,i < a.heap.size→T i→S i):Kept S a c :=
 ⟨k.os.trans h.os,k.tape.trans h.tape,k.output.trans h.output,Nat.le_trans h.size k.size,
  fun i hi hs=>(k.block i (Nat.lt_of_lt_of_le hi h.size) fun ht=>hs (hst i hi ht)).trans (h.block i hi hs)⟩
theorem Kept.drew {S:Nat→Prop} {a b:World} (h:Kept S a b):Kept S a b.drew:=⟨h.os,h.tape,h.output,h.size,h.block⟩
theorem Kept.drewN {S:Nat→Prop} {a b:World} (h:Kept S a b) (n:Nat):Kept S a (b.drewN n):=h.trans ⟨rfl,rfl,rfl,Nat.le_refl _,fun _ _ _=>rfl⟩
theorem Kept.alloc {S:Nat→Prop} {a b:World} (h:Kept S a b) (o:Obj):Kept S a (b.alloc o) :=
 h.trans ⟨rfl,rfl,rfl,by simp,fun k hk _=>Below.heap_alloc _ _ _ hk⟩
theorem Kept.setCell {S:Nat→Prop} {a b:World} (h:Kept S a b) {p:Addr} (hp:S p.block∨a.heap.size≤p.block) (v:Value):Kept S a (b.setCell p v):=by
 refine⟨h.os,h.tape,h.output,by simpa[World.setCell] using h.size,fun k hk hs=>?_⟩
 rw[Below.heap_setCell _ _ _ _ (by intro e;subst e;rcases hp with hp|hp;exact hs hp;omega)]
 exact h.block k hk hs
theorem Kept.set1 {c:Nat} {a b:World} (h:Kept (· = c) a b) (i:Nat) (v:Value):Kept (· = c) a (b.setCell ⟨c,i,none⟩ v):=h.setCell (.inl rfl) v
theorem Kept.grown {S:Nat→Prop} {a b c:World} {row:Option Nat} (h:Kept S a b) (hg:b.grownBy c row) (hr:∀k,row=some k→S k∨a.heap.size≤k):Kept S a c :=
 ⟨hg.os.trans h.os,hg.tape.trans h.tape,hg.output.trans h.output,Nat.le_trans h.size hg.size,
  fun i hi hs=>(hg.block i (Nat.lt_of_lt_of_le hi h.size) fun e=>by rcases hr i e.symm with h'|h';exact hs h';omega).trans (h.block i hi hs)⟩
theorem Kept.of_below {w w':World} (h:Below w.heap.size w w'):Kept (fun _=>False) w w':=⟨h.os,h.tape,h.output,h.size,fun k hk _=>h.block k hk⟩
theorem Kept.below {w w':World} (h:Kept (fun _=>False) w w'):Below w.heap.size w w':=⟨h.os,h.tape,h.output,h.size,fun k hk=>h.block k hk id⟩
theorem lt_heap {w:World} {b:Nat} {o:Obj} (h:w.heap[b]? = some o):b < w.heap.size:=(Array.getElem?_eq_some_iff.1 h).1
theorem Kept.heap {S:Nat→Prop} {w w':World} (h:Kept S w w') {k:Nat} {o:Obj} (hb:w.heap[k]? = some o) (hs:¬S k):w'.heap[k]? = some o :=
 (h.block k (lt_heap hb) hs).trans hb
theorem cell_heap {w:World} {b:Nat} {cs:Array Value} {t:TypeId} {f:Nat×Nat} (h:w.heap[b]? = some (.cells cs t f)) (i:Nat):w.cell? ⟨b,i,none⟩=cs[i]? := by
 simp[World.cell?,h]
theorem free_heap {w:World} {b:Nat} {cs:Array Value} {t:TypeId} (h:w.heap[b]? = some (.cells cs t (0,0))) (i:Nat):w.frozen? ⟨b,i,none⟩=false:=by
 simp[World.frozen?,h]
theorem heap_set {w:World} {b:Nat} {cs:Array Value} {t:TypeId} {f:Nat×Nat} (h:w.heap[b]? = some (.cells cs t f)) (i:Nat) (v:Value) :
  (w.setCell ⟨b,i,none⟩ v).heap[b]? = some (.cells (cs.setIfInBounds i v) t f):=by
 simp[World.setCell,Array.getElem?_modify,h]
theorem heap_set_other {w:World} {a:Addr} {v:Value} {k:Nat} {o:Obj} (h:w.heap[k]? = some o) (hk:k ≠ a.block):(w.setCell a v).heap[k]? = some o:=by
 rw[Below.heap_setCell _ _ _ _ hk];exact h
theorem heap_new (w:World) (o:Obj):(w.alloc o).heap[w.heap.size]? = some o:=by
 show(w.heap.push o)[w.heap.size]? = _
 simp
theorem heap_old {w:World} {k:Nat} {p:Obj} (h:w.heap[k]? = some p) (o:Obj):(w.alloc o).heap[k]? = some p:=by
 rw[Below.heap_alloc _ _ _ (lt_heap h)];exact h
theorem run_make_n {P:Program} (w:World) {t e:TypeId} {z:Value} {bytes:Nat} (ht:P.underlying t=some (.slice e))
  (hi:(P.info? e).map (fun i=>(i.zero,i.size,i.bytes))=some (some z,1,bytes)) (hz:z.cells = #[z]) (n:Nat) (hb:bytes * n≤281474976710656) (h63:n≤maxLen) :
  (Instr.makeSlice t (.int .i64 (n:Int)) (.int .i64 (n:Int))).run P w = .ok (.slice (some ⟨w.heap.size,0,none⟩) n n) (w.alloc (.cells (List.replicate n z).toArray e)):=by
 obtain⟨i,hi,h1,h2,h3⟩:=info_parts hi
 have h63':(n:Int)≤9223372036854775807:=by
  have h:=h63
  simp[maxLen] at h
  omega
 have hb':(i.bytes:Int) * (n:Int)≤281474976710656:=by
  rw[h3]
  have h:((bytes * n:Nat):Int)≤281474976710656:=by omega
  rwa [Int.natCast_mul] at h
 have hr:=run_make (P:=P) w t e i z ht hi h1 .i64 .i64 n n (by omega) (Int.le_refl _) hb' h63'
 simp only[Int.toNat_natCast,hz,h2,Nat.mul_one] at hr
 rw[hr]
 have:madeCells #[z] n=(List.replicate n z).toArray:=by
  apply Array.ext'
  rw[toList_madeCells_one]
 rw[this]
def bstr (l:List Nat):ByteArray:=⟨(l.map UInt8.ofNat).toArray⟩
def B (x:Nat):Value:=.int .u8 x
theorem run_conv_row {P:Program} {w:World} {src e dst:TypeId} (hs:P.underlying src=some (.slice e)) (he:P.underlying e=some (.int .u8)) (hd:P.underlying dst=some .string)
  {g cap:Nat} {ys more:List Nat} {t:TypeId} (h:w.heap[g]? = some (.cells ((ys ++ more).map B).toArray t (0,0))) :
  (convert src dst (.slice (some ⟨g,0,none⟩) ys.length cap)).run P w = .ok (.string (bstr ys)) w:=by
 have:=run_convert_bytes_arg (P:=P) w src e hs he g 0 ys.length cap (ys.map fun n:Nat=>(n:Int)) (by simp) (by
  intro i hi
  rw[Nat.zero_add,cell_heap h]
  have e:((ys ++ more).map B)[i]? = some (.int .u8 (ys[i]:Nat)):=by rw[List.getElem?_map,List.getElem?_append_left hi];simp[hi,B]
  simp only[List.getElem?_toArray,e]
  simp[List.getD,hi]) dst hd
 rw[this]
 simp[strOfNums,bstr]
section
open Go.WideShapes Go.ChangeShapes
variable {H:Type} {enc:TypeId×Value→H} {P:Program}
end
theorem Kept.own {S:Nat→Prop} {w w':World} (k:Kept S w w') {base:Nat} {e:TypeId} {size:Nat} {v:Value} {n:Nat} {xs:List Value} (h:w.ownsRow base e size v n xs)
  (hs:∀g,v.ownBlock=some g → ¬S g):w'.ownsRow base e size v n xs:=by
 refine⟨h.1,?_⟩
 rcases h.2 with hn|⟨g,cap,cur,rfl,hb,hgg,rest⟩
 ·exact .inl hn
 ·exact .inr ⟨g,cap,cur,rfl,hb,k.heap hgg (hs g rfl),rest⟩
theorem own_form {w:World} {base:Nat} {e:TypeId} {v:Value} {n:Nat} {xs:List Value} (h:w.ownsRow base e 1 v n xs) (hn:0 < n):∃g cap,v = .slice (some ⟨g,0,none⟩) n cap:=by
 rcases h.2 with⟨_,h0⟩|⟨g,cap,_,hv,_⟩
 ·omega
 ·exact⟨g,cap,hv⟩
theorem app_one {P:Program} {w:World} {ops:Array Oper} {rest:List Oper} {o:Oper} {a:Act} {Q:Exit→Act→World→Prop} (hgd:o.guard=none) (s x:Operand) {t e:TypeId} {z:Value} {bytes:Nat}
  (ho:o.op = .call { callee:=.builtin .append,args := #[s,x],argTypes := #[t,t] })
  (ht:P.underlying t=some (.slice e)) (hi:(P.info? e).map (fun i=>(i.zero,i.size,i.bytes))=some (some z,1,bytes)) (hz:z.cells.size=1)
  {v:Value} {n:Nat} {xs:List Value} (hs:a.eval s=v) (hown:w.ownsRow 0 e 1 v n xs)
  (B:Nat) {A:Option Addr} {m c:Nat} {news:List Value} (hx:a.eval x = .slice A m c) (hr:Reads w B 1 A m news) (h1:∀u∈news,u.oneCell'=true)
  (h63:n + m≤maxLen) (hbytes:(n + m) * bytes≤140737488355328)
  (h:∀v' w',w'.ownsRow 0 e 1 v' (n + m) (xs ++ news)→w.grownBy w' v.ownBlock→(v'.ownBlock=v.ownBlock∨v'.ownBlock=some w.heap.size)→wpList P ops Q rest (a.put o.dst v') w'):wpList P ops Q (o :: rest) a w:=by
 obtain⟨i,hi,h1',h2,h3⟩:=info_parts hi
 exact wpList_append_any w hgd s x t ho 0 e i z 1 bytes ht hi h1' h2 h3 hz (by omega) v n xs hs hown B A m c news hx hr h1 h63 hbytes (Nat.zero_le _) h
theorem step_one {P:Program} {w:World} {ops:Array Oper} {o:Oper} {a:Act} {K:Act→World→Prop} {Q:Exit→Act→World→Prop} {E:Prop} (hgd:o.guard=none) (s x:Operand) {t e:TypeId} {z:Value} {bytes:Nat}
  (ho:o.op = .call { callee:=.builtin .append,args := #[s,x],argTypes := #[t,t] })
  (ht:P.underlying t=some (.slice e)) (hi:(P.info? e).map (fun i=>(i.zero,i.size,i.bytes))=some (some z,1,bytes)) (hz:z.cells.size=1)
  {v:Value} {n:Nat} {xs:List Value} (hs:a.eval s=v) (hown:w.ownsRow 0 e 1 v n xs)
  (B:Nat) {A:Option Addr} {m c:Nat} {news:List Value} (hx:a.eval x = .slice A m c) (hr:Reads w B 1 A m news) (h1:∀u∈news,u.oneCell'=true)
  (h63:n + m≤maxLen) (hbytes:(n + m) * bytes≤140737488355328)
  (h:∀v' w',w'.ownsRow 0 e 1 v' (n + m) (xs ++ news)→w.grownBy w' v.ownBlock→(v'.ownBlock=v.ownBlock∨v'.ownBlock=some w.heap.size)→K (a.put o.dst v') w') :
  if Region.wanted o (yielded ops a.tmps)=true then Oper.wp P o a w K Q else E:=by
 obtain⟨i,hi,h1',h2,h3⟩:=info_parts hi
 exact step_append_any w hgd s x t ho 0 e i z 1 bytes ht hi h1' h2 h3 hz (by omega) v n xs hs hown B A m c news hx hr h1 h63 hbytes (Nat.zero_le _) h
theorem run_app_str {P:Program} {w:World} {t u e:TypeId} (ty:TypeId) (ht:P.underlying t=some (.slice e)) (hu:P.underlying u=some .string) (hi:(P.info? e).map (fun i=>(i.zero,i.size,i.bytes))=some (some (.int .u8 0),1,1))
  {v:Value} {n:Nat} {xs:List Value} (hown:w.ownsRow 0 e 1 v n xs) (s:ByteArray) (hb:n + s.size≤140737488355328) :
  ∃v' w',(Builtin.append_ #[t,u] ty #[v,.string s]).run P w = .ok v' w'∧w'.ownsRow 0 e 1 v' (n + s.size) (xs ++ Lib.strCells s)∧w.grownBy w' v.ownBlock ∧
   (v'.ownBlock=v.ownBlock∨v'.ownBlock=some w.heap.size):=by
 obtain⟨i,hi,hz,h1,h2⟩:=info_parts hi
 obtain⟨v',w',hr,g1,g2,g3⟩:=Lib.run_append_own_string (P:=P) w 0 t u ty e i ht hu hi hz h1 h2 v n xs hown s (by unfold maxLen;omega) hb (Nat.zero_le _)
 refine⟨v',w',hr,g1,g2,?_⟩
 rcases hown.2 with⟨rfl,rfl⟩|⟨g,cap,cur,rfl,hbg,hg,hnc,hcm,hcs,htake⟩
 ·by_cases hm:s.size=0
  ·rw[g3.2 ⟨rfl,hm⟩];exact .inl rfl
  ·have hr2:=run_append_nil_string (P:=P) w t u ty e i (.int .u8 0) ht hu hi hz s (by omega) (by omega) (by rw[h2];omega)
   have:=hr.symm.trans hr2
   injection this with e1 _
   rw[e1];exact .inr rfl
 ·have hcs':cur.size=cap:=by simpa using hcs
  by_cases hroom:n + s.size≤cap
  ·have hr2:=Lib.run_append_room_string (P:=P) w t u ty e i ht hu hi h1 g n cap cur hg s hroom (by omega)
   have:=hr.symm.trans hr2
   injection this with e1 _
   rw[e1];exact .inl rfl
  ·have hxl:xs.length=n:=by simpa using hown.1
   have hr2:=Lib.run_append_grow_string (P:=P) w t u ty e i (.int .u8 0) ht hu hi hz ⟨g,0,none⟩ n cap xs (by rw[h1];simpa using hxl) (hown.cells (g:=g) rfl) s (by omega) (by omega) (by rw[h2];exact growslice_fits (by omega) (by omega))
   have:=hr.symm.trans hr2
   injection this with e1 _
   rw[e1];exact .inr rfl
theorem app_str {P:Program} {w:World} {ops:Array Oper} {rest:List Oper} {o:Oper} {a:Act} {Q:Exit→Act→World→Prop} (hgd:o.guard=none) (sl x:Operand) {t u e:TypeId}
  (ho:o.op = .call { callee:=.builtin .append,args := #[sl,x],argTypes := #[t,u] })
  (ht:P.underlying t=some (.slice e)) (hu:P.underlying u=some .string) (hi:(P.info? e).map (fun i=>(i.zero,i.size,i.bytes))=some (some (.int .u8 0),1,1))
  {v:Value} {n:Nat} {xs:List Value} (hs:a.eval sl=v) (hown:w.ownsRow 0 e 1 v n xs) {s:ByteArray} (hx:a.eval x = .string s) (hb:n + s.size≤140737488355328)
  (h:∀v' w',w'.ownsRow 0 e 1 v' (n + s.size) (xs ++ Lib.strCells s)→w.grownBy w' v.ownBlock→(v'.ownBlock=v.ownBlock∨v'.ownBlock=some w.heap.size)→wpList P ops Q rest (a.put o.dst v') w'):wpList P ops Q (o :: rest) a w:=by
 refine wpList_plain hgd fun K hK=>?_
 obtain⟨v',w',hr,h2,h3,h4⟩:=run_app_str (P:=P) (w:=w) o.type ht hu hi hown s hb
 unfold Oper.wp execOp
 simp only[ho,resolve,invoke,builtin,Sem.run_bind,Sem.run_pure,Result.andThen_ok,List.map_toArray,List.map_cons,List.map_nil,hs,hx,hr]
 exact hK _ _ (h v' w' h2 h3 h4)
theorem reads_one (w:World) (u:Value) (e:TypeId):Reads (w.alloc (.cells #[u] e)) (w.heap.size + 1) 1 (some ⟨w.heap.size,0,none⟩) 1 [u] :=
 ⟨rfl,fun _=>⟨_,rfl,Nat.lt_succ_self _,fun j x hj=>by
  match j,hj with
  | 0,hj =>
   simp at hj;subst hj
   simp[Addr.add]⟩⟩
def RowIs (w:World) (g:Nat) (e:TypeId) (xs:List Value):Prop:=∃cs f,w.heap[g]? = some (.cells cs e f) ∧ ∀(i:Nat) (x:Value),xs[i]? = some x→cs[i]? = some x
theorem RowIs.cell {w g e xs} (h:RowIs w g e xs) {i:Nat} {x:Value} (hx:xs[i]? = some x):w.cell? ⟨g,i,none⟩=some x:=by
 obtain⟨cs,f,hg,hc⟩:=h
 rw[cell_heap hg]
 exact hc i x hx
theorem RowIs.kept {S:Nat→Prop} {w w' g e xs} (h:RowIs w g e xs) (k:Kept S w w') (hs:¬S g):RowIs w' g e xs:=by
 obtain⟨cs,f,hg,hc⟩:=h
 exact⟨cs,f,k.heap hg hs,hc⟩
theorem RowIs.new (w:World) (xs:List Value) (e:TypeId):RowIs (w.alloc (.cells xs.toArray e)) w.heap.size e xs :=
 ⟨_,_,heap_new w _,fun i x hx=>by simpa using hx⟩
theorem RowIs.newAt {w:World} {n:Nat} (hn:n=w.heap.size) (xs:List Value) (e:TypeId):RowIs (w.alloc (.cells xs.toArray e)) n e xs:=by
 subst hn;exact RowIs.new w xs e
theorem heap_newAt {w:World} {n:Nat} (hn:n=w.heap.size) (o:Obj):(w.alloc o).heap[n]? = some o:=by
 subst hn;exact heap_new w o
theorem RowIs.of_own {w:World} {base:Nat} {e:TypeId} {g cap n:Nat} {xs:List Value} (h:w.ownsRow base e 1 (.slice (some ⟨g,0,none⟩) n cap) n xs):RowIs w g e xs:=by
 rcases h.2 with⟨h',_⟩|⟨g',cap',cur,h',_,hg,_,_,_,htake⟩
 ·simp at h'
 ·simp only[Value.slice.injEq,Option.some.injEq,Addr.mk.injEq,and_true,true_and] at h'
  obtain⟨rfl,rfl⟩:=h'
  refine⟨cur,_,hg,fun i x hx=>?_⟩
  rw[←htake,List.getElem?_take] at hx
  split at hx
  ·simpa using hx
  ·cases hx
theorem run_str_bytes {P:Program} {src dst e:TypeId} (hs:P.underlying src=some .string) (hd:P.underlying dst=some (.slice e)) (he:P.underlying e=some (.int .u8)) (s:ByteArray) :
  ∃(cp:World→Nat) (O:World→Obj),(∀w:World,(convert src dst (.string s)).run P w = .ok (.slice (some ⟨w.heap.size,0,none⟩) s.size (cp w)) (w.drew.alloc (O w))) ∧
   (∀(w:World) (j:Nat) (hj:j < s.size),(w.alloc (O w)).cell? ⟨w.heap.size,j,none⟩=some (.int .u8 (s[j].toNat:Int)))∧(∀w:World,s.size≤cp w):=by
 refine⟨fun w=>grownCap w s.size 0 e,fun w=>.cells (bytesRow s (grownCap w s.size 0 e)) e ((bytesRow s (grownCap w s.size 0 e)).size,(bytesRow s (grownCap w s.size 0 e)).size + 1),fun w=>run_bytes_of_string w src dst e s hs hd he,fun w j hj=>?_,fun w=>grownCap_ge w s.size 0 e⟩
 rw[cell_heap (heap_new w _)]
 exact bytesRow_at s _ j hj
theorem int_ret {k:IntKind} {a b:Int} (h:a=b):Ending.returned (.int k a) = .returned (.int k b):=by rw[h]
end Go.Proofs.YtfgjehecjgebdaaGreat
/- Plain: whole numbers and texts as bytes. -/
namespace Go.Proofs.YtfgjehecjgebdaaGreat

/-- How many bytes a number has. -/
def nb (n : Nat) : Nat := if h : n = 0 then 0 else nb (n / 256) + 1
termination_by n
decreasing_by omega
theorem nb_zero : nb 0 = 0 := by unfold nb; simp
theorem nb_pos {n : Nat} (h : 0 < n) : nb n = nb (n / 256) + 1 := by
  conv => lhs; unfold nb
  rw [dif_neg (by omega)]
theorem nb_le (n k : Nat) (h : n < 256 ^ k) : nb n ≤ k := by
  induction k generalizing n with
  | zero => have : n = 0 := by simpa using h
            subst this; rw [nb_zero]; omega
  | succ k ih =>
    by_cases h0 : n = 0
    · subst h0; rw [nb_zero]; omega
    · rw [nb_pos (by omega)]
      have := ih (n / 256) (by rw [Nat.pow_succ] at h; omega)
      omega
theorem nb_le8 (n : Nat) (h : n < 18446744073709551616) : nb n ≤ 8 := nb_le n 8 (by simpa using h)
theorem nb_lt (n : Nat) : n < 256 ^ nb n := by
  induction n using Nat.strongRecOn with
  | _ n ih =>
    by_cases h0 : n = 0
    · subst h0; rw [nb_zero]; simp
    · rw [nb_pos (by omega), Nat.pow_succ]
      have := ih (n / 256) (by omega)
      omega

/-- A number's bytes, the highest first. -/
def beB (k n : Nat) : List UInt8 := (List.range k).map fun j => UInt8.ofNat (n / 256 ^ (k - 1 - j) % 256)
theorem beB_len (k n : Nat) : (beB k n).length = k := by simp [beB]
def encU (n : Nat) : List UInt8 := UInt8.ofNat (nb n) :: beB (nb n) n
theorem encU_len (n : Nat) : (encU n).length = nb n + 1 := by simp [encU, beB_len]
theorem beB_take (k n i : Nat) (hi : i < k) : (beB k n).take (k - 1 - i + 1) = (beB k n).take (k - 1 - i) ++ [UInt8.ofNat (n / 256 ^ i % 256)] := by
  have hl : k - 1 - i < (beB k n).length := by rw [beB_len]; omega
  rw [List.take_succ_eq_append_getElem hl]
  congr 2
  simp only [beB, List.getElem_map, List.getElem_range]
  rw [show k - 1 - (k - 1 - i) = i by omega]
/-- A number that may be below 0. -/
def encN (n : Int) : List UInt8 := encU n.toNat
def encNs (l : List Int) : List UInt8 := l.flatMap encN
/-- A text, with how many bytes it has. -/
def encS (s : List UInt8) : List UInt8 := encU s.length ++ s
def encSs (l : List (List UInt8)) : List UInt8 := l.flatMap encS

end Go.Proofs.YtfgjehecjgebdaaGreat
/- Plain: taking whole numbers and texts from the front of bytes. -/
namespace Go.Proofs.YtfgjehecjgebdaaGreat
abbrev InSt:=List UInt8×Int
def iFail (c:Int) (s:InSt):InSt:=if s.2=0∧c ≠ 0 then ([],c) else s
def iTake (n:Nat) (s:InSt):List UInt8×InSt:=if s.1.length < n then ([],iFail 1 s) else (s.1.take n,(s.1.drop n,s.2))
def beN (l:List UInt8):Nat:=l.foldl (fun n c=>n * 256 + c.toNat) 0
def iU (s:InSt):Nat×InSt :=
 match iTake 1 s with
 | (k,s1)=>if s1.2 ≠ 0 then (0,s1) else
  match k with
  | []=>(0,s1)
  | c :: _=>if 8 < c.toNat then (0,iFail 2 s1) else
   match iTake c.toNat s1 with
   | (t,s2)=>if t.head? = some 0 then (0,iFail 2 s2) else (beN t,s2)
def iN (most:Int) (s:InSt):Nat×InSt:=match iU s with|(n,s1)=>if max most 0 < (n:Int) then (0,iFail 3 s1) else (n,s1)
def iS (most:Int) (s:InSt):List UInt8×InSt:=match iN most s with|(n,s1)=>iTake n s1
def iEnd (s:InSt):InSt:=if s.1 = [] then s else iFail 2 s
theorem beN_snoc (l:List UInt8) (c:UInt8):beN (l ++ [c])=beN l * 256 + c.toNat:=by simp[beN]
theorem beN_lt_from (l:List UInt8):∀a:Nat,l.foldl (fun n c=>n * 256 + c.toNat) a < (a + 1) * 256 ^ l.length:=by
 induction l with
 | nil=>intro a;simp
 | cons c t ih =>
  intro a
  rw[List.foldl_cons,List.length_cons,Nat.pow_succ]
  have h1:=ih (a * 256 + c.toNat)
  have h2:=c.toNat_lt
  have h3:(a * 256 + c.toNat + 1) * 256 ^ t.length≤((a + 1) * 256) * 256 ^ t.length:=Nat.mul_le_mul_right _ (by omega)
  rw[Nat.mul_comm (256 ^ t.length) 256, ←Nat.mul_assoc]
  omega
theorem beN_lt (l:List UInt8):beN l < 256 ^ l.length:=by
 have:=beN_lt_from l 0
 simpa[beN] using this
theorem shl_or (n c:Nat) (hn:n < 72057594037927936) (hc:c < 256):bits BinOp.or IntKind.u64 ((n:Int) * 256) (c:Int)=((n * 256 + c:Nat):Int):=by
 have:=bits_join .u64 64 (by decide) (fun m h0 h1=>by simp[IntKind.wrap,IntKind.bits,IntKind.signed];omega) 8 ((n:Int) * 256) (c:Int) (by omega) (by omega) (by omega) (by omega) (by omega) (by omega)
 rw[this];omega
end Go.Proofs.YtfgjehecjgebdaaGreat
/- Masks of whole numbers of either sign. -/
namespace Go.Proofs.YtfgjehecjgebdaaGreat
open Go.RowKit
theorem and_mask (n:Int) (k:Nat) (hk:k≤62):bits .and .i64 n (2 ^ k - 1)=n % 2 ^ k:=by
 have hp:(2:Nat) ^ k≤2 ^ 62:=Nat.pow_le_pow_right (by omega) hk
 have hpos:0 < (2:Nat) ^ k:=Nat.two_pow_pos k
 have hc:((2:Int) ^ k - 1)=((2 ^ k - 1:Nat):Int):=by
  rw[Int.natCast_sub hpos];simp
 have hpI:(0:Int) < 2 ^ k:=by exact_mod_cast hpos
 have hpI2:(2:Int) ^ k≤2 ^ 62:=by exact_mod_cast hp
 have hd:(2:Int) ^ k ∣ (18446744073709551616:Int):=by
  refine⟨2 ^ (64 - k),?_⟩
  rw[←Int.pow_add,show k + (64 - k)=64 by omega]
  decide
 unfold bits
 have e1:(BitVec.ofInt 64 ((2:Int) ^ k - 1)).toNat=2 ^ k - 1:=by
  rw[hc,BitVec.ofInt_natCast,BitVec.toNat_ofNat];exact Nat.mod_eq_of_lt (by omega)
 have e2:(BitVec.ofInt 64 n).toNat=(n % 18446744073709551616).toNat:=by
  rw[BitVec.toNat_ofInt];simp
 show IntKind.i64.wrap ((BitVec.ofInt 64 n &&& BitVec.ofInt 64 ((2:Int) ^ k - 1)).toNat:Int)=_
 rw[BitVec.toNat_and,e1,e2,Nat.and_two_pow_sub_one_eq_mod,IntKind.wrap_i64]
 have hn:0≤n % 18446744073709551616:=Int.emod_nonneg _ (by omega)
 have e3:(((n % 18446744073709551616).toNat % 2 ^ k:Nat):Int)=n % 2 ^ k:=by
  rw[Int.natCast_emod,Int.toNat_of_nonneg hn]
  have:=Int.emod_emod_of_dvd n hd
  simpa using this
 rw[e3]
 have h0:0≤n % (2:Int) ^ k:=Int.emod_nonneg _ (by omega)
 have h1:n % (2:Int) ^ k < 2 ^ k:=Int.emod_lt_of_pos _ hpI
 generalize n % (2:Int) ^ k=r at h0 h1
 generalize (2:Int) ^ k=m at h1 hpI2
 omega
end Go.Proofs.YtfgjehecjgebdaaGreat
