/- Rows of texts and of numbers; the library's slices: Clone, BinarySearch, Insert, Delete. -/
import Derived.Test.YtfgjehecjgebdaaGreatMg00
import Derived.Test.YtfgjehecjgebdaaGreatMg16
import Derived.Test.YtfgjehecjgebdaaGreatMg14
import Derived.Shelf.Spec.SlicesInsertGrow
namespace Go.Proofs.YtfgjehecjgebdaaGreat
open Go.RowKit
abbrev Bs:=List UInt8
def SRow (w:World) (B:Nat) (v:Value) (T:List Bs):Prop:=w.ownsRow B 9 1 v T.length (T.map Ss)
def IRow (w:World) (B:Nat) (v:Value) (K:List Nat):Prop:=w.ownsRow B 3 1 v K.length (K.map I)
theorem SRow.kept {w w' B v T} {S:Nat→Prop} (h:SRow w B v T) (k:Kept S w w') (hs:∀g,v.ownBlock=some g → ¬S g):SRow w' B v T:=k.own h hs
theorem IRow.kept {w w' B v T} {S:Nat→Prop} (h:IRow w B v T) (k:Kept S w w') (hs:∀g,v.ownBlock=some g → ¬S g):IRow w' B v T:=k.own h hs
theorem SRow.keptF {w w' B v T} (h:SRow w B v T) (k:Kept (fun _=>False) w w'):SRow w' B v T:=h.kept k fun _ _=>id
theorem IRow.keptF {w w' B v T} (h:IRow w B v T) (k:Kept (fun _=>False) w w'):IRow w' B v T:=h.kept k fun _ _=>id
theorem own_base {w:World} {B B':Nat} {e:TypeId} {size:Nat} {v:Value} {n:Nat} {xs:List Value} (h:w.ownsRow B e size v n xs) (hb:∀g,v.ownBlock=some g→B'≤g):w.ownsRow B' e size v n xs:=by
 refine⟨h.1,?_⟩
 rcases h.2 with hn|⟨g,cap,cur,rfl,_,rest⟩
 ·exact .inl hn
 ·exact .inr ⟨g,cap,cur,rfl,hb g rfl,rest⟩
theorem own_ge {w:World} {B:Nat} {e:TypeId} {size:Nat} {v:Value} {n:Nat} {xs:List Value} (h:w.ownsRow B e size v n xs) {g:Nat} (hg:v.ownBlock=some g):B≤g:=by
 rcases h.2 with⟨rfl,_⟩|⟨g',cap,cur,rfl,hb,_⟩
 ·simp[Value.ownBlock] at hg
 ·simp[Value.ownBlock] at hg;omega
theorem SRow.base {w B B' v T} (h:SRow w B v T) (hb:B'≤B):SRow w B' v T:=own_base h fun _ hg=>Nat.le_trans hb (own_ge h hg)
theorem IRow.base {w B B' v T} (h:IRow w B v T) (hb:B'≤B):IRow w B' v T:=own_base h fun _ hg=>Nat.le_trans hb (own_ge h hg)
theorem own_lt {w:World} {B:Nat} {e:TypeId} {size:Nat} {v:Value} {n:Nat} {xs:List Value} (h:w.ownsRow B e size v n xs) {g:Nat} (hg:v.ownBlock=some g):g < w.heap.size:=by
 obtain⟨cs,f,hh⟩:=own_type h hg;exact lt_heap hh
theorem SRow.nil (w:World) (B:Nat):SRow w B (.slice none 0 0) []:=World.ownsRow_nil _ _ _ _
theorem IRow.nil (w:World) (B:Nat):IRow w B (.slice none 0 0) []:=World.ownsRow_nil _ _ _ _
def SlS (w:World) (s:Value) (T:List Bs):Prop:=∃A c,s = .slice A T.length c∧((A=none∧T = []) ∨ ∃b off,A=some ⟨b,off,none⟩ ∧ ∀j (hj:j < T.length),w.cell? ⟨b,off + j,none⟩=some (.string (ba T[j])))
def SlI (w:World) (s:Value) (K:List Nat):Prop:=∃A c,s = .slice A K.length c∧((A=none∧K = []) ∨ ∃b off,A=some ⟨b,off,none⟩ ∧ ∀j (hj:j < K.length),w.cell? ⟨b,off + j,none⟩=some (.int .i64 (K[j]:Nat)))
theorem SRow.sl {w B v T} (h:SRow w B v T):SlS w v T:=by
 rcases h.2 with⟨rfl,hn⟩|⟨g,cap,cur,rfl,_,hh,hnc,hcm,hcs,htk⟩
 ·have:T = []:=List.length_eq_zero_iff.1 hn
  subst this
  exact⟨none,0,rfl,.inl ⟨rfl,rfl⟩⟩
 ·refine⟨_,cap,rfl,.inr ⟨g,0,rfl,fun j hj=>?_⟩⟩
  have e:=World.ownsRow.cellAt h j (by omega)
  rw[Nat.zero_add,e];simp[hj,Ss]
theorem IRow.sl {w B v K} (h:IRow w B v K):SlI w v K:=by
 rcases h.2 with⟨rfl,hn⟩|⟨g,cap,cur,rfl,_,hh,hnc,hcm,hcs,htk⟩
 ·have:K = []:=List.length_eq_zero_iff.1 hn
  subst this
  exact⟨none,0,rfl,.inl ⟨rfl,rfl⟩⟩
 ·refine⟨_,cap,rfl,.inr ⟨g,0,rfl,fun j hj=>?_⟩⟩
  have e:=World.ownsRow.cellAt h j (by omega)
  rw[Nat.zero_add,e];simp[hj,I]
def CloneS (T:List Bs) (w:World) (e:Ending) (w':World):Prop:=∃v',e = .returned v'∧SRow w' w.heap.size v' T∧Kept (fun _=>False) w w'
def CloneI (K:List Nat) (w:World) (e:Ending) (w':World):Prop:=∃v',e = .returned v'∧IRow w' w.heap.size v' K∧Kept (fun _=>False) w w'
theorem cloneS_calls {w s T} (h:SlS w s T) (hT:T.length≤1000):Calls Tryz.prog 126 #[s] w (CloneS T w):=by
 obtain⟨A,c,rfl,⟨rfl,rfl⟩|⟨b,off,rfl,hc⟩⟩:=h
 ·refine(Any.slices_Clone_string_nil Tryz.cloneS 0 c w).mono ?_
  rintro e w' ⟨rfl,rfl⟩
  exact⟨_,rfl,SRow.nil _ _,Kept.refl _ _⟩
 ·refine(Any.slices_Clone_string Tryz.cloneS b off T.length c (T.map ba) w (by simp) (by omega) (fun j hj=>?_)).mono ?_
  ·have hj':j < T.length:=by simpa using hj
   rw[hc j hj'];simp[List.getD,hj']
  ·rintro e w' ⟨v',rfl,h1,_,h2⟩
   refine⟨v',rfl,?_,Kept.of_below h2⟩
   have e:((T.map ba).take T.length).map Value.string=T.map Ss:=by
    rw[List.take_of_length_le (by simp),List.map_map];rfl
   rw[e] at h1
   exact h1
theorem cloneI_calls {w s K} (h:SlI w s K) (hK:K.length≤1000):Calls Tryz.prog 134 #[s] w (CloneI K w):=by
 obtain⟨A,c,rfl,⟨rfl,rfl⟩|⟨b,off,rfl,hc⟩⟩:=h
 ·refine(Any.slices_Clone_int_nil Tryz.cloneI 0 c w).mono ?_
  rintro e w' ⟨rfl,rfl⟩
  exact⟨_,rfl,IRow.nil _ _,Kept.refl _ _⟩
 ·refine(Any.slices_Clone_int Tryz.cloneI b off K.length c (K.map fun n:Nat=>(n:Int)) w (by simp) (by omega) (fun j hj=>?_)).mono ?_
  ·have hj':j < K.length:=by simpa using hj
   rw[hc j hj'];simp[List.getD,hj']
  ·rintro e w' ⟨v',rfl,h1,_,h2⟩
   refine⟨v',rfl,?_,Kept.of_below h2⟩
   have e:((K.map fun n:Nat=>(n:Int)).take K.length).map (Value.int .i64)=K.map I:=by
    rw[List.take_of_length_le (by simp),List.map_map];rfl
   rw[e] at h1
   exact h1
def Up (T:List Bs):Prop:=T.Pairwise (· < ·)
def lbd:List Bs→Bs→Nat
 | [],_=>0
 | x :: t,k=>if x < k then lbd t k + 1 else 0
theorem lbd_le (T:List Bs) (k:Bs):lbd T k≤T.length:=by
 induction T with
 | nil=>simp[lbd]
 | cons x t ih=>simp only[lbd];split<;>simp<;>omega
theorem lbd_lt {T:List Bs} {k:Bs} {j:Nat} (hj:j < lbd T k):T.getD j [] < k:=by
 induction T generalizing j with
 | nil=>simp[lbd] at hj
 | cons x t ih =>
  simp only[lbd] at hj
  split at hj
  ·rename_i hxk
   cases j with
   | zero=>simpa using hxk
   | succ j=>have:=ih (j:=j) (by omega);simpa using this
  ·omega
theorem lbd_ge {T:List Bs} (h:Up T) {k:Bs} {j:Nat} (hj:lbd T k≤j) (hjT:j < T.length):¬T.getD j [] < k:=by
 induction T generalizing j with
 | nil=>simp at hjT
 | cons x t ih =>
  obtain⟨hx,ht⟩:=List.pairwise_cons.1 h
  simp only[lbd] at hj
  split at hj
  ·obtain⟨j',rfl⟩:∃j',j=j' + 1:=⟨j - 1,by omega⟩
   have:=ih ht (j:=j') (by omega) (by simpa using hjT)
   simpa using this
  ·rename_i hxk
   cases j with
   | zero=>simpa using hxk
   | succ j =>
    have hj2:j < t.length:=by simpa using hjT
    intro hlt
    have hm:t.getD j []∈t:=by simp[List.getD,hj2]
    have h1:=hx _ hm
    apply hxk
    exact List.lt_trans h1 (by simpa using hlt)
theorem up_mem {T:List Bs} (h:Up T) {k:Bs} : k∈T↔lbd T k < T.length∧T.getD (lbd T k) []=k:=by
 constructor
 ·intro hm
  obtain⟨i,hi,rfl⟩:=List.getElem_of_mem hm
  have h1:¬lbd T T[i] < i:=fun hlt=>by
   have h2:=lbd_ge h (k:=T[i]) (j:=lbd T T[i]) (Nat.le_refl _) (by omega)
   have h3:=List.pairwise_iff_getElem.1 h _ _ (by omega) hi hlt
   have e:T.getD (lbd T T[i]) []=T[lbd T T[i]]'(by omega):=by simp[List.getD,show lbd T T[i] < T.length by omega]
   rw[e] at h2
   exact h2 h3
  have h2:¬i < lbd T T[i]:=fun hlt=>by
   have h3:=lbd_lt hlt
   have e:T.getD i []=T[i]:=by simp[List.getD,hi]
   rw[e] at h3
   exact List.lt_irrefl _ h3
  have e:lbd T T[i]=i:=by omega
  rw[e]
  exact⟨hi,by simp[List.getD,hi]⟩
 ·rintro⟨h1,h2⟩
  rw[←h2]
  simp[List.getD,h1]
theorem searchS_calls {w s T} (h:SlS w s T) (hT:T.length≤1000) (hu:Up T) (k:Bs) :
  Calls Tryz.prog 124 #[s,.string (ba k)] w fun e w'=>e = .returned (.tuple #[.int .i64 (lbd T k),.bool (decide (k∈T))])∧Kept (fun _=>False) w w':=by
 obtain⟨A,c,rfl,⟨rfl,rfl⟩|⟨b,off,rfl,hc⟩⟩:=h
 ·refine(Any2.slices_BinarySearch_string_empty Tryz.searchS none c (ba k) w).mono ?_
  rintro e w' ⟨rfl,rfl⟩
  exact⟨by simp[lbd],Kept.refl _ _⟩
 ·refine(Any2.slices_BinarySearch_string Tryz.searchS b off T.length c (fun j=>ba (T.getD j [])) (ba k) w (by omega) (fun j hj=>?_)).mono ?_
  ·rw[hc j hj];simp[List.getD,hj]
  ·rintro e w' ⟨he,q,rfl⟩
   have hl:∀x:Bs,(ba x).toList=x:=fun x=>by rw[ByteArray.toList_eq];simp[ba]
   have hb:Lib.bsGo (fun t=>Op.bytesLess (ba (T.getD t [])).toList (ba k).toList) T.length 0 T.length=lbd T k:=by
    by_cases hle:lbd T k≤T.length
    ·rw[Lib.bsGo_fuel _ T.length (T.length) 0 T.length (by omega) (by omega)]
     have key:∀(f lo hi:Nat),hi - lo≤f→lo≤lbd T k→lbd T k≤hi→hi≤T.length→Lib.bsGo (fun t=>Op.bytesLess (ba (T.getD t [])).toList (ba k).toList) f lo hi=lbd T k:=by
      intro f
      induction f with
      | zero=>intro lo hi h1 h2 h3 _;simp[Lib.bsGo];omega
      | succ f ih =>
       intro lo hi h1 h2 h3 h4
       unfold Lib.bsGo
       by_cases hlh:lo < hi
       ·rw[if_pos hlh]
        simp only[hl,bytesLess_eq]
        by_cases hm:(lo + hi) / 2 < lbd T k
        ·rw[decide_eq_true (lbd_lt hm),if_pos rfl]
         have:=ih ((lo + hi) / 2 + 1) hi (by omega) (by omega) h3 h4
         simpa only[hl,bytesLess_eq] using this
        ·rw[decide_eq_false (lbd_ge hu (by omega) (by omega)),if_neg (by simp)]
         have:=ih lo ((lo + hi) / 2) (by omega) h2 (by omega) (by omega)
         simpa only[hl,bytesLess_eq] using this
       ·rw[if_neg hlh];omega
     exact key T.length 0 T.length (by omega) (by omega) hle (Nat.le_refl _)
    ·exact absurd (lbd_le T k) hle
   rw[hb] at he
   refine⟨?_,Kept.drewN (Kept.refl _ _) q⟩
   rw[he]
   have e:decide (lbd T k < T.length∧ba (T.getD (lbd T k) [])=ba k)=decide (k∈T):=by
    rw[decide_eq_decide,up_mem hu]
    constructor
    ·rintro⟨h1,h2⟩
     refine⟨h1,?_⟩
     have:=congrArg ByteArray.toList h2
     rwa [hl,hl] at this
    ·rintro⟨h1,h2⟩
     exact⟨h1,by rw[h2]⟩
   rw[e]
theorem own_list {w:World} {B g n:Nat} {e:TypeId} {L xs:List Value} (hh:w.heap[g]? = some (.cells L.toArray e (0,0))) (hb:B≤g) (hn:n≤L.length) (hc:L.length≤maxLen) (hx:L.take n=xs) {cap:Nat} (hcap:cap=L.length):w.ownsRow B e 1 (.slice (some ⟨g,0,none⟩) n cap) n xs:=by
 subst hx hcap
 refine⟨by rw[List.length_take];omega,.inr ⟨g,L.length,L.toArray,rfl,hb,hh,hn,hc,by simp,by simp⟩⟩
theorem setCells_row (b:Nat) {e:TypeId} {f:Nat×Nat} : ∀(vs:List Value) (o:Nat) (w:World) {L:List Value},w.heap[b]? = some (.cells L.toArray e f)→o + vs.length≤L.length →
  (w.setCells b o vs).heap[b]? = some (.cells (L.take o ++ vs ++ L.drop (o + vs.length)).toArray e f)
 | [],o,w,L,h,_=>by simpa[World.setCells] using h
 | v :: r,o,w,L,h,ho=>by
  have h1:=heap_set h o v
  rw[show L.toArray.setIfInBounds o v=(L.set o v).toArray by simp] at h1
  have h2:=setCells_row b r (o + 1) (w.setCell ⟨b,o,none⟩ v) h1 (by simp at ho⊢;omega)
  rw[World.setCells,h2]
  congr 3
  have hol:o < L.length:=by simp at ho;omega
  have e1:(L.set o v).take (o + 1)=L.take o ++ [v]:=by
   rw[List.take_succ_eq_append_getElem (by simpa using hol),List.take_set_of_le (Nat.le_refl _)]
   simp
  have e2:(L.set o v).drop (o + 1 + r.length)=L.drop (o + (v :: r).length):=by
   rw[List.drop_set,if_pos (by omega)]
   congr 1
   simp;omega
  rw[e1,e2]
  simp
theorem ins_list {L cs:List Value} {u:Value} {n i:Nat} (hc:L.take n=cs) (hn:n < L.length) (hi:i≤n) :
  (((L.take (i + 1) ++ cs.drop i ++ L.drop (i + 1 + (cs.drop i).length)).take i ++ [u] ++ (L.take (i + 1) ++ cs.drop i ++ L.drop (i + 1 + (cs.drop i).length)).drop (i + [u].length))).take (n + 1)=cs.take i ++ ([u] ++ cs.drop i):=by
 have hl:cs.length=n:=by rw[←hc,List.length_take];omega
 have hd:(cs.drop i).length=n - i:=by rw[List.length_drop,hl]
 have e1:(L.take (i + 1) ++ cs.drop i ++ L.drop (i + 1 + (cs.drop i).length)).take i=cs.take i:=by
  rw[List.append_assoc,List.take_append_of_le_length (by rw[List.length_take];omega),List.take_take, ←hc,List.take_take]
  congr 1;omega
 have e2:(L.take (i + 1) ++ cs.drop i ++ L.drop (i + 1 + (cs.drop i).length)).drop (i + [u].length)=cs.drop i ++ L.drop (n + 1):=by
  rw[List.append_assoc,List.drop_append_of_le_length (by rw[List.length_take];simp;omega)]
  have:(L.take (i + 1)).drop (i + [u].length) = []:=by
   apply List.drop_eq_nil_of_le
   rw[List.length_take];simp
   omega
  rw[this,hd]
  simp
  congr 1;omega
 rw[e1,e2]
 have e3:(cs.take i ++ [u] ++ (cs.drop i ++ L.drop (n + 1)))=(cs.take i ++ ([u] ++ cs.drop i)) ++ L.drop (n + 1):=by simp
 rw[e3,List.take_append_of_le_length (by simp[hl];omega),List.take_of_length_le (by simp[hl];omega)]
theorem grow_end {w:World} {B n gc:Nat} {e:TypeId} {cs vs:List Value} (hB:B≤w.heap.size) (hn:n=(cs ++ vs).length) (h1:n≤gc) (h2:gc≤maxLen) :
  (w.drew.alloc (.cells ((cs ++ vs).toArray ++ Builtin.zeroCells (Value.string ⟨#[]⟩).cells (gc - n)) e)).ownsRow B e 1 (.slice (some ⟨w.heap.size,0,none⟩) n gc) n (cs ++ vs):=by
 obtain⟨Z,hZ⟩:∃Z:List Value,Z=(Builtin.zeroCells (Value.string ⟨#[]⟩).cells (gc - n)).toList:=⟨_,rfl⟩
 have hz:Z.length=gc - n:=by rw[hZ];simp[size_zeroCells,Value.cells]
 have hn':n=cs.length + vs.length:=by rw[hn,List.length_append]
 refine own_list (L:=cs ++ vs ++ Z) ?_ hB ?_ ?_ ?_ ?_
 ·refine(heap_new w.drew _).trans ?_
  congr 2
  apply Array.ext'
  rw[hZ]
  simp
 ·simp only[List.length_append];omega
 ·simp only[List.length_append,hz];omega
 ·rw[List.take_append_of_le_length (by simp only[List.length_append];omega),List.take_of_length_le (by simp only[List.length_append];omega)]
 ·simp only[List.length_append,hz];omega
theorem grow_mid {w:World} {B n gc i:Nat} {e:TypeId} {cs:List Value} {u:Value} (hB:B≤w.heap.size) (hn:cs.length=n) (hi:i≤n) (h1:n + 1≤gc) (h2:gc≤maxLen) :
  ((((w.alloc (.cells ((cs.take i).toArray ++ Builtin.zeroCells (Value.string ⟨#[]⟩).cells (n + 1 - i) ++ Builtin.zeroCells (Value.string ⟨#[]⟩).cells (gc - (n + 1))) e)).drew.setCells w.heap.size i [u]).drew).setCells w.heap.size (i + 1) (cs.drop i)).ownsRow B e 1 (.slice (some ⟨w.heap.size,0,none⟩) (n + 1) gc) (n + 1) (cs.take i ++ ([u] ++ cs.drop i)):=by
 obtain⟨Z,hZ⟩:∃Z:List Value,Z=(Builtin.zeroCells (Value.string ⟨#[]⟩).cells (n + 1 - i)).toList ++ (Builtin.zeroCells (Value.string ⟨#[]⟩).cells (gc - (n + 1))).toList:=⟨_,rfl⟩
 have hz:Z.length=gc - i:=by rw[hZ];simp[size_zeroCells,Value.cells];omega
 have hti:(cs.take i).length=i:=by rw[List.length_take];omega
 have hdi:(cs.drop i).length=n - i:=by rw[List.length_drop,hn]
 have h0:(w.alloc (.cells ((cs.take i).toArray ++ Builtin.zeroCells (Value.string ⟨#[]⟩).cells (n + 1 - i) ++ Builtin.zeroCells (Value.string ⟨#[]⟩).cells (gc - (n + 1))) e)).heap[w.heap.size]? = some (.cells (cs.take i ++ Z).toArray e (0,0)):=by
  refine(heap_new w _).trans ?_
  congr 2
  apply Array.ext'
  rw[hZ]
  simp
 have r1:=setCells_row w.heap.size [u] i (w.alloc (.cells ((cs.take i).toArray ++ Builtin.zeroCells (Value.string ⟨#[]⟩).cells (n + 1 - i) ++ Builtin.zeroCells (Value.string ⟨#[]⟩).cells (gc - (n + 1))) e)).drew h0 (by simp only[List.length_append,hti,hz,List.length_singleton];omega)
 have e1:(cs.take i ++ Z).take i ++ [u] ++ (cs.take i ++ Z).drop (i + [u].length)=(cs.take i ++ [u]) ++ Z.drop 1:=by
  rw[List.take_append_of_le_length (by omega),List.take_of_length_le (by omega),List.drop_append,hti,List.drop_eq_nil_of_le (by rw[hti];omega)]
  simp
 rw[e1] at r1
 have r2:=setCells_row w.heap.size (cs.drop i) (i + 1) (((w.alloc (.cells ((cs.take i).toArray ++ Builtin.zeroCells (Value.string ⟨#[]⟩).cells (n + 1 - i) ++ Builtin.zeroCells (Value.string ⟨#[]⟩).cells (gc - (n + 1))) e)).drew.setCells w.heap.size i [u]).drew) r1 (by simp only[List.length_append,hti,hz,hdi,List.length_singleton,List.length_drop];omega)
 have e2:((cs.take i ++ [u]) ++ Z.drop 1).take (i + 1)=cs.take i ++ [u]:=by
  rw[List.take_append_of_le_length (by simp only[List.length_append,hti,List.length_singleton];omega),List.take_of_length_le (by simp only[List.length_append,hti,List.length_singleton];omega)]
 rw[e2] at r2
 refine own_list r2 hB ?_ ?_ ?_ ?_
 ·simp only[List.length_append,hti,hdi,List.length_singleton];omega
 ·simp only[List.length_append,hti,hdi,hz,List.length_singleton,List.length_drop];omega
 ·rw[List.take_append_of_le_length (by simp only[List.length_append,hti,hdi,List.length_singleton];omega),List.take_of_length_le (by simp only[List.length_append,hti,hdi,List.length_singleton];omega)]
  simp
 ·simp only[List.length_append,hti,hdi,hz,List.length_singleton,List.length_drop];omega
theorem setCells_kept (b:Nat):∀(vs:List Value) (o:Nat) (w:World),Kept (· = b) w (w.setCells b o vs)
 | [],_,w=>Kept.refl _ w
 | v :: r,o,w=>((Kept.refl (· = b) w).set1 o v).trans (setCells_kept b r (o + 1) _)
def RowTo (T:List Bs) (B:Nat) (v:Value) (w:World) (e:Ending) (w':World):Prop :=
 ∃v',e = .returned v'∧SRow w' B v' T∧Kept (fun b=>v.ownBlock=some b) w w'∧(v'.ownBlock=v.ownBlock∨v'.ownBlock=some w.heap.size)
theorem ss_len (T:List Bs) (i:Nat) (k:Bs) (hi:i≤T.length):(T.take i ++ k :: T.drop i).length=T.length + 1:=by simp;omega
theorem insS_calls {w B v T vb k} (h:SRow w B v T) (hB:B≤w.heap.size) (i:Nat) (hi:i≤T.length) (hT:T.length≤1000) (hvb:w.heap[vb]? = some (.cells #[.string (ba k)] 9 (0,0))) (hne:v.ownBlock ≠ some vb) :
  Calls Tryz.prog 131 #[v,.int .i64 i,.slice (some ⟨vb,0,none⟩) 1 1] w (RowTo (T.take i ++ k :: T.drop i) B v w):=by
 have hvs:∀(j:Nat) (x:Value),([Ss k]:List Value)[j]? = some x→w.cell? ⟨vb,0 + j,none⟩=some x:=fun j x hj=>by
  rw[Nat.zero_add,cell_heap hvb]
  match j,hj with
  | 0,hj=>simpa[Ss] using hj
 have h1v:∀x∈([Ss k]:List Value),x.oneCell'=true:=by intro x hx;simp at hx;subst hx;rfl
 have h1c:=ss_one T
 have hmap:(T.take i ++ k :: T.drop i).map Ss=(T.map Ss).take i ++ ([Ss k] ++ (T.map Ss).drop i):=by simp
 have hcl:(T.map Ss).length=T.length:=by simp
 rcases h.2 with⟨rfl,hn⟩|⟨g,cap,cur,rfl,hb,hh,hnc,hcm,hcs,htk⟩
 ·have hT0:T = []:=List.length_eq_zero_iff.1 hn
  subst hT0
  obtain rfl:i=0:=by simpa using hi
  refine(Any2.slices_Insert_string_end_grow Tryz.insS none 0 0 vb 0 1 1 [] [Ss k] w (by omega) (by omega) (by omega) (by omega) rfl rfl (fun _=>rfl) (by simp) hvs h1v).mono ?_
  rintro e w' ⟨rfl,rfl⟩
  refine⟨_,rfl,?_,(Kept.refl _ _).drew.alloc _,.inr rfl⟩
  have hg:=grownCap_ge w (0 + 1) 0 9
  have hm:=grownCap_le_maxLen w (0 + 1) 0 9 (by unfold maxLen;omega)
  exact grow_end (cs := []) (vs := [Ss k]) hB rfl hg hm
 ·have hcs':cur.size=cap:=by simpa using hcs
  have hcell:∀(j:Nat) (x:Value),(T.map Ss)[j]? = some x→w.cell? ⟨g,0 + j,none⟩=some x:=fun j x hj=>by
   have hjl:j < T.length:=by have:=(List.getElem?_eq_some_iff.1 hj).1;simpa using this
   rw[Nat.zero_add,World.ownsRow.cellAt h j (by omega)];exact hj
  have hsome:∀j,j < cap→(w.cell? ⟨g,0 + j,none⟩).isSome=true:=fun j hj=>by
   rw[Nat.zero_add,cell_heap hh];simp;omega
  have hfz:∀j,w.frozen? ⟨g,0 + j,none⟩=false:=fun j=>free_heap hh _
  have hgv:g ≠ vb:=fun e=>hne (by rw[e];rfl)
  unfold maxLen at hcm
  by_cases hroom:T.length + 1≤cap
  ·by_cases hin:i < T.length
   ·refine(Any2.slices_Insert_string_shift Tryz.insS g 0 T.length cap i vb 0 1 1 (T.map Ss) [Ss k] w hin (by omega) hroom (by omega) (fun e=>hgv e.symm) hcl rfl hcell (fun j hj=>hsome j (by omega)) (fun j _=>hfz j) hvs h1c h1v 9 9 1 cap
     ?_ ?_ (by omega) (free_heap hvb _) (free_heap hvb _)).mono ?_
    ·simp[World.shape?,hvb]
    ·simp[World.shape?,hh,hcs']
    ·rintro e w' ⟨rfl,rfl⟩
     have hk1:Kept (· = g) w ((w.drew.setCells g (0 + (i + 1)) ((T.map Ss).drop i)).setCells g (0 + i) [Ss k]):=(((Kept.refl (· = g) w).drew).trans (setCells_kept g _ _ _)).trans (setCells_kept g _ _ _)
     refine⟨_,rfl,?_,hk1.mono fun _ _ e=>by rw[e];rfl,.inl rfl⟩
     have r1:=setCells_row g ((T.map Ss).drop i) (i + 1) w.drew (L:=cur.toList) (e:=9) (f:=(0,0)) (by show w.heap[g]? = _;simpa using hh) (by simp;omega)
     have r2:=setCells_row g [Ss k] i _ r1 (by simp;omega)
     rw[Nat.zero_add,Nat.zero_add]
     have hx:=ins_list (u:=Ss k) (i:=i) (L:=cur.toList) (by simpa using htk) (by simp;omega) (by omega)
     unfold SRow
     rw[ss_len T i k hi,hmap]
     refine own_list r2 hb ?_ ?_ hx ?_
     ·simp;omega
     ·unfold maxLen;simp;omega
     ·simp;omega
   ·obtain rfl:i=T.length:=by omega
    refine(Any2.slices_Insert_string_end_room Tryz.insS g 0 T.length cap vb 0 1 1 [Ss k] w (by omega) hroom (by omega) rfl (fun j hj=>by have:=hsome (T.length + j) (by omega);simpa[Nat.add_assoc] using this) (fun j _=>by simpa[Nat.add_assoc] using hfz (T.length + j)) hvs h1v).mono ?_
    rintro e w' ⟨rfl,rfl⟩
    refine⟨_,rfl,?_,(setCells_kept g _ _ w).mono fun _ _ e=>by rw[e];rfl,.inl rfl⟩
    have r1:=setCells_row g [Ss k] (0 + T.length) w (L:=cur.toList) (e:=9) (f:=(0,0)) (by simpa using hh) (by simp;omega)
    unfold SRow
    rw[ss_len T _ k hi,hmap]
    refine own_list r1 hb ?_ ?_ ?_ ?_
    ·simp;omega
    ·unfold maxLen;simp;omega
    ·have h1:cur.toList.take T.length=T.map Ss:=by simpa using htk
     rw[Nat.zero_add,h1,List.take_append_of_le_length (by simp),List.take_of_length_le (by simp),List.take_of_length_le (by simp),List.drop_eq_nil_of_le (by simp),List.append_nil]
    ·simp;omega
  ·by_cases hin:i < T.length
   ·refine(Any2.slices_Insert_string_grow Tryz.insS g 0 T.length cap i vb 0 1 1 (T.map Ss) [Ss k] w hin (by omega) hnc (by omega) (by omega) hcl rfl hcell hvs h1c h1v).mono ?_
    rintro e w' ⟨rfl,rfl⟩
    have hg:=grownCap_ge w (T.length + 1) cap 9
    have hm:=grownCap_le_maxLen w (T.length + 1) cap 9 (by unfold maxLen;omega)
    refine⟨_,rfl,?_,?_,.inr rfl⟩
    ·unfold SRow
     rw[ss_len T i k hi,hmap]
     exact grow_mid hB hcl (by omega) hg hm
    ·exact((Kept.refl _ w).alloc _).then ((((Kept.refl (· = w.heap.size) _).drew.trans (setCells_kept w.heap.size [Ss k] i _)).drew).trans (setCells_kept w.heap.size ((T.map Ss).drop i) (i + 1) _)) (fun i hi e=>by omega)
   ·obtain rfl:i=T.length:=by omega
    refine(Any2.slices_Insert_string_end_grow Tryz.insS (some ⟨g,0,none⟩) T.length cap vb 0 1 1 (T.map Ss) [Ss k] w (by omega) hnc (by omega) (by omega) hcl rfl (by simp) (by
     intro a ha j x hj
     injection ha with ha
     subst ha
     have:=hcell j x hj
     rw[Addr.add_lit];exact this) hvs h1v).mono ?_
    rintro e w' ⟨rfl,rfl⟩
    refine⟨_,rfl,?_,(Kept.refl _ _).drew.alloc _,.inr rfl⟩
    have hg:=grownCap_ge w (T.length + 1) cap 9
    have hm:=grownCap_le_maxLen w (T.length + 1) cap 9 (by unfold maxLen;omega)
    unfold SRow
    rw[ss_len T _ k hi,hmap,List.take_of_length_le (by simp),List.drop_eq_nil_of_le (by simp),List.append_nil]
    exact grow_end hB (by simp) hg hm
theorem delS_calls {w B v T} (h:SRow w B v T) (i:Nat) (hi:i < T.length) (hT:T.length≤1000) :
  Calls Tryz.prog 125 #[v,.int .i64 i,.int .i64 (i + 1:Nat)] w fun e w'=>∃v',e = .returned v'∧SRow w' B v' (T.take i ++ T.drop (i + 1))∧Kept (fun b=>v.ownBlock=some b) w w'∧v'.ownBlock=v.ownBlock:=by
 rcases h.2 with⟨rfl,hn⟩|⟨g,cap,cur,rfl,hb,hh,hnc,hcm,hcs,htk⟩
 ·omega
 ·have hcs':cur.size=cap:=by simpa using hcs
  have hold:Go.Sort.Holds Go.Proofs.encStr w g 0 T.toArray:=by
   intro j hj
   have hj':j < T.length:=by simpa using hj
   rw[Nat.zero_add]
   refine⟨?_,free_heap hh _⟩
   rw[World.ownsRow.cellAt h j (by omega)]
   simp[hj',Ss,Go.Proofs.encStr,ba]
  unfold maxLen at hcm
  refine(Any.slices_Delete_string Tryz.delS g 0 cap i (i + 1) T w hold hnc (by omega) (by omega) (by omega)).mono ?_
  rintro e w' ⟨rfl,q,rfl⟩
  obtain⟨d,hd⟩:∃d:Array Bs,d=(T.take i ++ T.drop (i + 1) ++ List.replicate (i + 1 - i) []).toArray:=⟨_,rfl⟩
  have hds:d.size=T.length:=by rw[hd];simp;omega
  have hblk:(Go.Sort.putRow Go.Proofs.encStr (Go.Sort.ahead w q) g 0 d).heap[g]? = some (.cells (Go.Sort.putCells Go.Proofs.encStr 0 d cur) 9 (0,0)):=by
   have h1:(Go.Sort.ahead w q).heap[g]? = some (.cells cur 9 (0,0)):=hh
   simp only[Go.Sort.putRow,Go.Sort.mapBlock,Array.getElem?_modify,if_true,h1,Option.map_some,Go.Sort.onCells]
  have hk:Kept (· = g) w (Go.Sort.putRow Go.Proofs.encStr (Go.Sort.ahead w q) g 0 d):=by
   refine⟨rfl,rfl,rfl,by simp[Go.Sort.ahead],fun k _ hne=>?_⟩
   have hne':¬g=k:=fun e=>hne e.symm
   simp only[Go.Sort.putRow,Go.Sort.mapBlock,Array.getElem?_modify,if_neg hne']
   rfl
  have hn1:T.length - (i + 1 - i)=(T.take i ++ T.drop (i + 1)).length:=by simp;omega
  rw[←hd,hn1]
  refine⟨_,rfl,?_,hk.mono fun _ _ e=>by rw[e];rfl,rfl⟩
  refine own_list (L:=(Go.Sort.putCells Go.Proofs.encStr 0 d cur).toList) (by simpa using hblk) hb ?_ ?_ ?_ ?_
  ·simp[Go.Sort.putCells];omega
  ·unfold maxLen;simp[Go.Sort.putCells];omega
  ·apply List.ext_getElem?
   intro j
   rw[List.getElem?_take]
   split
   ·rename_i hj
    have hj2:j < T.length - 1:=by simp at hj;omega
    simp only[Go.Sort.putCells,Array.getElem?_toList,Array.getElem?_mapIdx]
    rw[Array.getElem?_eq_getElem (by omega)]
    simp only[Option.map_some,Nat.zero_le,true_and,Nat.zero_add,hds]
    rw[if_pos (by omega),List.getElem?_map]
    have e1:d[j]! = (T.take i ++ T.drop (i + 1))[j]'hj:=by
     rw[getElem!_pos d j (by omega)]
     simp only[hd,List.getElem_toArray]
     rw[List.getElem_append_left hj]
    rw[Nat.sub_zero,e1,List.getElem?_eq_getElem hj]
    rfl
   ·rename_i hj
    rw[List.getElem?_eq_none (by simp at hj⊢;omega)]
  ·simp[Go.Sort.putCells];omega
end Go.Proofs.YtfgjehecjgebdaaGreat
/- The library's slices.Replace of numbers, one or two for one or two. -/
namespace Go.Proofs.YtfgjehecjgebdaaGreat
open Go.RowKit Go.Lib
theorem i_one (T:List Nat):∀x∈T.map I,x.oneCell'=true:=by
 intro x hx
 obtain⟨t,_,rfl⟩:=List.mem_map.1 hx
 rfl
theorem isome_row {w:World} {b:Nat} {L:List Value} {e:TypeId} {f} (hh:w.heap[b]? = some (.cells L.toArray e f)) {j:Nat} (hj:j < L.length):(w.cell? ⟨b,j,none⟩).isSome=true:=by
 rw[cell_heap hh];simp[hj]
theorem cell_row {w:World} {b:Nat} {L:List Value} {e:TypeId} {f} (hh:w.heap[b]? = some (.cells L.toArray e f)) {n:Nat} {cs:List Value} (hc:L.take n=cs) {j:Nat} {v:Value} (hj:cs[j]? = some v):w.cell? ⟨b,j,none⟩=some v:=by
 rw[cell_heap hh]
 subst hc
 rw[List.getElem?_take] at hj
 split at hj
 ·simpa using hj
 ·cases hj
set_option maxHeartbeats 4000000
set_option maxRecDepth 100000
theorem repl_wipe {w:World} {b i m n c vb vc:Nat} {L vs:List Value} (hh:w.heap[b]? = some (.cells L.toArray 3 (0,0))) (hL:L.length=c) (hn:n≤c)
  (hi:i + m < n) (hm:0 < m) (hvl:vs.length=m) (hvs:∀j v,vs[j]? = some v→w.cell? ⟨vb,0 + j,none⟩=some v) (h1v:∀v∈vs,v.oneCell'=true) :
  Calls Tryz.prog 133 #[.slice (some ⟨b,0,none⟩) n c,.int .i64 i,.int .i64 n,.slice (some ⟨vb,0,none⟩) m vc] w fun e w' =>
   e = .returned (.slice (some ⟨b,0,none⟩) (i + m) c)∧w'=(w.setCells b i vs).setCells b (i + m) (List.replicate (n - (i + m)) (I 0)):=by
 have hsp:∀j,j < c→(w.cell? ⟨b,j,none⟩).isSome=true:=fun j hj=>isome_row hh (by omega)
 have hfz:∀j,w.frozen? ⟨b,j,none⟩=false:=fun j=>free_heap hh _
 have hsrc:Src Tryz.prog 1 28 (.slice (some ⟨vb,0,none⟩) m vc) m vs w:=Src.ofSlice w Tryz.underlying28 ⟨vb,0,none⟩ m vc vs (by omega) (fun j u hj=>by rw[Addr.add_lit];exact hvs j u hj) h1v
 have hcl:∀ty cc,(Builtin.clear_ #[28] ty #[.slice (some ⟨b,i + m,none⟩) (n - (i + m)) cc]).run Tryz.prog (w.setCells b i vs) = .ok (.tuple #[]) ((w.setCells b i vs).setCells b (i + m) (List.replicate (n - (i + m)) (I 0))) :=
  fun ty cc=>Lib.run_clear_slice _ _ _ ty _ Tryz.underlying28 Tryz.zeroValue3 rfl rfl b (i + m) _ _ (by omega)
   (fun j hj=>isSome_setCells b _ _ _ (fun k hk=>hsp _ (by omega)) _ (hsp _ (by omega))) (fun j _=>by rw[World.frozen?_setCells];exact hfz _)
 have h1:¬((i:Int)=(n:Int)):=by omega
 have h2:(i:Int) + (m:Int) < (n:Int):=by omega
 have h3:¬(c=i + m):=by omega
 go_enter Tryz.func133,Tryz.ntmps133
 go_wp2_with (at_builtin;refine wpList_append_room1 _ rfl _ _ 28 28 rfl 3 _ _ Tryz.underlying28 info_int b 0 i c rfl _ rfl m vs hsrc (by omega) (by rw[hvl];intro j hj;exact hsp _ (by omega)) (by intro j _;exact hfz _) ?_)
 all_goals (go_ret;exact⟨rfl,rfl⟩)
theorem repl_grow {w:World} {b i j m n c vb vc:Nat} {L cs vs:List Value} (hh:w.heap[b]? = some (.cells L.toArray 3 (0,0))) (hc:L.take n=cs) (hL:n≤L.length) (hn:n≤c)
  (hi:i < j) (hj:j < n) (hm:0 < m) (hmm:m≤1000) (hn1:n≤1000) (hroom:c < i + m + (n - j)) (hvl:vs.length=m) (hvw:vb < w.heap.size) (hvs:∀j v,vs[j]? = some v→w.cell? ⟨vb,0 + j,none⟩=some v) (h1c:∀v∈cs,v.oneCell'=true) (h1v:∀v∈vs,v.oneCell'=true) :
  Calls Tryz.prog 133 #[.slice (some ⟨b,0,none⟩) n c,.int .i64 i,.int .i64 j,.slice (some ⟨vb,0,none⟩) m vc] w fun e w'=>∃q,
   e = .returned (.slice (some ⟨w.heap.size,0,none⟩) (i + m + (n - j)) (grownCap (w.drewN q) (i + m + (n - j)) c 3)) ∧
   w'=((((w.drewN q).alloc (.cells ((cs.take i).toArray ++ Builtin.zeroCells (Value.int .i64 0).cells (m + (n - j)) ++ Builtin.zeroCells (Value.int .i64 0).cells (grownCap (w.drewN q) (i + m + (n - j)) c 3 - (i + m + (n - j)))) 3)).drew.setCells w.heap.size i vs).drew).setCells w.heap.size (i + m) (cs.drop j):=by
 have mixed:Tryz.prog.follows .mixedOrders=true:=rfl
 have hic:i≤c:=by omega
 have hjn:j≤n:=by omega
 have h1:¬((i:Int)=(j:Int)):=by omega
 have h2:¬((j:Int)=(n:Int)):=by omega
 go_enter Tryz.func133,Tryz.ntmps133
 go_wp2
 go_quiet (fail)
 obtain⟨i0,hi0,hz0,hzs,hzb⟩:=info_parts info_int
 have hu:=Tryz.underlying28
 obtain⟨u,hu0⟩:∃u,u=w.drewN nq:=⟨_,rfl⟩
 have hN0:u.heap.size=w.heap.size:=by rw[hu0];rfl
 have hcs:∀k v,cs[k]? = some v→u.cell? ⟨b,k,none⟩=some v:=fun k v h=>by rw[hu0];exact cell_row hh hc h
 have hvs':∀j v,vs[j]? = some v→u.cell? ⟨vb,0 + j,none⟩=some v:=fun k v h=>by rw[hu0];exact hvs k v h
 have hbw:b < u.heap.size:=by rw[hN0];exact lt_heap hh
 rw[←hN0] at hvw
 have hcl:cs.length=n:=by rw[←hc,List.length_take];omega
 obtain⟨tot,htot⟩:∃tot,tot=i + m + (n - j):=⟨_,rfl⟩
 have hroom':c < tot:=by omega
 have hik:i + (m + (n - j))=tot:=by omega
 have hold:(Builtin.firstCells i0.size i (.slice (some ⟨b,0,none⟩) i c)).run Tryz.prog u.drew = .ok (cs.take i).toArray u.drew:=by
  rw[hzs]
  exact run_firstCells_some u.drew 1 i ⟨b,0,none⟩ i c (cs.take i) (by rw[List.length_take];omega) (fun k v hk=>by
   rw[Addr.add_lit,Nat.zero_add]
   rw[List.getElem?_take] at hk
   split at hk
   ·exact hcs k v hk
   ·cases hk)
 have hsz:(Tryz.prog.info? 3).map (·.size)=some 1:=by rw[hi0];simp[hzs]
 obtain⟨G,hG⟩:∃G,G=grownCap u tot c 3:=⟨_,rfl⟩
 have hrz:∀ty (x:Int),x=((m + (n - j):Nat):Int)→(Builtin.append_ #[28,3] ty #[.slice (some ⟨b,0,none⟩) i c,.int .i64 x]).run Tryz.prog u =
   .ok (.slice (some ⟨u.heap.size,0,none⟩) tot (grownCap u tot c 3)) (u.drew.alloc (.cells ((cs.take i).toArray ++ Builtin.zeroCells (Value.int .i64 0).cells (m + (n - j)) ++ Builtin.zeroCells (Value.int .i64 0).cells (grownCap u tot c 3 - tot)) 3)):=fun ty x hx=>by
  have h:=Lib.run_append_grow_zeros u 28 3 ty 3 i0 _ .i64 .i64 hu Tryz.underlying3 hi0 hz0 (some ⟨b,0,none⟩) i c (cs.take i) hold (m + (n - j)) (by omega) (by omega) (by omega) (by omega) (by rw[hzb];omega) (by rw[hzb,hik];exact growslice_fits hroom' (by omega))
  rw[hik] at h
  rw[hx]
  exact h
 obtain⟨ROW,hROW⟩:∃ROW:Array Value,ROW=(cs.take i).toArray ++ Builtin.zeroCells (Value.int .i64 0).cells (m + (n - j)) ++ Builtin.zeroCells (Value.int .i64 0).cells (G - tot):=⟨_,rfl⟩
 rw[←hG] at hrz
 rw[←hROW] at hrz
 have hRl:tot≤ROW.size:=by
  rw[hROW]
  simp[Builtin.zeroCells,Value.cells]
  omega
 obtain⟨W1,hW1⟩:∃W1,W1=u.drew.alloc (.cells ROW 3):=⟨_,rfl⟩
 rw[←hW1] at hrz
 have hN:∀k,k < tot→(W1.cell? ⟨u.heap.size,k,none⟩).isSome=true:=fun k hk=>by
  rw[hW1,World.cell?_alloc_at (w:=u.drew) ROW _ u.heap.size k rfl,Array.getElem?_eq_getElem (by omega)];rfl
 have hNf:∀k,W1.frozen? ⟨u.heap.size,k,none⟩=false:=fun k=>by rw[hW1];exact World.frozen?_alloc_at (w:=u.drew) ROW _ u.heap.size k rfl
 have hOb:∀k v,u.cell? ⟨b,k,none⟩=some v→W1.cell? ⟨b,k,none⟩=some v:=fun k v h=>by rw[hW1,World.cell?_alloc_past (w:=u.drew) _ b k hbw];exact h
 have hOv:∀k v,u.cell? ⟨vb,k,none⟩=some v→W1.cell? ⟨vb,k,none⟩=some v:=fun k v h=>by rw[hW1,World.cell?_alloc_past (w:=u.drew) _ vb k hvw];exact h
 have hcpA:∀(W:World),(∀x,W.cell? x=W1.cell? x)→(∀x,W.frozen? x=W1.frozen? x) → ∀ty dc,(Builtin.copy_ #[28,28] ty #[.slice (some ⟨u.heap.size,i,none⟩) (tot - i) dc,.slice (some ⟨vb,0,none⟩) m vc]).run Tryz.prog W = .ok (goInt vs.length) (W.setCells u.heap.size i vs):=fun W hWc hWf ty dc =>
  run_copy_cells W _ _ ty 3 u.heap.size i (tot - i) dc ⟨vb,0,none⟩ m vc vs hu hsz (by rw[hvl];simp only[Nat.min_def];split<;>omega)
   (fun k v hk=>by rw[Addr.add_lit,hWc];exact hOv _ v (hvs' k v hk))
   (fun k hk=>by rw[hWc];exact hN _ (by omega)) (fun k _=>by rw[hWf];exact hNf _) h1v
 have hGn:tot≤G:=by rw[hG];exact grownCap_ge u _ _ _
 have hG63:G≤9223372036854775807:=by
  have:=grownCap_le_maxLen u tot c 3 (by unfold maxLen;omega)
  rw[←hG] at this
  unfold maxLen at this
  omega
 have hGi:¬(G=i):=by omega
 have hGim:¬(G=i + m):=by omega
 have hci:¬(c=j):=by omega
 have hbN:b ≠ u.heap.size:=by omega
 have hdl:(cs.drop j).length=n - j:=by rw[List.length_drop,hcl]
 have hcpB:∀(W:World),(∀x,W.cell? x=(W1.setCells u.heap.size i vs).cell? x)→(∀x,W.frozen? x=(W1.setCells u.heap.size i vs).frozen? x) → ∀ty dc sc,(Builtin.copy_ #[28,28] ty #[.slice (some ⟨u.heap.size,i + m,none⟩) (tot - (i + m)) dc,.slice (some ⟨b,j,none⟩) (n - j) sc]).run Tryz.prog W = .ok (goInt (cs.drop j).length) (W.setCells u.heap.size (i + m) (cs.drop j)):=fun W hWc hWf ty dc sc =>
  run_copy_cells W _ _ ty 3 u.heap.size (i + m) (tot - (i + m)) dc ⟨b,j,none⟩ (n - j) sc (cs.drop j) hu hsz (by rw[hdl];simp only[Nat.min_def];split<;>omega)
   (fun k v hk=>by
    rw[Addr.add_lit,hWc,World.cell?_setCells_out _ _ _ _ _ (fun h _=>absurd h hbN)]
    exact hOb _ v (hcs (j + k) v (by rwa [List.getElem?_drop] at hk)))
   (fun k hk=>by rw[hWc];exact isSome_setCells _ _ _ _ (fun t ht=>hN _ (by omega)) _ (hN _ (by omega)))
   (fun k _=>by rw[hWf,World.frozen?_setCells];exact hNf _) (fun v hv=>h1c v (List.mem_of_mem_drop hv))
 subst hW1
 have hE1:∀x,((u.alloc (.cells ROW 3)).drew).cell? x=(u.drew.alloc (.cells ROW 3)).cell? x:=fun x=>rfl
 have hE2:∀x,((u.alloc (.cells ROW 3)).drew).frozen? x=(u.drew.alloc (.cells ROW 3)).frozen? x:=fun x=>rfl
 have hF1:∀x,(((u.alloc (.cells ROW 3)).drew.setCells u.heap.size i vs).drew).cell? x=((u.drew.alloc (.cells ROW 3)).setCells u.heap.size i vs).cell? x:=fun x=>rfl
 have hF2:∀x,(((u.alloc (.cells ROW 3)).drew.setCells u.heap.size i vs).drew).frozen? x=((u.drew.alloc (.cells ROW 3)).setCells u.heap.size i vs).frozen? x:=fun x=>rfl
 have ht1:(i:Int) + (m:Int) + ((n - j:Nat):Int)=(tot:Int):=by omega
 have ht2:(c:Int) < (tot:Int):=by omega
 have htn:((i:Int) + (m:Int)).toNat=i + m:=by omega
 have hwim:IntKind.i64.wrap ((i:Int) + (m:Int))=(i:Int) + (m:Int):=by rw[IntKind.wrap_i64];omega
 have hb1:(0:Int)≤(i:Int) + (m:Int):=by omega
 have hb2:(i:Int) + (m:Int)≤(tot:Int):=by omega
 have hb3:(i:Int)≤(tot:Int):=by omega
 have hb4:(j:Int)≤(n:Int):=by omega
 have hrz':=fun ty=>hrz ty ((tot:Int) - (i:Int)) (by omega)
 have hw4:IntKind.i64.wrap ((tot:Int) - (i:Int))=(tot:Int) - (i:Int):=by rw[IntKind.wrap_i64];omega
 rw[ht1, ←hu0]
 have Hu:=Lib.hid hu0;have HR:=Lib.hid hROW;have HG:=Lib.hid hG;have HT:=Lib.hid htot
 clear hik hold hROW hG hRl hu0 hrz htot ht1 hN0
 go_wp2_with (first
  | (at_builtin;refine Lib.wpList_append_run _ rfl _ _ _ _ rfl _ _ rfl rfl _ _ (hrz' _) ?_)
  | (at_builtin;refine wpList_copy_runI _ rfl _ _ 28 28 rfl _ _ rfl rfl (hcpA _ hE1 hE2 _ _) ?_)
  | (at_builtin;refine wpList_copy_runI _ rfl _ _ 28 28 rfl _ _ rfl rfl (hcpB _ (fun _=>rfl) (fun _=>rfl) _ _ _) ?_))
 go_region_law_o (refine step_copy_runI rfl _ _ 28 28 rfl (.slice (some ⟨u.heap.size,i + m,none⟩) (tot - (i + m)) (G - (i + m))) (.slice (some ⟨b,j,none⟩) (n - j) (c - j)) (by simp[Act.eval,Act.put]) (by simp[Act.eval,Act.put]) (hcpB _ hF1 hF2 3 (G - (i + m)) (c - j)) ?_)
 go_wp2
 go_ret
 have e1:=HG.out
 have e2:=HT.out
 have e3:=Hu.out
 have e4:=HR.out
 subst e4 e1 e2 e3
 exact⟨nq,rfl,rfl⟩
theorem repl_less {w:World} {b i j m n c vb vc:Nat} {L cs vs:List Value} (hh:w.heap[b]? = some (.cells L.toArray 3 (0,0))) (hc:L.take n=cs) (hL:L.length=c) (hn:n≤c)
  (hi:i < j) (hj:j < n) (hm:0 < m) (hmj:i + m < j) (hn1:n≤1000) (hvl:vs.length=m) (hvs:∀j v,vs[j]? = some v→w.cell? ⟨vb,0 + j,none⟩=some v) (h1c:∀v∈cs,v.oneCell'=true) (h1v:∀v∈vs,v.oneCell'=true) :
  Calls Tryz.prog 133 #[.slice (some ⟨b,0,none⟩) n c,.int .i64 i,.int .i64 j,.slice (some ⟨vb,0,none⟩) m vc] w fun e w'=>∃q,
   e = .returned (.slice (some ⟨b,0,none⟩) (i + m + (n - j)) c) ∧
   w'=((((w.drewN q).setCells b i vs).drew).setCells b (i + m) (cs.drop j)).setCells b (i + m + (n - j)) (List.replicate (n - (i + m + (n - j))) (I 0)):=by
 have mixed:Tryz.prog.follows .mixedOrders=true:=rfl
 have hic:i≤c:=by omega
 have hjn:j≤n:=by omega
 have h1:¬((i:Int)=(j:Int)):=by omega
 have h2:¬((j:Int)=(n:Int)):=by omega
 go_enter Tryz.func133,Tryz.ntmps133
 go_wp2
 go_quiet (fail)
 obtain⟨i0,hi0,hz0,hzs,hzb⟩:=info_parts info_int
 have hu:=Tryz.underlying28
 obtain⟨u,hu0⟩:∃u,u=w.drewN nq:=⟨_,rfl⟩
 have hhu:u.heap[b]? = some (.cells L.toArray 3 (0,0)):=by rw[hu0];exact hh
 have hcs:∀k v,cs[k]? = some v→u.cell? ⟨b,k,none⟩=some v:=fun k v h=>cell_row hhu hc h
 have hvs':∀j v,vs[j]? = some v→u.cell? ⟨vb,0 + j,none⟩=some v:=fun k v h=>by rw[hu0];exact hvs k v h
 have hcl:cs.length=n:=by rw[←hc,List.length_take];omega
 obtain⟨tot,htot⟩:∃tot,tot=i + m + (n - j):=⟨_,rfl⟩
 have hsz:(Tryz.prog.info? 3).map (·.size)=some 1:=by rw[hi0];simp[hzs]
 have hN:∀k,k < c→(u.cell? ⟨b,k,none⟩).isSome=true:=fun k hk=>isome_row hhu (by omega)
 have hNf:∀k,u.frozen? ⟨b,k,none⟩=false:=fun k=>free_heap hhu _
 have hdl:(cs.drop j).length=n - j:=by rw[List.length_drop,hcl]
 have hcpA:∀ty dc,(Builtin.copy_ #[28,28] ty #[.slice (some ⟨b,i,none⟩) (tot - i) dc,.slice (some ⟨vb,0,none⟩) m vc]).run Tryz.prog u = .ok (goInt vs.length) (u.setCells b i vs):=fun ty dc =>
  run_copy_cells u _ _ ty 3 b i (tot - i) dc ⟨vb,0,none⟩ m vc vs hu hsz (by rw[hvl];simp only[Nat.min_def];split<;>omega)
   (fun k v hk=>by rw[Addr.add_lit];exact hvs' k v hk)
   (fun k hk=>hN _ (by omega)) (fun k _=>hNf _) h1v
 have hcpB:∀(W:World),(∀x,W.cell? x=(u.setCells b i vs).cell? x)→(∀x,W.frozen? x=(u.setCells b i vs).frozen? x) → ∀ty dc sc,(Builtin.copy_ #[28,28] ty #[.slice (some ⟨b,i + m,none⟩) (tot - (i + m)) dc,.slice (some ⟨b,j,none⟩) (n - j) sc]).run Tryz.prog W = .ok (goInt (cs.drop j).length) (W.setCells b (i + m) (cs.drop j)):=fun W hWc hWf ty dc sc =>
  run_copy_cells W _ _ ty 3 b (i + m) (tot - (i + m)) dc ⟨b,j,none⟩ (n - j) sc (cs.drop j) hu hsz (by rw[hdl];simp only[Nat.min_def];split<;>omega)
   (fun k v hk=>by
    rw[Addr.add_lit,hWc,World.cell?_setCells_out _ _ _ _ _ (fun _ _=>by show j + k < i∨i + vs.length≤j + k;omega)]
    exact hcs (j + k) v (by rwa [List.getElem?_drop] at hk))
   (fun k hk=>by rw[hWc];exact isSome_setCells _ _ _ _ (fun t ht=>hN _ (by omega)) _ (hN _ (by omega)))
   (fun k _=>by rw[hWf,World.frozen?_setCells];exact hNf _) (fun v hv=>h1c v (List.mem_of_mem_drop hv))
 have hcl2:∀ty cc,(Builtin.clear_ #[28] ty #[.slice (some ⟨b,tot,none⟩) (n - tot) cc]).run Tryz.prog (((u.setCells b i vs).drew).setCells b (i + m) (cs.drop j)) = .ok (.tuple #[]) ((((u.setCells b i vs).drew).setCells b (i + m) (cs.drop j)).setCells b tot (List.replicate (n - tot) (I 0))) :=
  fun ty cc=>Lib.run_clear_slice _ _ _ ty _ Tryz.underlying28 Tryz.zeroValue3 rfl rfl b tot _ _ (by omega)
   (fun k hk=>isSome_setCells b (cs.drop j) (i + m) ((u.setCells b i vs).drew) (fun t ht=>isSome_setCells b vs i u (fun t ht=>hN _ (by omega)) _ (hN _ (by omega))) _ (isSome_setCells b vs i u (fun t ht=>hN _ (by omega)) _ (hN _ (by omega)))) (fun k _=>by rw[World.frozen?_setCells];show(u.setCells b i vs).frozen? _=false;rw[World.frozen?_setCells];exact hNf _)
 have hF1:∀x,((u.setCells b i vs).drew).cell? x=(u.setCells b i vs).cell? x:=fun x=>rfl
 have hF2:∀x,((u.setCells b i vs).drew).frozen? x=(u.setCells b i vs).frozen? x:=fun x=>rfl
 have ht1:(i:Int) + (m:Int) + ((n - j:Nat):Int)=(tot:Int):=by omega
 have ht2:¬(c:Int) < (tot:Int):=by omega
 have ht3:(i:Int) + (m:Int)≤(j:Int):=by omega
 have ht4:tot≤c:=by omega
 have htn:((i:Int) + (m:Int)).toNat=i + m:=by omega
 have hwim:IntKind.i64.wrap ((i:Int) + (m:Int))=(i:Int) + (m:Int):=by rw[IntKind.wrap_i64];omega
 have hb1:(0:Int)≤(i:Int) + (m:Int):=by omega
 have hb2:(i:Int) + (m:Int)≤(tot:Int):=by omega
 have hb3:(i:Int)≤(tot:Int):=by omega
 have hb4:(j:Int)≤(n:Int):=by omega
 have hb5:(tot:Int)≤(n:Int):=by omega
 have hb6:¬(c=i):=by omega
 have hb7:¬(c=i + m):=by omega
 have hb8:¬(c=j):=by omega
 have hb9:¬(c=tot):=by omega
 rw[ht1, ←hu0]
 have Hu:=Lib.hid hu0;have HT:=Lib.hid htot
 clear hu0 htot ht1 hhu
 go_wp2_with (first
  | (at_builtin;refine wpList_copy_runI _ rfl _ _ 28 28 rfl _ _ rfl rfl (hcpA _ _) ?_))
 go_region_law_o (refine step_copy_runI rfl _ _ 28 28 rfl (.slice (some ⟨b,i + m,none⟩) (tot - (i + m)) (c - (i + m))) (.slice (some ⟨b,j,none⟩) (n - j) (c - j)) (by simp[Act.eval,Act.put]) (by simp[Act.eval,Act.put]) (hcpB _ hF1 hF2 3 (c - (i + m)) (c - j)) ?_)
 go_wp2
 go_ret
 have e2:=HT.out
 have e3:=Hu.out
 subst e2 e3
 exact⟨nq,rfl,rfl⟩
theorem repl_same {w:World} {b i j m n c vb vc:Nat} {L cs vs:List Value} (hh:w.heap[b]? = some (.cells L.toArray 3 (0,0))) (hc:L.take n=cs) (hL:L.length=c) (hn:n≤c)
  (hi:i < j) (hj:j < n) (hm:0 < m) (hmj:i + m=j) (hn1:n≤1000) (hvl:vs.length=m) (hvs:∀j v,vs[j]? = some v→w.cell? ⟨vb,0 + j,none⟩=some v) (h1c:∀v∈cs,v.oneCell'=true) (h1v:∀v∈vs,v.oneCell'=true) :
  Calls Tryz.prog 133 #[.slice (some ⟨b,0,none⟩) n c,.int .i64 i,.int .i64 j,.slice (some ⟨vb,0,none⟩) m vc] w fun e w'=>∃q,
   e = .returned (.slice (some ⟨b,0,none⟩) n c) ∧
   w'=(((w.drewN q).setCells b i vs).drew).setCells b (i + m) (cs.drop j):=by
 have mixed:Tryz.prog.follows .mixedOrders=true:=rfl
 have hic:i≤c:=by omega
 have hjn:j≤n:=by omega
 have h1:¬((i:Int)=(j:Int)):=by omega
 have h2:¬((j:Int)=(n:Int)):=by omega
 go_enter Tryz.func133,Tryz.ntmps133
 go_wp2
 go_quiet (fail)
 obtain⟨i0,hi0,hz0,hzs,hzb⟩:=info_parts info_int
 have hu:=Tryz.underlying28
 obtain⟨u,hu0⟩:∃u,u=w.drewN nq:=⟨_,rfl⟩
 have hhu:u.heap[b]? = some (.cells L.toArray 3 (0,0)):=by rw[hu0];exact hh
 have hcs:∀k v,cs[k]? = some v→u.cell? ⟨b,k,none⟩=some v:=fun k v h=>cell_row hhu hc h
 have hvs':∀j v,vs[j]? = some v→u.cell? ⟨vb,0 + j,none⟩=some v:=fun k v h=>by rw[hu0];exact hvs k v h
 have hcl:cs.length=n:=by rw[←hc,List.length_take];omega
 obtain⟨tot,htot⟩:∃tot,tot=i + m + (n - j):=⟨_,rfl⟩
 have hsz:(Tryz.prog.info? 3).map (·.size)=some 1:=by rw[hi0];simp[hzs]
 have hN:∀k,k < c→(u.cell? ⟨b,k,none⟩).isSome=true:=fun k hk=>isome_row hhu (by omega)
 have hNf:∀k,u.frozen? ⟨b,k,none⟩=false:=fun k=>free_heap hhu _
 have hdl:(cs.drop j).length=n - j:=by rw[List.length_drop,hcl]
 have hcpA:∀ty dc,(Builtin.copy_ #[28,28] ty #[.slice (some ⟨b,i,none⟩) (tot - i) dc,.slice (some ⟨vb,0,none⟩) m vc]).run Tryz.prog u = .ok (goInt vs.length) (u.setCells b i vs):=fun ty dc =>
  run_copy_cells u _ _ ty 3 b i (tot - i) dc ⟨vb,0,none⟩ m vc vs hu hsz (by rw[hvl];simp only[Nat.min_def];split<;>omega)
   (fun k v hk=>by rw[Addr.add_lit];exact hvs' k v hk)
   (fun k hk=>hN _ (by omega)) (fun k _=>hNf _) h1v
 have hcpB:∀(W:World),(∀x,W.cell? x=(u.setCells b i vs).cell? x)→(∀x,W.frozen? x=(u.setCells b i vs).frozen? x) → ∀ty dc sc,(Builtin.copy_ #[28,28] ty #[.slice (some ⟨b,i + m,none⟩) (tot - (i + m)) dc,.slice (some ⟨b,j,none⟩) (n - j) sc]).run Tryz.prog W = .ok (goInt (cs.drop j).length) (W.setCells b (i + m) (cs.drop j)):=fun W hWc hWf ty dc sc =>
  run_copy_cells W _ _ ty 3 b (i + m) (tot - (i + m)) dc ⟨b,j,none⟩ (n - j) sc (cs.drop j) hu hsz (by rw[hdl];simp only[Nat.min_def];split<;>omega)
   (fun k v hk=>by
    rw[Addr.add_lit,hWc,World.cell?_setCells_out _ _ _ _ _ (fun _ _=>by show j + k < i∨i + vs.length≤j + k;omega)]
    exact hcs (j + k) v (by rwa [List.getElem?_drop] at hk))
   (fun k hk=>by rw[hWc];exact isSome_setCells _ _ _ _ (fun t ht=>hN _ (by omega)) _ (hN _ (by omega)))
   (fun k _=>by rw[hWf,World.frozen?_setCells];exact hNf _) (fun v hv=>h1c v (List.mem_of_mem_drop hv))
 have hcl2:∀base ty cc W,(Builtin.clear_ #[28] ty #[.slice base 0 cc]).run Tryz.prog W = .ok (.tuple #[]) W:=fun base ty cc W=>by
  cases base<;>simp[Builtin.clear_,run_underlying hu]
 have hnt:n=tot:=by omega
 have hnn:n - n=0:=Nat.sub_self n
 have hF1:∀x,((u.setCells b i vs).drew).cell? x=(u.setCells b i vs).cell? x:=fun x=>rfl
 have hF2:∀x,((u.setCells b i vs).drew).frozen? x=(u.setCells b i vs).frozen? x:=fun x=>rfl
 have ht1:(i:Int) + (m:Int) + ((n - j:Nat):Int)=(tot:Int):=by omega
 have ht2:¬(c:Int) < (tot:Int):=by omega
 have ht3:(i:Int) + (m:Int)≤(j:Int):=by omega
 have ht4:tot≤c:=by omega
 have htn:((i:Int) + (m:Int)).toNat=i + m:=by omega
 have hwim:IntKind.i64.wrap ((i:Int) + (m:Int))=(i:Int) + (m:Int):=by rw[IntKind.wrap_i64];omega
 have hb1:(0:Int)≤(i:Int) + (m:Int):=by omega
 have hb2:(i:Int) + (m:Int)≤(tot:Int):=by omega
 have hb3:(i:Int)≤(tot:Int):=by omega
 have hb4:(j:Int)≤(n:Int):=by omega
 have hb5:(tot:Int)≤(n:Int):=by omega
 have hb6:¬(c=i):=by omega
 have hb7:¬(c=i + m):=by omega
 have hb8:¬(c=j):=by omega
 rw[ht1, ←hu0]
 subst hnt
 have Hu:=Lib.hid hu0;have HT:=Lib.hid htot
 clear hu0 htot ht1 hhu ht4 hb5 hmj
 go_wp2_with (first
  | (at_builtin;refine wpList_copy_runI _ rfl _ _ 28 28 rfl _ _ rfl rfl (hcpA _ _) ?_))
 go_region_law_o (refine step_copy_runI rfl _ _ 28 28 rfl (.slice (some ⟨b,i + m,none⟩) (tot - (i + m)) (c - (i + m))) (.slice (some ⟨b,j,none⟩) (n - j) (c - j)) (by simp[Act.eval,Act.put]) (by simp[Act.eval,Act.put]) (hcpB _ hF1 hF2 3 (c - (i + m)) (c - j)) ?_)
 go_wp2
 all_goals
  go_ret
  have e3:=Hu.out
  subst e3
  first|exact⟨rfl,nq,rfl⟩|exact⟨nq,rfl,rfl⟩
theorem repl_shift {w:World} {b i j m n c vb vc:Nat} {L cs vs:List Value} (hh:w.heap[b]? = some (.cells L.toArray 3 (0,0))) (hc:L.take n=cs) (hL:L.length=c) (hn:n≤c)
  (hi:i < j) (hj:j < n) (hm:0 < m) (hmm:m≤1000) (hmj:j < i + m) (hroom:i + m + (n - j)≤c) (hn1:n≤1000) (hvl:vs.length=m) (hvb:vb ≠ b) {VL:List Value} (hhv:w.heap[vb]? = some (.cells VL.toArray 3 (0,0))) (hVL:0 < VL.length) (hvs:∀j v,vs[j]? = some v→w.cell? ⟨vb,0 + j,none⟩=some v) (h1c:∀v∈cs,v.oneCell'=true) (h1v:∀v∈vs,v.oneCell'=true) :
  Calls Tryz.prog 133 #[.slice (some ⟨b,0,none⟩) n c,.int .i64 i,.int .i64 j,.slice (some ⟨vb,0,none⟩) m vc] w fun e w'=>∃q,
   e = .returned (.slice (some ⟨b,0,none⟩) (i + m + (n - j)) c) ∧
   w'=(((w.drewN q).drew).setCells b (i + m) (cs.drop j)).setCells b i vs:=by
 have mixed:Tryz.prog.follows .mixedOrders=true:=rfl
 have hic:i≤c:=by omega
 have hjn:j≤n:=by omega
 have h1:¬((i:Int)=(j:Int)):=by omega
 have h2:¬((j:Int)=(n:Int)):=by omega
 go_enter Tryz.func133,Tryz.ntmps133
 go_wp2
 go_quiet (fail)
 obtain⟨i0,hi0,hz0,hzs,hzb⟩:=info_parts info_int
 have hu:=Tryz.underlying28
 obtain⟨u,hu0⟩:∃u,u=w.drewN nq:=⟨_,rfl⟩
 have hhu:u.heap[b]? = some (.cells L.toArray 3 (0,0)):=by rw[hu0];exact hh
 have hcs:∀k v,cs[k]? = some v→u.cell? ⟨b,k,none⟩=some v:=fun k v h=>cell_row hhu hc h
 have hvs':∀j v,vs[j]? = some v→u.cell? ⟨vb,0 + j,none⟩=some v:=fun k v h=>by rw[hu0];exact hvs k v h
 have hcl:cs.length=n:=by rw[←hc,List.length_take];omega
 obtain⟨tot,htot⟩:∃tot,tot=i + m + (n - j):=⟨_,rfl⟩
 have hsz:(Tryz.prog.info? 3).map (·.size)=some 1:=by rw[hi0];simp[hzs]
 have hN:∀k,k < c→(u.cell? ⟨b,k,none⟩).isSome=true:=fun k hk=>isome_row hhu (by omega)
 have hNf:∀k,u.frozen? ⟨b,k,none⟩=false:=fun k=>free_heap hhu _
 have hdl:(cs.drop j).length=n - j:=by rw[List.length_drop,hcl]
 have hhv':u.heap[vb]? = some (.cells VL.toArray 3 (0,0)):=by rw[hu0];exact hhv
 have hov:∀la ca,(callFunc 157 #[.slice (some ⟨b,i + m,none⟩) la ca,.slice (some ⟨vb,0,none⟩) m vc]).run Tryz.prog u = .ok (.value (.bool false)) u:=fun la ca=>by
  rw[run_callFunc_extern Tryz.func157 (by kernel_rfl) (by kernel_rfl) (by kernel_rfl) (e:=Extern.SlicesOverlaps.overlaps #[28,28] #[4]) (by kernel_rfl),
   Lib.run_overlaps_apart u 28 4 3 hu 1 Tryz.sizeOf3 ⟨b,i + m,none⟩ ⟨vb,0,none⟩ la ca m vc (fun e=>hvb e.symm) 3 3 L.length VL.length (by simp[World.shape?,hhu]) (by simp[World.shape?,hhv']) (by omega) (hNf _) (hNf _)]
  rfl
 have hcpB:∀(W:World),(∀x,W.cell? x=u.cell? x)→(∀x,W.frozen? x=u.frozen? x) → ∀ty dc sc,(Builtin.copy_ #[28,28] ty #[.slice (some ⟨b,i + m,none⟩) (tot - (i + m)) dc,.slice (some ⟨b,j,none⟩) (n - j) sc]).run Tryz.prog W = .ok (goInt (cs.drop j).length) (W.setCells b (i + m) (cs.drop j)):=fun W hWc hWf ty dc sc =>
  run_copy_cells W _ _ ty 3 b (i + m) (tot - (i + m)) dc ⟨b,j,none⟩ (n - j) sc (cs.drop j) hu hsz (by rw[hdl];simp only[Nat.min_def];split<;>omega)
   (fun k v hk=>by
    rw[Addr.add_lit,hWc]
    exact hcs (j + k) v (by rwa [List.getElem?_drop] at hk))
   (fun k hk=>by rw[hWc];exact hN _ (by omega))
   (fun k _=>by rw[hWf];exact hNf _) (fun v hv=>h1c v (List.mem_of_mem_drop hv))
 have hcpA:∀ty dc,(Builtin.copy_ #[28,28] ty #[.slice (some ⟨b,i,none⟩) (tot - i) dc,.slice (some ⟨vb,0,none⟩) m vc]).run Tryz.prog (u.drew.setCells b (i + m) (cs.drop j)) = .ok (goInt vs.length) ((u.drew.setCells b (i + m) (cs.drop j)).setCells b i vs):=fun ty dc =>
  run_copy_cells _ _ _ ty 3 b i (tot - i) dc ⟨vb,0,none⟩ m vc vs hu hsz (by rw[hvl];simp only[Nat.min_def];split<;>omega)
   (fun k v hk=>by rw[Addr.add_lit,World.cell?_setCells_out _ _ _ _ _ (fun h _=>absurd h hvb)];exact hvs' k v hk)
   (fun k hk=>isSome_setCells b (cs.drop j) (i + m) u.drew (fun t ht=>hN _ (by omega)) _ (hN _ (by omega))) (fun k _=>by rw[World.frozen?_setCells];exact hNf _) h1v
 have hF1:∀x,(u.drew).cell? x=u.cell? x:=fun x=>rfl
 have hF2:∀x,(u.drew).frozen? x=u.frozen? x:=fun x=>rfl
 have ht1:(i:Int) + (m:Int) + ((n - j:Nat):Int)=(tot:Int):=by omega
 have ht2:¬(c:Int) < (tot:Int):=by omega
 have ht3:¬(i:Int) + (m:Int)≤(j:Int):=by omega
 have ht4:tot≤c:=by omega
 have htn:((i:Int) + (m:Int)).toNat=i + m:=by omega
 have hwim:IntKind.i64.wrap ((i:Int) + (m:Int))=(i:Int) + (m:Int):=by rw[IntKind.wrap_i64];omega
 have hb1:(0:Int)≤(i:Int) + (m:Int):=by omega
 have hb2:(i:Int) + (m:Int)≤(tot:Int):=by omega
 have hb3:(i:Int)≤(tot:Int):=by omega
 have hb4:(j:Int)≤(n:Int):=by omega
 have hb6:¬(c=i):=by omega
 have hb7:¬(c=i + m):=by omega
 have hb8:¬(c=j):=by omega
 rw[ht1, ←hu0]
 have Hu:=Lib.hid hu0;have HT:=Lib.hid htot
 clear hu0 htot ht1 hhu
 go_wp2_with (simp only[hov])
 go_region_law_o (refine step_copy_runI rfl _ _ 28 28 rfl (.slice (some ⟨b,i + m,none⟩) (tot - (i + m)) (c - (i + m))) (.slice (some ⟨b,j,none⟩) (n - j) (c - j)) (by simp[Act.eval,Act.put]) (by simp[Act.eval,Act.put]) (hcpB _ hF1 hF2 3 (c - (i + m)) (c - j)) ?_)
 go_wp2_with (first
  | (at_builtin;refine wpList_copy_runI _ rfl _ _ 28 28 rfl _ _ rfl rfl (hcpA _ _) ?_))
 go_ret
 have e2:=HT.out
 have e3:=Hu.out
 subst e2 e3
 exact⟨nq,rfl,rfl⟩
theorem repl_end {w:World} {B b i m n c vb vc:Nat} {L cs vs:List Value} (hh:w.heap[b]? = some (.cells L.toArray 3 (0,0))) (hB:B≤b) (hBw:B≤w.heap.size) (hL:L.length=c) (hc:L.take n=cs) (hn:n≤c) (hc63:c≤maxLen) (hi:i < n) (him:n≤i + m) (hm:m≤1000) (hn1:n≤1000)
  (hvl:vs.length=m) (hvs:∀j v,vs[j]? = some v→w.cell? ⟨vb,0 + j,none⟩=some v) (h1v:∀v∈vs,v.oneCell'=true) :
  Calls Tryz.prog 133 #[.slice (some ⟨b,0,none⟩) n c,.int .i64 i,.int .i64 n,.slice (some ⟨vb,0,none⟩) m vc] w fun e w'=>∃v',e = .returned v'∧w'.ownsRow B 3 1 v' (i + m) (cs.take i ++ vs)∧Kept (· = b) w w'∧(v'.ownBlock=some b∨v'.ownBlock=some w.heap.size):=by
 have hown:w.ownsRow 0 3 1 (.slice (some ⟨b,0,none⟩) i c) i (cs.take i):=own_list hh (Nat.zero_le _) (by omega) (by omega) (by rw[←hc,List.take_take];congr 1;omega) hL.symm
 have h1:¬((i:Int)=(n:Int)):=by omega
 have hr:Reads w (vb + 1) 1 (some ⟨vb,0,none⟩) m vs:=⟨by omega,fun _=>⟨_,rfl,Nat.lt_succ_self _,fun j u hj=>by rw[Addr.add_lit];exact hvs j u hj⟩⟩
 unfold maxLen at hc63
 have hlt:¬((i:Int) + (m:Int) < (n:Int)):=by omega
 go_enter Tryz.func133,Tryz.ntmps133
 go_wp2_with (at_builtin;refine app_one (v:=.slice (some ⟨b,0,none⟩) i c) rfl (.tmp 32) (.tmp 33) rfl Tryz.underlying28 info_int rfl rfl hown (vb + 1) rfl hr h1v (by unfold maxLen;omega) (by omega) ?_;intro v' w' hv' hg hob;obtain⟨g,cap,rfl⟩:=own_form hv' (by omega))
 go_ret
 refine⟨.slice (some ⟨g,0,none⟩) (i + m) cap,rfl,own_base hv' fun k hk=>?_,⟨hg.os,hg.tape,hg.output,hg.size,fun k hk hne=>hg.block k hk fun e=>hne ?_⟩,?_⟩
 ·rw[hk] at hob
  rcases hob with e|e
  ·simp[Value.ownBlock] at e;omega
  ·simp at e;omega
 ·simp[Value.ownBlock] at e;exact e
 ·simpa[Value.ownBlock] using hob
def wr (L:List Value) (o:Nat) (vs:List Value):List Value:=L.take o ++ vs ++ L.drop (o + vs.length)
theorem wr_len {L:List Value} {o:Nat} {vs:List Value} (h:o + vs.length≤L.length):(wr L o vs).length=L.length:=by simp[wr];omega
theorem wr_get {L:List Value} {o:Nat} {vs:List Value} (h:o + vs.length≤L.length) (k:Nat):(wr L o vs)[k]? = if k < o then L[k]? else if k < o + vs.length then vs[k - o]? else L[k]? := by
 have ht:(L.take o).length=o:=by rw[List.length_take];omega
 unfold wr
 by_cases h1:k < o
 ·rw[if_pos h1,List.append_assoc,List.getElem?_append_left (by omega),List.getElem?_take,if_pos h1]
 ·rw[if_neg h1]
  by_cases h2:k < o + vs.length
  ·rw[if_pos h2,List.getElem?_append_left (by rw[List.length_append];omega),List.getElem?_append_right (by omega),ht]
  ·rw[if_neg h2,List.getElem?_append_right (by rw[List.length_append];omega),List.getElem?_drop,List.length_append,ht]
   congr 1;omega
theorem wr_row (b:Nat) {e:TypeId} {f:Nat×Nat} (vs:List Value) (o:Nat) {w:World} {L:List Value} (h:w.heap[b]? = some (.cells L.toArray e f)) (ho:o + vs.length≤L.length):(w.setCells b o vs).heap[b]? = some (.cells (wr L o vs).toArray e f):=setCells_row b vs o w h ho
theorem repl_get {cs vs:List Value} {i j n:Nat} (hcl:cs.length=n) (hij:i≤j) (hj:j≤n) (k:Nat) :
  (cs.take i ++ vs ++ cs.drop j)[k]? = if k < i then cs[k]? else if k < i + vs.length then vs[k - i]? else cs[j + (k - (i + vs.length))]? := by
 have ht:(cs.take i).length=i:=by rw[List.length_take];omega
 by_cases h1:k < i
 ·rw[if_pos h1,List.append_assoc,List.getElem?_append_left (by omega),List.getElem?_take,if_pos h1]
 ·rw[if_neg h1]
  by_cases h2:k < i + vs.length
  ·rw[if_pos h2,List.getElem?_append_left (by rw[List.length_append];omega),List.getElem?_append_right (by omega),ht]
  ·rw[if_neg h2,List.getElem?_append_right (by rw[List.length_append];omega),List.getElem?_drop,List.length_append,ht]
def IRowTo (K:List Nat) (B:Nat) (v:Value) (w:World) (e:Ending) (w':World):Prop :=
 ∃v',e = .returned v'∧IRow w' B v' K∧Kept (fun b=>v.ownBlock=some b) w w'∧(v'.ownBlock=v.ownBlock∨v'.ownBlock=some w.heap.size)
theorem drewN_kept (w:World) (q:Nat) (S:Nat→Prop):Kept S w (w.drewN q):=⟨rfl,rfl,rfl,Nat.le_refl _,fun _ _ _=>rfl⟩
theorem repl_calls {w B v K B2 v2 V i j} (h:IRow w B v K) (hB:B≤w.heap.size) (h2:IRow w B2 v2 V) (hV0:0 < V.length) (hV:V.length≤1000) (hne:v.ownBlock ≠ v2.ownBlock) (hij:i < j) (hj:j≤K.length) (hK:K.length≤1000) :
  Calls Tryz.prog 133 #[v,.int .i64 (i:Nat),.int .i64 (j:Nat),v2] w (IRowTo (K.take i ++ V ++ K.drop j) B v w):=by
 rcases h.2 with⟨rfl,hn⟩|⟨b,c,cur,rfl,hb,hh,hnc,hcm,hcs,htk⟩
 ·omega
 rcases h2.2 with⟨rfl,hn⟩|⟨vb,vc,vcur,rfl,_,hhv,hnv,_,hvs',htv⟩
 ·omega
 have hL:cur.toList.length=c:=by simpa using hcs
 have hh':w.heap[b]? = some (.cells cur.toList.toArray 3 (0,0)):=by simpa using hh
 have hhv':w.heap[vb]? = some (.cells vcur.toList.toArray 3 (0,0)):=by simpa using hhv
 have hc:cur.toList.take K.length=K.map I:=by simpa using htk
 have hcv:vcur.toList.take V.length=V.map I:=by simpa using htv
 have hbv:vb ≠ b:=fun e=>hne (by rw[e];rfl)
 have hvs:∀j v,(V.map I)[j]? = some v→w.cell? ⟨vb,0 + j,none⟩=some v:=fun k v hk=>by rw[Nat.zero_add];exact cell_row hhv' hcv hk
 have hmap:(K.take i ++ V ++ K.drop j).map I=(K.map I).take i ++ V.map I ++ (K.map I).drop j:=by simp
 have hlen:(K.take i ++ V ++ K.drop j).length=i + V.length + (K.length - j):=by simp;omega
 have hkl:(K.map I).length=K.length:=by simp
 have hvl:(V.map I).length=V.length:=by simp
 have hdl:((K.map I).drop j).length=K.length - j:=by simp
 have hVL:0 < vcur.toList.length:=by simp;omega
 have hdrop:∀x,x < K.length - j→((K.map I).drop j)[x]? = cur.toList[j + x]? := fun x hx=>by rw[List.getElem?_drop, ←hc,List.getElem?_take,if_pos (by omega)]
 have hzl:∀k,(List.replicate k (I 0)).length=k:=fun k=>by simp
 unfold IRowTo IRow
 rw[hlen,hmap]
 have ext:∀(M:List Value) (tot:Nat),tot=i + V.length + (K.length - j)→(∀k,k < tot→M[k]? = if k < i then cur.toList[k]? else if k < i + (V.map I).length then (V.map I)[k - i]? else cur.toList[j + (k - (i + (V.map I).length))]?) →
   M.take tot=(K.map I).take i ++ V.map I ++ (K.map I).drop j:=by
  intro M tot htot hM
  have hcur:∀k,k < K.length→cur.toList[k]? = (K.map I)[k]? := fun k hk=>by rw[←hc,List.getElem?_take,if_pos hk]
  apply List.ext_getElem?
  intro k
  rw[repl_get hkl (Nat.le_of_lt hij) hj,List.getElem?_take]
  by_cases hk:k < tot
  ·rw[if_pos hk,hM k hk]
   split
   ·exact hcur _ (by omega)
   ·split
    ·rfl
    ·exact hcur _ (by omega)
  ·rw[if_neg hk,if_neg (by omega),if_neg (by omega),List.getElem?_eq_none (by omega)]
 have hkb:∀ {w1:World},Kept (· = b) w w1→Kept (fun x=>(Value.slice (some ⟨b,0,none⟩) K.length c).ownBlock=some x) w w1:=fun k=>k.mono fun x _ e=>by rw[e];rfl
 by_cases hje:j=K.length
 ·subst hje
  by_cases him:i + V.length < K.length
  ·refine(repl_wipe hh' hL hnc him hV0 hvl hvs (i_one V)).mono ?_
   rintro e w' ⟨rfl,rfl⟩
   have r1:=wr_row b (V.map I) i (w:=w) hh' (by omega)
   have r2:=wr_row b (List.replicate (K.length - (i + V.length)) (I 0)) (i + V.length) r1 (by rw[wr_len (by omega),hzl];omega)
   have l1:=wr_len (L:=cur.toList) (o:=i) (vs:=V.map I) (by omega)
   have l2:=wr_len (L:=wr cur.toList i (V.map I)) (o:=i + V.length) (vs:=List.replicate (K.length - (i + V.length)) (I 0)) (by rw[l1,hzl];omega)
   have e0:i + V.length + (K.length - K.length)=i + V.length:=by omega
   refine⟨_,rfl,?_,hkb (((setCells_kept b _ _ _)).trans (setCells_kept b _ _ _)),.inl rfl⟩
   rw[e0]
   refine own_list r2 hb (by omega) (by rw[l2,l1,hL];exact hcm) (ext _ _ (by omega) fun k hk=>?_) (by omega)
   rw[wr_get (by rw[l1,hzl];omega),wr_get (by omega)]
   simp only[hvl,hzl]
   split
   ·rfl
   ·omega
  ·refine(repl_end hh' hb hB hL hc hnc hcm hij (by omega) hV hK hvl hvs (i_one V)).mono ?_
   rintro e w' ⟨v',rfl,h1,h2,h3⟩
   refine⟨v',rfl,?_,hkb h2,h3⟩
   have e0:i + V.length + (K.length - K.length)=i + V.length:=by omega
   rw[e0,List.drop_eq_nil_of_le (by omega),List.append_nil]
   exact h1
 ·by_cases hroom:i + V.length + (K.length - j)≤c
  ·by_cases h3:j < i + V.length
   ·refine(repl_shift hh' hc hL hnc hij (by omega) hV0 hV h3 hroom hK hvl hbv hhv' hVL hvs (i_one K) (i_one V)).mono ?_
    rintro e w' ⟨q,rfl,rfl⟩
    have r1:=wr_row b ((K.map I).drop j) (i + V.length) (w:=(w.drewN q).drew) hh' (by rw[List.length_drop];omega)
    have l1:=wr_len (L:=cur.toList) (o:=i + V.length) (vs:=(K.map I).drop j) (by rw[List.length_drop];omega)
    have r2:=wr_row b (V.map I) i r1 (by omega)
    have l2:=wr_len (L:=wr cur.toList (i + V.length) ((K.map I).drop j)) (o:=i) (vs:=V.map I) (by omega)
    refine⟨_,rfl,?_,hkb ((drewN_kept w q _).drew.trans ((setCells_kept b _ _ _).trans (setCells_kept b _ _ _))),.inl rfl⟩
    refine own_list r2 hb (by omega) (by rw[l2,l1,hL];exact hcm) (ext _ _ rfl fun k hk=>?_) (by omega)
    rw[wr_get (by omega),wr_get (by rw[hdl];omega)]
    simp only[hdl,hvl]
    have hk':k < i + V.length + (K.length - j):=by omega
    by_cases a1:k < i
    ·have a2:k < i + V.length:=by omega
     simp only[a1,a2,if_true]
    ·by_cases a2:k < i + V.length
     ·simp only[a1,a2,if_true,if_false]
     ·simp only[a1,a2,hk',if_true,if_false];exact hdrop _ (by omega)
   ·by_cases hs:i + V.length=j
    ·refine(repl_same hh' hc hL hnc hij (by omega) hV0 hs hK hvl hvs (i_one K) (i_one V)).mono ?_
     rintro e w' ⟨q,rfl,rfl⟩
     have r1:=wr_row b (V.map I) i (w:=w.drewN q) hh' (by omega)
     have l1:=wr_len (L:=cur.toList) (o:=i) (vs:=V.map I) (by omega)
     have r2:=wr_row b ((K.map I).drop j) (i + V.length) (w:=((w.drewN q).setCells b i (V.map I)).drew) r1 (by rw[l1,hdl];omega)
     have l2:=wr_len (L:=wr cur.toList i (V.map I)) (o:=i + V.length) (vs:=(K.map I).drop j) (by rw[l1,hdl];omega)
     refine⟨_,rfl,?_,hkb (((drewN_kept w q _).trans (setCells_kept b _ _ _)).drew.trans (setCells_kept b _ _ _)),.inl rfl⟩
     have e0:i + V.length + (K.length - j)=K.length:=by omega
     rw[e0]
     refine own_list r2 hb (by omega) (by rw[l2,l1,hL];exact hcm) (ext _ _ e0.symm fun k hk=>?_) (by omega)
     rw[wr_get (by rw[l1,hdl];omega),wr_get (by omega)]
     simp only[hdl,hvl]
     have hk':k < i + V.length + (K.length - j):=by omega
     by_cases a1:k < i
     ·have a2:k < i + V.length:=by omega
      simp only[a1,a2,if_true]
     ·by_cases a2:k < i + V.length
      ·simp only[a1,a2,if_true,if_false]
      ·simp only[a1,a2,hk',if_true,if_false];exact hdrop _ (by omega)
    ·refine(repl_less hh' hc hL hnc hij (by omega) hV0 (by omega) hK hvl hvs (i_one K) (i_one V)).mono ?_
     rintro e w' ⟨q,rfl,rfl⟩
     have r1:=wr_row b (V.map I) i (w:=w.drewN q) hh' (by omega)
     have l1:=wr_len (L:=cur.toList) (o:=i) (vs:=V.map I) (by omega)
     have r2:=wr_row b ((K.map I).drop j) (i + V.length) (w:=((w.drewN q).setCells b i (V.map I)).drew) r1 (by rw[l1,hdl];omega)
     have l2:=wr_len (L:=wr cur.toList i (V.map I)) (o:=i + V.length) (vs:=(K.map I).drop j) (by rw[l1,hdl];omega)
     have r3:=wr_row b (List.replicate (K.length - (i + V.length + (K.length - j))) (I 0)) (i + V.length + (K.length - j)) r2 (by rw[l2,l1,hzl];omega)
     have l3:=wr_len (L:=wr (wr cur.toList i (V.map I)) (i + V.length) ((K.map I).drop j)) (o:=i + V.length + (K.length - j)) (vs:=List.replicate (K.length - (i + V.length + (K.length - j))) (I 0)) (by rw[l2,l1,hzl];omega)
     refine⟨_,rfl,?_,hkb ((((drewN_kept w q _).trans (setCells_kept b _ _ _)).drew.trans (setCells_kept b _ _ _)).trans (setCells_kept b _ _ _)),.inl rfl⟩
     refine own_list r3 hb (by omega) (by rw[l3,l2,l1,hL];exact hcm) (ext _ _ rfl fun k hk=>?_) (by omega)
     rw[wr_get (by rw[l2,l1,hzl];omega),if_pos hk,wr_get (by rw[l1,hdl];omega),wr_get (by omega)]
     simp only[hdl,hvl]
     have hk':k < i + V.length + (K.length - j):=by omega
     by_cases a1:k < i
     ·have a2:k < i + V.length:=by omega
      simp only[a1,a2,if_true]
     ·by_cases a2:k < i + V.length
      ·simp only[a1,a2,if_true,if_false]
      ·simp only[a1,a2,hk',if_true,if_false];exact hdrop _ (by omega)
  ·have hvw:vb < w.heap.size:=lt_heap hhv
   refine(repl_grow hh' hc (by omega) hnc hij (by omega) hV0 hV hK (by omega) hvl hvw hvs (i_one K) (i_one V)).mono ?_
   rintro e w' ⟨q,rfl,rfl⟩
   have hg:=grownCap_ge (w.drewN q) (i + V.length + (K.length - j)) c 3
   have hm:=grownCap_le_maxLen (w.drewN q) (i + V.length + (K.length - j)) c 3 (by unfold maxLen;omega)
   obtain⟨G,hG⟩:∃G,G=grownCap (w.drewN q) (i + V.length + (K.length - j)) c 3:=⟨_,rfl⟩
   rw[←hG] at hg hm⊢
   obtain⟨Z,hZ⟩:∃Z:List Value,Z=(Builtin.zeroCells (Value.int .i64 0).cells (V.length + (K.length - j))).toList ++ (Builtin.zeroCells (Value.int .i64 0).cells (G - (i + V.length + (K.length - j)))).toList:=⟨_,rfl⟩
   have hz:Z.length=G - i:=by rw[hZ];simp[size_zeroCells,Value.cells];omega
   have hti:((K.map I).take i).length=i:=by rw[List.length_take];omega
   have r0:((w.drewN q).alloc (.cells (((K.map I).take i).toArray ++ Builtin.zeroCells (Value.int .i64 0).cells (V.length + (K.length - j)) ++ Builtin.zeroCells (Value.int .i64 0).cells (G - (i + V.length + (K.length - j)))) 3)).heap[w.heap.size]? = some (.cells (((K.map I).take i) ++ Z).toArray 3 (0,0)):=by
    refine(heap_new (w.drewN q) _).trans ?_
    congr 2
    apply Array.ext'
    rw[hZ]
    simp
   have l0:((K.map I).take i ++ Z).length=G:=by rw[List.length_append,hti,hz];omega
   have r1:=wr_row w.heap.size (V.map I) i (w:=((w.drewN q).alloc (.cells (((K.map I).take i).toArray ++ Builtin.zeroCells (Value.int .i64 0).cells (V.length + (K.length - j)) ++ Builtin.zeroCells (Value.int .i64 0).cells (G - (i + V.length + (K.length - j)))) 3)).drew) r0 (by omega)
   have l1:=wr_len (L:=(K.map I).take i ++ Z) (o:=i) (vs:=V.map I) (by omega)
   have r2:=wr_row w.heap.size ((K.map I).drop j) (i + V.length) (w:=(((w.drewN q).alloc (.cells (((K.map I).take i).toArray ++ Builtin.zeroCells (Value.int .i64 0).cells (V.length + (K.length - j)) ++ Builtin.zeroCells (Value.int .i64 0).cells (G - (i + V.length + (K.length - j)))) 3)).drew.setCells w.heap.size i (V.map I)).drew) r1 (by rw[l1,hdl];omega)
   have l2:=wr_len (L:=wr ((K.map I).take i ++ Z) i (V.map I)) (o:=i + V.length) (vs:=(K.map I).drop j) (by rw[l1,hdl];omega)
   refine⟨_,rfl,?_,?_,.inr rfl⟩
   ·refine own_list r2 hB (by omega) (by rw[l2,l1,l0];exact hm) (ext _ _ rfl fun k hk=>?_) (by omega)
    rw[wr_get (by rw[l1,hdl];omega),wr_get (by omega)]
    simp only[hdl,hvl]
    have hk':k < i + V.length + (K.length - j):=by omega
    by_cases a1:k < i
    ·have a2:k < i + V.length:=by omega
     simp only[a1,a2,if_true]
     try (rw[List.getElem?_append_left (by omega),List.getElem?_take,if_pos a1, ←hc,List.getElem?_take,if_pos (by omega)])
    ·by_cases a2:k < i + V.length
     ·simp only[a1,a2,if_true,if_false]
     ·simp only[a1,a2,hk',if_true,if_false];exact hdrop _ (by omega)
   ·exact((drewN_kept w q _).alloc _).then ((((Kept.refl (· = w.heap.size) _).drew.trans (setCells_kept w.heap.size (V.map I) i _)).drew).trans (setCells_kept w.heap.size ((K.map I).drop j) (i + V.length) _)) (fun i hi e=>by omega)
end Go.Proofs.YtfgjehecjgebdaaGreat
/- The library's slices.Grow, slices.Concat. -/
namespace Go.Proofs.YtfgjehecjgebdaaGreat
open Go.RowKit Go.Lib
set_option maxHeartbeats 4000000
set_option maxRecDepth 100000
theorem growS_calls (w:World) (n:Nat) (hn:n≤2000):Calls Tryz.prog 181 #[.slice none 0 0,.int .i64 (n:Nat)] w fun e w'=>∃v',e = .returned v'∧SRow w' w.heap.size v' []∧Kept (fun _=>False) w w':=by
 obtain⟨i0,hi0,hz0,hzs,hzb⟩:=info_parts info_str
 have h1:¬((n:Int) < 0):=by omega
 by_cases h0:n=0
 ·subst h0
  go_enter Tryz.func181,Tryz.ntmps181
  go_wp2
  go_ret
  exact⟨_,rfl,SRow.nil _ _,Kept.refl _ _⟩
 ·have h4:(0:Int) < (n:Int):=by omega
  have hrz:∀ty,(Builtin.append_ #[29,3] ty #[.slice none 0 0,.int .i64 (n:Int)]).run Tryz.prog w =
    .ok (.slice (some ⟨w.heap.size,0,none⟩) n (grownCap w n 0 9)) (w.drew.alloc (.cells (([]:List Value).toArray ++ Builtin.zeroCells (Value.string ⟨#[]⟩).cells n ++ Builtin.zeroCells (Value.string ⟨#[]⟩).cells (grownCap w n 0 9 - n)) 9)):=fun ty=>by
   have h:=Lib.run_append_grow_zeros w 29 3 ty 9 i0 _ .i64 .i64 Tryz.underlying29 Tryz.underlying3 hi0 hz0 none 0 0 [] (run_firstCells_none w.drew i0.size 0 0 0) n (by omega) (by omega) (by omega) (by omega) (by rw[hzb];omega) (by rw[hzb];exact growslice_fits (by omega) (by omega))
   rw[Nat.zero_add] at h
   exact h
  have hGn:=grownCap_ge w n 0 9
  have hG63:=grownCap_le_maxLen w n 0 9 (by unfold maxLen;omega)
  obtain⟨G,hG⟩:∃G,G=grownCap w n 0 9:=⟨_,rfl⟩
  rw[←hG] at hrz hGn hG63
  obtain⟨ROW,hROW⟩:∃ROW:List Value,ROW=(([]:List Value).toArray ++ Builtin.zeroCells (Value.string ⟨#[]⟩).cells n ++ Builtin.zeroCells (Value.string ⟨#[]⟩).cells (G - n)).toList:=⟨_,rfl⟩
  have hR:ROW.length=G:=by rw[hROW];simp[size_zeroCells,Value.cells];omega
  rw[show(([]:List Value).toArray ++ Builtin.zeroCells (Value.string ⟨#[]⟩).cells n ++ Builtin.zeroCells (Value.string ⟨#[]⟩).cells (G - n))=ROW.toArray by rw[hROW]] at hrz
  have hn63:n≤G:=hGn
  have HM:=Lib.hid hG63;have HR:=Lib.hid hR
  clear hROW hG hG63 hR hi0
  go_enter Tryz.func181,Tryz.ntmps181
  go_wp2_with (at_builtin;refine Lib.wpList_append_run _ rfl _ _ _ _ rfl _ _ rfl rfl _ _ (hrz _) ?_)
  go_ret
  refine⟨_,rfl,?_,(Kept.refl _ w).drew.alloc _⟩
  exact own_list (L:=ROW) (n:=0) (heap_new w.drew _) (Nat.le_refl _) (by omega) (by rw[HR.out];exact HM.out) rfl HR.out.symm
theorem SlS.kept {w w' s T} (h:SlS w s T) (k:Kept (fun _=>False) w w'):SlS w' s T:=by
 obtain⟨A,c,rfl,⟨rfl,rfl⟩|⟨b,off,rfl,hc⟩⟩:=h
 ·exact⟨none,c,rfl,.inl ⟨rfl,rfl⟩⟩
 ·exact⟨_,c,rfl,.inr ⟨b,off,rfl,fun j hj=>(World.cell?_of_block (k.block b (block_lt_of_cell (hc j hj)) id)).trans (hc j hj)⟩⟩
theorem SlS.reads {w A c T} (h:SlS w (.slice A T.length c) T):Reads w w.heap.size 1 A T.length (T.map Ss):=by
 refine⟨by simp,fun hn=>?_⟩
 obtain⟨A',c',e,⟨rfl,rfl⟩|⟨b,off,rfl,hc⟩⟩:=h
 ·simp at hn
 ·injection e with e1 e2 e3
  subst e1
  refine⟨_,rfl,block_lt_of_cell (hc 0 hn),fun j u hj=>?_⟩
  have hj':j < T.length:=by have:=(List.getElem?_eq_some_iff.1 hj).1;simpa using this
  rw[Addr.add_lit,hc j hj', ←hj]
  simp[hj',Ss]
theorem concS_calls {w va vb g Ta Tb} (ha:SlS w va Ta) (hb:SlS w vb Tb) {ty:TypeId} {f:Nat×Nat} (hg:w.heap[g]? = some (.cells #[va,vb] ty f)) (h1:Ta.length≤1000) (h2:Tb.length≤1000) :
  Calls Tryz.prog 166 #[.slice (some ⟨g,0,none⟩) 2 2] w (CloneS (Ta ++ Tb) w):=by
 have hga:w.cell? ⟨g,0,none⟩=some va:=by rw[cell_heap hg];rfl
 have hgb:w.cell? ⟨g,1,none⟩=some vb:=by rw[cell_heap hg];rfl
 obtain⟨Aa,ca,ea⟩:∃A c,va = .slice A Ta.length c:=by obtain⟨A,c,e,_⟩:=ha;exact⟨A,c,e⟩
 obtain⟨Ab,cb,eb⟩:∃A c,vb = .slice A Tb.length c:=by obtain⟨A,c,e,_⟩:=hb;exact⟨A,c,e⟩
 subst ea eb
 have hgl:=lt_heap hg
 have HA:=Lib.hid ha;have HB:=Lib.hid hb;have HG:=Lib.hid hg;clear ha hb hg
 go_enter Tryz.func166,Tryz.ntmps166
 go_wp2
 go_loop [3,5,11] (fun s _ i=>(i = .int .i64 0∧s = .int .i64 0)∨(i = .int .i64 1∧s = .int .i64 Ta.length)∨(i = .int .i64 2∧s = .int .i64 (Ta.length + Tb.length:Nat))) (fun _ _ i=>2 - (RowKit.intOf i).toNat)
 case atStart=>exact .inl ⟨rfl,rfl⟩
 case round =>
  rcases hrel with⟨rfl,rfl⟩|⟨rfl,rfl⟩|⟨rfl,rfl⟩
  ·go_wp2
   go_round
   case rel=>exact .inr (.inl ⟨rfl,by go_num⟩)
   case measure=>simp[RowKit.intOf]
  ·go_wp2
   go_round
   case rel=>exact .inr (.inr ⟨rfl,by go_num⟩)
   case measure=>simp[RowKit.intOf]
  ·go_wp2_with fail
   refine(growS_calls w (Ta.length + Tb.length) (by omega)).mono ?_
   rintro e w1 ⟨v1,rfl,hr1,hk1⟩
   have R1:Hid (SRow w1 w.heap.size v1 ((Ta ++ Tb).take 0)∧Kept (fun _=>False) w w1):=⟨by simpa using hr1,hk1⟩
   clear hr1 hk1
   go_wp2
   go_loopw [6,8,27] (fun v _ i wr=>∃m:List Bs,((i = .int .i64 0∧m = [])∨(i = .int .i64 1∧m=Ta)∨(i = .int .i64 2∧m=Ta ++ Tb))∧Hid (SRow wr w.heap.size v m)∧Hid (Kept (fun _=>False) w wr)) (fun _ _ i _=>2 - (RowKit.intOf i).toNat)
   case atStart=>exact⟨[],.inl ⟨rfl,rfl⟩,R1.out.1,R1.out.2⟩
   case round =>
    obtain⟨m,hm,hr,hk⟩:=hrel
    have hca:wr.cell? ⟨g,0,none⟩=some (.slice Aa Ta.length ca):=(World.cell?_of_block (hk.out.block g hgl id)).trans hga
    have hcb:wr.cell? ⟨g,1,none⟩=some (.slice Ab Tb.length cb):=(World.cell?_of_block (hk.out.block g hgl id)).trans hgb
    have step:∀(T:List Bs) (v':Value) (w':World),w'.ownsRow 0 9 1 v' (m.length + T.length) (m.map Ss ++ T.map Ss)→wr.grownBy w' u6.ownBlock→(v'.ownBlock=u6.ownBlock∨v'.ownBlock=some wr.heap.size)→Hid (SRow w' w.heap.size v' (m ++ T))∧Hid (Kept (fun _=>False) w w'):=by
     intro T v' w' h1 h2 h3
     have hge:∀k,u6.ownBlock=some k→w.heap.size≤k:=fun k hk'=>own_ge hr.out hk'
     refine⟨?_,?_⟩
     ·show w'.ownsRow _ _ _ _ _ _
      rw[List.length_append,List.map_append]
      refine own_base h1 fun k hk'=>?_
      rcases h3 with e|e
      ·exact hge k (e ▸ hk')
      ·rw[hk'] at e
       injection e with e
       rw[e];exact hk.out.size
     ·show Kept _ _ _
      refine hk.out.then (T:=fun k=>u6.ownBlock=some k) ⟨h2.os,h2.tape,h2.output,h2.size,fun k hk' hne=>h2.block k hk' fun e=>hne e.symm⟩ fun k hk' e=>?_
      have:=hge k e
      omega
    have hown:wr.ownsRow 0 9 1 u6 m.length (m.map Ss):=own_base hr.out fun _ _=>Nat.zero_le _
    rcases hm with⟨rfl,hm⟩|⟨rfl,hm⟩|⟨rfl,hm⟩
    ·have hml:m.length=0:=by rw[hm];rfl
     have hrd:=(SlS.kept HA.out hk.out).reads
     have HM:=Lib.hid hm;clear hm
     go_wp2_with (at_builtin;refine app_one (v:=u6) rfl (.tmp 31) (.tmp 32) rfl Tryz.underlying29 info_str rfl rfl hown wr.heap.size rfl hrd (ss_one Ta) (by unfold maxLen;omega) (by omega) ?_;intro v' w' hv' hg' hob;obtain⟨s1,s2⟩:=step Ta v' w' hv' hg' hob;clear hv' hg' hob)
     go_roundw
     case rel=>exact⟨m ++ Ta,.inr (.inl ⟨rfl,by rw[HM.out];rfl⟩),s1,s2⟩
     case measure=>simp[RowKit.intOf]
    ·have hml:m.length=Ta.length:=by rw[hm]
     have hrd:=(SlS.kept HB.out hk.out).reads
     have HM:=Lib.hid hm;clear hm
     go_wp2_with (at_builtin;refine app_one (v:=u6) rfl (.tmp 31) (.tmp 32) rfl Tryz.underlying29 info_str rfl rfl hown wr.heap.size rfl hrd (ss_one Tb) (by unfold maxLen;omega) (by omega) ?_;intro v' w' hv' hg' hob;obtain⟨s1,s2⟩:=step Tb v' w' hv' hg' hob;clear hv' hg' hob)
     go_roundw
     case rel=>exact⟨m ++ Tb,.inr (.inr ⟨rfl,by rw[HM.out]⟩),s1,s2⟩
     case measure=>simp[RowKit.intOf]
    ·clear step hown
     subst hm
     go_wp2
     go_ret
     exact⟨_,rfl,hr.out,hk.out⟩
theorem growI_calls (w:World) (n:Nat) (hn:n≤2000):Calls Tryz.prog 182 #[.slice none 0 0,.int .i64 (n:Nat)] w fun e w'=>∃v',e = .returned v'∧IRow w' w.heap.size v' []∧Kept (fun _=>False) w w':=by
 obtain⟨i0,hi0,hz0,hzs,hzb⟩:=info_parts info_int
 have h1:¬((n:Int) < 0):=by omega
 by_cases h0:n=0
 ·subst h0
  go_enter Tryz.func182,Tryz.ntmps182
  go_wp2
  go_ret
  exact⟨_,rfl,IRow.nil _ _,Kept.refl _ _⟩
 ·have h4:(0:Int) < (n:Int):=by omega
  have hrz:∀ty,(Builtin.append_ #[28,3] ty #[.slice none 0 0,.int .i64 (n:Int)]).run Tryz.prog w =
    .ok (.slice (some ⟨w.heap.size,0,none⟩) n (grownCap w n 0 3)) (w.drew.alloc (.cells (([]:List Value).toArray ++ Builtin.zeroCells (Value.int .i64 0).cells n ++ Builtin.zeroCells (Value.int .i64 0).cells (grownCap w n 0 3 - n)) 3)):=fun ty=>by
   have h:=Lib.run_append_grow_zeros w 28 3 ty 3 i0 _ .i64 .i64 Tryz.underlying28 Tryz.underlying3 hi0 hz0 none 0 0 [] (run_firstCells_none w.drew i0.size 0 0 0) n (by omega) (by omega) (by omega) (by omega) (by rw[hzb];omega) (by rw[hzb];exact growslice_fits (by omega) (by omega))
   rw[Nat.zero_add] at h
   exact h
  have hGn:=grownCap_ge w n 0 3
  have hG63:=grownCap_le_maxLen w n 0 3 (by unfold maxLen;omega)
  obtain⟨G,hG⟩:∃G,G=grownCap w n 0 3:=⟨_,rfl⟩
  rw[←hG] at hrz hGn hG63
  obtain⟨ROW,hROW⟩:∃ROW:List Value,ROW=(([]:List Value).toArray ++ Builtin.zeroCells (Value.int .i64 0).cells n ++ Builtin.zeroCells (Value.int .i64 0).cells (G - n)).toList:=⟨_,rfl⟩
  have hR:ROW.length=G:=by rw[hROW];simp[size_zeroCells,Value.cells];omega
  rw[show(([]:List Value).toArray ++ Builtin.zeroCells (Value.int .i64 0).cells n ++ Builtin.zeroCells (Value.int .i64 0).cells (G - n))=ROW.toArray by rw[hROW]] at hrz
  have hn63:n≤G:=hGn
  have HM:=Lib.hid hG63;have HR:=Lib.hid hR
  clear hROW hG hG63 hR hi0
  go_enter Tryz.func182,Tryz.ntmps182
  go_wp2_with (at_builtin;refine Lib.wpList_append_run _ rfl _ _ _ _ rfl _ _ rfl rfl _ _ (hrz _) ?_)
  go_ret
  refine⟨_,rfl,?_,(Kept.refl _ w).drew.alloc _⟩
  exact own_list (L:=ROW) (n:=0) (heap_new w.drew _) (Nat.le_refl _) (by omega) (by rw[HR.out];exact HM.out) rfl HR.out.symm
theorem SlI.kept {w w' s T} (h:SlI w s T) (k:Kept (fun _=>False) w w'):SlI w' s T:=by
 obtain⟨A,c,rfl,⟨rfl,rfl⟩|⟨b,off,rfl,hc⟩⟩:=h
 ·exact⟨none,c,rfl,.inl ⟨rfl,rfl⟩⟩
 ·exact⟨_,c,rfl,.inr ⟨b,off,rfl,fun j hj=>(World.cell?_of_block (k.block b (block_lt_of_cell (hc j hj)) id)).trans (hc j hj)⟩⟩
theorem SlI.reads {w A c T} (h:SlI w (.slice A T.length c) T):Reads w w.heap.size 1 A T.length (T.map I):=by
 refine⟨by simp,fun hn=>?_⟩
 obtain⟨A',c',e,⟨rfl,rfl⟩|⟨b,off,rfl,hc⟩⟩:=h
 ·simp at hn
 ·injection e with e1 e2 e3
  subst e1
  refine⟨_,rfl,block_lt_of_cell (hc 0 hn),fun j u hj=>?_⟩
  have hj':j < T.length:=by have:=(List.getElem?_eq_some_iff.1 hj).1;simpa using this
  rw[Addr.add_lit,hc j hj', ←hj]
  simp[hj',I]
theorem concI_calls {w va vb g Ta Tb} (ha:SlI w va Ta) (hb:SlI w vb Tb) {ty:TypeId} {f:Nat×Nat} (hg:w.heap[g]? = some (.cells #[va,vb] ty f)) (h1:Ta.length≤1000) (h2:Tb.length≤1000) :
  Calls Tryz.prog 167 #[.slice (some ⟨g,0,none⟩) 2 2] w (CloneI (Ta ++ Tb) w):=by
 have hga:w.cell? ⟨g,0,none⟩=some va:=by rw[cell_heap hg];rfl
 have hgb:w.cell? ⟨g,1,none⟩=some vb:=by rw[cell_heap hg];rfl
 obtain⟨Aa,ca,ea⟩:∃A c,va = .slice A Ta.length c:=by obtain⟨A,c,e,_⟩:=ha;exact⟨A,c,e⟩
 obtain⟨Ab,cb,eb⟩:∃A c,vb = .slice A Tb.length c:=by obtain⟨A,c,e,_⟩:=hb;exact⟨A,c,e⟩
 subst ea eb
 have hgl:=lt_heap hg
 have HA:=Lib.hid ha;have HB:=Lib.hid hb;have HG:=Lib.hid hg;clear ha hb hg
 go_enter Tryz.func167,Tryz.ntmps167
 go_wp2
 go_loop [3,5,11] (fun s _ i=>(i = .int .i64 0∧s = .int .i64 0)∨(i = .int .i64 1∧s = .int .i64 Ta.length)∨(i = .int .i64 2∧s = .int .i64 (Ta.length + Tb.length:Nat))) (fun _ _ i=>2 - (RowKit.intOf i).toNat)
 case atStart=>exact .inl ⟨rfl,rfl⟩
 case round =>
  rcases hrel with⟨rfl,rfl⟩|⟨rfl,rfl⟩|⟨rfl,rfl⟩
  ·go_wp2
   go_round
   case rel=>exact .inr (.inl ⟨rfl,by go_num⟩)
   case measure=>simp[RowKit.intOf]
  ·go_wp2
   go_round
   case rel=>exact .inr (.inr ⟨rfl,by go_num⟩)
   case measure=>simp[RowKit.intOf]
  ·go_wp2_with fail
   refine(growI_calls w (Ta.length + Tb.length) (by omega)).mono ?_
   rintro e w1 ⟨v1,rfl,hr1,hk1⟩
   have R1:Hid (IRow w1 w.heap.size v1 ((Ta ++ Tb).take 0)∧Kept (fun _=>False) w w1):=⟨by simpa using hr1,hk1⟩
   clear hr1 hk1
   go_wp2
   go_loopw [6,8,27] (fun v _ i wr=>∃m:List Nat,((i = .int .i64 0∧m = [])∨(i = .int .i64 1∧m=Ta)∨(i = .int .i64 2∧m=Ta ++ Tb))∧Hid (IRow wr w.heap.size v m)∧Hid (Kept (fun _=>False) w wr)) (fun _ _ i _=>2 - (RowKit.intOf i).toNat)
   case atStart=>exact⟨[],.inl ⟨rfl,rfl⟩,R1.out.1,R1.out.2⟩
   case round =>
    obtain⟨m,hm,hr,hk⟩:=hrel
    have hca:wr.cell? ⟨g,0,none⟩=some (.slice Aa Ta.length ca):=(World.cell?_of_block (hk.out.block g hgl id)).trans hga
    have hcb:wr.cell? ⟨g,1,none⟩=some (.slice Ab Tb.length cb):=(World.cell?_of_block (hk.out.block g hgl id)).trans hgb
    have step:∀(T:List Nat) (v':Value) (w':World),w'.ownsRow 0 3 1 v' (m.length + T.length) (m.map I ++ T.map I)→wr.grownBy w' u6.ownBlock→(v'.ownBlock=u6.ownBlock∨v'.ownBlock=some wr.heap.size)→Hid (IRow w' w.heap.size v' (m ++ T))∧Hid (Kept (fun _=>False) w w'):=by
     intro T v' w' h1 h2 h3
     have hge:∀k,u6.ownBlock=some k→w.heap.size≤k:=fun k hk'=>own_ge hr.out hk'
     refine⟨?_,?_⟩
     ·show w'.ownsRow _ _ _ _ _ _
      rw[List.length_append,List.map_append]
      refine own_base h1 fun k hk'=>?_
      rcases h3 with e|e
      ·exact hge k (e ▸ hk')
      ·rw[hk'] at e
       injection e with e
       rw[e];exact hk.out.size
     ·show Kept _ _ _
      refine hk.out.then (T:=fun k=>u6.ownBlock=some k) ⟨h2.os,h2.tape,h2.output,h2.size,fun k hk' hne=>h2.block k hk' fun e=>hne e.symm⟩ fun k hk' e=>?_
      have:=hge k e
      omega
    have hown:wr.ownsRow 0 3 1 u6 m.length (m.map I):=own_base hr.out fun _ _=>Nat.zero_le _
    rcases hm with⟨rfl,hm⟩|⟨rfl,hm⟩|⟨rfl,hm⟩
    ·have hml:m.length=0:=by rw[hm];rfl
     have hrd:=(SlI.kept HA.out hk.out).reads
     have HM:=Lib.hid hm;clear hm
     go_wp2_with (at_builtin;refine app_one (v:=u6) rfl (.tmp 31) (.tmp 32) rfl Tryz.underlying28 info_int rfl rfl hown wr.heap.size rfl hrd (i_one Ta) (by unfold maxLen;omega) (by omega) ?_;intro v' w' hv' hg' hob;obtain⟨s1,s2⟩:=step Ta v' w' hv' hg' hob;clear hv' hg' hob)
     go_roundw
     case rel=>exact⟨m ++ Ta,.inr (.inl ⟨rfl,by rw[HM.out];rfl⟩),s1,s2⟩
     case measure=>simp[RowKit.intOf]
    ·have hml:m.length=Ta.length:=by rw[hm]
     have hrd:=(SlI.kept HB.out hk.out).reads
     have HM:=Lib.hid hm;clear hm
     go_wp2_with (at_builtin;refine app_one (v:=u6) rfl (.tmp 31) (.tmp 32) rfl Tryz.underlying28 info_int rfl rfl hown wr.heap.size rfl hrd (i_one Tb) (by unfold maxLen;omega) (by omega) ?_;intro v' w' hv' hg' hob;obtain⟨s1,s2⟩:=step Tb v' w' hv' hg' hob;clear hv' hg' hob)
     go_roundw
     case rel=>exact⟨m ++ Tb,.inr (.inr ⟨rfl,by rw[HM.out]⟩),s1,s2⟩
     case measure=>simp[RowKit.intOf]
    ·clear step hown
     subst hm
     go_wp2
     go_ret
     exact⟨_,rfl,hr.out,hk.out⟩
end Go.Proofs.YtfgjehecjgebdaaGreat
/- Nodes: what they are; Len, bounds, Over, Under, Find. -/
namespace Go.Proofs.YtfgjehecjgebdaaGreat
open Go.RowKit
set_option maxHeartbeats 4000000
set_option maxRecDepth 100000
structure Nd where
 leaf:Bool
 keys:List Bs
 vals:List Bs
 kids:List Nat
def Nd.len (n:Nd):Nat:=if n.leaf then n.keys.length else n.kids.length
def Nd.over (n:Nd):Bool:=decide ((if n.leaf then 4 else 6) < n.len)
def Nd.under (n:Nd):Bool:=decide (n.len < (if n.leaf then 2 else 3))
def Nd.find (n:Nd) (k:Bs):Nat:=lbd n.keys k + if !n.leaf && decide (k∈n.keys) then 1 else 0
def ndV (l:Bool) (vk vv vi:Value):Value:=.agg #[.bool l,vk,vv,vi]
def IsNd (w:World) (B:Nat) (v:Value) (n:Nd):Prop :=
 ∃Ak ck Av cv Ai ci,v=ndV n.leaf (.slice Ak n.keys.length ck) (.slice Av n.vals.length cv) (.slice Ai n.kids.length ci)∧SRow w B (.slice Ak n.keys.length ck) n.keys∧SRow w B (.slice Av n.vals.length cv) n.vals∧IRow w B (.slice Ai n.kids.length ci) n.kids
theorem IsNd.kept {w w' B v n} (h:IsNd w B v n) (k:Kept (fun _=>False) w w'):IsNd w' B v n:=by
 obtain⟨Ak,ck,Av,cv,Ai,ci,rfl,h1,h2,h3⟩:=h
 exact⟨Ak,ck,Av,cv,Ai,ci,rfl,h1.keptF k,h2.keptF k,h3.keptF k⟩
theorem IsNd.keptS {w w' B v n} {S:Nat→Prop} (h:IsNd w B v n) (k:Kept S w w') (hs:∀b,S b→b < B):IsNd w' B v n:=by
 obtain⟨Ak,ck,Av,cv,Ai,ci,rfl,h1,h2,h3⟩:=h
 have key:∀ {e:TypeId} {v:Value} {m:Nat} {xs:List Value},w.ownsRow B e 1 v m xs → ∀g,v.ownBlock=some g → ¬S g:=fun h g hg hS=>by
  have h1:=own_ge h hg
  have h2:=hs g hS
  omega
 exact⟨Ak,ck,Av,cv,Ai,ci,rfl,h1.kept k (key h1),h2.kept k (key h2),h3.kept k (key h3)⟩
theorem IsNd.base {w B B' v n} (h:IsNd w B v n) (hb:B'≤B):IsNd w B' v n:=by
 obtain⟨Ak,ck,Av,cv,Ai,ci,rfl,h1,h2,h3⟩:=h
 exact⟨Ak,ck,Av,cv,Ai,ci,rfl,h1.base hb,h2.base hb,h3.base hb⟩
structure Nd.Sm (n:Nd):Prop where
 k:n.keys.length≤100
 v:n.vals.length≤100
 i:n.kids.length≤100
theorem IsNd.opened {w B v n} (h:IsNd w B v n):∃l Ak a1 ck Av a2 cv Ai a3 ci,v = .agg #[.bool l,.slice Ak a1 ck,.slice Av a2 cv,.slice Ai a3 ci]∧Hid (l=n.leaf∧a1=n.keys.length∧a2=n.vals.length∧a3=n.kids.length) ∧
  Hid (IsNd w B (.agg #[.bool l,.slice Ak a1 ck,.slice Av a2 cv,.slice Ai a3 ci]) n)∧Hid (SRow w B (.slice Ak a1 ck) n.keys)∧Hid (SRow w B (.slice Av a2 cv) n.vals)∧Hid (IRow w B (.slice Ai a3 ci) n.kids):=by
 have h':=h
 obtain⟨Ak,ck,Av,cv,Ai,ci,rfl,h1,h2,h3⟩:=h
 exact⟨_,Ak,_,ck,Av,_,cv,Ai,_,ci,rfl,⟨rfl,rfl,rfl,rfl⟩,h',h1,h2,h3⟩
theorem IsNd.made {w B n l Ak a1 ck Av a2 cv Ai a3 ci} (e:l=n.leaf) (h1:SRow w B (.slice Ak a1 ck) n.keys) (h2:SRow w B (.slice Av a2 cv) n.vals) (h3:IRow w B (.slice Ai a3 ci) n.kids):IsNd w B (.agg #[.bool l,.slice Ak a1 ck,.slice Av a2 cv,.slice Ai a3 ci]) n:=by
 have key:∀ {e:TypeId} {A:Option Addr} {a c m:Nat} {xs:List Value},w.ownsRow B e 1 (.slice A a c) m xs→a=m:=fun h=>by
  rcases h.2 with⟨e,hn⟩|⟨g,cap,cur,e,_⟩
  ·injection e with _ e2 _;omega
  ·injection e
 obtain rfl:=key h1
 obtain rfl:=key h2
 obtain rfl:=key h3
 subst e
 exact⟨Ak,ck,Av,cv,Ai,ci,rfl,h1,h2,h3⟩
theorem own_slice {w:World} {B:Nat} {e:TypeId} {v:Value} {m:Nat} {xs:List Value} (h:w.ownsRow B e 1 v m xs):∃A c,v = .slice A m c:=by
 rcases h.2 with⟨rfl,rfl⟩|⟨g,cap,cur,rfl,_⟩
 ·exact⟨none,0,rfl⟩
 ·exact⟨_,cap,rfl⟩
theorem NdLen_calls {w B v n} (h:IsNd w B v n):Calls Tryz.prog 86 #[v] w fun e w'=>e = .returned (.int .i64 n.len)∧Kept (fun _=>False) w w':=by
 obtain⟨Ak,ck,Av,cv,Ai,ci,rfl,h1,h2,h3⟩:=h
 obtain⟨l,keys,vals,kids⟩:=n
 clear h1 h2 h3
 unfold ndV
 go_enter Tryz.func86,Tryz.ntmps86
 cases l<;>(go_wp2;go_ret;exact⟨rfl,(Kept.refl _ w).alloc _⟩)
theorem NdBounds_calls {w B v n} (h:IsNd w B v n):Calls Tryz.prog 152 #[v] w fun e w'=>e = .returned (.tuple #[.int .i64 (if n.leaf then 2 else 3:Nat),.int .i64 (if n.leaf then 4 else 6:Nat)])∧Kept (fun _=>False) w w':=by
 obtain⟨Ak,ck,Av,cv,Ai,ci,rfl,h1,h2,h3⟩:=h
 obtain⟨l,keys,vals,kids⟩:=n
 clear h1 h2 h3
 unfold ndV
 go_enter Tryz.func152,Tryz.ntmps152
 cases l
 ·go_wp2
  refine bodyPost_ret (v:=.tuple #[.int .i64 3,.int .i64 6]) (by simp[results,Tryz.f152,go_sem]) rfl ⟨rfl,(Kept.refl _ w).alloc _⟩
 ·go_wp2
  refine bodyPost_ret (v:=.tuple #[.int .i64 2,.int .i64 4]) (by simp[results,Tryz.f152,go_sem]) rfl ⟨rfl,(Kept.refl _ w).alloc _⟩
theorem nd_cells {w:World} {N:Nat} {l:Bool} {vk vv vi:Value} {t:TypeId} {f} (h:w.heap[N]? = some (.cells #[.bool l,vk,vv,vi] t f)) :
  w.cell? ⟨N,0,none⟩=some (.bool l)∧w.cell? ⟨N,1,none⟩=some vk∧w.cell? ⟨N,2,none⟩=some vv∧w.cell? ⟨N,3,none⟩=some vi:=by
 refine⟨?_,?_,?_,?_⟩<;>(rw[cell_heap h];rfl)
theorem NdOver_calls {w B v n} (h:IsNd w B v n):Calls Tryz.prog 135 #[v] w fun e w'=>e = .returned (.bool n.over)∧Kept (fun _=>False) w w':=by
 obtain⟨l,Ak,a1,ck,Av,a2,cv,Ai,a3,ci,rfl,HE,H, -, -, -⟩:=h.opened
 clear h
 have C1:=Lib.hid (NdBounds_calls (H.out.kept ((Kept.refl _ w).alloc (.cells #[.bool l,.slice Ak a1 ck,.slice Av a2 cv,.slice Ai a3 ci] 148))))
 have HO:Hid (n.over=decide ((if n.leaf then 4 else 6) < n.len)):=rfl
 obtain⟨lo,hlo⟩:∃lo:Nat,lo=if n.leaf then 2 else 3:=⟨_,rfl⟩
 obtain⟨hi,hhi⟩:∃hi:Nat,hi=if n.leaf then 4 else 6:=⟨_,rfl⟩
 have HC2:=Lib.hid fun w' (k:Kept (fun _=>False) w w')=>NdLen_calls (H.out.kept k)
 rw[←hlo, ←hhi] at C1
 rw[←hhi] at HO
 clear hlo hhi
 obtain⟨m,hm⟩:∃m,m=n.len:=⟨_,rfl⟩
 obtain⟨o,ho⟩:∃o,o=n.over:=⟨_,rfl⟩
 rw[←hm] at HC2 HO
 rw[←ho] at HO⊢
 clear hm ho H HE
 go_enter Tryz.func135,Tryz.ntmps135
 go_wp2_with fail
 refine C1.out.mono ?_
 rintro e w1 ⟨rfl,k1⟩
 have K1:=Lib.hid (((Kept.refl (fun _=>False) w).alloc _).trans k1)
 have hh1:=k1.heap (heap_new w _) id
 obtain⟨c0,c1,c2,c3⟩:=nd_cells hh1
 clear hh1 k1 C1
 go_wp2_with fail
 refine(HC2.out _ K1.out).mono ?_
 rintro e w2 ⟨rfl,k2⟩
 have K2:=Lib.hid (K1.out.trans k2)
 clear k2 c0 c1 c2 c3
 go_wp2
 go_ret
 exact⟨by rw[HO.out];rfl,K2.out⟩
theorem NdUnder_calls {w B v n} (h:IsNd w B v n):Calls Tryz.prog 127 #[v] w fun e w'=>e = .returned (.bool n.under)∧Kept (fun _=>False) w w':=by
 obtain⟨l,Ak,a1,ck,Av,a2,cv,Ai,a3,ci,rfl,HE,H, -, -, -⟩:=h.opened
 clear h
 have C1:=Lib.hid (NdBounds_calls (H.out.kept ((Kept.refl _ w).alloc (.cells #[.bool l,.slice Ak a1 ck,.slice Av a2 cv,.slice Ai a3 ci] 148))))
 have HO:Hid (n.under=decide (n.len < (if n.leaf then 2 else 3))):=rfl
 obtain⟨lo,hlo⟩:∃lo:Nat,lo=if n.leaf then 2 else 3:=⟨_,rfl⟩
 obtain⟨hi,hhi⟩:∃hi:Nat,hi=if n.leaf then 4 else 6:=⟨_,rfl⟩
 have HC2:=Lib.hid fun w' (k:Kept (fun _=>False) w w')=>NdLen_calls (H.out.kept k)
 rw[←hlo, ←hhi] at C1
 rw[←hlo] at HO
 clear hlo hhi
 obtain⟨m,hm⟩:∃m,m=n.len:=⟨_,rfl⟩
 obtain⟨o,ho⟩:∃o,o=n.under:=⟨_,rfl⟩
 rw[←hm] at HC2 HO
 rw[←ho] at HO⊢
 clear hm ho H HE
 go_enter Tryz.func127,Tryz.ntmps127
 go_wp2_with fail
 refine C1.out.mono ?_
 rintro e w1 ⟨rfl,k1⟩
 have K1:=Lib.hid (((Kept.refl (fun _=>False) w).alloc _).trans k1)
 have hh1:=k1.heap (heap_new w _) id
 obtain⟨c0,c1,c2,c3⟩:=nd_cells hh1
 clear hh1 k1 C1
 go_wp2_with fail
 refine(HC2.out _ K1.out).mono ?_
 rintro e w2 ⟨rfl,k2⟩
 have K2:=Lib.hid (K1.out.trans k2)
 clear k2 c0 c1 c2 c3
 go_wp2
 go_ret
 exact⟨by rw[HO.out];rfl,K2.out⟩
theorem NdFind_calls {w B v n} (h:IsNd w B v n) (hs:n.Sm) (hu:Up n.keys) (k:Bs):Calls Tryz.prog 88 #[v,.string (ba k)] w fun e w'=>e = .returned (.tuple #[.int .i64 (n.find k),.bool (decide (k∈n.keys))])∧Kept (fun _=>False) w w':=by
 obtain⟨l,Ak,a1,ck,Av,a2,cv,Ai,a3,ci,rfl,HE, -,H1, -, -⟩:=h.opened
 clear h
 have C1:=Lib.hid fun w' (kk:Kept (fun _=>False) w w')=>searchS_calls (H1.out.keptF kk).sl (by have:=hs.k;omega) hu k
 have HF:Hid (n.find k=lbd n.keys k + if !l && decide (k∈n.keys) then 1 else 0):=by rw[HE.out.1];exact rfl
 have hle:=lbd_le n.keys k
 have hk:=hs.k
 obtain⟨p,hp⟩:∃p,p=lbd n.keys k:=⟨_,rfl⟩
 obtain⟨q,hq⟩:∃q,q=n.find k:=⟨_,rfl⟩
 obtain⟨d,hd⟩:∃d,d=decide (k∈n.keys):=⟨_,rfl⟩
 obtain⟨s,hs'⟩:∃s,s=ba k:=⟨_,rfl⟩
 rw[←hp, ←hd, ←hs'] at C1
 rw[←hp, ←hd, ←hq] at HF
 rw[←hp] at hle
 rw[←hq, ←hd, ←hs']
 have hp2:p≤100:=by omega
 clear hp hd hq hs' HE H1 hle hk hs hu
 go_enter Tryz.func88,Tryz.ntmps88
 go_wp2_with fail
 refine(C1.out _ ((Kept.refl _ w).alloc _)).mono ?_
 rintro e w1 ⟨rfl,k1⟩
 have K1:=Lib.hid (((Kept.refl (fun _=>False) w).alloc _).trans k1)
 have hh1:=k1.heap (heap_new w _) id
 obtain⟨c0,c1,c2,c3⟩:=nd_cells hh1
 clear hh1 k1 C1 c1 c2 c3
 cases l<;>cases d
 ·obtain rfl:q=p:=by have:=HF.out;simpa using this
  go_wp2
  exact bodyPost_ret (v:=.tuple #[.int .i64 q,.bool false]) (by simp[results,Tryz.f88,go_sem]) rfl ⟨rfl,K1.out⟩
 ·obtain rfl:q=p + 1:=by have:=HF.out;simpa using this
  go_wp2
  exact bodyPost_ret (v:=.tuple #[.int .i64 (p + 1:Nat),.bool true]) (by simp[results,Tryz.f88,go_sem]) rfl ⟨rfl,K1.out⟩
 ·obtain rfl:q=p:=by have:=HF.out;simpa using this
  go_wp2
  exact bodyPost_ret (v:=.tuple #[.int .i64 q,.bool false]) (by simp[results,Tryz.f88,go_sem]) rfl ⟨rfl,K1.out⟩
 ·obtain rfl:q=p:=by have:=HF.out;simpa using this
  go_wp2
  exact bodyPost_ret (v:=.tuple #[.int .i64 q,.bool true]) (by simp[results,Tryz.f88,go_sem]) rfl ⟨rfl,K1.out⟩
end Go.Proofs.YtfgjehecjgebdaaGreat
/- Nodes: Set, Cut. -/
namespace Go.Proofs.YtfgjehecjgebdaaGreat
open Go.RowKit
set_option maxHeartbeats 4000000
set_option maxRecDepth 100000
def insAt {α} (l:List α) (i:Nat) (x : α):List α := l.take i ++ x :: l.drop i
def cutAt {α} (l:List α) (i:Nat):List α := l.take i ++ l.drop (i + 1)
def Nd.set (n:Nd) (k v:Bs):Nd:=if k∈n.keys then { n with vals:=n.vals.set (lbd n.keys k) v } else { n with keys:=insAt n.keys (lbd n.keys k) k,vals:=insAt n.vals (lbd n.keys k) v }
def Nd.cut (n:Nd) (k:Bs):Nd:=if k∈n.keys then { n with keys:=cutAt n.keys (lbd n.keys k),vals:=cutAt n.vals (lbd n.keys k) } else n
def NdTo (n:Nd) (B:Nat) (w:World) (e:Ending) (w':World):Prop:=∃v',e = .returned v'∧IsNd w' B v' n∧Kept (fun _=>False) w w'
theorem NdSet_calls {w B v n} (h:IsNd w B v n) (hB:B≤w.heap.size) (hs:n.Sm) (hu:Up n.keys) (hl:n.leaf=true) (hkv:n.vals.length=n.keys.length) (k x:Bs):Calls Tryz.prog 93 #[v,.string (ba k),.string (ba x)] w (NdTo (n.set k x) B w):=by
 obtain⟨l,Ak,a1,ck,Av,a2,cv,Ai,a3,ci,rfl,HE,H,H1,H2,H3⟩:=h.opened
 clear h
 have C1:=Lib.hid fun w' (kk:Kept (fun _=>False) w w')=>NdFind_calls (H.out.kept kk) hs hu k
 have hle:=lbd_le n.keys k
 have HP:Hid (k∈n.keys→lbd n.keys k < n.keys.length):=fun hm=>((up_mem hu).1 hm).1
 have HF:Hid (n.find k=lbd n.keys k):=by show _=_;simp[Nd.find,hl]
 obtain⟨q,hq⟩:∃q,q=n.find k:=⟨_,rfl⟩
 obtain⟨s,hs'⟩:∃s,s=ba k:=⟨_,rfl⟩
 obtain⟨t,ht⟩:∃t,t=ba x:=⟨_,rfl⟩
 have hq2:q≤100:=by have:=HF.out;have:=hs.k;omega
 have HQ:Hid (q=lbd n.keys k):=hq.trans HF.out
 rw[←hq, ←hs'] at C1
 rw[←hs', ←ht]
 have HS:=Lib.hid hs';have HT:=Lib.hid ht
 have HK:=Lib.hid hkv;have HL:=Lib.hid hl;have HSm:=Lib.hid hs;have HBB:=Lib.hid hB;have HLE:=Lib.hid hle
 clear hq hs' ht hle hu hkv hl hs hB
 by_cases hm:k∈n.keys
 ·rw[decide_eq_true hm] at C1
  have HN:Hid (n.set k x = { n with vals:=n.vals.set (lbd n.keys k) x }):=by show _=_;simp only[Nd.set,if_pos hm]
  have HM:=Lib.hid (HP.out hm)
  clear hm
  go_enter Tryz.func93,Tryz.ntmps93
  go_wp2_with fail
  refine(C1.out _ (by repeat (first|exact Kept.refl _ _|refine Kept.alloc ?_ _))).mono ?_
  rintro e w1 ⟨rfl,k1⟩
  have K1:=Lib.hid ((((Kept.refl (fun _=>False) w).alloc _).alloc _).trans k1)
  have hhN:=k1.heap (((Kept.refl (fun _=>False) _).alloc _).heap (heap_new w _) id) id
  have hhM:=k1.heap (heap_new (w.alloc _) _) id
  have hsz:(w.alloc (.cells #[.bool l,.slice Ak a1 ck,.slice Av a2 cv,.slice Ai a3 ci] 148)).heap.size=w.heap.size + 1:=Array.size_push _
  rw[hsz] at hhM
  obtain⟨c0,c1,c2,c3⟩:=nd_cells hhN
  obtain⟨N,hN⟩:∃N,N=w.heap.size:=⟨_,rfl⟩
  rw[←hN] at hhN hhM c0 c1 c2 c3
  have hM1:=lt_heap hhM
  have hM:=Lib.hid hhM
  have hNb:=Lib.hid hhN
  have HNz:=Lib.hid hN
  clear hhN hhM hsz k1 C1
  rw[←hN]
  clear hN
  have C2:=Lib.hid (cloneS_calls (H2.out.keptF K1.out).sl (by have:=HSm.out.v;omega))
  have fN:w1.frozen? ⟨N,2,none⟩=false:=free_heap hNb.out 2
  go_wp2_with fail
  refine C2.out.mono ?_
  rintro e w2 ⟨v2,rfl,hr2,k2⟩
  obtain⟨g,cap,rfl⟩:=own_form hr2 (by have:=HM.out;have:=HK.out;omega)
  have hgl:w1.heap.size≤g:=own_ge hr2 rfl
  have hrow:=Lib.hid hr2
  obtain⟨e,_⟩|⟨g',cap',cur,e,hgb,hgh,hgn,hgm,hgs,hgt⟩:=hr2.2
  ·cases e
  injection e with e1 e2 e3
  injection e1 with e1
  injection e1 with e1
  subst e1 e3
  have hql:q < n.vals.length:=by have:=HQ.out;have:=HM.out;have:=HK.out;omega
  have hqc:q < cur.size:=by omega
  have hgN:¬(N=g):=by omega
  have hgM:¬(N + 1=g):=by omega
  have hgN':¬(g=N):=by omega
  have hgM':¬(g=N + 1):=by omega
  have hgq:w2.cell? ⟨g,q,none⟩=some cur[q]:=by rw[cell_heap hgh];simp[hqc]
  have hgf:w2.frozen? ⟨g,q,none⟩=false:=free_heap hgh q
  have hN2:=Lib.hid (k2.heap hNb.out id)
  have hM2:=Lib.hid (k2.heap hM.out id)
  obtain⟨d0,d1,d2,d3⟩:=nd_cells hN2.out
  obtain⟨m0,m1,m2,m3⟩:=nd_cells hM2.out
  have fN2:∀i,w2.frozen? ⟨N,i,none⟩=false:=fun i=>free_heap hN2.out i
  have fM2:∀i,w2.frozen? ⟨N + 1,i,none⟩=false:=fun i=>free_heap hM2.out i
  have HG:=Lib.hid hgh
  have HGT:=Lib.hid hgt
  have HGS:=Lib.hid hgs
  have HGN:=Lib.hid hgn
  have HGM:=Lib.hid hgm
  have HCS:Hid (cur.setIfInBounds q (.string t)=(cur.toList.set q (.string t)).toArray):=by show _=_;apply Array.ext';rw[Array.toList_setIfInBounds]
  have HQL:=Lib.hid hql
  obtain⟨vl,hvl⟩:∃vl,vl=n.vals.length:=⟨_,rfl⟩
  rw[←hvl] at hrow hql⊢
  have HVL:=Lib.hid hvl
  clear hr2 hgh hgt hgs hgb hgn hgm c0 c1 c2 c3 fN hvl
  go_wp2
  have hNsz:=HNz.out
  have hk2s:=k2.size
  have K3:Kept (fun _=>False) w ((((((w2.setCell ⟨N,2,none⟩ (.slice (some ⟨g,0,none⟩) vl cap)).setCell ⟨g,q,none⟩ (.string t)).setCell ⟨N + 1,0,none⟩ (.bool l)).setCell ⟨N + 1,1,none⟩ (.slice Ak a1 ck)).setCell ⟨N + 1,2,none⟩ (.slice (some ⟨g,0,none⟩) vl cap)).setCell ⟨N + 1,3,none⟩ (.slice Ai a3 ci)):=by
   have k:=K1.out.trans k2
   have hw1:=K1.out.size
   refine((((((k.setCell (.inr ?_) _).setCell (.inr ?_) _).setCell (.inr ?_) _).setCell (.inr ?_) _).setCell (.inr ?_) _).setCell (.inr ?_) _)
   all_goals (dsimp only;omega)
  have hg3:((((((w2.setCell ⟨N,2,none⟩ (.slice (some ⟨g,0,none⟩) vl cap)).setCell ⟨g,q,none⟩ (.string t)).setCell ⟨N + 1,0,none⟩ (.bool l)).setCell ⟨N + 1,1,none⟩ (.slice Ak a1 ck)).setCell ⟨N + 1,2,none⟩ (.slice (some ⟨g,0,none⟩) vl cap)).setCell ⟨N + 1,3,none⟩ (.slice Ai a3 ci)).heap[g]? = some (.cells (cur.setIfInBounds q (.string t)) 9 (0,0)) :=
   heap_set_other (heap_set_other (heap_set_other (heap_set_other (heap_set (heap_set_other HG.out (by show g ≠ N;omega)) q _) (by show g ≠ N + 1;omega)) (by show g ≠ N + 1;omega)) (by show g ≠ N + 1;omega)) (by show g ≠ N + 1;omega)
  refine bodyPost_ret (v:=.agg #[.bool l,.slice Ak a1 ck,.slice (some ⟨g,0,none⟩) vl cap,.slice Ai a3 ci]) (by simp[results,Tryz.f93,go_sem,m0,m1,m2,m3]) rfl ?_
  refine⟨_,rfl,?_,K3⟩
  rw[HN.out]
  refine IsNd.made (n := { n with vals:=n.vals.set (lbd n.keys k) x }) HE.out.1 (H1.out.keptF K3) ?_ (H3.out.keptF K3)
  have hB0:=HBB.out
  have hw1:=K1.out.size
  have hgt:=HGT.out
  have hgs:=HGS.out
  have hvl:=HVL.out
  rw[HCS.out] at hg3
  show World.ownsRow _ _ _ _ _ (n.vals.set (lbd n.keys k) x).length _
  rw[List.length_set, ←hvl]
  have hll:(cur.toList.set q (.string t)).length=cap:=by rw[List.length_set,Array.length_toList,hgs,Nat.mul_one]
  have hgn:=HGN.out
  refine own_list (L:=cur.toList.set q (.string t)) hg3 (by omega) (by rw[hll,hvl];exact hgn) ?_ ?_ hll.symm
  ·rw[hll];exact HGM.out
  ·rw[Nat.mul_one] at hgt
   rw[List.take_set,hvl,hgt,HQ.out,HT.out,List.map_set]
   rfl
 ·rw[decide_eq_false hm] at C1
  have HN:Hid (n.set k x = { n with keys:=insAt n.keys (lbd n.keys k) k,vals:=insAt n.vals (lbd n.keys k) x }):=by show _=_;simp only[Nd.set,if_neg hm]
  clear hm HP
  go_enter Tryz.func93,Tryz.ntmps93
  go_wp2_with fail
  refine(C1.out _ (by repeat (first|exact Kept.refl _ _|refine Kept.alloc ?_ _))).mono ?_
  rintro e w1 ⟨rfl,k1⟩
  have K1:=Lib.hid ((((Kept.refl (fun _=>False) w).alloc _).alloc _).trans k1)
  have hhN:=k1.heap (((Kept.refl (fun _=>False) _).alloc _).heap (heap_new w _) id) id
  have hhM:=k1.heap (heap_new (w.alloc _) _) id
  have hsz:(w.alloc (.cells #[.bool l,.slice Ak a1 ck,.slice Av a2 cv,.slice Ai a3 ci] 148)).heap.size=w.heap.size + 1:=Array.size_push _
  rw[hsz] at hhM
  obtain⟨c0,c1,c2,c3⟩:=nd_cells hhN
  obtain⟨N,hN⟩:∃N,N=w.heap.size:=⟨_,rfl⟩
  rw[←hN] at hhN hhM c0 c1 c2 c3
  have hM1:=lt_heap hhM
  have hM:=Lib.hid hhM
  have hNb:=Lib.hid hhN
  have HNz:=Lib.hid hN
  clear hhN hhM hsz k1 C1
  rw[←hN]
  clear hN
  have C2:=Lib.hid (cloneS_calls (H1.out.keptF K1.out).sl (by have:=HSm.out.k;omega))
  go_wp2_with fail
  refine C2.out.mono ?_
  rintro e w2 ⟨v2,rfl,hr2,k2⟩
  obtain⟨A2,d2,rfl⟩:=own_slice hr2
  have hg2:∀g,(Value.slice A2 n.keys.length d2).ownBlock=some g→w1.heap.size≤g∧g < w2.heap.size:=fun g hg=>⟨own_ge hr2 hg,own_lt hr2 hg⟩
  have C3:=Lib.hid (insS_calls (k:=k) (vb:=w2.heap.size) (SRow.kept hr2 ((Kept.refl (fun _=>False) w2).alloc (.cells #[.string s] 9)) fun _ _=>id) (by simp;have:=k2.size;omega) q (by have:=HQ.out;have:=HLE.out;omega) (by have:=HSm.out.k;omega) (by rw[←HS.out];exact heap_new w2 _) (fun e=>by have:=(hg2 _ e).2;omega))
  have K2:=Lib.hid k2
  have HR2:=Lib.hid hr2
  have HG2:=Lib.hid hg2
  obtain⟨kl,hkl⟩:∃kl,kl=n.keys.length:=⟨_,rfl⟩
  rw[←hkl] at C3⊢
  have HKL:=Lib.hid hkl
  clear hr2 hg2 k2 hkl C2
  go_wp2_with fail
  refine C3.out.mono ?_
  rintro e w3 ⟨v3,rfl,hr3,k3,ho3⟩
  obtain⟨A3,d3,rfl⟩:=own_slice hr3
  have hNz:=HNz.out
  have nS:∀b,b < w1.heap.size → ¬(Value.slice A2 kl d2).ownBlock=some b:=fun b hb e=>by rw[HKL.out] at e;have:=(HG2.out _ e).1;omega
  have K3:Hid (Kept (fun _=>False) w w3):=((K1.out.trans K2.out).alloc _).then k3 fun i hi e=>nS i (by have:=K1.out.size;omega) e
  have hN3:=k3.heap ((Kept.alloc K2.out (.cells #[.string s] 9)).heap hNb.out id) (nS _ (by omega))
  have hM3:=k3.heap ((Kept.alloc K2.out (.cells #[.string s] 9)).heap hM.out id) (nS _ (by omega))
  obtain⟨d0,d1,d2',d3'⟩:=nd_cells hN3
  have fN3:∀i,w3.frozen? ⟨N,i,none⟩=false:=fun i=>free_heap hN3 i
  have HN3:=Lib.hid (heap_set hN3 1 (.slice A3 (insAt n.keys q k).length d3))
  have HM3:=Lib.hid (heap_set_other (a:=⟨N,1,none⟩) (v:=.slice A3 (insAt n.keys q k).length d3) hM3 (by show N + 1 ≠ N;omega))
  have K4:Hid (Kept (fun _=>False) w (w3.setCell ⟨N,1,none⟩ (.slice A3 (insAt n.keys q k).length d3))):=K3.out.setCell (.inr (by dsimp only;omega)) _
  have HR3:Hid (SRow (w3.setCell ⟨N,1,none⟩ (.slice A3 (insAt n.keys q k).length d3)) w1.heap.size (.slice A3 (insAt n.keys q k).length d3) (insAt n.keys q k)) :=
   SRow.kept (S:=fun b=>b=N) hr3 ((Kept.refl (· = N) w3).set1 1 _) fun g hg e=>by have:=own_ge hr3 hg;omega
  have hM4:N + 1 < w3.heap.size:=lt_heap hM3
  change Hid (SRow w2 w1.heap.size _ n.keys) at HR2
  clear hr3 k3 nS hN3 hM3 C3 hNz ho3 K3
  have hfold:n.keys.take q ++ k :: n.keys.drop q=insAt n.keys q k:=rfl
  rw[hfold]
  obtain⟨kk,hkk⟩:∃kk,kk=(insAt n.keys q k).length:=⟨_,rfl⟩
  rw[←hkk] at HN3 HM3 K4 HR3⊢
  have HKK:=Lib.hid hkk
  clear hkk hfold c0 c1 c2 c3
  have C4:=Lib.hid (cloneS_calls (H2.out.keptF K4.out).sl (by have:=HSm.out.v;omega))
  go_wp2_with fail
  refine C4.out.mono ?_
  rintro e w4 ⟨v4,rfl,hr4,k4⟩
  obtain⟨A4,d4,rfl⟩:=own_slice hr4
  obtain⟨u,hu⟩:∃u,u=w3.setCell ⟨N,1,none⟩ (.slice A3 kk d3):=⟨_,rfl⟩
  rw[←hu] at HN3 HM3 K4 HR3 hr4 k4
  have hus:N + 1 < u.heap.size:=by rw[hu];simp;omega
  have hg4:∀g,(Value.slice A4 n.vals.length d4).ownBlock=some g→u.heap.size≤g∧g < w4.heap.size:=fun g hg=>⟨own_ge hr4 hg,own_lt hr4 hg⟩
  have C5:=Lib.hid (insS_calls (k:=x) (vb:=w4.heap.size) (SRow.kept hr4 ((Kept.refl (fun _=>False) w4).alloc (.cells #[.string t] 9)) fun _ _=>id) (by simp;have:=k4.size;omega) q (by have:=HQ.out;have:=HLE.out;have:=HK.out;omega) (by have:=HSm.out.v;omega) (by rw[←HT.out];exact heap_new w4 _) (fun e=>by have:=(hg4 _ e).2;omega))
  have K4':=Lib.hid k4
  have HR4:=Lib.hid hr4
  have HG4:=Lib.hid hg4
  obtain⟨vl,hvl⟩:∃vl,vl=n.vals.length:=⟨_,rfl⟩
  rw[←hvl] at C5⊢
  have HVL:=Lib.hid hvl
  have HU:=Lib.hid hu
  clear hr4 hg4 k4 hvl C4 hu
  go_wp2_with fail
  refine C5.out.mono ?_
  rintro e w5 ⟨v5,rfl,hr5,k5,ho5⟩
  obtain⟨A5,d5,rfl⟩:=own_slice hr5
  have hNz:=HNz.out
  have nS:∀b,b < u.heap.size → ¬(Value.slice A4 vl d4).ownBlock=some b:=fun b hb e=>by rw[HVL.out] at e;have:=(HG4.out _ e).1;omega
  have K5:Hid (Kept (fun _=>False) w w5):=((K4.out.trans K4'.out).alloc _).then k5 fun i hi e=>nS i (by have:=K4.out.size;omega) e
  have hN5:=k5.heap ((Kept.alloc K4'.out (.cells #[.string t] 9)).heap HN3.out id) (nS _ (by omega))
  have hM5:=k5.heap ((Kept.alloc K4'.out (.cells #[.string t] 9)).heap HM3.out id) (nS _ (by omega))
  have e5:(#[.bool l,.slice Ak a1 ck,.slice Av a2 cv,.slice Ai a3 ci]:Array Value).setIfInBounds 1 (.slice A3 kk d3) = #[.bool l,.slice A3 kk d3,.slice Av a2 cv,.slice Ai a3 ci]:=rfl
  rw[e5] at hN5
  obtain⟨f0,f1,f2,f3⟩:=nd_cells hN5
  obtain⟨m0,m1,m2,m3⟩:=nd_cells hM5
  have fN5:∀i,w5.frozen? ⟨N,i,none⟩=false:=fun i=>free_heap hN5 i
  have fM5:∀i,w5.frozen? ⟨N + 1,i,none⟩=false:=fun i=>free_heap hM5 i
  have hr3':SRow w5 w1.heap.size (.slice A3 kk d3) (insAt n.keys q k):=by
   have h4:=SRow.kept (S:=fun b=>(Value.slice A4 vl d4).ownBlock=some b) ((HR3.out.keptF (K4'.out.alloc (.cells #[.string t] 9)))) k5 fun g hg=>nS g ?_
   ·exact h4
   ·exact own_lt HR3.out hg
  have HR5:Hid (SRow w5 u.heap.size (.slice A5 (insAt n.vals q x).length d5) (insAt n.vals q x)):=hr5
  have HR3':=Lib.hid hr3'
  have hfold:n.vals.take q ++ x :: n.vals.drop q=insAt n.vals q x:=rfl
  rw[hfold]
  obtain⟨vv,hvv⟩:∃vv,vv=(insAt n.vals q x).length:=⟨_,rfl⟩
  rw[←hvv] at HR5⊢
  have hq5:N + 1 < w5.heap.size:=lt_heap hM5
  clear hr5 k5 nS hN5 hM5 C5 ho5 e5 hr3' hfold hvv d0 d1 d2' d3' hNz fN3
  go_wp2
  have k6:Kept (fun b=>b=N∨b=N + 1) w5 (((((w5.setCell ⟨N,2,none⟩ (.slice A5 vv d5)).setCell ⟨N + 1,0,none⟩ (.bool l)).setCell ⟨N + 1,1,none⟩ (.slice A3 kk d3)).setCell ⟨N + 1,2,none⟩ (.slice A5 vv d5)).setCell ⟨N + 1,3,none⟩ (.slice Ai a3 ci)) :=
   (((((Kept.refl _ w5).setCell (.inl (.inl rfl)) _).setCell (.inl (.inr rfl)) _).setCell (.inl (.inr rfl)) _).setCell (.inl (.inr rfl)) _).setCell (.inl (.inr rfl)) _
  have hNz:=HNz.out
  have K6:=K5.out.then k6 (fun i hi e=>by omega)
  have hw1:=K1.out.size
  have hB0:=HBB.out
  have hw4:=K4.out.size
  refine bodyPost_ret (v:=.agg #[.bool l,.slice A3 kk d3,.slice A5 vv d5,.slice Ai a3 ci]) (by simp[results,Tryz.f93,go_sem,m0,m1,m2,m3]) rfl ?_
  refine⟨_,rfl,?_,K6⟩
  rw[HN.out]
  refine IsNd.made (n := { n with keys:=insAt n.keys (lbd n.keys k) k,vals:=insAt n.vals (lbd n.keys k) x }) HE.out.1 ?_ ?_ (H3.out.keptF K6)
  ·rw[←HQ.out]
   exact(SRow.kept HR3'.out k6 fun g hg e=>by have:=own_ge HR3'.out hg;omega).base (by omega)
  ·rw[←HQ.out]
   exact(SRow.kept HR5.out k6 fun g hg e=>by have:=own_ge HR5.out hg;omega).base (by omega)
theorem NdCut_calls {w B v n} (h:IsNd w B v n) (hB:B≤w.heap.size) (hs:n.Sm) (hu:Up n.keys) (hl:n.leaf=true) (hkv:n.vals.length=n.keys.length) (k:Bs):Calls Tryz.prog 89 #[v,.string (ba k)] w (NdTo (n.cut k) B w):=by
 obtain⟨l,Ak,a1,ck,Av,a2,cv,Ai,a3,ci,rfl,HE,H,H1,H2,H3⟩:=h.opened
 clear h
 have C1:=Lib.hid fun w' (kk:Kept (fun _=>False) w w')=>NdFind_calls (H.out.kept kk) hs hu k
 have hle:=lbd_le n.keys k
 have HP:Hid (k∈n.keys→lbd n.keys k < n.keys.length):=fun hm=>((up_mem hu).1 hm).1
 have HF:Hid (n.find k=lbd n.keys k):=by show _=_;simp[Nd.find,hl]
 obtain⟨q,hq⟩:∃q,q=n.find k:=⟨_,rfl⟩
 obtain⟨s,hs'⟩:∃s,s=ba k:=⟨_,rfl⟩
 have hq2:q≤100:=by have:=HF.out;have:=hs.k;omega
 have HQ:Hid (q=lbd n.keys k):=hq.trans HF.out
 rw[←hq, ←hs'] at C1
 rw[←hs']
 have HS:=Lib.hid hs'
 have HK:=Lib.hid hkv;have HL:=Lib.hid hl;have HSm:=Lib.hid hs;have HBB:=Lib.hid hB;have HLE:=Lib.hid hle
 clear hq hs' hle hu hkv hl hs hB
 by_cases hm:k∈n.keys
 ·rw[decide_eq_true hm] at C1
  have HN:Hid (n.cut k = { n with keys:=cutAt n.keys (lbd n.keys k),vals:=cutAt n.vals (lbd n.keys k) }):=by show _=_;simp only[Nd.cut,if_pos hm]
  have HM:=Lib.hid (HP.out hm)
  clear hm HP
  go_enter Tryz.func89,Tryz.ntmps89
  go_wp2_with fail
  refine(C1.out _ (by repeat (first|exact Kept.refl _ _|refine Kept.alloc ?_ _))).mono ?_
  rintro e w1 ⟨rfl,k1⟩
  have K1:=Lib.hid ((((Kept.refl (fun _=>False) w).alloc _).alloc _).trans k1)
  have hhN:=k1.heap (((Kept.refl (fun _=>False) _).alloc _).heap (heap_new w _) id) id
  have hhM:=k1.heap (heap_new (w.alloc _) _) id
  have hsz:(w.alloc (.cells #[.bool l,.slice Ak a1 ck,.slice Av a2 cv,.slice Ai a3 ci] 148)).heap.size=w.heap.size + 1:=Array.size_push _
  rw[hsz] at hhM
  obtain⟨c0,c1,c2,c3⟩:=nd_cells hhN
  obtain⟨N,hN⟩:∃N,N=w.heap.size:=⟨_,rfl⟩
  rw[←hN] at hhN hhM c0 c1 c2 c3
  have hM1:=lt_heap hhM
  have hM:=Lib.hid hhM
  have hNb:=Lib.hid hhN
  have HNz:=Lib.hid hN
  clear hhN hhM hsz k1 C1
  rw[←hN]
  clear hN
  have C2:=Lib.hid (cloneS_calls (H1.out.keptF K1.out).sl (by have:=HSm.out.k;omega))
  go_wp2_with fail
  refine C2.out.mono ?_
  rintro e w2 ⟨v2,rfl,hr2,k2⟩
  obtain⟨A2,d2,rfl⟩:=own_slice hr2
  have hg2:∀g,(Value.slice A2 n.keys.length d2).ownBlock=some g→w1.heap.size≤g∧g < w2.heap.size:=fun g hg=>⟨own_ge hr2 hg,own_lt hr2 hg⟩
  have C3:=Lib.hid (delS_calls hr2 q (by have:=HQ.out;have:=HM.out;omega) (by have:=HSm.out.k;omega))
  have K2:=Lib.hid k2
  have HR2:=Lib.hid hr2
  have HG2:=Lib.hid hg2
  obtain⟨kl,hkl⟩:∃kl,kl=n.keys.length:=⟨_,rfl⟩
  rw[←hkl] at C3⊢
  have HKL:=Lib.hid hkl
  clear hr2 hg2 k2 hkl C2
  go_wp2_with fail
  refine C3.out.mono ?_
  rintro e w3 ⟨v3,rfl,hr3,k3,ho3⟩
  obtain⟨A3,d3,rfl⟩:=own_slice hr3
  have hNz:=HNz.out
  have nS:∀b,b < w1.heap.size → ¬(Value.slice A2 kl d2).ownBlock=some b:=fun b hb e=>by rw[HKL.out] at e;have:=(HG2.out _ e).1;omega
  have K3:Hid (Kept (fun _=>False) w w3):=(K1.out.trans K2.out).then k3 fun i hi e=>nS i (by have:=K1.out.size;omega) e
  have hN3:=k3.heap (K2.out.heap hNb.out id) (nS _ (by omega))
  have hM3:=k3.heap (K2.out.heap hM.out id) (nS _ (by omega))
  obtain⟨d0,d1,d2',d3'⟩:=nd_cells hN3
  have fN3:∀i,w3.frozen? ⟨N,i,none⟩=false:=fun i=>free_heap hN3 i
  have HN3:=Lib.hid (heap_set hN3 1 (.slice A3 (cutAt n.keys q).length d3))
  have HM3:=Lib.hid (heap_set_other (a:=⟨N,1,none⟩) (v:=.slice A3 (cutAt n.keys q).length d3) hM3 (by show N + 1 ≠ N;omega))
  have K4:Hid (Kept (fun _=>False) w (w3.setCell ⟨N,1,none⟩ (.slice A3 (cutAt n.keys q).length d3))):=K3.out.setCell (.inr (by dsimp only;omega)) _
  have HR3:Hid (SRow (w3.setCell ⟨N,1,none⟩ (.slice A3 (cutAt n.keys q).length d3)) w1.heap.size (.slice A3 (cutAt n.keys q).length d3) (cutAt n.keys q)) :=
   SRow.kept (S:=fun b=>b=N) hr3 ((Kept.refl (· = N) w3).set1 1 _) fun g hg e=>by have:=own_ge hr3 hg;omega
  have hM4:N + 1 < w3.heap.size:=lt_heap hM3
  change Hid (SRow w2 w1.heap.size _ n.keys) at HR2
  clear hr3 k3 nS hN3 hM3 C3 hNz ho3 K3
  have hfold:n.keys.take q ++ n.keys.drop (q + 1)=cutAt n.keys q:=rfl
  rw[hfold]
  obtain⟨kk,hkk⟩:∃kk,kk=(cutAt n.keys q).length:=⟨_,rfl⟩
  rw[←hkk] at HN3 HM3 K4 HR3⊢
  have HKK:=Lib.hid hkk
  clear hkk hfold c0 c1 c2 c3
  have C4:=Lib.hid (cloneS_calls (H2.out.keptF K4.out).sl (by have:=HSm.out.v;omega))
  go_wp2_with fail
  refine C4.out.mono ?_
  rintro e w4 ⟨v4,rfl,hr4,k4⟩
  obtain⟨A4,d4,rfl⟩:=own_slice hr4
  obtain⟨u,hu⟩:∃u,u=w3.setCell ⟨N,1,none⟩ (.slice A3 kk d3):=⟨_,rfl⟩
  rw[←hu] at HN3 HM3 K4 HR3 hr4 k4
  have hus:N + 1 < u.heap.size:=by rw[hu];simp;omega
  have hg4:∀g,(Value.slice A4 n.vals.length d4).ownBlock=some g→u.heap.size≤g∧g < w4.heap.size:=fun g hg=>⟨own_ge hr4 hg,own_lt hr4 hg⟩
  have C5:=Lib.hid (delS_calls hr4 q (by have:=HQ.out;have:=HM.out;have:=HK.out;omega) (by have:=HSm.out.v;omega))
  have K4':=Lib.hid k4
  have HR4:=Lib.hid hr4
  have HG4:=Lib.hid hg4
  obtain⟨vl,hvl⟩:∃vl,vl=n.vals.length:=⟨_,rfl⟩
  rw[←hvl] at C5⊢
  have HVL:=Lib.hid hvl
  have HU:=Lib.hid hu
  clear hr4 hg4 k4 hvl C4 hu
  go_wp2_with fail
  refine C5.out.mono ?_
  rintro e w5 ⟨v5,rfl,hr5,k5,ho5⟩
  obtain⟨A5,d5,rfl⟩:=own_slice hr5
  have hNz:=HNz.out
  have nS:∀b,b < u.heap.size → ¬(Value.slice A4 vl d4).ownBlock=some b:=fun b hb e=>by rw[HVL.out] at e;have:=(HG4.out _ e).1;omega
  have K5:Hid (Kept (fun _=>False) w w5):=(K4.out.trans K4'.out).then k5 fun i hi e=>nS i (by have:=K4.out.size;omega) e
  have hN5:=k5.heap (K4'.out.heap HN3.out id) (nS _ (by omega))
  have hM5:=k5.heap (K4'.out.heap HM3.out id) (nS _ (by omega))
  have e5:(#[.bool l,.slice Ak a1 ck,.slice Av a2 cv,.slice Ai a3 ci]:Array Value).setIfInBounds 1 (.slice A3 kk d3) = #[.bool l,.slice A3 kk d3,.slice Av a2 cv,.slice Ai a3 ci]:=rfl
  rw[e5] at hN5
  obtain⟨f0,f1,f2,f3⟩:=nd_cells hN5
  obtain⟨m0,m1,m2,m3⟩:=nd_cells hM5
  have fN5:∀i,w5.frozen? ⟨N,i,none⟩=false:=fun i=>free_heap hN5 i
  have fM5:∀i,w5.frozen? ⟨N + 1,i,none⟩=false:=fun i=>free_heap hM5 i
  have hr3':SRow w5 w1.heap.size (.slice A3 kk d3) (cutAt n.keys q):=by
   have h4:=SRow.kept (S:=fun b=>(Value.slice A4 vl d4).ownBlock=some b) ((HR3.out.keptF K4'.out)) k5 fun g hg=>nS g ?_
   ·exact h4
   ·exact own_lt HR3.out hg
  have HR5:Hid (SRow w5 u.heap.size (.slice A5 (cutAt n.vals q).length d5) (cutAt n.vals q)):=hr5
  have HR3':=Lib.hid hr3'
  have hfold:n.vals.take q ++ n.vals.drop (q + 1)=cutAt n.vals q:=rfl
  rw[hfold]
  obtain⟨vv,hvv⟩:∃vv,vv=(cutAt n.vals q).length:=⟨_,rfl⟩
  rw[←hvv] at HR5⊢
  have hq5:N + 1 < w5.heap.size:=lt_heap hM5
  clear hr5 k5 nS hN5 hM5 C5 ho5 e5 hr3' hfold hvv d0 d1 d2' d3' hNz fN3
  go_wp2
  have k6:Kept (fun b=>b=N∨b=N + 1) w5 (((((w5.setCell ⟨N,2,none⟩ (.slice A5 vv d5)).setCell ⟨N + 1,0,none⟩ (.bool l)).setCell ⟨N + 1,1,none⟩ (.slice A3 kk d3)).setCell ⟨N + 1,2,none⟩ (.slice A5 vv d5)).setCell ⟨N + 1,3,none⟩ (.slice Ai a3 ci)) :=
   (((((Kept.refl _ w5).setCell (.inl (.inl rfl)) _).setCell (.inl (.inr rfl)) _).setCell (.inl (.inr rfl)) _).setCell (.inl (.inr rfl)) _).setCell (.inl (.inr rfl)) _
  have hNz:=HNz.out
  have K6:=K5.out.then k6 (fun i hi e=>by omega)
  have hw1:=K1.out.size
  have hB0:=HBB.out
  have hw4:=K4.out.size
  refine bodyPost_ret (v:=.agg #[.bool l,.slice A3 kk d3,.slice A5 vv d5,.slice Ai a3 ci]) (by simp[results,Tryz.f89,go_sem,m0,m1,m2,m3]) rfl ?_
  refine⟨_,rfl,?_,K6⟩
  rw[HN.out]
  refine IsNd.made (n := { n with keys:=cutAt n.keys (lbd n.keys k),vals:=cutAt n.vals (lbd n.keys k) }) HE.out.1 ?_ ?_ (H3.out.keptF K6)
  ·rw[←HQ.out]
   exact(SRow.kept HR3'.out k6 fun g hg e=>by have:=own_ge HR3'.out hg;omega).base (by omega)
  ·rw[←HQ.out]
   exact(SRow.kept HR5.out k6 fun g hg e=>by have:=own_ge HR5.out hg;omega).base (by omega)
 ·rw[decide_eq_false hm] at C1
  have HN:Hid (n.cut k=n):=by show _=_;simp only[Nd.cut,if_neg hm]
  clear hm HP
  go_enter Tryz.func89,Tryz.ntmps89
  go_wp2_with fail
  refine(C1.out _ (by repeat (first|exact Kept.refl _ _|refine Kept.alloc ?_ _))).mono ?_
  rintro e w1 ⟨rfl,k1⟩
  have K1:=Lib.hid ((((Kept.refl (fun _=>False) w).alloc _).alloc _).trans k1)
  have hhN:=k1.heap (((Kept.refl (fun _=>False) _).alloc _).heap (heap_new w _) id) id
  have hhM:=k1.heap (heap_new (w.alloc _) _) id
  have hsz:(w.alloc (.cells #[.bool l,.slice Ak a1 ck,.slice Av a2 cv,.slice Ai a3 ci] 148)).heap.size=w.heap.size + 1:=Array.size_push _
  rw[hsz] at hhM
  obtain⟨c0,c1,c2,c3⟩:=nd_cells hhN
  obtain⟨m0,m1,m2,m3⟩:=nd_cells hhM
  obtain⟨N,hN⟩:∃N,N=w.heap.size:=⟨_,rfl⟩
  rw[←hN] at hhN hhM c0 c1 c2 c3 m0 m1 m2 m3
  have fM:∀i,w1.frozen? ⟨N + 1,i,none⟩=false:=fun i=>free_heap hhM i
  have HNz:=Lib.hid hN
  clear hhN hhM hsz k1 C1
  rw[←hN]
  clear hN
  go_wp2
  have hNz:=HNz.out
  have K6:Kept (fun _=>False) w ((((w1.setCell ⟨N + 1,0,none⟩ (.bool l)).setCell ⟨N + 1,1,none⟩ (.slice Ak a1 ck)).setCell ⟨N + 1,2,none⟩ (.slice Av a2 cv)).setCell ⟨N + 1,3,none⟩ (.slice Ai a3 ci)):=by
   refine((((K1.out.setCell (.inr ?_) _).setCell (.inr ?_) _).setCell (.inr ?_) _).setCell (.inr ?_) _)
   all_goals (dsimp only;omega)
  refine bodyPost_ret (v:=.agg #[.bool l,.slice Ak a1 ck,.slice Av a2 cv,.slice Ai a3 ci]) (by simp[results,Tryz.f89,go_sem,m0,m1,m2,m3]) rfl ?_
  refine⟨_,rfl,?_,K6⟩
  rw[HN.out]
  exact H.out.kept K6
end Go.Proofs.YtfgjehecjgebdaaGreat
/- Nodes, in plain lists: in two, of two, level, others in a place; what fits. -/
namespace Go.Proofs.YtfgjehecjgebdaaGreat
set_option maxHeartbeats 1000000
def Nd.Sh (n:Nd):Prop:=if n.leaf then n.vals.length=n.keys.length else n.keys.length + 1=n.kids.length
def Nd.half (n:Nd):Nat:=(n.len + 1) / 2
def Nd.lo (n:Nd):Nd:=if n.leaf then ⟨true,n.keys.take n.half,n.vals.take n.half, []⟩ else ⟨false,n.keys.take (n.half - 1), [],n.kids.take n.half⟩
def Nd.hi (n:Nd):Nd:=if n.leaf then ⟨true,n.keys.drop n.half,n.vals.drop n.half, []⟩ else ⟨false,n.keys.drop n.half, [],n.kids.drop n.half⟩
def Nd.mid (n:Nd):Bs:=n.keys.getD (if n.leaf then n.half else n.half - 1) []
def nJoin (a:Nd) (k:Bs) (b:Nd):Nd:=⟨a.leaf,a.keys ++ (if a.leaf then [] else [k]) ++ b.keys,a.vals ++ b.vals,a.kids ++ b.kids⟩
def nLevel (a:Nd) (k:Bs) (b:Nd):List Nd:=if (nJoin a k b).over then [(nJoin a k b).lo,(nJoin a k b).hi] else [nJoin a k b]
def nBetween (a:Nd) (k:Bs) (b:Nd):Bs:=(nJoin a k b).mid
def Nd.repl (n:Nd) (i j:Nat) (ids:List Nat) (key:Bs):Nd :=
 ⟨false,if ids.length=2 then insAt (n.keys.take i ++ n.keys.drop (j - 1)) i key else n.keys.take i ++ n.keys.drop (j - 1), [],n.kids.take i ++ ids ++ n.kids.drop j⟩
structure Nd.Fit (n:Nd):Prop where
 leaf:n.leaf=true→n.vals.length=n.keys.length∧n.kids = []
 inner:n.leaf=false→n.keys.length + 1=n.kids.length∧n.vals = []
 kl:∀k∈n.keys,k.length≤24
 vl:∀v∈n.vals,v.length≤32
 kid:∀i∈n.kids,i < 128
 len:n.len≤20
theorem Nd.Fit.sh {n:Nd} (h:n.Fit):n.Sh:=by
 unfold Nd.Sh
 split
 ·next hl=>exact(h.leaf hl).1
 ·next hl=>exact(h.inner (by simpa using hl)).1
theorem Nd.Fit.lens {n:Nd} (h:n.Fit):n.keys.length≤20∧n.vals.length≤20∧n.kids.length≤20:=by
 have hm:=h.len
 cases hl:n.leaf
 ·have hi:=h.inner hl
  simp[Nd.len,hl] at hm
  rw[hi.2];simp;omega
 ·have hi:=h.leaf hl
  simp[Nd.len,hl] at hm
  rw[hi.2];simp;omega
theorem Nd.Fit.sm {n:Nd} (h:n.Fit):n.Sm:=by have:=h.lens;exact⟨by omega,by omega,by omega⟩
theorem mem_takeB {α} {l:List α} {k:Nat} {x : α} (h:x∈l.take k):x∈l:=List.mem_of_mem_take h
theorem mem_dropB {α} {l:List α} {k:Nat} {x : α} (h:x∈l.drop k):x∈l:=List.mem_of_mem_drop h
theorem Nd.Fit.set {n:Nd} (h:n.Fit) (hl:n.leaf=true) {k v:Bs} (hk:k.length≤24) (hv:v.length≤32) (hn:n.len≤19):(n.set k v).Fit∧(n.set k v).leaf=true∧(n.set k v).len≤n.len + 1:=by
 obtain⟨h1,h2⟩:=h.leaf hl
 have hle:=lbd_le n.keys k
 have e:n.len=n.keys.length:=by simp[Nd.len,hl]
 unfold Nd.set
 split
 ·refine⟨⟨fun _=>⟨by simpa using h1,h2⟩,fun hf=>(by have e:n.leaf=false:=hf;rw[hl] at e;cases e),h.kl,fun x hx=>?_,h.kid,?_⟩,hl,?_⟩
  ·rcases List.mem_or_eq_of_mem_set hx with hx|rfl
   ·exact h.vl x hx
   ·exact hv
  ·simpa[Nd.len,hl] using h.len
  ·simp[Nd.len,hl]
 ·refine⟨⟨fun _=>⟨?_,h2⟩,fun hf=>(by have e:n.leaf=false:=hf;rw[hl] at e;cases e),fun x hx=>?_,fun x hx=>?_,h.kid,?_⟩,hl,?_⟩
  ·simp[insAt,h1]
  ·simp only[insAt,List.mem_append,List.mem_cons] at hx
   rcases hx with hx|rfl|hx
   ·exact h.kl x (mem_takeB hx)
   ·exact hk
   ·exact h.kl x (mem_dropB hx)
  ·simp only[insAt,List.mem_append,List.mem_cons] at hx
   rcases hx with hx|rfl|hx
   ·exact h.vl x (mem_takeB hx)
   ·exact hv
   ·exact h.vl x (mem_dropB hx)
  ·rw[e] at hn;simp[Nd.len,hl,insAt];omega
  ·simp[Nd.len,hl,insAt];omega
theorem Nd.Fit.cut {n:Nd} (h:n.Fit) (hl:n.leaf=true) (k:Bs):(n.cut k).Fit∧(n.cut k).leaf=true∧(n.cut k).len≤n.len:=by
 obtain⟨h1,h2⟩:=h.leaf hl
 have hm:=h.len
 unfold Nd.cut
 split
 ·refine⟨⟨fun _=>⟨?_,h2⟩,fun hf=>(by have e:n.leaf=false:=hf;rw[hl] at e;cases e),fun x hx=>?_,fun x hx=>?_,h.kid,?_⟩,hl,?_⟩
  ·simp[cutAt,h1]
  ·simp only[cutAt,List.mem_append] at hx
   rcases hx with hx|hx
   ·exact h.kl x (mem_takeB hx)
   ·exact h.kl x (mem_dropB hx)
  ·simp only[cutAt,List.mem_append] at hx
   rcases hx with hx|hx
   ·exact h.vl x (mem_takeB hx)
   ·exact h.vl x (mem_dropB hx)
  ·simp[Nd.len,hl] at hm;simp[Nd.len,hl,cutAt];omega
  ·simp[Nd.len,hl,cutAt];omega
 ·exact⟨h,hl,Nat.le_refl _⟩
theorem Nd.Fit.halves {n:Nd} (h:n.Fit) (ho:n.over=true):n.lo.Fit∧n.hi.Fit∧n.mid.length≤24∧n.lo.leaf=n.leaf∧n.hi.leaf=n.leaf∧n.lo.len=n.half∧n.hi.len=n.len - n.half∧n.mid∈n.keys:=by
 have hm:=h.len
 cases hl:n.leaf
 ·obtain⟨h1,h2⟩:=h.inner hl
  have e:n.len=n.kids.length:=by simp[Nd.len,hl]
  simp[Nd.over,hl,e] at ho
  have hh:n.half=(n.kids.length + 1) / 2:=by unfold Nd.half;rw[e]
  have hmid:n.mid∈n.keys:=by
   unfold Nd.mid;rw[hl]
   simp only[Bool.false_eq_true,if_false,List.getD_eq_getElem?_getD]
   rw[List.getElem?_eq_getElem (by omega)];exact List.getElem_mem _
  refine⟨?_,?_,h.kl _ hmid,?_,?_,?_,?_,hmid⟩
  ·unfold Nd.lo;rw[hl]
   simp only[Bool.false_eq_true,if_false]
   refine⟨fun hf=>(by cases hf),fun _=>⟨?_,rfl⟩,fun x hx=>h.kl x (mem_takeB hx),fun x hx=>(by simp at hx),fun x hx=>h.kid x (mem_takeB hx),?_⟩
   ·simp;omega
   ·simp[Nd.len];omega
  ·unfold Nd.hi;rw[hl]
   simp only[Bool.false_eq_true,if_false]
   refine⟨fun hf=>(by cases hf),fun _=>⟨?_,rfl⟩,fun x hx=>h.kl x (mem_dropB hx),fun x hx=>(by simp at hx),fun x hx=>h.kid x (mem_dropB hx),?_⟩
   ·simp;omega
   ·simp[Nd.len];omega
  ·simp[Nd.lo,hl]
  ·simp[Nd.hi,hl]
  ·simp[Nd.lo,hl,Nd.len];omega
  ·simp[Nd.hi,hl,Nd.len]
 ·obtain⟨h1,h2⟩:=h.leaf hl
  have e:n.len=n.keys.length:=by simp[Nd.len,hl]
  simp[Nd.over,hl,e] at ho
  have hh:n.half=(n.keys.length + 1) / 2:=by unfold Nd.half;rw[e]
  have hmid:n.mid∈n.keys:=by
   unfold Nd.mid;rw[hl]
   simp only[if_true,List.getD_eq_getElem?_getD]
   rw[List.getElem?_eq_getElem (by omega)];exact List.getElem_mem _
  refine⟨?_,?_,h.kl _ hmid,?_,?_,?_,?_,hmid⟩
  ·unfold Nd.lo;rw[hl]
   simp only[if_true]
   refine⟨fun _=>⟨?_,rfl⟩,fun hf=>(by cases hf),fun x hx=>h.kl x (mem_takeB hx),fun x hx=>h.vl x (mem_takeB hx),fun x hx=>(by simp at hx),?_⟩
   ·simp[h1]
   ·simp[Nd.len];omega
  ·unfold Nd.hi;rw[hl]
   simp only[if_true]
   refine⟨fun _=>⟨?_,rfl⟩,fun hf=>(by cases hf),fun x hx=>h.kl x (mem_dropB hx),fun x hx=>h.vl x (mem_dropB hx),fun x hx=>(by simp at hx),?_⟩
   ·simp[h1]
   ·simp[Nd.len];omega
  ·simp[Nd.lo,hl]
  ·simp[Nd.hi,hl]
  ·simp[Nd.lo,hl,Nd.len];omega
  ·simp[Nd.hi,hl,Nd.len]
theorem Nd.Fit.join {a b:Nd} {k:Bs} (ha:a.Fit) (hb:b.Fit) (hk:k.length≤24) (hl:b.leaf=a.leaf) (hn:a.len + b.len≤20):(nJoin a k b).Fit∧(nJoin a k b).leaf=a.leaf∧(nJoin a k b).len=a.len + b.len:=by
 cases hla:a.leaf
 ·rw[hla] at hl
  obtain⟨h1,h2⟩:=ha.inner hla
  obtain⟨h3,h4⟩:=hb.inner hl
  simp[Nd.len,hla,hl] at hn
  refine⟨⟨fun hf=>?_,fun _=>⟨?_,?_⟩,fun x hx=>?_,fun x hx=>?_,fun x hx=>?_,?_⟩,hla,?_⟩
  ·simp[nJoin,hla] at hf
  ·simp[nJoin,hla];omega
  ·simp[nJoin,h2,h4]
  ·simp only[nJoin,hla,Bool.false_eq_true,if_false,List.mem_append,List.mem_singleton] at hx
   rcases hx with(hx|rfl)|hx
   ·exact ha.kl x hx
   ·exact hk
   ·exact hb.kl x hx
  ·simp[nJoin,h2,h4] at hx
  ·simp only[nJoin,List.mem_append] at hx
   rcases hx with hx|hx
   ·exact ha.kid x hx
   ·exact hb.kid x hx
  ·simp[nJoin,Nd.len,hla];omega
  ·simp[nJoin,Nd.len,hla,hl]
 ·rw[hla] at hl
  obtain⟨h1,h2⟩:=ha.leaf hla
  obtain⟨h3,h4⟩:=hb.leaf hl
  simp[Nd.len,hla,hl] at hn
  refine⟨⟨fun _=>⟨?_,?_⟩,fun hf=>?_,fun x hx=>?_,fun x hx=>?_,fun x hx=>?_,?_⟩,hla,?_⟩
  ·simp[nJoin,hla,h1,h3]
  ·simp[nJoin,h2,h4]
  ·simp[nJoin,hla] at hf
  ·simp only[nJoin,hla,if_true,List.append_nil,List.mem_append] at hx
   rcases hx with hx|hx
   ·exact ha.kl x hx
   ·exact hb.kl x hx
  ·simp only[nJoin,List.mem_append] at hx
   rcases hx with hx|hx
   ·exact ha.vl x hx
   ·exact hb.vl x hx
  ·simp[nJoin,h2,h4] at hx
  ·simp[nJoin,Nd.len,hla];omega
  ·simp[nJoin,Nd.len,hla,hl]
theorem Nd.Fit.repl {n:Nd} (h:n.Fit) (hl:n.leaf=false) {i j:Nat} (hij:i < j) (hj:j≤n.kids.length) {ids:List Nat} (hids:∀x∈ids,x < 128) (h12:ids.length=1∨ids.length=2) {key:Bs} (hk:key.length≤24) (hn:n.len≤18) :
  (n.repl i j ids key).Fit∧(n.repl i j ids key).leaf=false∧(n.repl i j ids key).len=n.len + ids.length - (j - i):=by
 obtain⟨h1,h2⟩:=h.inner hl
 have e:n.len=n.kids.length:=by simp[Nd.len,hl]
 rw[e] at hn
 refine⟨⟨fun hf=>?_,fun _=>⟨?_,rfl⟩,fun x hx=>?_,fun x hx=>?_,fun x hx=>?_,?_⟩,rfl,?_⟩
 ·simp[Nd.repl] at hf
 ·rcases h12 with h12|h12<;>simp[Nd.repl,h12,insAt]<;>omega
 ·simp only[Nd.repl] at hx
  split at hx
  ·simp only[insAt,List.mem_append,List.mem_cons] at hx
   rcases hx with hx|rfl|hx
   ·rcases List.mem_append.1 (mem_takeB hx) with hx|hx
    ·exact h.kl x (mem_takeB hx)
    ·exact h.kl x (mem_dropB hx)
   ·exact hk
   ·rcases List.mem_append.1 (mem_dropB hx) with hx|hx
    ·exact h.kl x (mem_takeB hx)
    ·exact h.kl x (mem_dropB hx)
  ·rcases List.mem_append.1 hx with hx|hx
   ·exact h.kl x (mem_takeB hx)
   ·exact h.kl x (mem_dropB hx)
 ·simp[Nd.repl] at hx
 ·simp only[Nd.repl,List.mem_append] at hx
  rcases hx with(hx|hx)|hx
  ·exact h.kid x (mem_takeB hx)
  ·exact hids x hx
  ·exact h.kid x (mem_dropB hx)
 ·rcases h12 with h12|h12<;>simp[Nd.repl,Nd.len,h12]<;>omega
 ·rw[e];rcases h12 with h12|h12<;>simp[Nd.repl,Nd.len,h12]<;>omega
end Go.Proofs.YtfgjehecjgebdaaGreat
