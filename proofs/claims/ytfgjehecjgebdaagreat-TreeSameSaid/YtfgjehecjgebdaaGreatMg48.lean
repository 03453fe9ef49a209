/- Plain: a tree of which nothing is stale; the rounds of TreeSame. -/
import Derived.Test.YtfgjehecjgebdaaGreatMg39
import Derived.Test.YtfgjehecjgebdaaGreatMg40
import Derived.Test.YtfgjehecjgebdaaGreatMg45
namespace Go.Proofs.YtfgjehecjgebdaaGreat
structure TE (X:Sto) (root:Int) (E:List KV):Prop where
 ti:TI X root E
 ev:∀j,X.s j % 2=0
 len:X.l.length=128
theorem TE.blank:TE (blankX 128) (-1) []:=by
 obtain⟨-, -, -,h4, -, -⟩:=blank_disk (p:=128) (by omega) (by omega)
 have hs:∀j,(blankX 128).s j=0:=fun j=>by
  unfold Sto.s
  rw[h4]
  simp only[List.getD_eq_getElem?_getD,List.getElem?_replicate]
  split<;>rfl
 have hl:(blankX 128).l.length=128:=by rw[h4,List.length_replicate]
 exact⟨⟨fun j=>by rw[hs];omega,by omega,.inl ⟨rfl,rfl,fun x=>by rw[hs];rfl⟩⟩,fun j=>by rw[hs],hl⟩
theorem TE.stays {X X':Sto} {root root':Int} {E E':List KV} (t:TE X root E) (h:TI X' root' E') (s:Stays X X'):TE X' root' E':=⟨h,fun j=>by rw[s.st];exact t.ev j,by rw[s.len];exact t.len⟩
theorem TE.put {X:Sto} {root:Int} {E:List KV} (t:TE X root E) {k v:Bs} (hk:k.length≤24) (hv:v.length≤32) (hn:E.length≤116):∃root' X',putT X root k v=(0,root',X')∧TE X' root' (insE E k v):=by
 rcases putT_ok t.ti hk hv with⟨_, -, -,h⟩|⟨r,X',h1,h2,h3⟩
 ·exact absurd h (not_short t.ti t.ev (by rw[t.len];omega))
 ·exact⟨r,X',h1,t.stays h2 h3⟩
theorem TE.del {X:Sto} {root:Int} {E:List KV} (t:TE X root E) {k:Bs} (hm:∃e,getE E k=some e) (hn:E.length≤116):∃root' X',delT X root k=(true,0,root',X')∧TE X' root' (delE E k):=by
 rcases delT_ok (k:=k) t.ti with⟨h, -⟩|⟨-,⟨_, -, -,h⟩|⟨r,X',h1,h2,h3⟩⟩
 ·obtain⟨e,he⟩:=hm
  rw[h] at he;cases he
 ·exact absurd h (not_short t.ti t.ev (by rw[t.len];omega))
 ·exact⟨r,X',h1,t.stays h2 h3⟩
theorem insE_len (E:List KV) (k v:Bs):(insE E k v).length≤E.length + 1:=by
 induction E with
 | nil=>simp[insE]
 | cons a t ih =>
  unfold insE at *
  simp only[List.filter_cons,List.length_append,List.length_cons] at *
  by_cases h1:a.1 < k
  ·have h2:¬k < a.1:=bs_asymm h1
   simp only[h1,h2,decide_true,decide_false,if_true]
   simp at *
   omega
  ·simp only[h1,decide_false]
   split<;>split<;>simp at * <;> omega
theorem mem_insE' {E:List KV} {k v:Bs} {e:KV} : e∈insE E k v↔e=(k,v)∨(e∈E∧e.1 ≠ k):=by
 refine⟨mem_insE,fun h=>?_⟩
 unfold insE
 rw[List.mem_append,List.mem_cons,List.mem_filter,List.mem_filter]
 rcases h with h|⟨h1,h2⟩
 ·exact .inr (.inl h)
 ·rcases bs_tri e.1 k with h|h|h
  ·exact .inl ⟨h1,by simpa using h⟩
  ·exact absurd h h2
  ·exact .inr (.inr ⟨h1,by simpa using h⟩)
theorem upe_key {E:List KV} (h:UpE E) {a b:KV} (ha:a∈E) (hb:b∈E) (e:a.1=b.1):a=b:=by
 induction E with
 | nil=>simp at ha
 | cons x t ih =>
  obtain⟨h1,h2⟩:=List.pairwise_cons.1 h
  rcases List.mem_cons.1 ha with ra|ra<;>rcases List.mem_cons.1 hb with rb|rb
  ·rw[ra,rb]
  ·have h3:=h1 b rb;rw[←ra] at h3;exact absurd e (bs_ne h3)
  ·have h3:=h1 a ra;rw[←rb] at h3;exact absurd e.symm (bs_ne h3)
  ·exact ih h2 ra rb
theorem getE_mem {E:List KV} {e:KV} (h:e∈E):∃x,getE E e.1=some x:=by
 cases hg:getE E e.1 with
 | some x=>exact⟨x,rfl⟩
 | none =>
  have:=List.find?_eq_none.1 hg e h
  simp at this
theorem delE_lt {E:List KV} {j:Nat} (hj:j < E.length):(delE E E[j].1).length + 1≤E.length:=by
 unfold delE
 have h1:=List.length_filter_lt_length_iff_exists (l:=E) (p:=fun e=>decide (e.1 ≠ E[j].1))
 have:=h1.2 ⟨E[j],List.getElem_mem hj,by simp⟩
 omega
structure Rest (E P L:List KV):Prop where
 up:UpE P
 mem:∀x,x∈E↔x∈P∨x∈L
 len:P.length + L.length≤E.length
theorem Rest.start {E:List KV} : Rest E [] E:=⟨List.Pairwise.nil,fun x=>by simp,by simp⟩
theorem Rest.next {E P L:List KV} (h:Rest E P L) (hu:UpE E) {k:Nat} (hk:k < L.length):Rest E (insE P L[k].1 L[k].2) (L.take k ++ L.drop (k + 1)):=by
 have hL:L=L.take k ++ L[k] :: L.drop (k + 1):=by
  rw[←List.drop_eq_getElem_cons hk,List.take_append_drop]
 have hm:∀x,x∈L↔x=L[k]∨x∈L.take k ++ L.drop (k + 1):=fun x=>by
  constructor
  ·intro hx
   rw[hL] at hx
   rcases List.mem_append.1 hx with h|h
   ·exact .inr (List.mem_append.2 (.inl h))
   ·rcases List.mem_cons.1 h with h|h
    ·exact .inl h
    ·exact .inr (List.mem_append.2 (.inr h))
  ·intro hx
   rcases hx with rfl|hx
   ·exact List.getElem_mem hk
   ·rcases List.mem_append.1 hx with h|h
    ·exact List.mem_of_mem_take h
    ·exact List.mem_of_mem_drop h
 refine⟨upE_ins h.up _ _,fun x=>?_,?_⟩
 ·rw[h.mem,hm,mem_insE']
  constructor
  ·rintro(hx|hx|hx)
   ·by_cases e:x.1=L[k].1
    ·have h1:=(h.mem x).2 (.inl hx)
     have h2:=(h.mem L[k]).2 (.inr (List.getElem_mem hk))
     exact .inl (.inl (upe_key hu h1 h2 e))
    ·exact .inl (.inr ⟨hx,e⟩)
   ·exact .inl (.inl hx)
   ·exact .inr hx
  ·rintro((hx|hx)|hx)
   ·exact .inr (.inl hx)
   ·exact .inl hx.1
   ·exact .inr (.inr hx)
 ·have h1:=insE_len P L[k].1 L[k].2
  have h2:=h.len
  rw[List.length_append,List.length_take,List.length_drop]
  omega
theorem Rest.done {E P:List KV} (h:Rest E P []) (hu:UpE E):P=E:=upe_ext h.up hu fun x=>by rw[h.mem];simp
theorem TE.gone {X:Sto} {root:Int} (t:TE X root []):root = -1:=by
 rcases t.ti.sound with⟨h, -⟩|⟨_,_, -, -, -, -,h, -⟩
 ·exact h
 ·exact absurd rfl h
end Go.Proofs.YtfgjehecjgebdaaGreat
