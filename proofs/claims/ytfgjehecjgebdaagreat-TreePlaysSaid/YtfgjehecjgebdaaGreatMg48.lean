/- Plain: a store that is opened again after a checkpoint. -/
import Derived.Test.YtfgjehecjgebdaaGreatMg36
import Derived.Test.YtfgjehecjgebdaaGreatMg45
namespace Go.Proofs.YtfgjehecjgebdaaGreat
set_option maxHeartbeats 1000000
theorem Rm.again {Y:Sto} {root:Int} {E:List KV} {x:Nat} (t:TI Y root E) (h2:∀j,Y.s j < 2) (hl:Y.l.length=128) (hx:E.length≤x):Rm Y Y root E x 0 0 :=
 ⟨⟨root,E,t,hx⟩,h2,Stays.refl Y,t,by omega,⟨[],by simp,fun j hj=>by have:=h2 j;omega⟩,hl⟩
theorem blank_s (j:Nat):(blankX 128).s j=0:=by
 obtain⟨-, -, -,h4, -, -⟩:=blank_disk (p:=128) (by omega) (by omega)
 unfold Sto.s
 rw[h4]
 simp only[List.getD_eq_getElem?_getD,List.getElem?_replicate]
 split<;>rfl
theorem Rm.blank:Rm (blankX 128) (blankX 128) (-1) [] 0 0 0:=by
 obtain⟨-, -, -,h4, -, -⟩:=blank_disk (p:=128) (by omega) (by omega)
 have hl:(blankX 128).l.length=128:=by rw[h4,List.length_replicate]
 exact Rm.again ⟨fun j=>by rw[blank_s];omega,by omega,.inl ⟨rfl,rfl,fun x=>by rw[blank_s];rfl⟩⟩ (fun j=>by rw[blank_s];omega) hl (by simp)
theorem reopened {p N:Nat} {X:Sto} {l0:List Nat} {K:Nat→Bs} (h:Ckd p N X l0 K) (h2:∀j,X.s j < 2):l0=X.l∧Eqv X ⟨X.l,fun _ => [],X.sup,X.D⟩:=by
 have e:l0=X.l:=by
  refine List.ext_getElem (by rw[h.disk.len,h.len]) fun j h3 h4=>?_
  have a:=h.st j
  have b:=h2 j
  unfold Sto.s at a b
  simp only[List.getD_eq_getElem?_getD,List.getElem?_eq_getElem h3,List.getElem?_eq_getElem h4,Option.getD_some] at a b
  omega
 refine⟨e,rfl,⟨rfl,rfl⟩,fun j=>load_keep (X:=X) j rfl rfl (.inl rfl) (.inr ?_)⟩
 have b:=h2 j
 unfold Sto.s at b
 omega
end Go.Proofs.YtfgjehecjgebdaaGreat
