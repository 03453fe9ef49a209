/- Space: New, Len, State, Count, Take, Give, Keep, Undo, by their contracts. -/
import Derived.Test.YtfgjehecjgebdaaGreatProg
import Derived.Test.YtfgjehecjgebdaaGreatMg04
namespace Go.Proofs.YtfgjehecjgebdaaGreat
open Go.RowKit
structure IsSp (w:World) (b c:Nat) (l:List Nat):Prop where
 head:w.heap[b]? = some (.cells #[.slice (some ⟨c,0,none⟩) l.length l.length] 179 (0,0))
 row:w.heap[c]? = some (.cells (l.map B).toArray 5 (0,0))
 le:∀x∈l,x < 4
 len:l.length≤128
theorem IsSp.cell0 {w b c l} (h:IsSp w b c l):w.cell? ⟨b,0,none⟩=some (.slice (some ⟨c,0,none⟩) l.length l.length):=by
 simp[World.cell?,h.head]
theorem IsSp.cell {w b c l} (h:IsSp w b c l) (i:Nat) (hi:i < l.length):w.cell? ⟨c,i,none⟩=some (.int .u8 (l[i]:Nat)):=by
 simp[World.cell?,h.row,hi,B]
theorem IsSp.frz {w b c l} (h:IsSp w b c l) (i:Nat):w.frozen? ⟨c,i,none⟩=false:=free_heap h.row i
theorem IsSp.ne {w b c l} (h:IsSp w b c l):b ≠ c:=by
 intro e;subst e
 have:=h.head.symm.trans h.row
 simp at this
theorem IsSp.kept {w w' b c l} {S:Nat→Prop} (h:IsSp w b c l) (k:Kept S w w') (hb:¬S b) (hc:¬S c):IsSp w' b c l :=
 ⟨k.heap h.head hb,k.heap h.row hc,h.le,h.len⟩
theorem IsSp.set {w b c l} (h:IsSp w b c l) (i x:Nat) (hx:x < 4):IsSp (w.setCell ⟨c,i,none⟩ (.int .u8 x)) b c (l.set i x):=by
 refine⟨?_,?_,?_,by simpa using h.len⟩
 ·have:=heap_set_other (a:=⟨c,i,none⟩) (v:=.int .u8 x) h.head h.ne
  simpa using this
 ·rw[heap_set h.row]
  simp[List.map_set,B]
 ·intro y hy
  rcases List.mem_or_eq_of_mem_set hy with hy|hy
  ·exact h.le y hy
  ·omega
theorem Len_calls {w b c l} (h:IsSp w b c l):Calls Tryz.prog 67 #[.pointer (some ⟨b,0,none⟩)] w fun e w'=>e = .returned (.int .i64 l.length)∧w=w':=by
 have h0:=h.cell0
 have h3:=h.len
 go_enter Tryz.func67,Tryz.ntmps67
 go_wp2
 go_ret
 exact⟨rfl,rfl⟩
def stAt (l:List Nat) (i:Int):Int:=if i < 0 then -1 else match l[i.toNat]? with|some x=>(x:Int)|none => -1
theorem State_out {w b c l} (h:IsSp w b c l) (i:Int) (hi:i < 0∨l.length≤i):Calls Tryz.prog 66 #[.pointer (some ⟨b,0,none⟩),.int .i64 i] w fun e w'=>e = .returned (.int .i64 (-1))∧w=w':=by
 have h0:=h.cell0
 rcases hi with hi|hi
 ·go_enter Tryz.func66,Tryz.ntmps66
  go_wp2
  go_ret
  exact⟨rfl,rfl⟩
 ·have hn:¬i < 0:=by omega
  go_enter Tryz.func66,Tryz.ntmps66
  go_wp2
  go_ret
  exact⟨rfl,rfl⟩
theorem State_in {w b c l} (h:IsSp w b c l) (i:Nat) (hi:i < l.length):Calls Tryz.prog 66 #[.pointer (some ⟨b,0,none⟩),.int .i64 i] w fun e w'=>e = .returned (.int .i64 (l[i]:Nat))∧w=w':=by
 have h0:=h.cell0
 have h1:=h.cell i hi
 have h2:=h.le l[i] (by simp)
 have h3:=h.len
 go_enter Tryz.func66,Tryz.ntmps66
 go_wp2
 go_ret
 exact⟨rfl,rfl⟩
theorem State_calls {w b c l} (h:IsSp w b c l) (i:Int):Calls Tryz.prog 66 #[.pointer (some ⟨b,0,none⟩),.int .i64 i] w fun e w'=>e = .returned (.int .i64 (stAt l i))∧w=w':=by
 by_cases hi:i < 0
 ·refine(State_out h i (.inl hi)).mono ?_
  rintro e w' ⟨rfl,rfl⟩
  exact⟨by simp[stAt,hi],rfl⟩
 ·obtain⟨k,rfl⟩:=Int.eq_ofNat_of_zero_le (show 0≤i by omega)
  by_cases hk:k < l.length
  ·refine(State_in h k hk).mono ?_
   rintro e w' ⟨rfl,rfl⟩
   exact⟨by simp[stAt,hk],rfl⟩
  ·refine(State_out h k (.inr (by omega))).mono ?_
   rintro e w' ⟨rfl,rfl⟩
   exact⟨by simp[stAt,Nat.not_lt.1 hk],rfl⟩
theorem stAt_le (l:List Nat) (h:∀x∈l,x < 4) (i:Int) : -1≤stAt l i∧stAt l i < 4:=by
 unfold stAt
 split
 ·omega
 ·cases hx:l[i.toNat]? with
  | none=>simp
  | some x=>have:=h x (List.mem_of_getElem? hx);simp;omega
def cnt (l:List Nat) (s:Int):Nat:=(l.filter fun x:Nat=>decide ((x:Int)=s)).length
theorem cnt_le (l:List Nat) (s:Int):cnt l s≤l.length:=List.length_filter_le _ _
theorem cnt_snoc (l:List Nat) (x:Nat) (s:Int):cnt (l ++ [x]) s=cnt l s + if (x:Int)=s then 1 else 0:=by
 unfold cnt
 by_cases h:(x:Int)=s<;>simp[List.filter_append,h]
theorem cnt_take {l:List Nat} {k:Nat} (hk:k < l.length) (s:Int):cnt (l.take (k + 1)) s=cnt (l.take k) s + if ((l[k]:Nat):Int)=s then 1 else 0:=by
 rw[List.take_succ_eq_append_getElem hk,cnt_snoc]
theorem Count_calls {w b c l} (h:IsSp w b c l) (s:Int) (_h64 : -9223372036854775808≤s∧s≤9223372036854775807):Calls Tryz.prog 98 #[.pointer (some ⟨b,0,none⟩),.int .i64 s] w fun e w'=>e = .returned (.int .i64 (cnt l s))∧w=w':=by
 have h0:=h.cell0
 have h3:=h.len
 have H:=Lib.hid h;clear h
 go_enter Tryz.func98,Tryz.ntmps98
 go_wp2
 go_loop [5,7,13] (fun n _ i=>∃k:Nat,k≤l.length∧i = .int .i64 k∧n = .int .i64 (cnt (l.take k) s)) (fun _ _ i=>l.length - (intOf i).toNat)
 case atStart=>exact⟨0,Nat.zero_le _,rfl,by simp[cnt]⟩
 case round =>
  obtain⟨k,hk,rfl,rfl⟩:=hrel
  by_cases hlt:k < l.length
  ·have hc:=H.out.cell k (by omega)
   have hx:=H.out.le l[k] (by simp)
   have hd:=Nat.le_trans (cnt_le (l.take k) s) (List.length_take_le _ _)
   by_cases he:((l[k]:Nat):Int)=s
   ·have ht:(((l[k]:Nat):Int) == s)=true:=by simpa using he
    have HS:Hid (cnt (l.take (k + 1)) s=cnt (l.take k) s + 1):=by rw[cnt_take hlt,if_pos he];exact rfl
    have HE:=Lib.hid he;clear he
    go_wp2
    go_round
    case rel=>exact⟨k + 1,by omega,by go_num,by rw[HS.out];go_num⟩
    case measure=>simp[intOf];omega
   ·have ht:(((l[k]:Nat):Int) == s)=false:=by simpa using he
    have HS:Hid (cnt (l.take (k + 1)) s=cnt (l.take k) s):=by rw[cnt_take hlt,if_neg he];exact rfl
    go_wp2
    go_round
    case rel=>exact⟨k + 1,by omega,by go_num,by rw[HS.out]⟩
    case measure=>simp[intOf];omega
  ·go_wp2
   go_ret
   exact⟨int_ret (by rw[List.take_of_length_le (by omega)]),rfl⟩
def tkAt (l:List Nat):Option Nat:=l.findIdx? (· == 0)
theorem Take_hit {w b c l} (h:IsSp w b c l) (i:Nat) (hi:i < l.length) (hz:l[i]=0) (hmin:∀j (hj:j < i),l[j] ≠ 0) :
  Calls Tryz.prog 63 #[.pointer (some ⟨b,0,none⟩)] w fun e w'=>e = .returned (.tuple #[.int .i64 i,.int .i64 0])∧w.setCell ⟨c,i,none⟩ (.int .u8 2)=w':=by
 have h0:=h.cell0
 have h3:=h.len
 have H:=Lib.hid h;clear h
 go_enter Tryz.func63,Tryz.ntmps63
 go_wp2
 go_loop [4,5,11] (fun _ _ n=>∃k:Nat,k≤i∧n = .int .i64 k) (fun _ _ n=>l.length - (intOf n).toNat)
 case atStart=>exact⟨0,Nat.zero_le _,rfl⟩
 case round =>
  obtain⟨k,hk,rfl⟩:=hrel
  have hc:=H.out.cell k (by omega)
  have hf:=H.out.frz k
  have hlt:k < l.length:=by omega
  have hx:=H.out.le l[k] (by simp)
  by_cases he:k=i
  ·subst he
   have ht:((l[k]:Int) == 0)=true:=by simp[hz]
   go_wp2
   go_ret2
   exact⟨rfl,rfl⟩
  ·have ht:((l[k]:Int) == 0)=false:=by have:=hmin k (by omega);simp;omega
   go_wp2
   go_round
   case rel=>exact⟨k + 1,by omega,by go_num⟩
   case measure=>simp[intOf];omega
theorem Take_miss {w b c l} (h:IsSp w b c l) (hz:∀j (hj:j < l.length),l[j] ≠ 0) :
  Calls Tryz.prog 63 #[.pointer (some ⟨b,0,none⟩)] w fun e w'=>e = .returned (.tuple #[.int .i64 0,.int .i64 7])∧w=w':=by
 have h0:=h.cell0
 have h3:=h.len
 have H:=Lib.hid h;clear h
 go_enter Tryz.func63,Tryz.ntmps63
 go_wp2
 go_loop [4,5,11] (fun _ _ n=>∃k:Nat,k≤l.length∧n = .int .i64 k) (fun _ _ n=>l.length - (intOf n).toNat)
 case atStart=>exact⟨0,Nat.zero_le _,rfl⟩
 case round =>
  obtain⟨k,hk,rfl⟩:=hrel
  by_cases hlt:k < l.length
  ·have hc:=H.out.cell k (by omega)
   have hx:=H.out.le l[k] (by simp)
   have ht:((l[k]:Int) == 0)=false:=by have:=hz k (by omega);simp;omega
   go_wp2
   go_round
   case rel=>exact⟨k + 1,by omega,by go_num⟩
   case measure=>simp[intOf];omega
  ·go_wp2
   go_ret2
   exact⟨rfl,rfl⟩
def tkRes (l:List Nat):Int×Int×List Nat:=match tkAt l with|some i=>(i,0,l.set i 2)|none=>(0,7,l)
theorem Take_calls {w b c l} (h:IsSp w b c l):Calls Tryz.prog 63 #[.pointer (some ⟨b,0,none⟩)] w fun e w' =>
  e = .returned (.tuple #[.int .i64 (tkRes l).1,.int .i64 (tkRes l).2.1])∧IsSp w' b c (tkRes l).2.2∧Kept (· = c) w w':=by
 cases ht:tkAt l with
 | none =>
  have hz:∀j (hj:j < l.length),l[j] ≠ 0:=by
   intro j hj
   have:=List.findIdx?_eq_none_iff.1 ht l[j] (by simp)
   simpa using this
  refine(Take_miss h hz).mono ?_
  rintro e w' ⟨rfl,rfl⟩
  simp only[tkRes,ht]
  exact⟨trivial,h,Kept.refl _ _⟩
 | some i =>
  obtain⟨hi,h1,h2⟩:=List.findIdx?_eq_some_iff_getElem.1 ht
  refine(Take_hit h i hi (by simpa using h1) (by intro j hj;simpa using h2 j hj)).mono ?_
  rintro e w' ⟨rfl,rfl⟩
  simp only[tkRes,ht]
  exact⟨trivial,h.set i 2 (by omega),(Kept.refl _ _).set1 _ _⟩
theorem Give_fresh {w b c l} (h:IsSp w b c l) (i:Nat) (hi:i < l.length) (hz:l[i]=2) :
  Calls Tryz.prog 65 #[.pointer (some ⟨b,0,none⟩),.int .i64 i] w fun e w'=>e = .returned (.int .i64 0)∧w.setCell ⟨c,i,none⟩ (.int .u8 0)=w':=by
 have h0:=h.cell0
 have hc:=h.cell i hi
 have h3:=h.len
 have hf:=h.frz i
 have hs:=State_in h i hi
 rw[hz] at hs hc
 go_enter Tryz.func65,Tryz.ntmps65
 go_wp2_with (go_at_call 66;refine hs.mono ?_;rintro e w' ⟨rfl,rfl⟩)
 go_ret
 exact⟨rfl,rfl⟩
theorem Give_used {w b c l} (h:IsSp w b c l) (i:Nat) (hi:i < l.length) (hz:l[i]=1) :
  Calls Tryz.prog 65 #[.pointer (some ⟨b,0,none⟩),.int .i64 i] w fun e w'=>e = .returned (.int .i64 0)∧w.setCell ⟨c,i,none⟩ (.int .u8 3)=w':=by
 have h0:=h.cell0
 have hc:=h.cell i hi
 have h3:=h.len
 have hf:=h.frz i
 have hs:=State_in h i hi
 rw[hz] at hs hc
 go_enter Tryz.func65,Tryz.ntmps65
 go_wp2_with (go_at_call 66;refine hs.mono ?_;rintro e w' ⟨rfl,rfl⟩)
 go_ret
 exact⟨rfl,rfl⟩
theorem Give_none {w b c l} (h:IsSp w b c l) (i:Int) (h1:stAt l i ≠ 1) (h2:stAt l i ≠ 2) :
  Calls Tryz.prog 65 #[.pointer (some ⟨b,0,none⟩),.int .i64 i] w fun e w'=>e = .returned (.int .i64 8)∧w=w':=by
 have hs:=State_calls h i
 have hb:=stAt_le l h.le i
 have e1:(stAt l i == 1)=false:=by simpa using h1
 have e2:(stAt l i == 2)=false:=by simpa using h2
 go_enter Tryz.func65,Tryz.ntmps65
 go_wp2_with (go_at_call 66;refine hs.mono ?_;rintro e w' ⟨rfl,rfl⟩)
 go_ret
 exact⟨rfl,rfl⟩
def gvRes (l:List Nat) (i:Int):Int×List Nat:=if stAt l i=2 then (0,l.set i.toNat 0) else if stAt l i=1 then (0,l.set i.toNat 3) else (8,l)
theorem stAt_nat {l:List Nat} {i:Int} {x:Nat} (h:stAt l i=x):∃k:Nat,i=k ∧ ∃hk:k < l.length,l[k]=x:=by
 unfold stAt at h
 split at h
 ·omega
 ·refine⟨i.toNat,by omega,?_⟩
  cases hx:l[i.toNat]? with
  | none=>rw[hx] at h;simp at h
  | some y =>
   rw[hx] at h
   obtain⟨hk,hy⟩:=List.getElem?_eq_some_iff.1 hx
   simp at h
   exact⟨hk,by omega⟩
theorem Give_calls {w b c l} (h:IsSp w b c l) (i:Int):Calls Tryz.prog 65 #[.pointer (some ⟨b,0,none⟩),.int .i64 i] w fun e w' =>
  e = .returned (.int .i64 (gvRes l i).1)∧IsSp w' b c (gvRes l i).2∧Kept (· = c) w w':=by
 by_cases h2:stAt l i=2
 ·obtain⟨k,rfl,hk,hx⟩:=stAt_nat (x:=2) h2
  refine(Give_fresh h k hk hx).mono ?_
  rintro e w' ⟨rfl,rfl⟩
  simp only[gvRes,if_pos h2,Int.toNat_natCast]
  exact⟨trivial,h.set k 0 (by omega),(Kept.refl _ _).set1 _ _⟩
 ·by_cases h1:stAt l i=1
  ·obtain⟨k,rfl,hk,hx⟩:=stAt_nat (x:=1) h1
   refine(Give_used h k hk hx).mono ?_
   rintro e w' ⟨rfl,rfl⟩
   simp only[gvRes,if_neg h2,if_pos h1,Int.toNat_natCast]
   exact⟨trivial,h.set k 3 (by omega),(Kept.refl _ _).set1 _ _⟩
  ·refine(Give_none h i h1 h2).mono ?_
   rintro e w' ⟨rfl,rfl⟩
   simp only[gvRes,if_neg h2,if_neg h1]
   exact⟨trivial,h,Kept.refl _ _⟩
def chg (x y:Nat) (l:List Nat):List Nat:=l.map fun z=>if z=x then y else z
theorem chg_step {l:List Nat} {k:Nat} (x y:Nat) (hk:k < l.length):(chg x y (l.take k) ++ l.drop k).set k (if l[k]=x then y else l[k])=chg x y (l.take (k + 1)) ++ l.drop (k + 1):=by
 have hl:(chg x y (l.take k)).length=k:=by simp[chg];omega
 have h2:chg x y (l.take (k + 1))=chg x y (l.take k) ++ [if l[k]=x then y else l[k]]:=by
  unfold chg;rw[List.take_succ_eq_append_getElem hk,List.map_append];rfl
 rw[List.set_append_right _ _ (by omega),hl,Nat.sub_self,List.drop_eq_getElem_cons hk,h2,List.set_cons_zero,List.append_assoc]
 rfl
theorem chg_get {l:List Nat} {k:Nat} (x y:Nat) (hk:k < l.length) (h:k < (chg x y (l.take k) ++ l.drop k).length):(chg x y (l.take k) ++ l.drop k)[k]'h=l[k]:=by
 have hl:(chg x y (l.take k)).length=k:=by simp[chg];omega
 rw[List.getElem_append_right (by omega)]
 simp[hl]
theorem change_calls {w b c l} (h:IsSp w b c l) (x y:Nat) (_hx:x < 4) (hy:y < 4):Calls Tryz.prog 117 #[.pointer (some ⟨b,0,none⟩),.int .u8 x,.int .u8 y] w fun e w' =>
  e = .returned (.tuple #[])∧IsSp w' b c (chg x y l)∧Kept (· = c) w w':=by
 have h0:=h.cell0
 have h3:=h.len
 have H:=Lib.hid h;clear h
 go_enter Tryz.func117,Tryz.ntmps117
 go_wp2
 go_loopw [6,7,13] (fun _ _ n wr=>∃k:Nat,k≤l.length∧n = .int .i64 k∧IsSp wr b c (chg x y (l.take k) ++ l.drop k)∧Kept (· = c) w wr) (fun _ _ n _=>l.length - (intOf n).toNat)
 case atStart=>exact⟨0,Nat.zero_le _,rfl,by simpa[chg] using H.out,Kept.refl _ _⟩
 case round =>
  obtain⟨k,hk,rfl,hs,hkp⟩:=hrel
  have hl:(chg x y (l.take k) ++ l.drop k).length=l.length:=by simp[chg];omega
  by_cases hlt:k < l.length
  ·have hc:=hs.cell k (by omega)
   have hf:=hs.frz k
   have hz:=hs.cell0
   rw[chg_get x y hlt] at hc
   rw[hl] at hz
   have HS:=Lib.hid (hs.set k (if l[k]=x then y else l[k]) (by have:=H.out.le l[k] (by simp);split<;>omega))
   rw[chg_step x y hlt] at HS
   have hx4:=H.out.le l[k] (by simp)
   clear hl
   have HH:=Lib.hid hs;clear hs
   by_cases he:l[k]=x
   ·have ht:(((l[k]:Nat):Int) == (x:Int))=true:=by simp[he]
    rw[if_pos he] at HS
    have HE:=Lib.hid he;clear he
    go_wp2
    go_roundw
    case rel=>exact⟨k + 1,by omega,by go_num,HS.out,hkp.set1 _ _⟩
    case measure=>simp[intOf];omega
   ·have ht:(((l[k]:Nat):Int) == (x:Int))=false:=by simp;omega
    rw[if_neg he] at HS
    have hsame:chg x y (l.take (k + 1)) ++ l.drop (k + 1)=chg x y (l.take k) ++ l.drop k:=by
     rw[←chg_step x y hlt,if_neg he]
     have:=chg_get x y hlt (by simp[chg];omega)
     conv=>lhs;rw[←this]
     exact List.set_getElem_self _
    have HE:=Lib.hid hsame;clear hsame
    go_wp2
    go_roundw
    case rel=>exact⟨k + 1,by omega,by go_num,by rw[HE.out];exact HH.out,hkp⟩
    case measure=>simp[intOf];omega
  ·go_wp2
   go_end0
   have e1:l.take k=l:=List.take_of_length_le (by omega)
   have e2:l.drop k = []:=List.drop_of_length_le (by omega)
   rw[e1,e2,List.append_nil] at hs
   exact⟨rfl,hs,hkp⟩
def kp (l:List Nat):List Nat:=chg 3 0 (chg 2 1 l)
def ud (l:List Nat):List Nat:=chg 3 1 (chg 2 0 l)
theorem Keep_calls {w b c l} (h:IsSp w b c l):Calls Tryz.prog 74 #[.pointer (some ⟨b,0,none⟩)] w fun e w' =>
  e = .returned (.tuple #[])∧IsSp w' b c (kp l)∧Kept (· = c) w w':=by
 have H:=Lib.hid h;clear h
 go_enter Tryz.func74,Tryz.ntmps74
 go_wp2_with fail
 refine(change_calls H.out 2 1 (by omega) (by omega)).mono ?_
 rintro e w1 ⟨rfl,h1,k1⟩
 go_wp2_with fail
 refine(change_calls h1 3 0 (by omega) (by omega)).mono ?_
 rintro e w2 ⟨rfl,h2,k2⟩
 go_wp2_with fail
 go_end0
 exact⟨rfl,h2,k1.trans k2⟩
end Go.Proofs.YtfgjehecjgebdaaGreat
/- The laws' Cut: a text's first bytes. -/
namespace Go.Proofs.YtfgjehecjgebdaaGreat
open Go.RowKit
def cutTo (s:ByteArray) (n:Nat):ByteArray:=if n < s.size then s.extract 0 n else s
theorem Cut_calls (s:ByteArray) (n:Nat) (w:World) (_hm:s.size≤maxLen) (_hn:n≤100000):Calls Tryz.prog 16 #[.string s,.int .i64 n] w fun e w'=>e = .returned (.string (cutTo s n))∧w=w':=by
 unfold maxLen at _hm
 by_cases h:n < s.size
 ·have HC:Hid (cutTo s n=s.extract 0 n):=by simp[Hid,cutTo,h]
  go_enter Tryz.func16,Tryz.ntmps16
  go_wp2
  go_ret
  exact⟨by rw[HC.out];rfl,rfl⟩
 ·have HC:Hid (cutTo s n=s):=by simp[Hid,cutTo,h]
  go_enter Tryz.func16,Tryz.ntmps16
  go_wp2
  go_ret
  exact⟨by rw[HC.out];rfl,rfl⟩
end Go.Proofs.YtfgjehecjgebdaaGreat
