/- Plain: what a space's bytes are. -/
import Derived.Test.YtfgjehecjgebdaaGreatMg04
import Derived.Laws.BitsAllLaws
namespace Go.Proofs.YtfgjehecjgebdaaGreat
def us (x:Nat):Bool:=x == 1 || x == 2
def lv:List Nat→Nat
 | []=>0
 | x :: r=>(if us x then 1 else 0) + 2 * lv r
theorem lv_lt (l:List Nat):lv l < 2 ^ l.length:=by
 induction l with
 | nil=>simp[lv]
 | cons x r ih=>simp only[lv,List.length_cons,Nat.pow_succ];split<;>omega
theorem lv_snoc (l:List Nat) (x:Nat):lv (l ++ [x])=lv l + if us x then 2 ^ l.length else 0:=by
 induction l with
 | nil=>simp[lv]
 | cons y r ih=>simp only[List.cons_append,lv,ih,List.length_cons,Nat.pow_succ];cases us x<;>simp<;>omega
def byAt (l:List Nat) (j:Nat):Nat:=lv ((l.drop (8 * j)).take 8)
theorem byAt_lt (l:List Nat) (j:Nat):byAt l j < 256:=by
 have h:=lv_lt ((l.drop (8 * j)).take 8)
 have:((l.drop (8 * j)).take 8).length≤8:=List.length_take_le _ _
 have h2:2 ^ ((l.drop (8 * j)).take 8).length≤2 ^ 8:=Nat.pow_le_pow_right (by omega) this
 unfold byAt
 omega
def bysTo (l:List Nat) (m i:Nat):List Nat:=(List.range m).map (byAt (l.take i))
def bys (l:List Nat):List Nat:=(List.range ((l.length + 7) / 8)).map (byAt l)
theorem byAt_other (l:List Nat) (i j:Nat) (hi:i < l.length) (hj:j ≠ i / 8):byAt (l.take (i + 1)) j=byAt (l.take i) j:=by
 unfold byAt
 congr 1
 by_cases h:j < i / 8
 ·apply List.ext_getElem?
  intro k
  simp only[List.getElem?_take,List.getElem?_drop]
  by_cases hk:k < 8
  ·rw[if_pos hk,if_pos hk,if_pos (by omega),if_pos (by omega)]
  ·rw[if_neg hk,if_neg hk]
 ·rw[List.drop_eq_nil_of_le (by simp;omega),List.drop_eq_nil_of_le (by simp;omega)]
theorem byAt_here_split (l:List Nat) (i:Nat) (hi:i < l.length):((l.take (i + 1)).drop (8 * (i / 8))).take 8=((l.take i).drop (8 * (i / 8))).take 8 ++ [l[i]]:=by
 have e1:((l.take (i + 1)).drop (8 * (i / 8))).take 8=(l.take (i + 1)).drop (8 * (i / 8)):=List.take_of_length_le (by simp;omega)
 have e2:((l.take i).drop (8 * (i / 8))).take 8=(l.take i).drop (8 * (i / 8)):=List.take_of_length_le (by simp;omega)
 rw[e1,e2,List.take_succ_eq_append_getElem hi,List.drop_append_of_le_length (by simp;omega)]
theorem byAt_here (l:List Nat) (i:Nat) (hi:i < l.length):byAt (l.take (i + 1)) (i / 8)=byAt (l.take i) (i / 8) + if us l[i] then 2 ^ (i % 8) else 0:=by
 unfold byAt
 rw[byAt_here_split l i hi,lv_snoc]
 congr 3
 simp
 omega
theorem byAt_low (l:List Nat) (i:Nat) (hi:i < l.length):byAt (l.take i) (i / 8) < 2 ^ (i % 8):=by
 have h:=lv_lt (((l.take i).drop (8 * (i / 8))).take 8)
 have e:(((l.take i).drop (8 * (i / 8))).take 8).length=i % 8:=by simp;omega
 rw[e] at h
 exact h
theorem bysTo_get (l:List Nat) (m i j:Nat) (hj:j < m):(bysTo l m i)[j]? = some (byAt (l.take i) j):=by simp[bysTo,hj]
theorem bysTo_len (l:List Nat) (m i:Nat):(bysTo l m i).length=m:=by simp[bysTo]
theorem bysTo_zero (l:List Nat) (m:Nat):bysTo l m 0=List.replicate m 0:=by
 apply List.ext_getElem?
 intro j
 simp only[bysTo,List.getElem?_map,List.getElem?_replicate]
 by_cases h:j < m<;>simp[h,byAt,lv]
theorem bysTo_no (l:List Nat) (m i:Nat) (hi:i < l.length) (hu:us l[i]=false):bysTo l m (i + 1)=bysTo l m i:=by
 unfold bysTo
 apply List.map_congr_left
 intro j _
 by_cases h:j=i / 8
 ·subst h;rw[byAt_here l i hi,hu];simp
 ·exact byAt_other l i j hi h
theorem bysTo_yes (l:List Nat) (m i:Nat) (hi:i < l.length) (hu:us l[i]=true):bysTo l m (i + 1)=(bysTo l m i).set (i / 8) (byAt (l.take i) (i / 8) + 2 ^ (i % 8)):=by
 apply List.ext_getElem?
 intro j
 rw[List.getElem?_set]
 by_cases hj:j < m
 ·rw[bysTo_get l m _ j hj]
  by_cases h:i / 8=j
  ·subst h;rw[if_pos rfl,bysTo_len,if_pos hj,byAt_here l i hi,hu];simp
  ·rw[if_neg h,bysTo_get l m _ j hj,byAt_other l i j hi (by omega)]
 ·have h1:(bysTo l m (i + 1))[j]? = none:=List.getElem?_eq_none (by rw[bysTo_len];omega)
  have h2:(bysTo l m i)[j]? = none:=List.getElem?_eq_none (by rw[bysTo_len];omega)
  rw[h1,h2]
  by_cases h:i / 8=j
  ·rw[if_pos h,bysTo_len,if_neg (by omega)]
  ·rw[if_neg h]
theorem bysTo_all (l:List Nat) (i:Nat) (hi:l.length≤i):bysTo l ((l.length + 7) / 8) i=bys l:=by
 unfold bysTo bys
 rw[List.take_of_length_le hi]
theorem or_bit (z r:Nat) (hr:r < 8) (hz:z < 2 ^ r):bits BinOp.or IntKind.u8 (z:Int) (2 ^ r % 256)=((z + 2 ^ r:Nat):Int):=by
 have h1:(2:Int) ^ r % 256=((2 ^ r:Nat):Int):=by
  have:(2:Nat) ^ r < 256:=Nat.lt_of_lt_of_le (Nat.pow_lt_pow_right (by omega) hr) (by omega)
  have e:((2 ^ r:Nat):Int)=(2:Int) ^ r:=by simp
  rw[←e];omega
 have h2:(2:Nat) ^ r < 2 ^ 8:=Nat.pow_lt_pow_right (by omega) hr
 rw[h1]
 have:=(bits_nat .u8 8 (by decide) wraps_u8 z (2 ^ r) (by omega) h2).2
 rw[this]
 have e:z ||| 2 ^ r=z + 2 ^ r:=by
  have:=Nat.two_pow_add_eq_or_of_lt (i:=r) (b:=z) hz 1
  rw[Nat.or_comm,Nat.add_comm]
  simpa using this.symm
 rw[e]
end Go.Proofs.YtfgjehecjgebdaaGreat
/- Plain: the sum of bytes. -/
namespace Go.Proofs.YtfgjehecjgebdaaGreat
def bitStep (n:Nat):Nat:=(n / 2) ^^^ (if n % 2=1 then 3988292384 else 0)
def bitSteps:Nat→Nat→Nat
 | 0,n=>n
 | k + 1,n=>bitStep (bitSteps k n)
def crcStep (n c:Nat):Nat:=bitSteps 8 (n ^^^ c)
def crcRun (n:Nat) (l:List UInt8):Nat:=l.foldl (fun m c=>crcStep m c.toNat) n
def crcAdd (n:Nat) (l:List UInt8):Nat:=4294967295 - crcRun (4294967295 - n) l
def crcOf (l:List UInt8):Nat:=crcAdd 0 l
def le4 (n:Nat):List UInt8 := [UInt8.ofNat (n % 256),UInt8.ofNat (n / 256 % 256),UInt8.ofNat (n / 65536 % 256),UInt8.ofNat (n / 16777216 % 256)]
theorem bitStep_lt (n:Nat) (h:n < 4294967296):bitStep n < 4294967296:=by
 unfold bitStep
 have:(4294967296:Nat)=2 ^ 32:=by decide
 rw[this] at h⊢
 apply Nat.xor_lt_two_pow
 ·omega
 ·split<;>decide
theorem bitSteps_lt (k n:Nat) (h:n < 4294967296):bitSteps k n < 4294967296:=by
 induction k with
 | zero=>exact h
 | succ k ih=>exact bitStep_lt _ ih
theorem xor_lt32 {a b:Nat} (ha:a < 4294967296) (hb:b < 4294967296):a ^^^ b < 4294967296:=by
 have:(4294967296:Nat)=2 ^ 32:=by decide
 rw[this] at ha hb⊢
 exact Nat.xor_lt_two_pow ha hb
theorem crcStep_lt (n c:Nat) (h:n < 4294967296) (hc:c < 256):crcStep n c < 4294967296:=bitSteps_lt 8 _ (xor_lt32 h (by omega))
theorem crcRun_lt (n:Nat) (l:List UInt8) (h:n < 4294967296):crcRun n l < 4294967296:=by
 unfold crcRun
 induction l generalizing n with
 | nil=>exact h
 | cons c t ih=>exact ih _ (crcStep_lt n c.toNat h c.toNat_lt)
theorem crcRun_snoc (n:Nat) (l:List UInt8) (c:UInt8):crcRun n (l ++ [c])=crcStep (crcRun n l) c.toNat:=by simp[crcRun]
theorem crcAdd_lt (n:Nat) (l:List UInt8):crcAdd n l < 4294967296:=by unfold crcAdd;omega
theorem crcOf_lt (l:List UInt8):crcOf l < 4294967296:=crcAdd_lt 0 l
theorem le4_len (n:Nat):(le4 n).length=4:=rfl
theorem u32_xor (a b:Nat) (ha:a < 4294967296) (hb:b < 4294967296):bits .xor .u32 (a:Int) (b:Int)=((a ^^^ b:Nat):Int):=by
 have hx:=xor_lt32 ha hb
 show IntKind.u32.wrap ((BitVec.ofInt 32 (a:Int) ^^^ BitVec.ofInt 32 (b:Int)).toNat:Int)=_
 rw[BitVec.toNat_xor,BitVec.ofInt_natCast,BitVec.ofInt_natCast,BitVec.toNat_ofNat,BitVec.toNat_ofNat,Nat.mod_eq_of_lt (show a < 2 ^ 32 by omega),Nat.mod_eq_of_lt (show b < 2 ^ 32 by omega),IntKind.wrap_u32]
 omega
theorem u32_and (a b:Nat) (ha:a < 4294967296) (hb:b < 4294967296):bits .and .u32 (a:Int) (b:Int)=((a &&& b:Nat):Int):=by
 have hx:a &&& b < 4294967296:=by
  have:(4294967296:Nat)=2 ^ 32:=by decide
  rw[this] at ha hb⊢
  exact Nat.and_lt_two_pow _ hb
 show IntKind.u32.wrap ((BitVec.ofInt 32 (a:Int) &&& BitVec.ofInt 32 (b:Int)).toNat:Int)=_
 rw[BitVec.toNat_and,BitVec.ofInt_natCast,BitVec.ofInt_natCast,BitVec.toNat_ofNat,BitVec.toNat_ofNat,Nat.mod_eq_of_lt (show a < 2 ^ 32 by omega),Nat.mod_eq_of_lt (show b < 2 ^ 32 by omega),IntKind.wrap_u32]
 omega
theorem u32_and1 (a:Nat) (ha:a < 4294967296):bits .and .u32 (a:Int) 1=((a % 2:Nat):Int):=by
 have:=u32_and a 1 ha (by omega)
 rw[Nat.and_one_is_mod] at this
 exact this
theorem u32_not (n:Nat) (h:n < 4294967296):bits .xor .u32 IntKind.u32.max (n:Int)=((4294967295 - n:Nat):Int):=by
 show IntKind.u32.wrap ((BitVec.ofInt 32 IntKind.u32.max ^^^ BitVec.ofInt 32 (n:Int)).toNat:Int)=_
 have e:BitVec.ofInt 32 IntKind.u32.max=BitVec.allOnes 32:=by decide
 rw[e,BitVec.allOnes_xor,BitVec.toNat_not,BitVec.ofInt_natCast,BitVec.toNat_ofNat,Nat.mod_eq_of_lt (show n < 2 ^ 32 by omega),IntKind.wrap_u32]
 omega
theorem u32_and_zero:bits .and .u32 3988292384 0=0:=by decide +kernel
theorem u32_and_ones:bits .and .u32 3988292384 4294967295=3988292384:=by decide +kernel
theorem u32_xor_zero (a:Nat) (ha:a < 4294967296):bits .xor .u32 (a:Int) 0=(a:Int):=by
 have:=u32_xor a 0 ha (by omega)
 rw[Nat.xor_zero] at this
 exact this
theorem u32_xor_poly (a:Nat) (ha:a < 4294967296):bits .xor .u32 (a:Int) 3988292384=((a ^^^ 3988292384:Nat):Int):=u32_xor a 3988292384 ha (by omega)
end Go.Proofs.YtfgjehecjgebdaaGreat
