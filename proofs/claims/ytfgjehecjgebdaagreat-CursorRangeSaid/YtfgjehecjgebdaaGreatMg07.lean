/- Plain: the sum of bytes. -/
import Derived.Test.YtfgjehecjgebdaaGreatMg04
import Derived.Laws.BitsAllLaws
namespace Go.Proofs.YtfgjehecjgebdaaGreat
def bitStep (n:Nat):Nat:=(n / 2) ^^^ (if n % 2=1 then 3988292384 else 0)
def bitSteps:Nat→Nat→Nat
 | 0,n=>n
 | k + 1,n=>bitStep (bitSteps k n)
def crcStep (n c:Nat):Nat:=bitSteps 8 (n ^^^ c)
def crcRun (n:Nat) (l:List UInt8):Nat:=l.foldl (fun m c=>crcStep m c.toNat) n
def crcAdd (n:Nat) (l:List UInt8):Nat:=4294967295 - crcRun (4294967295 - n) l
def crcOf (l:List UInt8):Nat:=crcAdd 0 l
def le4 (n:Nat):List UInt8 := [UInt8.ofNat (n % 256),UInt8.ofNat (n / 256 % 256),UInt8.ofNat (n / 65536 % 256),UInt8.ofNat (n / 16777216 % 256)]
theorem bitStep_lt (n:Nat) (h:n < 4294967296):bitStep n < 4294967296:=by
 unfold bitStep
 have:(4294967296:Nat)=2 ^ 32:=by decide
 rw[this] at h⊢
 apply Nat.xor_lt_two_pow
 ·omega
 ·split<;>decide
theorem bitSteps_lt (k n:Nat) (h:n < 4294967296):bitSteps k n < 4294967296:=by
 induction k with
 | zero=>exact h
 | succ k ih=>exact bitStep_lt _ ih
theorem xor_lt32 {a b:Nat} (ha:a < 4294967296) (hb:b < 4294967296):a ^^^ b < 4294967296:=by
 have:(4294967296:Nat)=2 ^ 32:=by decide
 rw[this] at ha hb⊢
 exact Nat.xor_lt_two_pow ha hb
theorem crcStep_lt (n c:Nat) (h:n < 4294967296) (hc:c < 256):crcStep n c < 4294967296:=bitSteps_lt 8 _ (xor_lt32 h (by omega))
theorem crcRun_lt (n:Nat) (l:List UInt8) (h:n < 4294967296):crcRun n l < 4294967296:=by
 unfold crcRun
 induction l generalizing n with
 | nil=>exact h
 | cons c t ih=>exact ih _ (crcStep_lt n c.toNat h c.toNat_lt)
theorem crcRun_snoc (n:Nat) (l:List UInt8) (c:UInt8):crcRun n (l ++ [c])=crcStep (crcRun n l) c.toNat:=by simp[crcRun]
theorem crcAdd_lt (n:Nat) (l:List UInt8):crcAdd n l < 4294967296:=by unfold crcAdd;omega
theorem crcOf_lt (l:List UInt8):crcOf l < 4294967296:=crcAdd_lt 0 l
theorem le4_len (n:Nat):(le4 n).length=4:=rfl
theorem u32_xor (a b:Nat) (ha:a < 4294967296) (hb:b < 4294967296):bits .xor .u32 (a:Int) (b:Int)=((a ^^^ b:Nat):Int):=by
 have hx:=xor_lt32 ha hb
 show IntKind.u32.wrap ((BitVec.ofInt 32 (a:Int) ^^^ BitVec.ofInt 32 (b:Int)).toNat:Int)=_
 rw[BitVec.toNat_xor,BitVec.ofInt_natCast,BitVec.ofInt_natCast,BitVec.toNat_ofNat,BitVec.toNat_ofNat,Nat.mod_eq_of_lt (show a < 2 ^ 32 by omega),Nat.mod_eq_of_lt (show b < 2 ^ 32 by omega),IntKind.wrap_u32]
 omega
theorem u32_and (a b:Nat) (ha:a < 4294967296) (hb:b < 4294967296):bits .and .u32 (a:Int) (b:Int)=((a &&& b:Nat):Int):=by
 have hx:a &&& b < 4294967296:=by
  have:(4294967296:Nat)=2 ^ 32:=by decide
  rw[this] at ha hb⊢
  exact Nat.and_lt_two_pow _ hb
 show IntKind.u32.wrap ((BitVec.ofInt 32 (a:Int) &&& BitVec.ofInt 32 (b:Int)).toNat:Int)=_
 rw[BitVec.toNat_and,BitVec.ofInt_natCast,BitVec.ofInt_natCast,BitVec.toNat_ofNat,BitVec.toNat_ofNat,Nat.mod_eq_of_lt (show a < 2 ^ 32 by omega),Nat.mod_eq_of_lt (show b < 2 ^ 32 by omega),IntKind.wrap_u32]
 omega
theorem u32_and1 (a:Nat) (ha:a < 4294967296):bits .and .u32 (a:Int) 1=((a % 2:Nat):Int):=by
 have:=u32_and a 1 ha (by omega)
 rw[Nat.and_one_is_mod] at this
 exact this
theorem u32_not (n:Nat) (h:n < 4294967296):bits .xor .u32 IntKind.u32.max (n:Int)=((4294967295 - n:Nat):Int):=by
 show IntKind.u32.wrap ((BitVec.ofInt 32 IntKind.u32.max ^^^ BitVec.ofInt 32 (n:Int)).toNat:Int)=_
 have e:BitVec.ofInt 32 IntKind.u32.max=BitVec.allOnes 32:=by decide
 rw[e,BitVec.allOnes_xor,BitVec.toNat_not,BitVec.ofInt_natCast,BitVec.toNat_ofNat,Nat.mod_eq_of_lt (show n < 2 ^ 32 by omega),IntKind.wrap_u32]
 omega
theorem u32_and_zero:bits .and .u32 3988292384 0=0:=by decide +kernel
theorem u32_and_ones:bits .and .u32 3988292384 4294967295=3988292384:=by decide +kernel
theorem u32_xor_zero (a:Nat) (ha:a < 4294967296):bits .xor .u32 (a:Int) 0=(a:Int):=by
 have:=u32_xor a 0 ha (by omega)
 rw[Nat.xor_zero] at this
 exact this
theorem u32_xor_poly (a:Nat) (ha:a < 4294967296):bits .xor .u32 (a:Int) 3988292384=((a ^^^ 3988292384:Nat):Int):=u32_xor a 3988292384 ha (by omega)
end Go.Proofs.YtfgjehecjgebdaaGreat
