/- Plain: stamped sectors: their bytes, and back. -/
import Derived.Test.YtfgjehecjgebdaaGreatMg04
import Derived.Test.YtfgjehecjgebdaaGreatMg18
namespace Go.Proofs.YtfgjehecjgebdaaGreat
theorem nb_ge {n:Nat} (h:0 < n):256 ^ (nb n - 1)≤n:=by
 induction n using Nat.strongRecOn with
 | _ n ih =>
  rw[nb_pos h]
  by_cases h0:n / 256=0
  ·rw[h0,nb_zero];simp;omega
  ·have:=ih (n / 256) (by omega) (by omega)
   have hp:0 < nb (n / 256):=by rw[nb_pos (by omega)];omega
   have e:nb (n / 256) + 1 - 1=(nb (n / 256) - 1) + 1:=by omega
   rw[e,Nat.pow_succ]
   have h2:256 ^ (nb (n / 256) - 1) * 256≤n / 256 * 256:=Nat.mul_le_mul_right _ this
   omega
theorem beN_take (k n:Nat) (h:n < 256 ^ k) (j:Nat) (hj:j≤k):beN ((beB k n).take j)=n / 256 ^ (k - j):=by
 induction j with
 | zero=>simp[beN,Nat.div_eq_of_lt h]
 | succ j ih =>
  have h1:=beB_take k n (k - 1 - j) (by omega)
  rw[show k - 1 - (k - 1 - j)=j by omega] at h1
  rw[h1,beN_snoc,ih (by omega),show k - j=(k - 1 - j) + 1 by omega,Nat.pow_succ, ←Nat.div_div_eq_div_mul,UInt8.toNat_ofNat']
  rw[show k - (j + 1)=k - 1 - j by omega]
  omega
theorem beN_beB (n:Nat):beN (beB (nb n) n)=n:=by
 have:=beN_take (nb n) n (nb_lt n) (nb n) (Nat.le_refl _)
 rw[List.take_of_length_le (by rw[beB_len];omega)] at this
 simpa using this
theorem beB_head (n:Nat):(beB (nb n) n).head? ≠ some 0:=by
 rcases Nat.eq_zero_or_pos n with rfl|h
 ·rw[nb_zero];simp[beB]
 ·have hp:0 < nb n:=by rw[nb_pos h];omega
  obtain⟨k,hk⟩:∃k,nb n=k + 1:=⟨nb n - 1,by omega⟩
  have h1:=nb_ge h
  have h2:=nb_lt n
  rw[hk] at h1 h2
  simp only[Nat.add_sub_cancel] at h1
  simp only[hk,beB,List.range_succ_eq_map,List.map_cons,List.head?_cons]
  intro e
  simp only[Option.some.injEq] at e
  have e:=congrArg UInt8.toNat e
  have h3:n / 256 ^ k < 256:=by
   rw[Nat.div_lt_iff_lt_mul (Nat.two_pow_pos 8 |> fun _=>Nat.pos_of_ne_zero (by simp))]
   rw[Nat.pow_succ] at h2;omega
  have h4:0 < n / 256 ^ k:=Nat.div_pos h1 (Nat.pos_of_ne_zero (by simp))
  simp[UInt8.toNat_ofNat'] at e
  omega
theorem iTake_app (x y:List UInt8) (e:Int):iTake x.length (x ++ y,e)=(x,(y,e)):=by
 unfold iTake
 rw[if_neg (by simp)]
 simp
theorem iU_enc (n:Nat) (hn:n < 18446744073709551616) (r:List UInt8):iU (encU n ++ r,0)=(n,(r,0)):=by
 have h8:=nb_le8 n hn
 have e1:iTake 1 (encU n ++ r,0)=([UInt8.ofNat (nb n)],(beB (nb n) n ++ r,0)):=by simp[iTake,encU]
 have hk:(UInt8.ofNat (nb n)).toNat=nb n:=by rw[UInt8.toNat_ofNat'];omega
 have e2:iTake (nb n) (beB (nb n) n ++ r,0)=(beB (nb n) n,(r,0)):=by
  have:=iTake_app (beB (nb n) n) r 0
  rwa [beB_len] at this
 unfold iU
 simp only[e1,hk,e2,beN_beB,beB_head,if_false,if_neg (show ¬ 8 < nb n by omega)]
 simp
theorem iN_enc (most:Int) (n:Nat) (hn:(n:Int)≤most) (hm:most < 9223372036854775808) (r:List UInt8):iN most (encN n ++ r,0)=(n,(r,0)):=by
 have h:=iU_enc n (by omega) r
 unfold iN encN
 rw[Int.toNat_natCast,h]
 simp only
 rw[if_neg (by omega)]
theorem iS_enc (most:Int) (t:List UInt8) (hn:(t.length:Int)≤most) (hm:most < 9223372036854775808) (r:List UInt8):iS most (encS t ++ r,0)=(t,(r,0)):=by
 have h:=iN_enc most t.length hn hm (t ++ r)
 unfold encN at h
 rw[Int.toNat_natCast] at h
 unfold iS encS
 rw[List.append_assoc,h]
 exact iTake_app t r 0
structure Sec where
 stamp:Nat
 mark:Nat
 data:List UInt8
structure Sec.Good (s:Sec):Prop where
 one:1≤s.stamp
 most:s.stamp≤1099511627776
 mark:s.mark < 256
 data:s.data.length≤44
def secHead (s:Sec):List UInt8:=encNs [(s.stamp:Int),(s.mark:Int)] ++ encSs [s.data]
def secBody (s:Sec):List UInt8:=padTo 60 (secHead s)
def secText (s:Sec):List UInt8:=summed (secBody s)
theorem secHead_eq (s:Sec):secHead s=encN s.stamp ++ (encN s.mark ++ encS s.data):=by simp[secHead,encNs,encSs]
theorem secHead_len {s:Sec} (h:s.stamp≤1099511627776) (hm:s.mark < 256) (hd:s.data.length≤44):(secHead s).length≤55:=by
 rw[secHead_eq]
 simp only[encN,encS,List.length_append,encU_len,Int.toNat_natCast]
 have h1:=nb_le s.stamp 6 (by omega)
 have h2:=nb_le s.mark 1 (by omega)
 have h3:=nb_le s.data.length 1 (by omega)
 omega
theorem secBody_len {s:Sec} (h:s.stamp≤1099511627776) (hm:s.mark < 256) (hd:s.data.length≤44):(secBody s).length=60:=padTo_len _ _ (by have:=secHead_len h hm hd;omega)
theorem secText_len {s:Sec} (h:s.stamp≤1099511627776) (hm:s.mark < 256) (hd:s.data.length≤44):(secText s).length=64:=by
 simp[secText,summed,le4_len,secBody_len h hm hd]
theorem Sec.Good.len {s:Sec} (h:s.Good):(secText s).length=64:=secText_len h.most h.mark h.data
def secIn (t:List UInt8):Nat×Nat×List UInt8×InSt :=
 match iN 1099511627776 (t.drop 4,0) with
 | (a,s1)=>match iN 255 s1 with
  | (b,s2)=>match iS 44 s2 with
   | (c,s3)=>(a,b,c,s3)
theorem secIn_text {s:Sec} (h:s.Good):∃r,secIn (secText s)=(s.stamp,s.mark,s.data,(r,0)):=by
 refine⟨List.replicate (60 - (secHead s).length) 0,?_⟩
 have e:(secText s).drop 4=encN s.stamp ++ (encN s.mark ++ (encS s.data ++ List.replicate (60 - (secHead s).length) 0)):=by
  simp only[secText,summed]
  rw[List.drop_left' (le4_len _)]
  simp[secBody,padTo,secHead_eq]
 unfold secIn
 rw[e,iN_enc _ _ (by have:=h.most;omega) (by omega)]
 simp only
 rw[iN_enc _ _ (by have:=h.mark;omega) (by omega)]
 simp only
 rw[iS_enc _ _ (by have:=h.data;omega) (by omega)]
theorem secText_inj {s s':Sec} (h:s.Good) (h':s'.Good) (e:secText s=secText s'):s=s':=by
 obtain⟨r,e1⟩:=secIn_text h
 obtain⟨r',e2⟩:=secIn_text h'
 rw[e,e2] at e1
 simp only[Prod.mk.injEq] at e1
 cases s;cases s'
 simp at e1⊢
 exact⟨e1.1.symm,e1.2.1.symm,e1.2.2.1.symm⟩
def Says (t:List UInt8) (s:Sec):Prop:=s.Good∧secText s=t
theorem Says.unique {t s s'} (h:Says t s) (h':Says t s'):s=s':=secText_inj h.1 h'.1 (h.2.trans h'.2.symm)
end Go.Proofs.YtfgjehecjgebdaaGreat
