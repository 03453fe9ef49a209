/- Pages: full: a page's bytes. -/
import Derived.Test.YtfgjehecjgebdaaGreatMg12
import Derived.Test.YtfgjehecjgebdaaGreatMg10
import Derived.Test.YtfgjehecjgebdaaGreatMg04
namespace Go.Proofs.YtfgjehecjgebdaaGreat
open Go.RowKit
def padTo (k:Nat) (l:List UInt8):List UInt8:=l ++ List.replicate (k - l.length) 0
def summed (l:List UInt8):List UInt8:=le4 (crcOf l) ++ l
def fullB (t:List UInt8):List UInt8:=summed (padTo 252 (encS t))
theorem encS_one (t:List UInt8):encSs [t]=encS t:=by simp[encSs]
theorem encS_len (t:List UInt8) (h:t.length < 256):(encS t).length≤t.length + 2:=by
 simp only[encS,List.length_append,encU_len]
 have:=nb_le t.length 1 (by omega)
 omega
theorem padTo_len (k:Nat) (l:List UInt8) (h:l.length≤k):(padTo k l).length=k:=by simp[padTo];omega
theorem fullB_len (t:List UInt8) (h:t.length≤248):(fullB t).length=256:=by
 have:=encS_len t (by omega)
 simp only[fullB,summed,List.length_append,le4_len,padTo_len 252 (encS t) (by omega)]
set_option maxRecDepth 100000 in
theorem full_calls (t:List UInt8) (ht:t.length≤248) (w:World):Calls Tryz.prog 69 #[.string (ba t)] w fun e w'=>e = .returned (.string (ba (fullB t)))∧Kept (fun _=>False) w w':=by
 have hout:IsOut (w.alloc (.cells #[.slice none 0 0] 198)) w.heap.size (.slice none 0 0) []:=⟨heap_new w _,World.ownsRow_nil _ _ _ _⟩
 have HOUT:=Lib.hid hout;clear hout
 have h250:=encS_len t (by omega)
 obtain⟨b,hb⟩:∃b,b=ba (encS t):=⟨_,rfl⟩
 have hbs:b.size=(encS t).length:=by rw[hb,ba_size]
 obtain⟨m,hm⟩:∃m,m=252 - b.size:=⟨_,rfl⟩
 have hm1:(252:Int) - b.size=m:=by omega
 have hb252:b.size≤252:=by omega
 obtain⟨O,hmk,hcv⟩:=run_zeros m (by omega)
 have hmk':∀w:World,(Instr.makeSlice 177 (.int .i64 (252 - (b.size:Int))) (.int .i64 (252 - (b.size:Int)))).run Tryz.prog w = .ok (.slice (some ⟨w.heap.size,0,none⟩) m m) (w.alloc O):=by rw[hm1];exact hmk
 have HP:Hid (b ++ ba (List.replicate m 0)=ba (padTo 252 (encS t))):=by
  simp only[Hid,padTo];rw[ba_append,hm,hbs,hb]
 obtain⟨p,hp⟩:∃p,p=padTo 252 (encS t):=⟨_,rfl⟩
 have hpl:p.length=252:=by rw[hp];exact padTo_len _ _ (by omega)
 have HF:Hid (fullB t=le4 (crcOf p) ++ p):=by rw[hp];rfl
 rw[←hp] at HP
 have HPL:=Lib.hid hpl;have HB:=Lib.hid hb;have HBS:=Lib.hid hbs
 have hzs:b.size + (ba (List.replicate m 0)).size≤1000:=by rw[ba_size];simp;omega
 obtain⟨s,hs⟩:∃s,s=ba t:=⟨_,rfl⟩
 rw[←hs]
 have HS:=Lib.hid hs
 clear hmk hm hm1 hp hpl hb hbs h250 hs
 go_enter Tryz.func69,Tryz.ntmps69
 go_wp2_with fail
 refine(S_calls (l := [t]) (HOUT.out.keptF ((Kept.refl _ _).alloc _)) (fun _=>⟨rfl,by rw[HS.out];exact RowIs.newAt (by simp) [.string (ba t)] _⟩) (by intro x hx;simp at hx;subst hx;omega) (by simp) (by simp)).mono ?_
 rintro e w1 ⟨rfl,v1,h1⟩
 rw[encS_one,List.nil_append] at h1
 have K1:Hid (Kept (fun _=>False) w w1):=by
  have k0:Kept (fun _=>False) w (w.alloc (.cells #[.slice none 0 0] 198)):=(Kept.refl _ _).alloc _
  have h:=OutTo.behind HOUT.out ((Kept.refl _ _).alloc _) h1
  exact k0.then h.kept (by rintro i hi (e|e);omega;simp[Value.ownBlock] at e)
 have c2:=OutText_calls h1.out
 rw[←HB.out] at c2
 have C2:=Lib.hid c2;clear c2 h1
 go_wp2_with fail
 refine C2.out.mono ?_
 rintro e w2 ⟨rfl,rfl⟩
 go_wp2_with fail
 rw[HP.out]
 refine(Of_calls p (heap_newAt (by simp) _) (by have:=HPL.out;omega)).mono ?_
 rintro e w3 ⟨rfl,k3⟩
 have K3:Hid (Kept (fun _=>False) w w3):=((((K1.out).alloc _).alloc _).trans k3)
 have c4:=Lib.hid (Bytes_calls (crcOf p) (crcOf_lt p) w3)
 have HPS:Hid ((ba (le4 (crcOf p))).size + (ba p).size≤1000):=by simp only[Hid];rw[ba_size,ba_size,HPL.out];simp[le4_len]
 clear k3
 go_wp2_with fail
 refine c4.out.mono ?_
 rintro e w4 ⟨rfl,k4⟩
 have hps:=HPS.out
 go_wp2_with fail
 go_ret
 exact⟨by rw[HF.out,ba_append];rfl,K3.out.trans k4⟩
end Go.Proofs.YtfgjehecjgebdaaGreat
/- Plain: stamped sectors: their bytes, and back. -/
namespace Go.Proofs.YtfgjehecjgebdaaGreat
theorem nb_ge {n:Nat} (h:0 < n):256 ^ (nb n - 1)≤n:=by
 induction n using Nat.strongRecOn with
 | _ n ih =>
  rw[nb_pos h]
  by_cases h0:n / 256=0
  ·rw[h0,nb_zero];simp;omega
  ·have:=ih (n / 256) (by omega) (by omega)
   have hp:0 < nb (n / 256):=by rw[nb_pos (by omega)];omega
   have e:nb (n / 256) + 1 - 1=(nb (n / 256) - 1) + 1:=by omega
   rw[e,Nat.pow_succ]
   have h2:256 ^ (nb (n / 256) - 1) * 256≤n / 256 * 256:=Nat.mul_le_mul_right _ this
   omega
theorem beN_take (k n:Nat) (h:n < 256 ^ k) (j:Nat) (hj:j≤k):beN ((beB k n).take j)=n / 256 ^ (k - j):=by
 induction j with
 | zero=>simp[beN,Nat.div_eq_of_lt h]
 | succ j ih =>
  have h1:=beB_take k n (k - 1 - j) (by omega)
  rw[show k - 1 - (k - 1 - j)=j by omega] at h1
  rw[h1,beN_snoc,ih (by omega),show k - j=(k - 1 - j) + 1 by omega,Nat.pow_succ, ←Nat.div_div_eq_div_mul,UInt8.toNat_ofNat']
  rw[show k - (j + 1)=k - 1 - j by omega]
  omega
theorem beN_beB (n:Nat):beN (beB (nb n) n)=n:=by
 have:=beN_take (nb n) n (nb_lt n) (nb n) (Nat.le_refl _)
 rw[List.take_of_length_le (by rw[beB_len];omega)] at this
 simpa using this
theorem beB_head (n:Nat):(beB (nb n) n).head? ≠ some 0:=by
 rcases Nat.eq_zero_or_pos n with rfl|h
 ·rw[nb_zero];simp[beB]
 ·have hp:0 < nb n:=by rw[nb_pos h];omega
  obtain⟨k,hk⟩:∃k,nb n=k + 1:=⟨nb n - 1,by omega⟩
  have h1:=nb_ge h
  have h2:=nb_lt n
  rw[hk] at h1 h2
  simp only[Nat.add_sub_cancel] at h1
  simp only[hk,beB,List.range_succ_eq_map,List.map_cons,List.head?_cons]
  intro e
  simp only[Option.some.injEq] at e
  have e:=congrArg UInt8.toNat e
  have h3:n / 256 ^ k < 256:=by
   rw[Nat.div_lt_iff_lt_mul (Nat.two_pow_pos 8 |> fun _=>Nat.pos_of_ne_zero (by simp))]
   rw[Nat.pow_succ] at h2;omega
  have h4:0 < n / 256 ^ k:=Nat.div_pos h1 (Nat.pos_of_ne_zero (by simp))
  simp[UInt8.toNat_ofNat'] at e
  omega
theorem iTake_app (x y:List UInt8) (e:Int):iTake x.length (x ++ y,e)=(x,(y,e)):=by
 unfold iTake
 rw[if_neg (by simp)]
 simp
theorem iU_enc (n:Nat) (hn:n < 18446744073709551616) (r:List UInt8):iU (encU n ++ r,0)=(n,(r,0)):=by
 have h8:=nb_le8 n hn
 have e1:iTake 1 (encU n ++ r,0)=([UInt8.ofNat (nb n)],(beB (nb n) n ++ r,0)):=by simp[iTake,encU]
 have hk:(UInt8.ofNat (nb n)).toNat=nb n:=by rw[UInt8.toNat_ofNat'];omega
 have e2:iTake (nb n) (beB (nb n) n ++ r,0)=(beB (nb n) n,(r,0)):=by
  have:=iTake_app (beB (nb n) n) r 0
  rwa [beB_len] at this
 unfold iU
 simp only[e1,hk,e2,beN_beB,beB_head,if_false,if_neg (show ¬ 8 < nb n by omega)]
 simp
theorem iN_enc (most:Int) (n:Nat) (hn:(n:Int)≤most) (hm:most < 9223372036854775808) (r:List UInt8):iN most (encN n ++ r,0)=(n,(r,0)):=by
 have h:=iU_enc n (by omega) r
 unfold iN encN
 rw[Int.toNat_natCast,h]
 simp only
 rw[if_neg (by omega)]
theorem iS_enc (most:Int) (t:List UInt8) (hn:(t.length:Int)≤most) (hm:most < 9223372036854775808) (r:List UInt8):iS most (encS t ++ r,0)=(t,(r,0)):=by
 have h:=iN_enc most t.length hn hm (t ++ r)
 unfold encN at h
 rw[Int.toNat_natCast] at h
 unfold iS encS
 rw[List.append_assoc,h]
 exact iTake_app t r 0
structure Sec where
 stamp:Nat
 mark:Nat
 data:List UInt8
structure Sec.Good (s:Sec):Prop where
 one:1≤s.stamp
 most:s.stamp≤1099511627776
 mark:s.mark < 256
 data:s.data.length≤44
def secHead (s:Sec):List UInt8:=encNs [(s.stamp:Int),(s.mark:Int)] ++ encSs [s.data]
def secBody (s:Sec):List UInt8:=padTo 60 (secHead s)
def secText (s:Sec):List UInt8:=summed (secBody s)
theorem secHead_eq (s:Sec):secHead s=encN s.stamp ++ (encN s.mark ++ encS s.data):=by simp[secHead,encNs,encSs]
theorem secHead_len {s:Sec} (h:s.stamp≤1099511627776) (hm:s.mark < 256) (hd:s.data.length≤44):(secHead s).length≤55:=by
 rw[secHead_eq]
 simp only[encN,encS,List.length_append,encU_len,Int.toNat_natCast]
 have h1:=nb_le s.stamp 6 (by omega)
 have h2:=nb_le s.mark 1 (by omega)
 have h3:=nb_le s.data.length 1 (by omega)
 omega
theorem secBody_len {s:Sec} (h:s.stamp≤1099511627776) (hm:s.mark < 256) (hd:s.data.length≤44):(secBody s).length=60:=padTo_len _ _ (by have:=secHead_len h hm hd;omega)
theorem secText_len {s:Sec} (h:s.stamp≤1099511627776) (hm:s.mark < 256) (hd:s.data.length≤44):(secText s).length=64:=by
 simp[secText,summed,le4_len,secBody_len h hm hd]
theorem Sec.Good.len {s:Sec} (h:s.Good):(secText s).length=64:=secText_len h.most h.mark h.data
def secIn (t:List UInt8):Nat×Nat×List UInt8×InSt :=
 match iN 1099511627776 (t.drop 4,0) with
 | (a,s1)=>match iN 255 s1 with
  | (b,s2)=>match iS 44 s2 with
   | (c,s3)=>(a,b,c,s3)
theorem secIn_text {s:Sec} (h:s.Good):∃r,secIn (secText s)=(s.stamp,s.mark,s.data,(r,0)):=by
 refine⟨List.replicate (60 - (secHead s).length) 0,?_⟩
 have e:(secText s).drop 4=encN s.stamp ++ (encN s.mark ++ (encS s.data ++ List.replicate (60 - (secHead s).length) 0)):=by
  simp only[secText,summed]
  rw[List.drop_left' (le4_len _)]
  simp[secBody,padTo,secHead_eq]
 unfold secIn
 rw[e,iN_enc _ _ (by have:=h.most;omega) (by omega)]
 simp only
 rw[iN_enc _ _ (by have:=h.mark;omega) (by omega)]
 simp only
 rw[iS_enc _ _ (by have:=h.data;omega) (by omega)]
theorem secText_inj {s s':Sec} (h:s.Good) (h':s'.Good) (e:secText s=secText s'):s=s':=by
 obtain⟨r,e1⟩:=secIn_text h
 obtain⟨r',e2⟩:=secIn_text h'
 rw[e,e2] at e1
 simp only[Prod.mk.injEq] at e1
 cases s;cases s'
 simp at e1⊢
 exact⟨e1.1.symm,e1.2.1.symm,e1.2.2.1.symm⟩
def Says (t:List UInt8) (s:Sec):Prop:=s.Good∧secText s=t
theorem Says.unique {t s s'} (h:Says t s) (h':Says t s'):s=s':=secText_inj h.1 h'.1 (h.2.trans h'.2.symm)
end Go.Proofs.YtfgjehecjgebdaaGreat
