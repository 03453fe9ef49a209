/- Codec, In: Read, Err, Fail, take, End, by their contracts. -/
import Derived.Test.YtfgjehecjgebdaaGreatMg05
import Derived.Test.YtfgjehecjgebdaaGreatMg04
import Derived.Laws.IdiomStrings
namespace Go.Proofs.YtfgjehecjgebdaaGreat
open Go.RowKit
def IsIn (w:World) (i:Nat) (s:InSt):Prop:=w.heap[i]? = some (.cells #[.string (ba s.1),.int .i64 s.2] 225 (0,0))
theorem IsIn.kept {S:Nat→Prop} {w w' i s} (h:IsIn w i s) (k:Kept S w w') (hs:¬S i):IsIn w' i s:=k.heap h hs
theorem IsIn.c0 {w i s} (h:IsIn w i s):w.cell? ⟨i,0,none⟩=some (.string (ba s.1)):=(cell_heap h 0).trans rfl
theorem IsIn.c1 {w i s} (h:IsIn w i s):w.cell? ⟨i,1,none⟩=some (.int .i64 s.2):=(cell_heap h 1).trans rfl
theorem IsIn.fz {w i s} (h:IsIn w i s) (j:Nat):w.frozen? ⟨i,j,none⟩=false:=free_heap h j
theorem IsIn.set0 {w i s} (h:IsIn w i s) (l:List UInt8):IsIn (w.setCell ⟨i,0,none⟩ (.string (ba l))) i (l,s.2):=by
 unfold IsIn;rw[heap_set h];rfl
theorem IsIn.set1 {w i s} (h:IsIn w i s) (e:Int):IsIn (w.setCell ⟨i,1,none⟩ (.int .i64 e)) i (s.1,e):=by
 unfold IsIn;rw[heap_set h];rfl
theorem ba_extract0 (l:List UInt8) (n:Nat):(ba l).extract 0 n=ba (l.take n):=by
 apply ByteArray.ext
 apply Array.ext'
 simp[ba]
theorem ba_extractn (l:List UInt8) (n:Nat):(ba l).extract n (ba l).size=ba (l.drop n):=by
 apply ByteArray.ext
 apply Array.ext'
 simp[ba,ByteArray.size,List.take_of_length_le]
theorem ba_empty (l:List UInt8):(ba l).toList=l:=by rw[ByteArray.toList_eq];simp[ba]
def ReadPost (l:List UInt8) (w:World) (e:Ending) (w':World):Prop :=
 ∃i,w.heap.size≤i∧e = .returned (.pointer (some ⟨i,0,none⟩))∧IsIn w' i (l,0)∧Kept (fun _=>False) w w'
theorem Read_calls (l:List UInt8) (w:World):Calls Tryz.prog 104 #[.string (ba l)] w (ReadPost l w):=by
 generalize hs:ba l=s
 have HS:=Lib.hid hs;clear hs
 go_enter Tryz.func104,Tryz.ntmps104
 go_wp2
 go_ret
 refine⟨w.heap.size,Nat.le_refl _,rfl,?_,(Kept.refl _ _).alloc _⟩
 unfold IsIn
 rw[HS.out]
 exact heap_new w _
theorem Err_calls {w i s} (h:IsIn w i s):Calls Tryz.prog 106 #[.pointer (some ⟨i,0,none⟩)] w fun e w'=>e = .returned (.int .i64 s.2)∧w=w':=by
 have h1:=h.c1
 go_enter Tryz.func106,Tryz.ntmps106
 go_wp2
 go_ret
 exact⟨rfl,rfl⟩
theorem Fail_calls {w i s} (h:IsIn w i s) (c:Int):Calls Tryz.prog 148 #[.pointer (some ⟨i,0,none⟩),.int .i64 c] w fun e w'=>e = .returned (.tuple #[])∧IsIn w' i (iFail c s)∧Kept (· = i) w w':=by
 have h0:=h.c0
 have h1:=h.c1
 have f0:=h.fz 0
 have f1:=h.fz 1
 have H:=Lib.hid h;clear h
 by_cases h2:s.2=0
 ·have t2:(s.2 == 0)=true:=by simp[h2]
  by_cases hc:c=0
  ·have t3:(c != 0)=false:=by simp[hc]
   have HE:Hid (iFail c s=s):=by simp[Hid,iFail,hc]
   have H2:=Lib.hid h2;have HC:=Lib.hid hc;clear h2 hc
   go_enter Tryz.func148,Tryz.ntmps148
   go_wp2
   go_end0
   exact⟨rfl,by rw[HE.out];exact H.out,Kept.refl _ _⟩
  ·have t3:(c != 0)=true:=by simp[hc]
   have HE:Hid (iFail c s=([],c)):=by simp[Hid,iFail,hc,h2]
   have H2:=Lib.hid h2;have HC:=Lib.hid hc;clear h2 hc
   have HS:Hid (IsIn ((w.setCell ⟨i,1,none⟩ (.int .i64 c)).setCell ⟨i,0,none⟩ (.string ⟨#[]⟩)) i ([],c)):=(H.out.set1 c).set0 []
   go_enter Tryz.func148,Tryz.ntmps148
   go_wp2
   go_end0
   exact⟨rfl,by rw[HE.out];exact HS.out,((Kept.refl _ _).set1 _ _).set1 _ _⟩
 ·have t2:(s.2 == 0)=false:=by simp[h2]
  have HE:Hid (iFail c s=s):=by simp[Hid,iFail,h2]
  clear h2
  go_enter Tryz.func148,Tryz.ntmps148
  go_wp2
  go_end0
  exact⟨rfl,by rw[HE.out];exact H.out,Kept.refl _ _⟩
theorem End_calls {w i s} (h:IsIn w i s):Calls Tryz.prog 121 #[.pointer (some ⟨i,0,none⟩)] w fun e w'=>e = .returned (.int .i64 (iEnd s).2)∧IsIn w' i (iEnd s)∧Kept (· = i) w w':=by
 have h0:=h.c0
 have h1:=h.c1
 have H:=Lib.hid h;clear h
 by_cases hl:s.1 = []
 ·have HE:Hid (iEnd s=s):=by simp[Hid,iEnd,hl]
  have e0:ba s.1=⟨#[]⟩:=by rw[hl];rfl
  rw[e0] at h0
  have H2:=Lib.hid hl;clear hl e0
  go_enter Tryz.func121,Tryz.ntmps121
  go_wp2
  go_ret
  exact⟨by rw[HE.out];rfl,by rw[HE.out];exact H.out,Kept.refl _ _⟩
 ·have HE:Hid (iEnd s=iFail 2 s):=by simp[Hid,iEnd,hl]
  have t1:(ba s.1).toList.isEmpty=false:=by rw[ba_empty];simp[hl]
  have C:=Lib.hid (Fail_calls H.out 2)
  clear hl
  go_enter Tryz.func121,Tryz.ntmps121
  go_wp2_with fail
  refine C.out.mono ?_
  rintro e w1 ⟨rfl,g1,k1⟩
  have h1':=g1.c1
  have HG:=Lib.hid g1;clear g1
  go_wp2_with fail
  go_ret
  exact⟨by rw[HE.out];rfl,by rw[HE.out];exact HG.out,k1⟩
theorem take_calls {w i s} (h:IsIn w i s) (n:Nat) (_hn63:n≤9223372036854775807) (hl:s.1.length≤9223372036854775807):Calls Tryz.prog 139 #[.pointer (some ⟨i,0,none⟩),.int .i64 n] w fun e w'=>e = .returned (.string (ba (iTake n s).1))∧IsIn w' i (iTake n s).2∧Kept (· = i) w w':=by
 have h0:=h.c0
 have h1:=h.c1
 have f0:=h.fz 0
 have H:=Lib.hid h;clear h
 by_cases hn:s.1.length < n
 ·have HE:Hid (iTake n s=([],iFail 1 s)):=by simp[Hid,iTake,hn]
  have C:=Lib.hid (Fail_calls H.out 1)
  have hsz:=ba_size s.1
  obtain⟨b,hb⟩:∃b,b=ba s.1:=⟨_,rfl⟩
  rw[←hb] at h0 hsz
  have hbn:b.size < n:=by omega
  have HB:=Lib.hid hb;clear hb hsz
  go_enter Tryz.func139,Tryz.ntmps139
  go_wp2_with fail
  refine C.out.mono ?_
  rintro e w1 ⟨rfl,g1,k1⟩
  go_wp2
  go_ret
  exact⟨by rw[HE.out];rfl,by rw[HE.out];exact g1,k1⟩
 ·have HE:Hid (iTake n s=(s.1.take n,(s.1.drop n,s.2))):=by simp[Hid,iTake,hn]
  have hsz:=ba_size s.1
  have HX:Hid ((ba s.1).extract 0 n=ba (s.1.take n)):=ba_extract0 _ _
  have HY:Hid ((ba s.1).extract n (ba s.1).size=ba (s.1.drop n)):=ba_extractn _ _
  obtain⟨b,hb⟩:∃b,b=ba s.1:=⟨_,rfl⟩
  rw[←hb] at h0 hsz HX HY
  have hbn:n≤b.size:=by omega
  have hb63:b.size≤9223372036854775807:=by omega
  have HB:=Lib.hid hb;clear hb hsz
  go_enter Tryz.func139,Tryz.ntmps139
  go_wp2
  go_ret
  refine⟨by rw[HE.out, ←HX.out];rfl,?_,(Kept.refl _ _).set1 _ _⟩
  rw[HE.out,HY.out]
  exact H.out.set0 _
end Go.Proofs.YtfgjehecjgebdaaGreat
/- Codec, In: U, N, S, by their contracts. -/
namespace Go.Proofs.YtfgjehecjgebdaaGreat
open Go.RowKit
def InPost (i:Nat) (v:Value) (s':InSt) (w:World) (e:Ending) (w':World):Prop:=e = .returned v∧IsIn w' i s'∧Kept (· = i) w w'
theorem iFail_ne (c:Int) (hc:c ≠ 0) (s:InSt):(iFail c s).2 ≠ 0:=by
 unfold iFail
 by_cases h:s.2=0
 ·rw[if_pos ⟨h,hc⟩];exact hc
 ·rw[if_neg (fun h'=>h h'.1)];exact h
theorem und_str3:Tryz.prog.underlying 9=some .string:=by kernel_rfl
set_option maxRecDepth 100000 in
theorem inU_calls {w i s} (h:IsIn w i s) (hl:s.1.length≤1000000000):Calls Tryz.prog 147 #[.pointer (some ⟨i,0,none⟩)] w (InPost i (.int .u64 (iU s).1) (iU s).2 w):=by
 have C:=Lib.hid (take_calls h 1 (by omega) (by omega))
 by_cases hs:s.1 = []
 ·have HT:Hid (iTake 1 s=([],iFail 1 s)):=by simp[Hid,iTake,hs]
  have HE:Hid (iU s=(0,iFail 1 s)):=by
   simp only[Hid,iU,HT.out]
   rw[if_pos (iFail_ne 1 (by omega) s)]
  have t1:((iFail 1 s).2 != 0)=true:=by rw[bne_iff_ne];exact iFail_ne 1 (by omega) s
  have c:=C.out
  rw[HT.out] at c
  have C2:=Lib.hid c;clear c hs h
  go_enter Tryz.func147,Tryz.ntmps147
  go_wp2_with fail
  refine C2.out.mono ?_
  rintro e w1 ⟨rfl,g1,k1⟩
  have h1:=g1.c1
  have HG:=Lib.hid g1;clear g1
  go_wp2_with fail
  go_ret
  exact⟨by rw[HE.out];rfl,by rw[HE.out];exact HG.out,k1⟩
 ·obtain⟨c,t,hct⟩:∃c t,s.1=c :: t:=by cases hh:s.1 with|nil=>exact absurd hh hs|cons c t=>exact⟨c,t,rfl⟩
  have HT:Hid (iTake 1 s=([c],(t,s.2))):=by simp[Hid,iTake,hct]
  have c1:=C.out
  rw[HT.out] at c1
  have C1:=Lib.hid c1;clear c1
  by_cases h2:s.2=0
  ·have t2:(s.2 != 0)=false:=by simp[h2]
   by_cases h8:8 < c.toNat
   ·have HE:Hid (iU s=(0,iFail 2 (t,s.2))):=by
     simp only[Hid,iU,HT.out]
     rw[if_neg (by simp[h2]),if_pos h8]
    obtain⟨b,hb⟩:∃b,b=ba [c]:=⟨_,rfl⟩
    have hb0:0 < b.size:=by rw[hb,ba_size];simp
    have hv:(b[0]'hb0).toNat=c.toNat:=by subst hb;rfl
    obtain⟨x,hx⟩:∃x,x=c.toNat:=⟨_,rfl⟩
    rw[←hx] at hv h8
    have h8':(8:Int) < x:=by omega
    have HB:=Lib.hid hb
    have c1:=C1.out
    rw[←hb,h2] at c1
    have C1':=Lib.hid c1;clear c1 hb C C1 hs hct
    have H2:=Lib.hid h2;clear h2
    go_enter Tryz.func147,Tryz.ntmps147
    go_wp2_with fail
    refine C1'.out.mono ?_
    rintro e w1 ⟨rfl,g1,k1⟩
    have h1:=g1.c1
    have c2:=Lib.hid (Fail_calls g1 2)
    have HG:=Lib.hid g1;clear g1
    go_wp2_with fail
    refine c2.out.mono ?_
    rintro e w2 ⟨rfl,g2,k2⟩
    have e0:((t,0):InSt)=(t,s.2):=by rw[H2.out]
    rw[e0] at g2
    have HG2:=Lib.hid g2;clear g2 e0
    go_wp2_with fail
    go_ret
    exact⟨by rw[HE.out];rfl,by rw[HE.out];exact HG2.out,k1.trans k2⟩
   ·have htl:t.length≤1000000000:=by rw[hct] at hl;simp at hl;omega
    obtain⟨x,hx⟩:∃x,x=c.toNat:=⟨_,rfl⟩
    rw[←hx] at h8
    obtain⟨y,hy⟩:∃y,y=(iTake x (t,s.2)).1:=⟨_,rfl⟩
    obtain⟨s2,hs2⟩:∃s2,s2=(iTake x (t,s.2)).2:=⟨_,rfl⟩
    have hyl:y.length≤8:=by
     rw[hy];unfold iTake
     by_cases hlt:((t,s.2):InSt).1.length < x
     ·rw[if_pos hlt];simp
     ·rw[if_neg hlt];simp;omega
    have HE:Hid (iU s=if y.head? = some 0 then (0,iFail 2 s2) else (beN y,s2)):=by
     simp only[Hid,iU,HT.out]
     rw[if_neg (by simp[h2]),if_neg (by omega), ←hx]
     cases h3:iTake x (t,s.2) with
     | mk p q=>rw[h3] at hy hs2;simp only at hy hs2;subst hy;subst hs2;rfl
    obtain⟨b,hb⟩:∃b,b=ba [c]:=⟨_,rfl⟩
    have hb0:0 < b.size:=by rw[hb,ba_size];simp
    have hv:(b[0]'hb0).toNat=x:=by subst hb;rw[hx];rfl
    have h8':¬((8:Int) < x):=by omega
    have c1:=C1.out
    rw[←hb] at c1
    have C1':=Lib.hid c1;clear c1 hb C C1 hs hct
    have H2:=Lib.hid h2
    have C2:∀w1,IsIn w1 i (t,s.2)→Hid (Calls Tryz.prog 139 #[.pointer (some ⟨i,0,none⟩),.int .i64 x] w1 fun e w'=>e = .returned (.string (ba y))∧IsIn w' i s2∧Kept (· = i) w1 w'):=by
     intro w1 hw
     have:=take_calls hw x (by omega) (by simp only;omega)
     rw[←hy, ←hs2] at this
     exact this
    have HC2:=Lib.hid C2;clear C2 hy hs2 hx
    rw[h2] at C1'
    clear h2
    go_enter Tryz.func147,Tryz.ntmps147
    go_wp2_with fail
    refine C1'.out.mono ?_
    rintro e w1 ⟨rfl,g1,k1⟩
    have h1:=g1.c1
    have c2:=HC2.out w1 (by rw[H2.out];exact g1)
    have HG:=Lib.hid g1;clear g1
    go_wp2_with fail
    refine c2.out.mono ?_
    rintro e w2 ⟨rfl,g2,k2⟩
    have HG2:=Lib.hid g2;have HK2:=Lib.hid (k1.trans k2);clear g2 k1 k2 c2 h1
    have hby:=ba_empty y
    have hsz:=ba_size y
    obtain⟨b2,hb2⟩:∃b2,b2=ba y:=⟨_,rfl⟩
    rw[←hb2] at hby hsz
    have hb8:b2.size≤8:=by omega
    obtain⟨cp,O,hcv,hcl,hcp⟩:=run_str_bytes (P:=Tryz.prog) und_str3 und_bytes2 (by kernel_rfl:Tryz.prog.underlying 5=some (.int .u8)) b2
    have HCL:=Lib.hid hcl;have HCP:=Lib.hid hcp;clear hcl hcp
    by_cases hh:y.head? = some 0
    ·obtain⟨r,rfl⟩:∃r,y=0 :: r:=by cases hyy:y with|nil=>rw[hyy] at hh;simp at hh|cons d r=>rw[hyy] at hh;simp at hh;exact⟨r,by rw[hh]⟩
     have t3:b2.toList.isEmpty=false:=by rw[hby];rfl
     have hb20:0 < b2.size:=by simp at hsz;omega
     have hd:(b2[0]'hb20).toNat=0:=by subst hb2;rfl
     have t4:(((b2[0]'hb20).toNat:Int) == 0)=true:=by simp[hd]
     have C3:=Lib.hid (Fail_calls HG2.out 2)
     have HB2:=Lib.hid hb2;have HH:=Lib.hid hh;have HD:=Lib.hid hd
     clear hb2 hh hd hsz hby
     rw[HB2.out.symm]
     go_wp2_with fail
     refine C3.out.mono ?_
     rintro e w3 ⟨rfl,g3,k3⟩
     go_wp2_with fail
     go_ret
     exact⟨by rw[HE.out,if_pos HH.out];rfl,by rw[HE.out,if_pos HH.out];exact g3,HK2.out.trans k3⟩
    ·by_cases hy0:y = []
     ·have t3:b2.toList.isEmpty=true:=by rw[hby,hy0];rfl
      have HY:=Lib.hid hy0;clear hy0
      have HSZ:=Lib.hid hsz;have HBY:=Lib.hid hby;have HB2:=Lib.hid hb2;have HH:=Lib.hid hh;clear hsz hby hb2 hh
      rw[HB2.out.symm]
      go_wp2_with fail
      go_loop [5,37] (fun n a=>∃k m:Nat,k≤y.length∧a = .int .i64 k∧n = .int .u64 m∧Hid (m=beN (y.take k))) (fun _ a=>y.length - (intOf a).toNat)
      case atStart=>exact⟨0,0,Nat.zero_le _,rfl,rfl,rfl⟩
      case round =>
       obtain⟨k,m,hk,rfl,rfl,hm⟩:=hrel
       by_cases hlt:k < y.length
       ·have hk2:k < b2.size:=by have:=HSZ.out;omega
        have hcell:=HCL.out w2 k hk2
        have hcp:=HCP.out w2
        have hq:(b2[k]'hk2).toNat=y[k].toNat:=by have:=HB2.out;subst this;rfl
        obtain⟨q,hq2⟩:∃q,q=(b2[k]'hk2).toNat:=⟨_,rfl⟩
        rw[←hq2] at hcell hq
        have hq256:q < 256:=by rw[hq];exact UInt8.toNat_lt _
        have hm56:m < 72057594037927936:=by
         have h1:=hm.out;have h2:=beN_lt (y.take k);rw[←h1] at h2
         have h3:(y.take k).length≤7:=by simp;omega
         have h4:256 ^ (y.take k).length≤256 ^ 7:=Nat.pow_le_pow_right (by omega) h3
         omega
        have hor:=shl_or m q hm56 hq256
        have HM:Hid (m * 256 + q=beN (y.take (k + 1))):=by
         have h1:=hm.out
         simp only[Hid]
         rw[List.take_succ_eq_append_getElem hlt,beN_snoc, ←h1,hq]
        clear hq hq2
        go_wp2
        go_round
        case rel=>exact⟨k + 1,m * 256 + q,by omega,by go_num,by go_num,HM.out⟩
        case measure=>simp[intOf];omega
       ·have HM:Hid (m=beN y):=by have h1:=hm.out;rw[List.take_of_length_le (by omega)] at h1;exact h1
        have hgt:¬((k:Int) < (b2.size:Int)):=by have:=HSZ.out;omega
        go_wp2
        go_ret
        refine⟨?_,?_,?_⟩
        ·rw[HE.out,if_neg HH.out, ←HM.out];rfl
        ·rw[HE.out,if_neg HH.out];exact HG2.out.kept (((Kept.refl (fun _=>False) _).alloc _).drew) id
        ·exact((HK2.out).alloc _).drew
     ·have t3:b2.toList.isEmpty=false:=by rw[hby];simp[hy0]
      have hb20:0 < b2.size:=by have:y.length ≠ 0:=fun h=>hy0 (List.eq_nil_of_length_eq_zero h);omega
      have hd:(b2[0]'hb20).toNat ≠ 0:=by
       intro hd
       apply hh
       subst hb2
       obtain⟨d,r,rfl⟩:∃d r,y=d :: r:=by cases hyy:y with|nil=>exact absurd hyy hy0|cons d r=>exact⟨d,r,rfl⟩
       have:(ba (d :: r))[0]=d:=rfl
       rw[this] at hd
       have:d=0:=UInt8.toNat_inj.1 hd
       rw[this];rfl
      have t4:(((b2[0]'hb20).toNat:Int) == 0)=false:=by simpa using hd
      have HY:=Lib.hid hy0;clear hy0 hd
      have HSZ:=Lib.hid hsz;have HBY:=Lib.hid hby;have HB2:=Lib.hid hb2;have HH:=Lib.hid hh;clear hsz hby hb2 hh
      rw[HB2.out.symm]
      go_wp2_with fail
      go_loop [5,37] (fun n a=>∃k m:Nat,k≤y.length∧a = .int .i64 k∧n = .int .u64 m∧Hid (m=beN (y.take k))) (fun _ a=>y.length - (intOf a).toNat)
      case atStart=>exact⟨0,0,Nat.zero_le _,rfl,rfl,rfl⟩
      case round =>
       obtain⟨k,m,hk,rfl,rfl,hm⟩:=hrel
       by_cases hlt:k < y.length
       ·have hk2:k < b2.size:=by have:=HSZ.out;omega
        have hcell:=HCL.out w2 k hk2
        have hcp:=HCP.out w2
        have hq:(b2[k]'hk2).toNat=y[k].toNat:=by have:=HB2.out;subst this;rfl
        obtain⟨q,hq2⟩:∃q,q=(b2[k]'hk2).toNat:=⟨_,rfl⟩
        rw[←hq2] at hcell hq
        have hq256:q < 256:=by rw[hq];exact UInt8.toNat_lt _
        have hm56:m < 72057594037927936:=by
         have h1:=hm.out;have h2:=beN_lt (y.take k);rw[←h1] at h2
         have h3:(y.take k).length≤7:=by simp;omega
         have h4:256 ^ (y.take k).length≤256 ^ 7:=Nat.pow_le_pow_right (by omega) h3
         omega
        have hor:=shl_or m q hm56 hq256
        have HM:Hid (m * 256 + q=beN (y.take (k + 1))):=by
         have h1:=hm.out
         simp only[Hid]
         rw[List.take_succ_eq_append_getElem hlt,beN_snoc, ←h1,hq]
        clear hq hq2
        go_wp2
        go_round
        case rel=>exact⟨k + 1,m * 256 + q,by omega,by go_num,by go_num,HM.out⟩
        case measure=>simp[intOf];omega
       ·have HM:Hid (m=beN y):=by have h1:=hm.out;rw[List.take_of_length_le (by omega)] at h1;exact h1
        have hgt:¬((k:Int) < (b2.size:Int)):=by have:=HSZ.out;omega
        go_wp2
        go_ret
        refine⟨?_,?_,?_⟩
        ·rw[HE.out,if_neg HH.out, ←HM.out];rfl
        ·rw[HE.out,if_neg HH.out];exact HG2.out.kept (((Kept.refl (fun _=>False) _).alloc _).drew) id
        ·exact((HK2.out).alloc _).drew
  ·have t2:(s.2 != 0)=true:=by simp[h2]
   have HE:Hid (iU s=(0,(t,s.2))):=by
    simp only[Hid,iU,HT.out]
    rw[if_pos h2]
   clear h2 hs
   go_enter Tryz.func147,Tryz.ntmps147
   go_wp2_with fail
   refine C1.out.mono ?_
   rintro e w1 ⟨rfl,g1,k1⟩
   have h1:=g1.c1
   have HG:=Lib.hid g1;clear g1
   go_wp2_with fail
   go_ret
   exact⟨by rw[HE.out];rfl,by rw[HE.out];exact HG.out,k1⟩
theorem iTake_len (n:Nat) (s:InSt):(iTake n s).1.length≤n∧(iTake n s).2.1.length≤s.1.length:=by
 unfold iTake iFail
 by_cases h:s.1.length < n
 ·rw[if_pos h];simp only[List.length_nil];constructor
  ·omega
  ·split<;>simp
 ·rw[if_neg h];simp;omega
theorem iFail_len (c:Int) (s:InSt):(iFail c s).1.length≤s.1.length:=by unfold iFail;split<;>simp
theorem iU_lt (s:InSt):(iU s).1 < 18446744073709551616∧(iU s).2.1.length≤s.1.length:=by
 unfold iU
 have h1:=iTake_len 1 s
 cases h:iTake 1 s with
 | mk k s1 =>
  rw[h] at h1
  simp only at h1⊢
  split
  ·exact⟨by simp,h1.2⟩
  ·cases k with
   | nil=>exact⟨by simp,h1.2⟩
   | cons c r =>
    simp only
    split
    ·exact⟨by simp,Nat.le_trans (iFail_len _ _) h1.2⟩
    ·rename_i h8
     have h2:=iTake_len c.toNat s1
     cases h3:iTake c.toNat s1 with
     | mk t s2 =>
      rw[h3] at h2
      simp only at h2⊢
      split
      ·exact⟨by simp,Nat.le_trans (iFail_len _ _) (Nat.le_trans h2.2 h1.2)⟩
      ·refine⟨?_,Nat.le_trans h2.2 h1.2⟩
       have h4:=beN_lt t
       have h5:256 ^ t.length≤256 ^ 8:=Nat.pow_le_pow_right (by omega) (by omega)
       simp only
       omega
theorem inN_calls {w i s} (h:IsIn w i s) (hl:s.1.length≤1000000000) (most:Int) (hm : -9223372036854775808≤most∧most≤9223372036854775807):Calls Tryz.prog 120 #[.pointer (some ⟨i,0,none⟩),.int .i64 most] w (InPost i (.int .i64 (iN most s).1) (iN most s).2 w):=by
 have C:=Lib.hid (inU_calls h hl)
 obtain⟨n,hn⟩:∃n,n=(iU s).1:=⟨_,rfl⟩
 obtain⟨s1,hs1⟩:∃s1,s1=(iU s).2:=⟨_,rfl⟩
 have hn64:n < 18446744073709551616:=by rw[hn];exact(iU_lt s).1
 have c:=C.out
 rw[←hn, ←hs1] at c
 have C1:=Lib.hid c;clear c C
 have HE:Hid (iN most s=if max most 0 < (n:Int) then (0,iFail 3 s1) else (n,s1)):=by
  simp only[Hid,iN]
  cases h3:iU s with
  | mk p q=>rw[h3] at hn hs1;simp only at hn hs1;subst hn;subst hs1;rfl
 clear hn hs1 h
 obtain⟨hm1,hm2⟩:=hm
 by_cases hneg:most < 0
 ·by_cases hn0:0 < n
  ·have hn0':(0:Int) < n:=by omega
   have HX:Hid (iN most s=(0,iFail 3 s1)):=by have:=HE.out;rw[if_pos (by omega)] at this;exact this
   go_enter Tryz.func120,Tryz.ntmps120
   go_wp2_with fail
   refine C1.out.mono ?_
   rintro e w1 ⟨rfl,g1,k1⟩
   have c2:=Lib.hid (Fail_calls g1 3)
   go_wp2_with fail
   refine c2.out.mono ?_
   rintro e w2 ⟨rfl,g2,k2⟩
   go_wp2_with fail
   go_ret
   exact⟨by rw[HX.out];rfl,by rw[HX.out];exact g2,k1.trans k2⟩
  ·obtain rfl:n=0:=by omega
   have HX:Hid (iN most s=(0,s1)):=by have:=HE.out;rw[if_neg (by omega)] at this;exact this
   go_enter Tryz.func120,Tryz.ntmps120
   go_wp2_with fail
   refine C1.out.mono ?_
   rintro e w1 ⟨rfl,g1,k1⟩
   go_wp2_with fail
   go_ret
   exact⟨by rw[HX.out];rfl,by rw[HX.out];exact g1,k1⟩
 ·obtain⟨m,rfl⟩:=Int.eq_ofNat_of_zero_le (show 0≤most by omega)
  by_cases hmn:m < n
  ·have hmn':(m:Int) < n:=by omega
   have HX:Hid (iN (m:Int) s=(0,iFail 3 s1)):=by have:=HE.out;rw[if_pos (by omega)] at this;exact this
   go_enter Tryz.func120,Tryz.ntmps120
   go_wp2_with fail
   refine C1.out.mono ?_
   rintro e w1 ⟨rfl,g1,k1⟩
   have c2:=Lib.hid (Fail_calls g1 3)
   go_wp2_with fail
   refine c2.out.mono ?_
   rintro e w2 ⟨rfl,g2,k2⟩
   go_wp2_with fail
   go_ret
   exact⟨by rw[HX.out];rfl,by rw[HX.out];exact g2,k1.trans k2⟩
  ·have hmn':¬(m:Int) < n:=by omega
   have hn63:(n:Int)≤9223372036854775807:=by omega
   have HX:Hid (iN (m:Int) s=(n,s1)):=by have:=HE.out;rw[if_neg (by omega)] at this;exact this
   go_enter Tryz.func120,Tryz.ntmps120
   go_wp2_with fail
   refine C1.out.mono ?_
   rintro e w1 ⟨rfl,g1,k1⟩
   go_wp2_with fail
   go_ret
   exact⟨by rw[HX.out];rfl,by rw[HX.out];exact g1,k1⟩
theorem iN_le (most:Int) (s:InSt):((iN most s).1:Int)≤max most 0∧(iN most s).2.1.length≤s.1.length:=by
 unfold iN
 have h:=(iU_lt s).2
 cases h3:iU s with
 | mk n s1 =>
  rw[h3] at h
  simp only at h⊢
  split
  ·exact⟨by simp;omega,Nat.le_trans (iFail_len _ _) h⟩
  ·exact⟨by simp only;omega,h⟩
theorem inS_calls {w i s} (h:IsIn w i s) (hl:s.1.length≤1000000000) (most:Int) (hm : -9223372036854775808≤most∧most≤9223372036854775807):Calls Tryz.prog 105 #[.pointer (some ⟨i,0,none⟩),.int .i64 most] w (InPost i (.string (ba (iS most s).1)) (iS most s).2 w):=by
 have C:=Lib.hid (inN_calls h hl most hm)
 have hle:=iN_le most s
 have HE:Hid (iS most s=iTake (iN most s).1 (iN most s).2):=rfl
 generalize iN most s=p at *
 obtain⟨n,s1⟩:=p
 have HL:Hid (n≤9223372036854775807∧s1.1.length≤9223372036854775807):=⟨by have:=hle.1;simp only at this;omega,by have:=hle.2;simp only at this;omega⟩
 clear hle h
 go_enter Tryz.func105,Tryz.ntmps105
 go_wp2_with fail
 refine C.out.mono ?_
 rintro e w1 ⟨rfl,g1,k1⟩
 have c2:=Lib.hid (take_calls g1 n HL.out.1 HL.out.2)
 go_wp2_with fail
 refine c2.out.mono ?_
 rintro e w2 ⟨rfl,g2,k2⟩
 go_wp2_with fail
 go_ret
 exact⟨by rw[HE.out];rfl,by rw[HE.out];exact g2,k1.trans k2⟩
end Go.Proofs.YtfgjehecjgebdaaGreat
