/- Space: New, Text, Parse, by their contracts. -/
import Derived.Test.YtfgjehecjgebdaaGreatMg07
import Derived.Test.YtfgjehecjgebdaaGreatMg08
namespace Go.Proofs.YtfgjehecjgebdaaGreat
open Go.RowKit
theorem und_bytes:Tryz.prog.underlying 177=some (.slice 5):=by kernel_rfl
theorem info_u8:(Tryz.prog.info? 5).map (fun i=>(i.zero,i.size,i.bytes))=some (some (.int .u8 0),1,1):=by kernel_rfl
def NewOk (n:Nat) (w:World) (e:Ending) (w':World):Prop :=
 ∃b c,w.heap.size≤b∧w.heap.size≤c∧e = .returned (.tuple #[.pointer (some ⟨b,0,none⟩),.int .i64 0])∧IsSp w' b c (List.replicate n 0)∧Kept (fun _=>False) w w'
theorem New_ok (n:Nat) (w:World) (h1:1≤n) (h2:n≤128):Calls Tryz.prog 102 #[.int .i64 n] w (NewOk n w):=by
 have hmk:=fun w:World=>run_make_n w und_bytes info_u8 rfl n (by omega) (by unfold maxLen;omega)
 go_enter Tryz.func102,Tryz.ntmps102
 go_wp2
 go_ret2
 refine⟨w.heap.size + 1,w.heap.size,by omega,by omega,rfl,⟨?_,?_,?_,by simpa using h2⟩,((Kept.refl _ _).alloc _).alloc _⟩
 ·have:=heap_new (w.alloc (.cells (List.replicate n (.int .u8 0)).toArray 5)) (.cells #[.slice (some ⟨w.heap.size,0,none⟩) n n] 179 (0,0))
  simpa using this
 ·have:=heap_old (heap_new w (.cells (List.replicate n (.int .u8 0)).toArray 5)) (.cells #[.slice (some ⟨w.heap.size,0,none⟩) n n] 179 (0,0))
  simpa[B] using this
 ·simp
theorem und_u8:Tryz.prog.underlying 5=some (.int .u8):=by kernel_rfl
theorem und_str:Tryz.prog.underlying 9=some .string:=by kernel_rfl
theorem Text_calls {w b c l} (h:IsSp w b c l):Calls Tryz.prog 40 #[.pointer (some ⟨b,0,none⟩)] w fun e w'=>e = .returned (.string (bstr (bys l)))∧Kept (fun _=>False) w w':=by
 obtain⟨m,hm⟩:∃m,m=(l.length + 7) / 8:=⟨_,rfl⟩
 have hmk:∀w:World,(Instr.makeSlice 177 (.int .i64 (((l.length:Int) + 7) / 8)) (.int .i64 (((l.length:Int) + 7) / 8))).run Tryz.prog w = .ok (.slice (some ⟨w.heap.size,0,none⟩) m m) (w.alloc (.cells (List.replicate m (.int .u8 0)).toArray 5)):=by
  intro w
  have:=run_make_n w und_bytes info_u8 rfl m (by have:=h.len;omega) (by have:=h.len;unfold maxLen;omega)
  rwa [show(m:Int)=((l.length:Int) + 7) / 8 from by omega] at this
 have h0:=h.cell0
 have h3:=h.len
 have hlb:=lt_heap h.head
 have hlc:=lt_heap h.row
 have Hm:=Lib.hid hm
 have hm17:m≤16:=by omega
 clear hm
 have H:=Lib.hid h;clear h
 go_enter Tryz.func40,Tryz.ntmps40
 go_wp2
 go_loopw [4,5,19] (fun _ _ n wr=>∃k:Nat,k≤l.length∧n = .int .i64 k∧wr.heap[w.heap.size]? = some (.cells ((bysTo l m k).map B).toArray 5 (0,0))∧Kept (fun _=>False) w wr) (fun _ _ n _=>l.length - (intOf n).toNat)
 case atStart =>
  refine⟨0,Nat.zero_le _,rfl,?_,(Kept.refl _ _).alloc _⟩
  have:=heap_new w (.cells (List.replicate m (.int .u8 0)).toArray 5)
  rw[bysTo_zero]
  simpa[B] using this
 case round =>
  obtain⟨k,hk,rfl,hs,hkp⟩:=hrel
  by_cases hlt:k < l.length
  ·have hsp:IsSp wr b c l:=H.out.kept hkp id id
   have hc0:=hsp.cell0
   have hc1:=hsp.cell k hlt
   have hx4:=hsp.le l[k] (by simp)
   obtain⟨q,hq⟩:∃q:Nat,q=k / 8:=⟨_,rfl⟩
   obtain⟨r,hr⟩:∃r:Nat,r=k % 8:=⟨_,rfl⟩
   have hqm:q < m:=by have:=Hm.out;omega
   have hr8:r < 8:=by omega
   have hq':(k:Int) / 8=q:=by omega
   have hr':(k:Int) % 8=r:=by omega
   obtain⟨z,hz⟩:∃z:Nat,z=byAt (l.take k) q:=⟨_,rfl⟩
   have hzl:z < 256:=by have:=byAt_lt (l.take k) q;omega
   have hc2:wr.cell? ⟨w.heap.size,q,none⟩=some (.int .u8 z):=by
    rw[cell_heap hs];simp[bysTo_get l m k q hqm,hz,B]
   have hc3:wr.frozen? ⟨w.heap.size,q,none⟩=false:=free_heap hs q
   have HY:Hid (us l[k]=true→(wr.setCell ⟨w.heap.size,q,none⟩ (.int .u8 (bits BinOp.or IntKind.u8 (z:Int) (2 ^ r % 256)))).heap[w.heap.size]? = some (.cells ((bysTo l m (k + 1)).map B).toArray 5 (0,0))):=by
    intro hu
    have hlow:=byAt_low l k hlt
    rw[←hq, ←hr, ←hz] at hlow
    rw[or_bit z r hr8 hlow,heap_set hs,bysTo_yes l m k hlt hu, ←hq, ←hr, ←hz]
    simp[List.map_set,B]
   have HN:Hid (us l[k]=false→bysTo l m (k + 1)=bysTo l m k):=bysTo_no l m k hlt
   have HS:=Lib.hid hs
   clear hq hr hz hs hsp
   by_cases he1:l[k]=1
   ·have ht:(((l[k]:Nat):Int) == 1)=true:=by simp[he1]
    have HU:Hid (us l[k]=true):=by rw[he1];rfl
    have HE:=Lib.hid he1;clear he1
    go_wp2
    go_region
    go_wp2
    go_roundw
    case rel=>exact⟨k + 1,by omega,by go_num,HY.out HU.out,(hkp.setCell (.inr (Nat.le_refl _)) _).drew⟩
    case measure=>simp[intOf];omega
   ·have ht:(((l[k]:Nat):Int) == 1)=false:=by simp;omega
    by_cases he2:l[k]=2
    ·have ht2:(((l[k]:Nat):Int) == 2)=true:=by simp[he2]
     have HU:Hid (us l[k]=true):=by rw[he2];rfl
     have HE:=Lib.hid he2;clear he1 he2
     go_wp2
     go_region
     go_wp2
     go_roundw
     case rel=>exact⟨k + 1,by omega,by go_num,HY.out HU.out,(hkp.setCell (.inr (Nat.le_refl _)) _).drew⟩
     case measure=>simp[intOf];omega
    ·have ht2:(((l[k]:Nat):Int) == 2)=false:=by simp;omega
     have HU:Hid (us l[k]=false):=by simp[Hid,us,he1,he2]
     go_wp2
     go_roundw
     case rel=>exact⟨k + 1,by omega,by go_num,by rw[HN.out HU.out];exact HS.out,hkp⟩
     case measure=>simp[intOf];omega
  ·have e1:bysTo l m k=bys l:=by rw[Hm.out];exact bysTo_all l k (by omega)
   rw[e1] at hs
   clear e1
   have hcv:=run_conv_row (P:=Tryz.prog) und_bytes und_u8 und_str (ys:=bys l) (more := []) (cap:=m) (by rw[List.append_nil];exact hs)
   have hbl:(bys l).length=m:=by rw[Hm.out];simp[bys]
   rw[hbl] at hcv
   clear hs hbl
   go_wp2
   go_ret
   exact⟨rfl,hkp⟩
end Go.Proofs.YtfgjehecjgebdaaGreat
/- Space: Parse, by its contract. -/
namespace Go.Proofs.YtfgjehecjgebdaaGreat
open Go.RowKit
def bitOf (s:ByteArray) (i:Nat):Nat:=((s.data.toList.getD (i / 8) 0).toNat / 2 ^ (i % 8)) % 2
theorem bitOf_get (s:ByteArray) (i q r:Nat) (hq:q=i / 8) (hr:r=i % 8) (h:q < s.size):bitOf s i=(s[q].toNat / 2 ^ r) % 2:=by
 subst hq;subst hr
 unfold bitOf
 have h':i / 8 < s.data.toList.length:=by simpa using h
 rw[List.getD_eq_getElem?_getD,List.getElem?_eq_getElem h',Option.getD_some]
 rfl
theorem bit_and (x r:Nat) (hx:x < 256):bits BinOp.and IntKind.u8 ((x:Int) / 2 ^ r) 1=(((x / 2 ^ r) % 2:Nat):Int):=by
 have e:((x:Int) / 2 ^ r)=((x / 2 ^ r:Nat):Int):=by simp
 have h:x / 2 ^ r < 256:=Nat.lt_of_le_of_lt (Nat.div_le_self _ _) hx
 rw[e]
 generalize x / 2 ^ r=y at h
 have:=bits_mask .u8 8 (by decide) wraps_u8 1 (by decide) (y:Int) (by omega) (by omega)
 simp only[Int.pow_one] at this
 have e2:((2:Int) ^ 1 - 1)=1:=by decide
 rw[show(1:Int)=2 - 1 by decide,this]
 omega
def fine (n:Nat) (s:ByteArray):Bool:=decide (s.size=(n + 7) / 8) && (List.range (8 * s.size)).all fun i=>decide (i < n) || bitOf s i == 0
def parsed (n:Nat) (s:ByteArray):List Nat:=(List.range n).map (bitOf s)
def parsedTo (n:Nat) (s:ByteArray) (k:Nat):List Nat:=(List.range n).map fun i=>if i < k then bitOf s i else 0
theorem parsedTo_len (n:Nat) (s:ByteArray) (k:Nat):(parsedTo n s k).length=n:=by simp[parsedTo]
theorem parsedTo_zero (n:Nat) (s:ByteArray):parsedTo n s 0=List.replicate n 0:=by
 apply List.ext_getElem?;intro j;by_cases h:j < n<;>simp[parsedTo,h]
theorem parsedTo_all (n:Nat) (s:ByteArray) (k:Nat) (h:n≤k):parsedTo n s k=parsed n s:=by
 unfold parsedTo parsed
 apply List.map_congr_left
 intro i hi
 rw[if_pos (by have:=List.mem_range.1 hi;omega)]
theorem parsedTo_one (n:Nat) (s:ByteArray) (k:Nat) (_hk:k < n) (hb:bitOf s k=1):parsedTo n s (k + 1)=(parsedTo n s k).set k 1:=by
 apply List.ext_getElem?
 intro j
 rw[List.getElem?_set,parsedTo_len]
 by_cases hj:j < n
 ·by_cases h:k=j
  ·subst h;simp[parsedTo,hj,hb]
  ·rw[if_neg h]
   simp only[parsedTo,List.getElem?_map,List.getElem?_range hj,Option.map_some]
   by_cases h2:j < k
   ·rw[if_pos (by omega),if_pos h2]
   ·rw[if_neg (by omega),if_neg h2]
 ·by_cases h:k=j
  ·omega
  ·rw[if_neg h];simp[parsedTo,hj]
theorem parsedTo_nil (n:Nat) (s:ByteArray) (k:Nat) (hb:bitOf s k=0):parsedTo n s (k + 1)=parsedTo n s k:=by
 unfold parsedTo
 apply List.map_congr_left
 intro i _
 by_cases h:i < k
 ·rw[if_pos (by omega),if_pos h]
 ·rw[if_neg h]
  by_cases h2:i=k
  ·subst h2;rw[if_pos (by omega),hb]
  ·rw[if_neg (by omega)]
theorem bitOf_01 (s:ByteArray) (k:Nat):bitOf s k=0∨bitOf s k=1:=by unfold bitOf;omega
def ParsePost (n:Nat) (s:ByteArray) (w:World) (e:Ending) (w':World):Prop :=
 Kept (fun _=>False) w w'∧((fine n s=false∧e = .returned (.tuple #[.pointer none,.int .i64 2])) ∨
  (fine n s=true ∧ ∃b c,w.heap.size≤b∧w.heap.size≤c∧e = .returned (.tuple #[.pointer (some ⟨b,0,none⟩),.int .i64 0])∧IsSp w' b c (parsed n s)))
theorem Parse_size (n:Nat) (s:ByteArray) (w:World) (h1:1≤n) (h2:n≤128) (_hm:s.size≤maxLen) (hs:s.size ≠ (n + 7) / 8):Calls Tryz.prog 122 #[.int .i64 n,.string s] w (ParsePost n s w):=by
 have hse:((s.size:Int) != ((n:Int) + 7) / 8)=true:=by rw[bne_iff_ne];omega
 have hf:Hid (fine n s=false):=by simp[Hid,fine,hs]
 unfold maxLen at _hm
 go_enter Tryz.func122,Tryz.ntmps122
 go_wp2_with fail
 refine(New_ok n w h1 h2).mono ?_
 rintro e w1 ⟨b,c,hb,hc,rfl,hsp,kp1⟩
 go_wp2
 go_ret2
 exact⟨kp1,.inl ⟨hf.out,rfl⟩⟩
theorem Parse_ok (n:Nat) (s:ByteArray) (w:World) (h1:1≤n) (h2:n≤128) (hs:s.size=(n + 7) / 8):Calls Tryz.prog 122 #[.int .i64 n,.string s] w (ParsePost n s w):=by
 have hs17:s.size < 17:=by omega
 have hse:((s.size:Int) != ((n:Int) + 7) / 8)=false:=by rw[bne_eq_false_iff_eq];omega
 have Hs:=Lib.hid hs;clear hs
 go_enter Tryz.func122,Tryz.ntmps122
 go_wp2_with fail
 refine(New_ok n w h1 h2).mono ?_
 rintro e w1 ⟨b,c,hb,hc,rfl,hsp,kp1⟩
 go_wp2_with fail
 go_loopw [8,9,27,38,46] (fun _ _ i _ _ wr=>∃k:Nat,k≤8 * s.size∧i = .int .i64 k∧(∀j,j < k→n≤j→bitOf s j=0)∧IsSp wr b c (parsedTo n s k)∧Kept (fun _=>False) w wr) (fun _ _ i _ _ _=>8 * s.size - (intOf i).toNat)
 case atStart=>exact⟨0,Nat.zero_le _,rfl,fun j hj=>by omega,by rw[parsedTo_zero];exact hsp,kp1⟩
 case round =>
  obtain⟨k,hk,rfl,hz,hsr,hkp⟩:=hrel
  have HZ:=Lib.hid hz;clear hz
  by_cases hlt:k < 8 * s.size
  ·obtain⟨q,hq⟩:∃q:Nat,q=k / 8:=⟨_,rfl⟩
   obtain⟨r,hr⟩:∃r:Nat,r=k % 8:=⟨_,rfl⟩
   have hqm:q < s.size:=by omega
   have hr8:r < 8:=by omega
   have hq':(k:Int) / 8=q:=by omega
   have hr':(k:Int) % 8=r:=by omega
   have hbit:=bitOf_get s k q r hq hr hqm
   have hand:=bit_and s[q].toNat r (UInt8.toNat_lt _)
   rw[←hbit] at hand
   clear hq hr hbit
   have hc0:=hsr.cell0
   rw[parsedTo_len] at hc0
   rcases bitOf_01 s k with h0|h0
   ·rw[h0] at hand
    have HN:=Lib.hid (parsedTo_nil n s k h0)
    have H0:=Lib.hid h0;clear h0
    go_wp2
    go_roundw
    case rel=>exact⟨k + 1,by omega,by go_num,fun j hj hn=>by(by_cases e:j=k;(subst e;exact H0.out);exact HZ.out j (by omega) hn),by rw[HN.out];exact hsr,hkp⟩
    case measure=>simp[intOf];omega
   ·rw[h0] at hand
    by_cases hkn:k < n
    ·have hcell:wr.cell? ⟨c,k,none⟩=some (.int .u8 ((parsedTo n s k)[k]'(by rw[parsedTo_len];exact hkn):Nat)):=hsr.cell k (by rw[parsedTo_len];exact hkn)
     have hfz:=hsr.frz k
     have HS:=Lib.hid (hsr.set k 1 (by omega))
     rw[←parsedTo_one n s k hkn h0] at HS
     have H0:=Lib.hid h0;clear h0
     have hng:¬n≤k:=by omega
     go_wp2
     go_roundw
     case rel=>exact⟨k + 1,by omega,by go_num,fun j hj hn=>by(by_cases e:j=k;omega;exact HZ.out j (by omega) hn),HS.out,hkp.setCell (.inr hc) _⟩
     case measure=>simp[intOf];omega
    ·have hge:n≤k:=by omega
     have HF:Hid (fine n s=false):=by
      simp only[Hid,fine,Bool.and_eq_false_iff]
      right
      rw[List.all_eq_false]
      exact⟨k,by simpa using hlt,by simp[h0];omega⟩
     have H0:=Lib.hid h0;clear h0
     go_wp2
     go_ret2
     exact⟨hkp,.inl ⟨HF.out,rfl⟩⟩
  ·have HF:Hid (fine n s=true):=by
    simp only[Hid,fine,Bool.and_eq_true,List.all_eq_true]
    refine⟨by simpa using Hs.out,fun i hi=>?_⟩
    have hi:=List.mem_range.1 hi
    by_cases h:i < n
    ·simp[h]
    ·simp[HZ.out i (by omega) (by omega)]
   rw[parsedTo_all n s k (by have:=Hs.out;omega)] at hsr
   go_wp2
   go_ret2
   exact⟨hkp,.inr ⟨HF.out,b,c,hb,hc,rfl,hsr⟩⟩
theorem Parse_calls (n:Nat) (s:ByteArray) (w:World) (h1:1≤n) (h2:n≤128) (hm:s.size≤maxLen):Calls Tryz.prog 122 #[.int .i64 n,.string s] w (ParsePost n s w):=by
 by_cases h:s.size=(n + 7) / 8
 ·exact Parse_ok n s w h1 h2 h
 ·exact Parse_size n s w h1 h2 hm h
end Go.Proofs.YtfgjehecjgebdaaGreat
/- The reference's states of pages: Take, Give, Keep, Undo, Text, by their contracts. -/
namespace Go.Proofs.YtfgjehecjgebdaaGreat
open Go.RowKit
def I (x:Nat):Value:=.int .i64 x
theorem info_int:(Tryz.prog.info? 3).map (fun i=>(i.zero,i.size,i.bytes))=some (some (.int .i64 0),1,8):=by kernel_rfl
theorem ints_one (l:List Nat):∀u∈l.map I,u.oneCell'=true:=by
 intro u hu
 obtain⟨x,_,rfl⟩:=List.mem_map.1 hu
 rfl
def kp1 (x:Nat):Nat:=if x=1∨x=2 then 1 else 0
end Go.Proofs.YtfgjehecjgebdaaGreat
/- Plain: a space's bytes, and back. -/
namespace Go.Proofs.YtfgjehecjgebdaaGreat
theorem lv_bit (xs:List Nat) (r:Nat):(lv xs / 2 ^ r) % 2=match xs[r]? with|some x=>if us x then 1 else 0|none=>0:=by
 induction xs generalizing r with
 | nil=>simp[lv]
 | cons x t ih =>
  cases r with
  | zero=>simp only[lv,Nat.pow_zero,Nat.div_one,List.getElem?_cons_zero];split<;>omega
  | succ r =>
   rw[List.getElem?_cons_succ, ←ih r]
   have:lv (x :: t) / 2=lv t:=by simp only[lv];split<;>omega
   rw[show 2 ^ (r + 1)=2 * 2 ^ r by rw[Nat.pow_succ];omega, ←Nat.div_div_eq_div_mul,this]
theorem bys_len (l:List Nat):(bys l).length=(l.length + 7) / 8:=by simp[bys]
theorem bstr_len (l:List Nat):(bstr l).size=l.length:=by simp[bstr,ByteArray.size]
theorem bstr_get (l:List Nat) (j:Nat) (hj:j < l.length) (h:∀x∈l,x < 256):((bstr l).data.toList.getD j 0).toNat=l[j]:=by
 have:=h l[j] (by simp)
 simp[bstr,List.getD,hj,UInt8.toNat_ofNat']
 omega
theorem bys_lt (l:List Nat):∀x∈bys l,x < 256:=by
 intro x hx
 obtain⟨j,_,rfl⟩:=List.mem_map.1 hx
 exact byAt_lt l j
theorem bitOf_bys (l:List Nat) (i:Nat) (hi:i < 8 * (bys l).length):bitOf (bstr (bys l)) i=match l[i]? with|some x=>if us x then 1 else 0|none=>0:=by
 unfold bitOf
 have hj:i / 8 < (bys l).length:=by omega
 rw[bstr_get _ _ hj (bys_lt l)]
 have:(bys l)[i / 8]=byAt l (i / 8):=by simp[bys]
 rw[this,byAt,lv_bit]
 have:((l.drop (8 * (i / 8))).take 8)[i % 8]? = l[i]? := by
  rw[List.getElem?_take,if_pos (by omega),List.getElem?_drop]
  congr 1;omega
 rw[this]
def inUse (l:List Nat):List Nat:=l.map fun x=>if us x then 1 else 0
theorem fine_bys (l:List Nat) (n:Nat) (hn:l.length=n):fine n (bstr (bys l))=true:=by
 subst hn
 simp only[fine,Bool.and_eq_true,decide_eq_true_eq,List.all_eq_true]
 refine⟨by rw[bstr_len,bys_len],fun i hi=>?_⟩
 have hi:=List.mem_range.1 hi
 rw[bstr_len] at hi
 by_cases h:i < l.length
 ·simp[h]
 ·rw[bitOf_bys l i hi,List.getElem?_eq_none (by omega)];simp
theorem parsed_bys (l:List Nat) (n:Nat) (hn:l.length=n):parsed n (bstr (bys l))=inUse l:=by
 subst hn
 apply List.ext_getElem?
 intro i
 by_cases h:i < l.length
 ·simp only[parsed,inUse,List.getElem?_map,List.getElem?_range h,Option.map_some,List.getElem?_eq_getElem h]
  rw[bitOf_bys l i (by rw[bys_len];omega),List.getElem?_eq_getElem h]
 ·simp[parsed,inUse,h]
theorem us_inUse (x:Nat):us (if us x then 1 else 0)=us x:=by cases h:us x<;>simp[us]
theorem lv_congr:∀(a b:List Nat),a.map us=b.map us→lv a=lv b
 | [], [],_=>rfl
 | x :: a,y :: b,h=>by
  simp only[List.map_cons,List.cons.injEq] at h
  simp only[lv,h.1,lv_congr a b h.2]
 | [],_ :: _,h=>by simp at h
 | _ :: _, [],h=>by simp at h
theorem bys_inUse (l:List Nat):bys (inUse l)=bys l:=by
 unfold bys
 have e:(inUse l).length=l.length:=by simp[inUse]
 rw[e]
 apply List.map_congr_left
 intro j _
 apply lv_congr
 unfold inUse
 rw[List.map_take,List.map_drop,List.map_take,List.map_drop,List.map_map]
 congr 3
 funext x
 exact us_inUse x
end Go.Proofs.YtfgjehecjgebdaaGreat
