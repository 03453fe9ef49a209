/- cursor.Above: the least text above all that begin with one. -/
import Derived.Test.YtfgjehecjgebdaaGreatMg46
import Derived.Test.YtfgjehecjgebdaaGreatMg11
import Derived.Test.YtfgjehecjgebdaaGreatMg09
import Derived.Test.YtfgjehecjgebdaaGreatMg14
namespace Go.Proofs.YtfgjehecjgebdaaGreat
open Go.RowKit Go.Maps Go.ChangeMaps
set_option maxHeartbeats 4000000
set_option maxRecDepth 100000
attribute [local go_sem] Oper.semAt_some
def abvR:List UInt8→List UInt8
 | [] => []
 | b :: t=>if b=255 then abvR t else (b + 1) :: t
def abv (p:Bs):Bs:=(abvR p.reverse).reverse
theorem abv_nil:abv [] = []:=rfl
theorem abv_255 (p:Bs):abv (p ++ [255])=abv p:=by unfold abv;rw[List.reverse_append];rfl
theorem abv_inc (p:Bs) {b:UInt8} (h:b ≠ 255):abv (p ++ [b])=p ++ [b + 1]:=by
 unfold abv
 rw[List.reverse_append]
 show(abvR (b :: p.reverse)).reverse=_
 unfold abvR
 rw[if_neg h]
 simp
theorem Above_calls (p:Bs) (hp:p.length≤10000) (w:World):Calls Tryz.prog 50 #[.string (ba p)] w fun e w'=>e = .returned (.string (ba (abv p)))∧Kept (fun _=>False) w w':=by
 obtain⟨s,hs⟩:∃s,s=ba p:=⟨_,rfl⟩
 obtain⟨n0,hn0⟩:∃n,n=s.size:=⟨_,rfl⟩
 have HS:=Lib.hid hs
 have HN:Hid (n0=p.length):=by show _=_;rw[hn0,hs,ba_size]
 have hn1:n0≤10000:=by have:=HN.out;omega
 have HP:=Lib.hid hp
 rw[←hs]
 have HSZ:=Lib.hid hn0
 have hsz:s.size=n0:=hn0.symm
 obtain⟨R,hR⟩:∃R,R=abv p:=⟨_,rfl⟩
 have HR:=Lib.hid hR
 rw[←hR]
 clear hs hp hn0 hR
 go_enter Tryz.func50,Tryz.ntmps50
 go_wp2
 go_loopw [3] (fun i wr=>∃(k:Nat),k≤n0∧i = .int .i64 ((k:Int) - 1)∧Hid (abv (p.take k)=R)∧wr=w) (fun i _=>((RowKit.intOf i) + 1).toNat)
 case atStart=>exact⟨n0,Nat.le_refl _,rfl,by show _=_;rw[HN.out,List.take_length];exact HR.out.symm,rfl⟩
 case round =>
  obtain⟨k,hk,rfl,HA,rfl⟩:=hrel
  rcases k with _|k
  ·go_wp2
   go_ret
   have:=HA.out
   rw[List.take_zero,abv_nil] at this
   exact⟨by rw[←this];rfl,Kept.refl _ _⟩
  ·have hkl:k < p.length:=by have:=HN.out;omega
   have hks:k < s.size:=by omega
   have hq:(s[k]'hks).toNat=p[k].toNat:=by have:=HS.out;subst this;rfl
   obtain⟨q,hq2⟩:∃q,q=(s[k]'hks).toNat:=⟨_,rfl⟩
   have hq3:((s[k]'hks).toNat:Int)=(q:Int):=by rw[hq2]
   have HQ:Hid (q=p[k].toNat):=hq2.trans hq
   have hi:(((k + 1:Nat):Int) - 1)=(k:Int):=by omega
   have hq9:q < 256:=by rw[hq2];exact UInt8.toNat_lt _
   have HTK:Hid (p.take (k + 1)=p.take k ++ [p[k]]):=List.take_succ_eq_append_getElem hkl
   clear hq2 hq
   rw[hi]
   by_cases h255:q=255
   ·have g1:¬(q:Int) < 255:=by omega
    have HN2:Hid (abv (p.take k)=R):=by
     have h1:=HA.out
     have h2:p[k]=255:=UInt8.toNat_inj.1 (by rw[←HQ.out,h255];rfl)
     rw[HTK.out,h2,abv_255] at h1
     exact h1
    clear h255
    go_wp2_with fail
    go_roundw
    case rel=>exact⟨k,by omega,rfl,HN2,trivial⟩
    case measure=>simp[RowKit.intOf]
   ·have g1:(q:Int) < 255:=by omega
    have HRR:Hid (R=p.take k ++ [p[k] + 1]):=by
     have h1:=HA.out
     rw[HTK.out,abv_inc _ (fun e=>h255 (by rw[HQ.out,e];rfl))] at h1
     exact h1.symm
    have hkn:k≤n0:=by omega
    have hkl2:k < n0:=by omega
    have hw8:IntKind.u8.wrap ((q:Int) + 1)=(q:Int) + 1:=by rw[IntKind.wrap_u8];omega
    clear h255
    go_wp2_with fail
    refine wp_region_z 10 (fun _=>True) (by kernel_rfl) trivial (fun hC=>?_)
    refine tz 0 (h:=?_)
    (try simp only[lits])
    refine tz 1 (h:=?_)
    (try simp only[lits])
    refine tz 2 (h:=?_)
    (try simp only[lits])
    refine tz 3 (h:=?_)
    (try simp only[lits])
    refine tz 4 (h:=?_)
    (try simp only[lits])
    refine tz 5 (h:=?_)
    (try simp only[lits])
    refine tz 6 (h:=?_)
    (try simp only[lits])
    refine wpAnyZ_one (i:=7) (by kernel_rfl) rfl (fun K hK=>?_)
    go_simp
    refine hK.out _ _ (fun _=>trivial) ?_
    clear hK
    (try simp only[lits])
    refine wpAnyZ_one (i:=8) (by kernel_rfl) rfl (fun K hK=>?_)
    have hh:((wr.alloc (.cells #[.int .u8 ((q:Int) + 1)] 5)).drew).heap[wr.heap.size]? = some (.cells (([q + 1] ++ []).map B).toArray 5 (0,0)):=heap_new wr _
    have hcv:=run_conv_row (P:=Tryz.prog) (cap:=1) Tryz.underlying177 Tryz.underlying5 Tryz.underlying9 hh
    simp only[List.length_singleton] at hcv
    go_simp
    refine hK.out _ _ (fun _=>trivial) ?_
    clear hK
    (try simp only[lits])
    have hcc:¬ 9223372036854775807 < k + (bstr [q + 1]).size:=by rw[show(bstr [q + 1]).size=1 from rfl];omega
    refine wpAnyZ_one (i:=9) (by kernel_rfl) rfl (fun K hK=>?_)
    go_simp
    refine hK.out _ _ (fun _=>trivial) ?_
    clear hK
    (try simp only[lits])
    refine wpAnyZ_one (i:=10) (by kernel_rfl) rfl (fun K hK=>?_)
    go_simp
    refine hK.out _ _ (fun _=>trivial) ?_
    clear hK
    (try simp only[lits])
    refine wpAnyZ_done (by kernel_rfl) ?_ _
    have HB:Hid (s.extract 0 k ++ bstr [q + 1]=ba R):=by
     show _=_
     rw[HRR.out,ba_append,HS.out,ba_extract0,HQ.out]
     congr 1
    clear hcv hh
    go_wp2
    refine bodyPost_ret (v:=.string (s.extract 0 k ++ bstr [q + 1])) (by simp[results,Tryz.f50,go_sem]) rfl ?_
    exact⟨by rw[HB.out],((Kept.refl _ _).alloc _).drew⟩
end Go.Proofs.YtfgjehecjgebdaaGreat
