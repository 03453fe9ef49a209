/- cursor.Above: the least text above all that begin with one. -/
import Derived.Test.YtfgjehecjgebdaaGreatMg46
import Derived.Test.YtfgjehecjgebdaaGreatMg07
import Derived.Test.YtfgjehecjgebdaaGreatMg08
import Derived.Test.YtfgjehecjgebdaaGreatMg12
import Derived.Test.YtfgjehecjgebdaaGreatMg35
namespace Go.Proofs.YtfgjehecjgebdaaGreat
open Go.RowKit Go.Maps Go.ChangeMaps
set_option maxHeartbeats 4000000
set_option maxRecDepth 100000
attribute [local go_sem] Oper.semAt_some
def abvR:List UInt8→List UInt8
 | [] => []
 | b :: t=>if b=255 then abvR t else (b + 1) :: t
def abv (p:Bs):Bs:=(abvR p.reverse).reverse
theorem abv_nil:abv [] = []:=rfl
theorem abv_255 (p:Bs):abv (p ++ [255])=abv p:=by unfold abv;rw[List.reverse_append];rfl
theorem abv_inc (p:Bs) {b:UInt8} (h:b ≠ 255):abv (p ++ [b])=p ++ [b + 1]:=by
 unfold abv
 rw[List.reverse_append]
 show(abvR (b :: p.reverse)).reverse=_
 unfold abvR
 rw[if_neg h]
 simp
theorem Above_calls (p:Bs) (hp:p.length≤10000) (w:World):Calls Tryz.prog 50 #[.string (ba p)] w fun e w'=>e = .returned (.string (ba (abv p)))∧Kept (fun _=>False) w w':=by
 obtain⟨s,hs⟩:∃s,s=ba p:=⟨_,rfl⟩
 obtain⟨n0,hn0⟩:∃n,n=s.size:=⟨_,rfl⟩
 have HS:=Lib.hid hs
 have HN:Hid (n0=p.length):=by show _=_;rw[hn0,hs,ba_size]
 have hn1:n0≤10000:=by have:=HN.out;omega
 have HP:=Lib.hid hp
 rw[←hs]
 have HSZ:=Lib.hid hn0
 have hsz:s.size=n0:=hn0.symm
 obtain⟨R,hR⟩:∃R,R=abv p:=⟨_,rfl⟩
 have HR:=Lib.hid hR
 rw[←hR]
 clear hs hp hn0 hR
 go_enter Tryz.func50,Tryz.ntmps50
 go_wp2
 go_loopw [3] (fun i wr=>∃(k:Nat),k≤n0∧i = .int .i64 ((k:Int) - 1)∧Hid (abv (p.take k)=R)∧wr=w) (fun i _=>((RowKit.intOf i) + 1).toNat)
 case atStart=>exact⟨n0,Nat.le_refl _,rfl,by show _=_;rw[HN.out,List.take_length];exact HR.out.symm,rfl⟩
 case round =>
  obtain⟨k,hk,rfl,HA,rfl⟩:=hrel
  rcases k with _|k
  ·go_wp2
   go_ret
   have:=HA.out
   rw[List.take_zero,abv_nil] at this
   exact⟨by rw[←this];rfl,Kept.refl _ _⟩
  ·have hkl:k < p.length:=by have:=HN.out;omega
   have hks:k < s.size:=by omega
   have hq:(s[k]'hks).toNat=p[k].toNat:=by have:=HS.out;subst this;rfl
   obtain⟨q,hq2⟩:∃q,q=(s[k]'hks).toNat:=⟨_,rfl⟩
   have hq3:((s[k]'hks).toNat:Int)=(q:Int):=by rw[hq2]
   have HQ:Hid (q=p[k].toNat):=hq2.trans hq
   have hi:(((k + 1:Nat):Int) - 1)=(k:Int):=by omega
   have hq9:q < 256:=by rw[hq2];exact UInt8.toNat_lt _
   have HTK:Hid (p.take (k + 1)=p.take k ++ [p[k]]):=List.take_succ_eq_append_getElem hkl
   clear hq2 hq
   rw[hi]
   by_cases h255:q=255
   ·have g1:¬(q:Int) < 255:=by omega
    have HN2:Hid (abv (p.take k)=R):=by
     have h1:=HA.out
     have h2:p[k]=255:=UInt8.toNat_inj.1 (by rw[←HQ.out,h255];rfl)
     rw[HTK.out,h2,abv_255] at h1
     exact h1
    clear h255
    go_wp2_with fail
    go_roundw
    case rel=>exact⟨k,by omega,rfl,HN2,trivial⟩
    case measure=>simp[RowKit.intOf]
   ·have g1:(q:Int) < 255:=by omega
    have HRR:Hid (R=p.take k ++ [p[k] + 1]):=by
     have h1:=HA.out
     rw[HTK.out,abv_inc _ (fun e=>h255 (by rw[HQ.out,e];rfl))] at h1
     exact h1.symm
    have hkn:k≤n0:=by omega
    have hkl2:k < n0:=by omega
    have hw8:IntKind.u8.wrap ((q:Int) + 1)=(q:Int) + 1:=by rw[IntKind.wrap_u8];omega
    clear h255
    go_wp2_with fail
    refine wp_region_z 10 (fun _=>True) (by kernel_rfl) trivial (fun hC=>?_)
    refine tz 0 (h:=?_)
    (try simp only[lits])
    refine tz 1 (h:=?_)
    (try simp only[lits])
    refine tz 2 (h:=?_)
    (try simp only[lits])
    refine tz 3 (h:=?_)
    (try simp only[lits])
    refine tz 4 (h:=?_)
    (try simp only[lits])
    refine tz 5 (h:=?_)
    (try simp only[lits])
    refine tz 6 (h:=?_)
    (try simp only[lits])
    refine wpAnyZ_one (i:=7) (by kernel_rfl) rfl (fun K hK=>?_)
    go_simp
    refine hK.out _ _ (fun _=>trivial) ?_
    clear hK
    (try simp only[lits])
    refine wpAnyZ_one (i:=8) (by kernel_rfl) rfl (fun K hK=>?_)
    have hh:((wr.alloc (.cells #[.int .u8 ((q:Int) + 1)] 5)).drew).heap[wr.heap.size]? = some (.cells (([q + 1] ++ []).map B).toArray 5 (0,0)):=heap_new wr _
    have hcv:=run_conv_row (P:=Tryz.prog) (cap:=1) Tryz.underlying177 Tryz.underlying5 Tryz.underlying9 hh
    simp only[List.length_singleton] at hcv
    go_simp
    refine hK.out _ _ (fun _=>trivial) ?_
    clear hK
    (try simp only[lits])
    have hcc:¬ 9223372036854775807 < k + (bstr [q + 1]).size:=by rw[show(bstr [q + 1]).size=1 from rfl];omega
    refine wpAnyZ_one (i:=9) (by kernel_rfl) rfl (fun K hK=>?_)
    go_simp
    refine hK.out _ _ (fun _=>trivial) ?_
    clear hK
    (try simp only[lits])
    refine wpAnyZ_one (i:=10) (by kernel_rfl) rfl (fun K hK=>?_)
    go_simp
    refine hK.out _ _ (fun _=>trivial) ?_
    clear hK
    (try simp only[lits])
    refine wpAnyZ_done (by kernel_rfl) ?_ _
    have HB:Hid (s.extract 0 k ++ bstr [q + 1]=ba R):=by
     show _=_
     rw[HRR.out,ba_append,HS.out,ba_extract0,HQ.out]
     congr 1
    clear hcv hh
    go_wp2
    refine bodyPost_ret (v:=.string (s.extract 0 k ++ bstr [q + 1])) (by simp[results,Tryz.f50,go_sem]) rfl ?_
    exact⟨by rw[HB.out],((Kept.refl _ _).alloc _).drew⟩
end Go.Proofs.YtfgjehecjgebdaaGreat
/- Plain: which texts begin with one. -/
namespace Go.Proofs.YtfgjehecjgebdaaGreat
theorem abv_form (p:Bs):(abv p = [] ∧ ∀b∈p,b=255) ∨ ∃l b m,b ≠ 255∧p=l ++ [b] ++ List.replicate m 255∧abv p=l ++ [b + 1]:=by
 induction p using snoc_ind with
 | nil=>exact .inl ⟨rfl,by simp⟩
 | snoc p a ih =>
  by_cases h:a=255
  ·subst h
   rw[abv_255]
   rcases ih with⟨h1,h2⟩|⟨l,b,m,h1,h2,h3⟩
   ·exact .inl ⟨h1,fun b hb=>by
     rcases List.mem_append.1 hb with h|h
     ·exact h2 b h
     ·simpa using h⟩
   ·exact .inr ⟨l,b,m + 1,h1,by rw[h2,List.replicate_succ',List.append_assoc],h3⟩
  ·exact .inr ⟨p,a,0,h,by simp,abv_inc p h⟩
theorem top_beg:∀(m:Nat) (k:Bs),k < List.replicate m 255∨List.replicate m 255 <+: k
 | 0,k=>.inr (List.nil_prefix)
 | m + 1, []=>.inl (by rw[List.replicate_succ];exact List.nil_lt_cons _ _)
 | m + 1,y :: t=>by
  rw[List.replicate_succ]
  have hle:y≤255:=UInt8.le_iff_toNat_le.2 (by have:=UInt8.toNat_lt y;show y.toNat≤255;omega)
  rcases Nat.lt_or_ge y.toNat 255 with h|h
  ·exact .inl (List.cons_lt_cons_iff.2 (.inl (UInt8.lt_iff_toNat_lt.2 h)))
  ·have e:y=255:=UInt8.toNat_inj.1 (by have:=UInt8.toNat_lt y;show y.toNat=255;omega)
   subst e
   rcases top_beg m t with h|h
   ·exact .inl (List.cons_lt_cons_iff.2 (.inr ⟨rfl,h⟩))
   ·exact .inr ((List.cons_prefix_cons).2 ⟨rfl,h⟩)
theorem u8_lt_succ {x b:UInt8} (hb:b ≠ 255):x < b + 1↔x < b∨x=b:=by
 have h1:=UInt8.toNat_lt b
 have h2:b.toNat ≠ 255:=fun h=>hb (UInt8.toNat_inj.1 h)
 have h3:(b + 1).toNat=b.toNat + 1:=by rw[UInt8.toNat_add];show(b.toNat + 1) % 256=_;omega
 rw[UInt8.lt_iff_toNat_lt,UInt8.lt_iff_toNat_lt, ←UInt8.toNat_inj,h3]
 omega
theorem lt_abv {b:UInt8} {m:Nat} (hb:b ≠ 255):∀(l k:Bs),k < l ++ [b + 1]↔k < l ++ [b] ++ List.replicate m 255∨l ++ [b] ++ List.replicate m 255 <+: k
 | [], []=>by
  simp only[List.nil_append,List.singleton_append]
  exact⟨fun _=>.inl (List.nil_lt_cons _ _),fun _=>List.nil_lt_cons _ _⟩
 | [],x :: t=>by
  simp only[List.nil_append,List.singleton_append]
  rw[List.cons_lt_cons_iff,List.cons_lt_cons_iff,List.cons_prefix_cons,u8_lt_succ hb]
  have:=top_beg m t
  have h0:¬t < []:=bs_nil t
  constructor
  ·rintro((h|h)|⟨_,h⟩)
   ·exact .inl (.inl h)
   ·rcases this with h'|h'
    ·exact .inl (.inr ⟨h,h'⟩)
    ·exact .inr ⟨h.symm,h'⟩
   ·exact absurd h h0
  ·rintro((h|h)|h)
   ·exact .inl (.inl h)
   ·exact .inl (.inr h.1)
   ·exact .inl (.inr h.1.symm)
 | c :: l, []=>by
  simp only[List.cons_append]
  exact⟨fun _=>.inl (List.nil_lt_cons _ _),fun _=>List.nil_lt_cons _ _⟩
 | c :: l,x :: t=>by
  simp only[List.cons_append]
  rw[List.cons_lt_cons_iff,List.cons_lt_cons_iff,List.cons_prefix_cons,lt_abv hb l t]
  constructor
  ·rintro(h|⟨h,h'|h'⟩)
   ·exact .inl (.inl h)
   ·exact .inl (.inr ⟨h,h'⟩)
   ·exact .inr ⟨h.symm,h'⟩
  ·rintro((h|h)|h)
   ·exact .inl h
   ·exact .inr ⟨h.1,.inl h.2⟩
   ·exact .inr ⟨h.1.symm,.inr h.2⟩
theorem beg_ge {p k:Bs} (h:p <+: k):¬k < p:=by
 induction p generalizing k with
 | nil=>exact bs_nil k
 | cons a p ih =>
  obtain⟨t,rfl⟩:=h
  rw[List.cons_append,List.cons_lt_cons_iff]
  rintro(h|⟨_,h⟩)
  ·exact absurd h (by rw[UInt8.lt_iff_toNat_lt];omega)
  ·exact ih (List.prefix_append _ _) h
theorem abv_iff {p:Bs} (h:abv p ≠ []) (k:Bs):k < abv p↔k < p∨p <+: k:=by
 rcases abv_form p with⟨h1,_⟩|⟨l,b,m,h1,h2,h3⟩
 ·exact absurd h1 h
 ·rw[h3]
  conv=>rhs;rw[h2]
  exact lt_abv h1 l k
theorem rep_of {p:Bs} (h:∀b∈p,b=255):p=List.replicate p.length 255:=List.eq_replicate_iff.2 ⟨rfl,h⟩
theorem abv_beg (p k:Bs):p <+: k ↔ ¬k < p∧(abv p = []∨k < abv p):=by
 by_cases h:abv p = []
 ·rcases abv_form p with⟨_,h2⟩|⟨l,b,m,h1,h2,h3⟩
  ·refine⟨fun hb=>⟨beg_ge hb,.inl h⟩,fun hb=>?_⟩
   have:=top_beg p.length k
   rw[←rep_of h2] at this
   exact this.resolve_left hb.1
  ·rw[h3] at h;simp at h
 ·rw[abv_iff h]
  exact⟨fun hb=>⟨beg_ge hb,.inr (.inr hb)⟩,fun hb=>(hb.2.resolve_left h).resolve_left hb.1⟩
end Go.Proofs.YtfgjehecjgebdaaGreat
