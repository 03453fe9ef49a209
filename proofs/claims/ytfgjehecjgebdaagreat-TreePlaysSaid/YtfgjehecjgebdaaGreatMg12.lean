/- Codec, Out.U: a number's bytes. -/
import Derived.Test.YtfgjehecjgebdaaGreatMg05
namespace Go.Proofs.YtfgjehecjgebdaaGreat
open Go.RowKit
def UPost (o:Nat) (v:Value) (bs:List UInt8) (w:World) (e:Ending) (w':World):Prop :=
 e = .returned (.pointer (some ⟨o,0,none⟩)) ∧ ∃v',OutTo w o v w' v' bs
set_option maxRecDepth 100000 in
theorem U_calls {w o v bs g f} (h:IsOut w o v bs) (n:Nat) (hn:n < 18446744073709551616) (hg:w.heap[g]? = some (.cells #[.int .u64 n] 234 f)) (hb:bs.length < 4000000000) :
  Calls Tryz.prog 145 #[.pointer (some ⟨o,0,none⟩),.slice (some ⟨g,0,none⟩) 1 1] w (UPost o v (bs ++ encU n) w):=by
 have hc0:w.cell? ⟨g,0,none⟩=some (.int .u64 n):=by rw[cell_heap hg];rfl
 have hn64:(n:Int) < 18446744073709551616:=by omega
 have H:=Lib.hid h;clear h
 have HG:=Lib.hid hg;clear hg
 go_enter Tryz.func145,Tryz.ntmps145
 go_wp2
 go_loopw [12] (fun i wr=>(i = .int .i64 0∧w=wr)∨(i = .int .i64 1 ∧ ∃v',OutTo w o v wr v' (bs ++ encU n))) (fun i _=>1 - (intOf i).toNat)
 case atStart=>exact .inl ⟨rfl,rfl⟩
 case round =>
  rcases hrel with⟨rfl,rfl⟩|⟨rfl,hO⟩
  ·go_wp2
   go_loop [7,8] (fun a b=>∃k x:Nat,Hid (nb x + k=nb n)∧k≤8∧x≤n∧a = .int .i64 k∧b = .int .u64 x) (fun _ b=>(intOf b).toNat)
   case atStart=>exact⟨0,n,rfl,by omega,Nat.le_refl _,rfl,rfl⟩
   case round =>
    obtain⟨k,x,hk,hk8,hx,rfl,rfl⟩:=hrel
    by_cases hx0:0 < x
    ·have HX:Hid (nb (x / 256) + (k + 1)=nb n):=by have:=hk.out;rw[nb_pos hx0] at this;simp only[Hid];omega
     have HB:k + 1≤8:=by have:=HX.out;have:=nb_le8 n hn;omega
     go_wp2
     go_round
     case rel=>exact⟨k + 1,x / 256,HX.out,HB,by omega,by go_num,by go_num⟩
     case measure=>simp[intOf];omega
    ·obtain rfl:x=0:=by omega
     have HK:Hid (k=nb n):=by have:=hk.out;rw[nb_zero] at this;simp only[Hid];omega
     clear hk hx0 hx
     have hcell:w.cell? ⟨o,0,none⟩=some v:=by rw[cell_heap H.out.head];rfl
     have hok:=lt_heap H.out.head
     go_wp2_with (at_builtin;go_loud (refine app_one (v:=v) rfl (.tmp 27) (.tmp 30) rfl und_bytes2 info_u82 rfl rfl (H.out.row.alloc _) (w.heap.size + 1) rfl (reads_one w (.int .u8 k) _) (by intro u hu;simp at hu;subst hu;rfl) (by unfold maxLen;omega) (by omega) ?_;intro v1 w1 hown1 hg1 hat1;have R:=out_app (xs := [UInt8.ofNat k]) H.out ((Kept.refl _ _).alloc _) rfl (by simpa[B8,UInt8.toNat_ofNat',Nat.mod_eq_of_lt (show k < 256 by omega)] using hown1) hg1 (by simpa using hat1);obtain⟨g1,cap1,rfl⟩:=own_form hown1 (by omega);have hc1:w1.cell? ⟨o,0,none⟩=some v:=(cell_heap R.1 0).trans rfl;have hf1:w1.frozen? ⟨o,0,none⟩=false:=free_heap R.1 0;have HR:=Lib.hid R.2;clear R hown1 hg1 hat1 hcell))
     have HR2:Hid (∃v',OutTo w o v (w1.setCell ⟨o,0,none⟩ (.slice (some ⟨g1,0,none⟩) (bs.length + 1) cap1)) v' (bs ++ [UInt8.ofNat k])):=⟨_,HR.out⟩
     clear HR
     generalize w1.setCell ⟨o,0,none⟩ (.slice (some ⟨g1,0,none⟩) (bs.length + 1) cap1)=w2 at *
     clear hc1 hf1
     go_loopw [9] (fun i wr=>∃c:Nat,c≤k∧i = .int .i64 ((c:Int) - 1) ∧ ∃v',OutTo w o v wr v' (bs ++ (UInt8.ofNat k :: (beB k n).take (k - c)))) (fun i _=>(intOf i + 1).toNat)
     case atStart=>exact⟨k,Nat.le_refl _,rfl,by simpa using HR2.out⟩
     case round =>
      obtain⟨c,hc,rfl,v2,hO⟩:=hrel
      by_cases hc0:c=0
      ·subst hc0
       have HE:Hid (bs ++ (UInt8.ofNat k :: (beB k n).take (k - 0))=bs ++ encU n):=by
        have:=HK.out
        subst this
        simp only[Hid,encU,Nat.sub_zero]
        rw[List.take_of_length_le (by rw[beB_len];omega)]
       rw[HE.out] at hO
       have HO:=Lib.hid hO;clear hO
       go_wp2
       go_roundw
       case rel=>exact .inr ⟨rfl,v2,HO.out⟩
       case measure=>simp[intOf]
      ·obtain⟨i,rfl⟩:∃i,c=i + 1:=⟨c - 1,by omega⟩
       have hcell:wr.cell? ⟨o,0,none⟩=some v2:=(cell_heap hO.out.head 0).trans rfl
       have hi1:((i + 1:Nat):Int) - 1=i:=by omega
       rw[hi1]
       have hk8:k≤8:=by have:=nb_le8 n hn;have:=HK.out;omega
       have hcl:(bs ++ UInt8.ofNat k :: List.take (k - (i + 1)) (beB k n)).length < 4100000000:=by
        simp;have:=nb_le8 n hn;have:=HK.out;omega
       generalize hcs:bs ++ UInt8.ofNat k :: List.take (k - (i + 1)) (beB k n)=cs at hO hcl
       have HC:=Lib.hid hcs;clear hcs
       have HO:=Lib.hid hO;clear hO hc0 hi1
       have hol:o < wr.heap.size:=lt_heap HO.out.out.head
       obtain⟨m,hm⟩:∃m,m=8 * i:=⟨_,rfl⟩
       have hm1:IntKind.i64.wrap (m:Int)=(m:Int):=by rw[IntKind.wrap_i64];omega
       have hm2:(8 * (i:Int))=(m:Int):=by omega
       have hm64:m < 64:=by omega
       have hm0:(0:Int)≤m:=by omega
       obtain⟨y,hy⟩:∃y,y=n / 256 ^ i % 256:=⟨_,rfl⟩
       have hy256:y < 256:=by omega
       have hby:IntKind.u8.wrap ((n:Int) / 2 ^ m)=(y:Int):=by
        have e:((n:Int) / 2 ^ m)=((n / 256 ^ i:Nat):Int):=by
         rw[hm,Int.pow_mul];simp
        rw[e,IntKind.wrap_u8,hy];omega
       have HY:Hid ((beB k n).take (k - i)=(beB k n).take (k - (i + 1)) ++ [UInt8.ofNat y]):=by
        have:=beB_take k n i (by omega)
        rw[←hy] at this
        simp only[Hid]
        rw[show k - i=k - 1 - i + 1 by omega,show k - (i + 1)=k - 1 - i by omega]
        exact this
       clear hm hy
       go_wp2
       go_region_law (first|(refine step_one (v:=v2) rfl (.tmp 44) (.tmp 50) rfl und_bytes2 info_u82 rfl rfl ((HO.out.out.row.alloc _).drew) (wr.heap.size + 1) rfl (reads_one wr (.int .u8 y) _).drew (by intro u hu;simp at hu;subst hu;rfl) (by unfold maxLen;simp;omega) (by simp;omega) ?_;intro v3 w3 hown3 hg3 hat3;have R:=out_app (xs := [UInt8.ofNat y]) HO.out.out (((Kept.refl _ _).alloc _).drew) rfl (by simpa[B8,UInt8.toNat_ofNat',Nat.mod_eq_of_lt hy256] using hown3) hg3 hat3;obtain⟨g3,cap3,rfl⟩:=own_form hown3 (by omega);have hc3:w3.cell? ⟨o,0,none⟩=some v2:=(cell_heap R.1 0).trans rfl;have hf3:w3.frozen? ⟨o,0,none⟩=false:=free_heap R.1 0;have HR3:Hid (∃v',OutTo w o v (w3.setCell ⟨o,0,none⟩ (.slice (some ⟨g3,0,none⟩) (cs.length + 1) cap3)) v' (bs ++ UInt8.ofNat k :: List.take (k - i) (beB k n))):=⟨_,by have h:=HO.out.trans R.2;have e:cs ++ [UInt8.ofNat y]=bs ++ UInt8.ofNat k :: List.take (k - i) (beB k n):=(by rw[HY.out, ←HC.out];simp);rw[e] at h;exact h⟩;clear R hown3 hg3 hat3))
       all_goals
        go_wp2
        go_roundw
        case rel=>exact⟨i,by omega,rfl,by first|exact HR3.out|exact(let ⟨v',h⟩:=HR3.out;⟨v',⟨⟨h.out.head,h.out.row⟩,h.kept.drew,h.own⟩⟩)⟩
        case measure=>simp[intOf]<;>omega
  ·go_wp2
   go_ret
   exact⟨rfl,hO⟩
end Go.Proofs.YtfgjehecjgebdaaGreat
/- Codec, Out.N, Out.S: numbers, texts. -/
namespace Go.Proofs.YtfgjehecjgebdaaGreat
open Go.RowKit
def Ii (x:Int):Value:=.int .i64 x
def St (x:List UInt8):Value:=.string (ba x)
theorem encN_len (n:Int) (hn:n≤9223372036854775807):(encN n).length≤9:=by
 unfold encN
 rw[encU_len]
 have:=nb_le8 n.toNat (by omega)
 omega
theorem encNs_len (l:List Int) (hl:∀x∈l,x≤9223372036854775807):(encNs l).length≤9 * l.length:=by
 unfold encNs
 induction l with
 | nil=>simp
 | cons x t ih =>
  have h1:=encN_len x (hl x (by simp))
  have h2:=ih fun y hy=>hl y (by simp[hy])
  simp only[List.flatMap_cons,List.length_append,List.length_cons]
  omega
theorem encNs_take {l:List Int} {k:Nat} (hk:k < l.length):encNs (l.take (k + 1))=encNs (l.take k) ++ encN l[k]:=by
 unfold encNs
 rw[List.take_succ_eq_append_getElem hk,List.flatMap_append]
 simp
set_option maxRecDepth 100000 in
theorem N_calls {w o v bs g A cap} {l:List Int} (h:IsOut w o v bs) (hr:0 < l.length→A=some ⟨g,0,none⟩∧RowIs w g 3 (l.map Ii)) (hl:∀x∈l, -9223372036854775808≤x∧x≤9223372036854775807) (hn:l.length≤1000) (hb:bs.length < 3000000000) :
  Calls Tryz.prog 116 #[.pointer (some ⟨o,0,none⟩),.slice A l.length cap] w (UPost o v (bs ++ encNs l) w):=by
 have H:=Lib.hid h;clear h
 have HR:=Lib.hid hr;clear hr
 have HL:=Lib.hid hl;clear hl
 go_enter Tryz.func116,Tryz.ntmps116
 go_wp2
 go_loopw [9] (fun i wr=>∃k:Nat,k≤l.length∧i = .int .i64 k ∧ ∃v',OutTo w o v wr v' (bs ++ encNs (l.take k))) (fun i _=>l.length - (intOf i).toNat)
 case atStart=>exact⟨0,Nat.zero_le _,rfl,v,by simpa[encNs] using OutTo.refl H.out⟩
 case round =>
  obtain⟨k,hk,rfl,v',hO⟩:=hrel
  by_cases hlt:k < l.length
  ·obtain⟨hA,hrow⟩:=HR.out (by omega)
   subst hA
   have hrow':=hrow.kept hO.kept (H.out.neRow hrow (by decide) (by decide))
   have hx:=hrow'.cell (i:=k) (x:=.int .i64 l[k]) (by simp[hlt,Ii])
   obtain⟨hx1,hx2⟩:=HL.out l[k] (by simp)
   have HT:Hid (encNs (l.take (k + 1))=encNs (l.take k) ++ encN l[k]):=encNs_take hlt
   have hbl:Hid ((bs ++ encNs (l.take k)).length < 4000000000):=by
    have:=encNs_len (l.take k) (fun x hx=>(HL.out x (List.mem_of_mem_take hx)).2)
    have h2:=List.length_take_le k l
    simp only[Hid,List.length_append];omega
   generalize hxv:l[k]=x at *
   have HX:=Lib.hid hxv;clear hxv
   have HO:=Lib.hid hO;clear hO
   by_cases hx0:x < 0
   ·have hxz:Hid (encN x=encU 0):=by simp only[Hid,encN];congr 1;omega
    go_wp2_with fail
    refine(U_calls (HO.out.out.keptF ((Kept.refl _ _).alloc _)) 0 (by omega) (heap_new wr _) hbl.out).mono ?_
    rintro e w1 ⟨rfl,v1,h1⟩
    have H1:=Lib.hid (HO.out.trans (OutTo.behind HO.out.out ((Kept.refl _ _).alloc _) h1));clear h1
    go_wp2_with fail
    go_roundw
    case rel=>exact⟨k + 1,by omega,by go_num,v1,by(have h:=H1.out;rw[HT.out, ←List.append_assoc];rw[hxz.out];exact h)⟩
    case measure=>simp[intOf];omega
   ·obtain⟨y,rfl⟩:=Int.eq_ofNat_of_zero_le (show 0≤x by omega)
    have hxz:Hid (encN (y:Int)=encU y):=by simp[Hid,encN]
    go_wp2_with fail
    refine(U_calls (HO.out.out.keptF ((Kept.refl _ _).alloc _)) y (by omega) (heap_new wr _) hbl.out).mono ?_
    rintro e w1 ⟨rfl,v1,h1⟩
    have H1:=Lib.hid (HO.out.trans (OutTo.behind HO.out.out ((Kept.refl _ _).alloc _) h1));clear h1
    go_wp2_with fail
    go_roundw
    case rel=>exact⟨k + 1,by omega,by go_num,v1,by(have h:=H1.out;rw[HT.out, ←List.append_assoc];rw[hxz.out];exact h)⟩
    case measure=>simp[intOf];omega
  ·have HE:Hid (encNs (l.take k)=encNs l):=by rw[List.take_of_length_le (by omega)];rfl
   rw[HE.out] at hO
   go_wp2
   go_ret
   exact⟨rfl,v',hO⟩
theorem encN_one (n:Int):encNs [n]=encN n:=by simp[encNs]
theorem strCells_ba (l:List UInt8):Lib.strCells (ba l)=l.map B8:=rfl
theorem encSs_take {l:List (List UInt8)} {k:Nat} (hk:k < l.length):encSs (l.take (k + 1))=encSs (l.take k) ++ encS l[k]:=by
 unfold encSs
 rw[List.take_succ_eq_append_getElem hk,List.flatMap_append]
 simp
theorem encSs_len (l:List (List UInt8)) (M:Nat) (hM:M≤1000000) (hl:∀x∈l,x.length≤M):(encSs l).length≤(M + 9) * l.length:=by
 unfold encSs
 induction l with
 | nil=>simp
 | cons x t ih =>
  have h1:=hl x (by simp)
  have h2:=ih fun y hy=>hl y (by simp[hy])
  have h3:=nb_le8 x.length (by omega)
  simp only[List.flatMap_cons,List.length_append,List.length_cons,encS,encU_len,Nat.mul_add]
  omega
theorem und_str2:Tryz.prog.underlying 9=some .string:=by kernel_rfl
set_option maxRecDepth 100000 in
theorem S_calls {w o v bs g A cap} {l:List (List UInt8)} (h:IsOut w o v bs) (hr:0 < l.length→A=some ⟨g,0,none⟩∧RowIs w g 9 (l.map St)) (hl:∀x∈l,x.length≤1000000) (hn:l.length≤1000) (hb:bs.length < 1000000000) :
  Calls Tryz.prog 109 #[.pointer (some ⟨o,0,none⟩),.slice A l.length cap] w (UPost o v (bs ++ encSs l) w):=by
 have H:=Lib.hid h;clear h
 have HR:=Lib.hid hr;clear hr
 have HL:=Lib.hid hl;clear hl
 go_enter Tryz.func109,Tryz.ntmps109
 go_wp2
 go_loopw [9] (fun i wr=>∃k:Nat,k≤l.length∧i = .int .i64 k ∧ ∃v',OutTo w o v wr v' (bs ++ encSs (l.take k))) (fun i _=>l.length - (intOf i).toNat)
 case atStart=>exact⟨0,Nat.zero_le _,rfl,v,by simpa[encSs] using OutTo.refl H.out⟩
 case round =>
  obtain⟨k,hk,rfl,v',hO⟩:=hrel
  by_cases hlt:k < l.length
  ·obtain⟨hA,hrow⟩:=HR.out (by omega)
   subst hA
   have hrow':=hrow.kept hO.kept (H.out.neRow hrow (by decide) (by decide))
   have hx:=hrow'.cell (i:=k) (x:=St l[k]) (by simp[hlt])
   have hx1:=HL.out l[k] (by simp)
   have HT:Hid (encSs (l.take (k + 1))=encSs (l.take k) ++ encS l[k]):=encSs_take hlt
   have hbl:Hid ((bs ++ encSs (l.take k)).length < 2500000000):=by
    have:=encSs_len (l.take k) 1000000 (Nat.le_refl _) (fun x hx=>HL.out x (List.mem_of_mem_take hx))
    have h2:(l.take k).length≤1000:=by have:=List.length_take_le k l;omega
    have h3:(1000000 + 9) * (l.take k).length≤1000009 * 1000:=Nat.mul_le_mul_left _ h2
    simp only[Hid,List.length_append];omega
   generalize hxv:l[k]=x at *
   have HX:=Lib.hid hxv;clear hxv
   have hsz:=ba_size x
   obtain⟨s,hs⟩:∃s,s=ba x:=⟨_,rfl⟩
   have hx':wr.cell? ⟨g,k,none⟩=some (.string s):=by rw[hx,hs];rfl
   rw[←hs] at hsz
   have hs2:s.size≤1000000:=by omega
   have HS:=Lib.hid hs;have HSZ:=Lib.hid hsz;clear hs hsz hx
   have HO:=Lib.hid hO;clear hO
   generalize hcs:bs ++ encSs (l.take k)=cs at *
   have HC:=Lib.hid hcs;clear hcs
   go_wp2_with fail
   refine(N_calls (l := [(s.size:Int)]) (HO.out.out.keptF ((Kept.refl _ _).alloc _)) (fun _=>⟨rfl,RowIs.new wr [.int .i64 s.size] _⟩) (by intro x hx;simp at hx;omega) (by simp) (by have:=hbl.out;omega)).mono ?_
   rintro e w1 ⟨rfl,v1,h1⟩
   rw[encN_one] at h1
   have H1:=Lib.hid (OutTo.behind HO.out.out ((Kept.refl _ _).alloc _) h1);clear h1
   have hcell:w1.cell? ⟨o,0,none⟩=some v1:=(cell_heap H1.out.out.head 0).trans rfl
   have hlc:(cs ++ encN (s.size:Int)).length < 2500000100:=by
    have:=encN_len (s.size:Int) (by omega);have:=hbl.out;simp only[List.length_append];omega
   go_wp2_with (with_reducible refine app_str (v:=v1) rfl (.tmp 22) (.tmp 23) rfl und_bytes2 und_str2 info_u82 rfl H1.out.out.row rfl (by omega) ?_;intro v2 w2 hown2 hg2 hat2;have R:=out_app (xs:=x) H1.out.out (Kept.refl _ _) HSZ.out (by rw[HS.out,strCells_ba] at hown2;rw[HS.out];exact hown2) hg2 hat2;have h0:0 < (cs ++ encN (s.size:Int)).length + s.size:=(by simp only[List.length_append,encN,encU_len];omega);obtain⟨g2,cap2,rfl⟩:=own_form hown2 h0;have hc2:w2.cell? ⟨o,0,none⟩=some v1:=(cell_heap R.1 0).trans rfl;have hf2:w2.frozen? ⟨o,0,none⟩=false:=free_heap R.1 0;generalize hL:(cs ++ encN (s.size:Int)).length + s.size=L at *;have HR2:=Lib.hid R.2;clear R hown2 hg2 hat2 hcell hL)
   go_roundw
   case rel =>
    refine⟨k + 1,by omega,by go_num,.slice (some ⟨g2,0,none⟩) L cap2,?_⟩
    have h:=H1.out.trans HR2.out
    have e1:cs ++ encN (s.size:Int) ++ x=bs ++ encSs (l.take (k + 1)):=by
     rw[HT.out, ←HC.out,encS,encN,HSZ.out];simp
    rw[e1] at h
    exact(HO.out.trans h)
   case measure=>simp[intOf];omega
  ·have HE:Hid (encSs (l.take k)=encSs l):=by rw[List.take_of_length_le (by omega)];rfl
   rw[HE.out] at hO
   go_wp2
   go_ret
   exact⟨rfl,v',hO⟩
end Go.Proofs.YtfgjehecjgebdaaGreat
