/- Crc: step, Add, Value, Of, Bytes, by their contracts. -/
import Derived.Test.YtfgjehecjgebdaaGreatMg05
import Derived.Test.YtfgjehecjgebdaaGreatMg08
namespace Go.Proofs.YtfgjehecjgebdaaGreat
open Go.RowKit
set_option maxRecDepth 100000 in
theorem crcstep_calls (n c:Nat) (hn:n < 4294967296) (hc:c < 256) (w:World):Calls Tryz.prog 164 #[.int .u32 n,.int .u8 c] w fun e w'=>e = .returned (.int .u32 (crcStep n c))∧w=w':=by
 have hx:=u32_xor n c hn (by omega)
 have hxl:=xor_lt32 hn (show c < 4294967296 by omega)
 have hcb:(c:Int) < 256:=by omega
 have HE:Hid (crcStep n c=bitSteps 8 (n ^^^ c)):=rfl
 generalize n ^^^ c=x at *
 go_enter Tryz.func164,Tryz.ntmps164
 go_wp2
 clear hx
 go_loop [0,10] (fun m i=>∃k y:Nat,k≤8∧i = .int .i64 k∧m = .int .u32 y∧y < 4294967296∧Hid (y=bitSteps k x)) (fun _ i=>8 - (intOf i).toNat)
 case atStart=>exact⟨0,x,by omega,rfl,rfl,hxl,rfl⟩
 case round =>
  obtain⟨k,y,hk,rfl,rfl,hy,hyb⟩:=hrel
  by_cases hlt:k < 8
  ·have ha:=u32_and1 y hy
   rcases Nat.mod_two_eq_zero_or_one y with h2|h2
   ·have HS:Hid (y / 2=bitSteps (k + 1) x):=by
     have:=hyb.out
     simp only[Hid,bitSteps]
     rw[←this,bitStep,if_neg (by omega)];simp
    have h3:=u32_and_zero
    obtain⟨z,hz⟩:∃z,z=y / 2:=⟨_,rfl⟩
    have hzz:(y:Int) / 2=z:=by omega
    have h4:=u32_xor_zero z (by omega)
    rw[←hz] at HS
    rw[h2] at ha
    clear hz
    have H2:=Lib.hid h2;clear h2
    go_wp2
    go_round
    case rel=>exact⟨k + 1,z,by omega,by go_num,rfl,by omega,HS.out⟩
    case measure=>simp[intOf];omega
   ·obtain⟨z,hz⟩:∃z,z=y / 2:=⟨_,rfl⟩
    have HS:Hid (z ^^^ 3988292384=bitSteps (k + 1) x):=by
     have:=hyb.out
     simp only[Hid,bitSteps]
     rw[←this,bitStep,if_pos h2,hz]
    have h3:=u32_and_ones
    have hzz:(y:Int) / 2=z:=by omega
    have h4:=u32_xor_poly z (by omega)
    have h5:=xor_lt32 (show z < 4294967296 by omega) (show 3988292384 < 4294967296 by omega)
    rw[h2] at ha
    clear hz
    have H2:=Lib.hid h2;clear h2
    generalize z ^^^ 3988292384=u at *
    go_wp2
    go_round
    case rel=>exact⟨k + 1,u,by omega,by go_num,rfl,h5,HS.out⟩
    case measure=>simp[intOf];omega
  ·obtain rfl:k=8:=by omega
   have HY:Hid (crcStep n c=y):=by have h1:=HE.out;have h2:=hyb.out;simp only[Hid];rw[h1,h2]
   clear hyb
   go_wp2
   go_ret
   exact⟨by rw[HY.out];rfl,rfl⟩
def IsSum (w:World) (b n:Nat):Prop:=w.heap[b]? = some (.cells #[.int .u32 n] 230 (0,0))
set_option maxRecDepth 100000 in
theorem Add_calls {w b n} (h:IsSum w b n) (hn:n < 4294967296) (l:List UInt8) (hl:l.length≤1000000000):Calls Tryz.prog 143 #[.pointer (some ⟨b,0,none⟩),.string (ba l)] w fun e w'=>e = .returned (.tuple #[])∧IsSum w' b (crcAdd n l)∧Kept (· = b) w w':=by
 have hc:w.cell? ⟨b,0,none⟩=some (.int .u32 n):=(cell_heap h 0).trans rfl
 have hf:w.frozen? ⟨b,0,none⟩=false:=free_heap h 0
 have hsz:=ba_size l
 obtain⟨s,hs⟩:∃s,s=ba l:=⟨_,rfl⟩
 rw[←hs] at hsz⊢
 have hs9:s.size≤1000000000:=by omega
 have HS:=Lib.hid hs;have HZ:=Lib.hid hsz;clear hs hsz
 have H:=Lib.hid h;clear h
 have hnot:=u32_not n hn
 obtain⟨m0,hm0⟩:∃m0,m0=4294967295 - n:=⟨_,rfl⟩
 rw[←hm0] at hnot
 have HM:=Lib.hid hm0;clear hm0
 go_enter Tryz.func143,Tryz.ntmps143
 go_wp2_with fail
 go_loop [4,13] (fun m i=>∃k y:Nat,k≤l.length∧i = .int .i64 k∧m = .int .u32 y∧Hid (y=crcRun m0 (l.take k))) (fun _ i=>l.length - (intOf i).toNat)
 case atStart=>exact⟨0,m0,Nat.zero_le _,rfl,rfl,rfl⟩
 case round =>
  obtain⟨k,y,hk,rfl,rfl,hy⟩:=hrel
  have hm32:m0 < 4294967296:=by have:=HM.out;omega
  have hyl:y < 4294967296:=by have:=hy.out;rw[this];exact crcRun_lt _ _ hm32
  by_cases hlt:k < l.length
  ·have hks:k < s.size:=by have:=HZ.out;omega
   have hq:(s[k]'hks).toNat=l[k].toNat:=by have:=HS.out;subst this;rfl
   obtain⟨q,hq2⟩:∃q,q=(s[k]'hks).toNat:=⟨_,rfl⟩
   have hq3:((s[k]'hks).toNat:Int)=(q:Int):=by rw[hq2]
   rw[←hq2] at hq
   have hq256:q < 256:=by rw[hq];exact UInt8.toNat_lt _
   have HR:Hid (crcStep y q=crcRun m0 (l.take (k + 1))):=by
    have h1:=hy.out
    simp only[Hid]
    rw[List.take_succ_eq_append_getElem hlt,crcRun_snoc, ←h1,hq]
   have C:=Lib.hid (crcstep_calls y q hyl hq256 w)
   clear hq hq2
   go_wp2_with fail
   (try simp only[hq3])
   refine C.out.mono ?_
   rintro e w1 ⟨rfl,rfl⟩
   go_wp2_with fail
   go_round
   case rel=>exact⟨k + 1,crcStep y q,by omega,by go_num,rfl,HR.out⟩
   case measure=>simp[intOf];omega
  ·have hge:¬((k:Int) < (s.size:Int)):=by have:=HZ.out;omega
   have HE:Hid (crcAdd n l=4294967295 - y):=by
    have h1:=hy.out;have h2:=HM.out
    rw[List.take_of_length_le (by omega)] at h1
    simp only[Hid,crcAdd];rw[h1,h2]
   have hnot2:=u32_not y hyl
   clear hnot
   obtain⟨m1,hm1⟩:∃m1,m1=4294967295 - y:=⟨_,rfl⟩
   rw[←hm1] at hnot2 HE
   clear hm1 hlt
   go_wp2_with fail
   go_end0
   refine⟨rfl,?_,(Kept.refl _ _).set1 _ _⟩
   rw[HE.out]
   unfold IsSum
   rw[heap_set H.out];rfl
theorem Value_calls {w b n} (h:IsSum w b n):Calls Tryz.prog 144 #[.pointer (some ⟨b,0,none⟩)] w fun e w'=>e = .returned (.int .u32 n)∧w=w':=by
 have hc:w.cell? ⟨b,0,none⟩=some (.int .u32 n):=(cell_heap h 0).trans rfl
 go_enter Tryz.func144,Tryz.ntmps144
 go_wp2
 go_ret
 exact⟨rfl,rfl⟩
set_option maxRecDepth 100000 in
theorem Of_calls {w g f} (l:List UInt8) (hg:w.heap[g]? = some (.cells #[.string (ba l)] 9 f)) (hl:l.length≤1000000000):Calls Tryz.prog 112 #[.slice (some ⟨g,0,none⟩) 1 1] w fun e w'=>e = .returned (.int .u32 (crcOf l))∧Kept (fun _=>False) w w':=by
 obtain⟨s,hs⟩:∃s,s=ba l:=⟨_,rfl⟩
 rw[←hs] at hg
 have HS:=Lib.hid hs;clear hs
 have hlt:=lt_heap hg
 have HG:=Lib.hid hg;clear hg
 go_enter Tryz.func112,Tryz.ntmps112
 go_wp2_with fail
 go_loopw [10] (fun i wr=>(i = .int .i64 0∧IsSum wr w.heap.size 0∧Kept (fun _=>False) w wr)∨(i = .int .i64 1∧IsSum wr w.heap.size (crcOf l)∧Kept (fun _=>False) w wr)) (fun i _=>1 - (intOf i).toNat)
 case atStart=>exact .inl ⟨rfl,heap_new w _,(Kept.refl _ _).alloc _⟩
 case round =>
  rcases hrel with⟨rfl,h1,k1⟩|⟨rfl,h1,k1⟩
  ·have hc:wr.cell? ⟨g,0,none⟩=some (.string s):=(cell_heap (k1.heap HG.out id) 0).trans rfl
   have C:=Lib.hid (Add_calls h1 (by omega) l hl)
   rw[←HS.out] at C
   have H1:=Lib.hid h1;have K1:=Lib.hid k1;clear h1 k1
   go_wp2_with fail
   refine C.out.mono ?_
   rintro e w1 ⟨rfl,h2,k2⟩
   have H2:=Lib.hid h2;have K2:=Lib.hid (K1.out.then k2 (fun i hi e=>by omega));clear h2 k2
   go_wp2_with fail
   go_roundw
   case rel=>exact .inr ⟨rfl,H2.out,K2.out⟩
   case measure=>simp[intOf]
  ·have C:=Lib.hid (Value_calls h1)
   have K1:=Lib.hid k1;clear h1 k1
   go_wp2_with fail
   refine C.out.mono ?_
   rintro e w1 ⟨rfl,rfl⟩
   go_wp2_with fail
   go_ret
   exact⟨rfl,K1.out⟩
theorem le4_eq (n:Nat) (h:n < 4294967296):ba (le4 n)=bstr [n % 256,n / 256 % 256,n / 65536 % 256,n / 16777216]:=by
 have:n / 16777216 % 256=n / 16777216:=by omega
 simp[ba,le4,bstr,this]
set_option maxRecDepth 100000 in
theorem Bytes_calls (n:Nat) (hn:n < 4294967296) (w:World):Calls Tryz.prog 111 #[.int .u32 n] w fun e w'=>e = .returned (.string (ba (le4 n)))∧Kept (fun _=>False) w w':=by
 have HE:=Lib.hid (le4_eq n hn)
 have hn':(n:Int) < 4294967296:=by omega
 obtain⟨a0,h0⟩:∃a,a=n % 256:=⟨_,rfl⟩
 obtain⟨a1,h1⟩:∃a,a=n / 256 % 256:=⟨_,rfl⟩
 obtain⟨a2,h2⟩:∃a,a=n / 65536 % 256:=⟨_,rfl⟩
 obtain⟨a3,h3⟩:∃a,a=n / 16777216:=⟨_,rfl⟩
 rw[←h0, ←h1, ←h2, ←h3] at HE
 have e0:(n:Int) % 256=a0:=by omega
 have e1:(n:Int) / 256 % 256=a1:=by omega
 have e2:(n:Int) / 65536 % 256=a2:=by omega
 have e3:(n:Int) / 16777216=a3:=by omega
 clear h0 h1 h2 h3
 have hcv:(convert 177 9 (.slice (some ⟨w.heap.size,0,none⟩) 4 4)).run Tryz.prog (w.alloc (.cells #[.int .u8 a0,.int .u8 a1,.int .u8 a2,.int .u8 a3] 5)) = .ok (.string (bstr [a0,a1,a2,a3])) (w.alloc (.cells #[.int .u8 a0,.int .u8 a1,.int .u8 a2,.int .u8 a3] 5)) :=
  run_conv_row (P:=Tryz.prog) und_bytes2 (by kernel_rfl) (by kernel_rfl) (ys := [a0,a1,a2,a3]) (more := []) (cap:=4) (heap_new _ _)
 go_enter Tryz.func111,Tryz.ntmps111
 go_wp2_with fail
 go_ret
 exact⟨by rw[HE.out];rfl,(Kept.refl _ _).alloc _⟩
end Go.Proofs.YtfgjehecjgebdaaGreat
