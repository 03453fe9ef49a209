/- Space: New, Text, Parse, by their contracts. -/
import Derived.Test.YtfgjehecjgebdaaGreatMg08
import Derived.Test.YtfgjehecjgebdaaGreatMg09
namespace Go.Proofs.YtfgjehecjgebdaaGreat
open Go.RowKit
theorem und_bytes:Tryz.prog.underlying 177=some (.slice 5):=by kernel_rfl
theorem info_u8:(Tryz.prog.info? 5).map (fun i=>(i.zero,i.size,i.bytes))=some (some (.int .u8 0),1,1):=by kernel_rfl
def NewOk (n:Nat) (w:World) (e:Ending) (w':World):Prop :=
 ∃b c,w.heap.size≤b∧w.heap.size≤c∧e = .returned (.tuple #[.pointer (some ⟨b,0,none⟩),.int .i64 0])∧IsSp w' b c (List.replicate n 0)∧Kept (fun _=>False) w w'
theorem New_ok (n:Nat) (w:World) (h1:1≤n) (h2:n≤128):Calls Tryz.prog 102 #[.int .i64 n] w (NewOk n w):=by
 have hmk:=fun w:World=>run_make_n w und_bytes info_u8 rfl n (by omega) (by unfold maxLen;omega)
 go_enter Tryz.func102,Tryz.ntmps102
 go_wp2
 go_ret2
 refine⟨w.heap.size + 1,w.heap.size,by omega,by omega,rfl,⟨?_,?_,?_,by simpa using h2⟩,((Kept.refl _ _).alloc _).alloc _⟩
 ·have:=heap_new (w.alloc (.cells (List.replicate n (.int .u8 0)).toArray 5)) (.cells #[.slice (some ⟨w.heap.size,0,none⟩) n n] 179 (0,0))
  simpa using this
 ·have:=heap_old (heap_new w (.cells (List.replicate n (.int .u8 0)).toArray 5)) (.cells #[.slice (some ⟨w.heap.size,0,none⟩) n n] 179 (0,0))
  simpa[B] using this
 ·simp
theorem und_u8:Tryz.prog.underlying 5=some (.int .u8):=by kernel_rfl
theorem und_str:Tryz.prog.underlying 9=some .string:=by kernel_rfl
theorem Text_calls {w b c l} (h:IsSp w b c l):Calls Tryz.prog 40 #[.pointer (some ⟨b,0,none⟩)] w fun e w'=>e = .returned (.string (bstr (bys l)))∧Kept (fun _=>False) w w':=by
 obtain⟨m,hm⟩:∃m,m=(l.length + 7) / 8:=⟨_,rfl⟩
 have hmk:∀w:World,(Instr.makeSlice 177 (.int .i64 (((l.length:Int) + 7) / 8)) (.int .i64 (((l.length:Int) + 7) / 8))).run Tryz.prog w = .ok (.slice (some ⟨w.heap.size,0,none⟩) m m) (w.alloc (.cells (List.replicate m (.int .u8 0)).toArray 5)):=by
  intro w
  have:=run_make_n w und_bytes info_u8 rfl m (by have:=h.len;omega) (by have:=h.len;unfold maxLen;omega)
  rwa [show(m:Int)=((l.length:Int) + 7) / 8 from by omega] at this
 have h0:=h.cell0
 have h3:=h.len
 have hlb:=lt_heap h.head
 have hlc:=lt_heap h.row
 have Hm:=Lib.hid hm
 have hm17:m≤16:=by omega
 clear hm
 have H:=Lib.hid h;clear h
 go_enter Tryz.func40,Tryz.ntmps40
 go_wp2
 go_loopw [4,5,19] (fun _ _ n wr=>∃k:Nat,k≤l.length∧n = .int .i64 k∧wr.heap[w.heap.size]? = some (.cells ((bysTo l m k).map B).toArray 5 (0,0))∧Kept (fun _=>False) w wr) (fun _ _ n _=>l.length - (intOf n).toNat)
 case atStart =>
  refine⟨0,Nat.zero_le _,rfl,?_,(Kept.refl _ _).alloc _⟩
  have:=heap_new w (.cells (List.replicate m (.int .u8 0)).toArray 5)
  rw[bysTo_zero]
  simpa[B] using this
 case round =>
  obtain⟨k,hk,rfl,hs,hkp⟩:=hrel
  by_cases hlt:k < l.length
  ·have hsp:IsSp wr b c l:=H.out.kept hkp id id
   have hc0:=hsp.cell0
   have hc1:=hsp.cell k hlt
   have hx4:=hsp.le l[k] (by simp)
   obtain⟨q,hq⟩:∃q:Nat,q=k / 8:=⟨_,rfl⟩
   obtain⟨r,hr⟩:∃r:Nat,r=k % 8:=⟨_,rfl⟩
   have hqm:q < m:=by have:=Hm.out;omega
   have hr8:r < 8:=by omega
   have hq':(k:Int) / 8=q:=by omega
   have hr':(k:Int) % 8=r:=by omega
   obtain⟨z,hz⟩:∃z:Nat,z=byAt (l.take k) q:=⟨_,rfl⟩
   have hzl:z < 256:=by have:=byAt_lt (l.take k) q;omega
   have hc2:wr.cell? ⟨w.heap.size,q,none⟩=some (.int .u8 z):=by
    rw[cell_heap hs];simp[bysTo_get l m k q hqm,hz,B]
   have hc3:wr.frozen? ⟨w.heap.size,q,none⟩=false:=free_heap hs q
   have HY:Hid (us l[k]=true→(wr.setCell ⟨w.heap.size,q,none⟩ (.int .u8 (bits BinOp.or IntKind.u8 (z:Int) (2 ^ r % 256)))).heap[w.heap.size]? = some (.cells ((bysTo l m (k + 1)).map B).toArray 5 (0,0))):=by
    intro hu
    have hlow:=byAt_low l k hlt
    rw[←hq, ←hr, ←hz] at hlow
    rw[or_bit z r hr8 hlow,heap_set hs,bysTo_yes l m k hlt hu, ←hq, ←hr, ←hz]
    simp[List.map_set,B]
   have HN:Hid (us l[k]=false→bysTo l m (k + 1)=bysTo l m k):=bysTo_no l m k hlt
   have HS:=Lib.hid hs
   clear hq hr hz hs hsp
   by_cases he1:l[k]=1
   ·have ht:(((l[k]:Nat):Int) == 1)=true:=by simp[he1]
    have HU:Hid (us l[k]=true):=by rw[he1];rfl
    have HE:=Lib.hid he1;clear he1
    go_wp2
    go_region
    go_wp2
    go_roundw
    case rel=>exact⟨k + 1,by omega,by go_num,HY.out HU.out,(hkp.setCell (.inr (Nat.le_refl _)) _).drew⟩
    case measure=>simp[intOf];omega
   ·have ht:(((l[k]:Nat):Int) == 1)=false:=by simp;omega
    by_cases he2:l[k]=2
    ·have ht2:(((l[k]:Nat):Int) == 2)=true:=by simp[he2]
     have HU:Hid (us l[k]=true):=by rw[he2];rfl
     have HE:=Lib.hid he2;clear he1 he2
     go_wp2
     go_region
     go_wp2
     go_roundw
     case rel=>exact⟨k + 1,by omega,by go_num,HY.out HU.out,(hkp.setCell (.inr (Nat.le_refl _)) _).drew⟩
     case measure=>simp[intOf];omega
    ·have ht2:(((l[k]:Nat):Int) == 2)=false:=by simp;omega
     have HU:Hid (us l[k]=false):=by simp[Hid,us,he1,he2]
     go_wp2
     go_roundw
     case rel=>exact⟨k + 1,by omega,by go_num,by rw[HN.out HU.out];exact HS.out,hkp⟩
     case measure=>simp[intOf];omega
  ·have e1:bysTo l m k=bys l:=by rw[Hm.out];exact bysTo_all l k (by omega)
   rw[e1] at hs
   clear e1
   have hcv:=run_conv_row (P:=Tryz.prog) und_bytes und_u8 und_str (ys:=bys l) (more := []) (cap:=m) (by rw[List.append_nil];exact hs)
   have hbl:(bys l).length=m:=by rw[Hm.out];simp[bys]
   rw[hbl] at hcv
   clear hs hbl
   go_wp2
   go_ret
   exact⟨rfl,hkp⟩
end Go.Proofs.YtfgjehecjgebdaaGreat
/- The reference's states of pages: Take, Give, Keep, Undo, Text, by their contracts. -/
namespace Go.Proofs.YtfgjehecjgebdaaGreat
open Go.RowKit
def I (x:Nat):Value:=.int .i64 x
theorem info_int:(Tryz.prog.info? 3).map (fun i=>(i.zero,i.size,i.bytes))=some (some (.int .i64 0),1,8):=by kernel_rfl
theorem ints_one (l:List Nat):∀u∈l.map I,u.oneCell'=true:=by
 intro u hu
 obtain⟨x,_,rfl⟩:=List.mem_map.1 hu
 rfl
def kp1 (x:Nat):Nat:=if x=1∨x=2 then 1 else 0
def ud1 (x:Nat):Nat:=if x=1∨x=3 then 1 else 0
end Go.Proofs.YtfgjehecjgebdaaGreat
/- Plain: a space's bytes, and back. -/
namespace Go.Proofs.YtfgjehecjgebdaaGreat
theorem bys_len (l:List Nat):(bys l).length=(l.length + 7) / 8:=by simp[bys]
def inUse (l:List Nat):List Nat:=l.map fun x=>if us x then 1 else 0
theorem us_inUse (x:Nat):us (if us x then 1 else 0)=us x:=by cases h:us x<;>simp[us]
theorem lv_congr:∀(a b:List Nat),a.map us=b.map us→lv a=lv b
 | [], [],_=>rfl
 | x :: a,y :: b,h=>by
  simp only[List.map_cons,List.cons.injEq] at h
  simp only[lv,h.1,lv_congr a b h.2]
 | [],_ :: _,h=>by simp at h
 | _ :: _, [],h=>by simp at h
theorem bys_inUse (l:List Nat):bys (inUse l)=bys l:=by
 unfold bys
 have e:(inUse l).length=l.length:=by simp[inUse]
 rw[e]
 apply List.map_congr_left
 intro j _
 apply lv_congr
 unfold inUse
 rw[List.map_take,List.map_drop,List.map_take,List.map_drop,List.map_map]
 congr 3
 funext x
 exact us_inUse x
end Go.Proofs.YtfgjehecjgebdaaGreat
