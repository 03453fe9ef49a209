/- Stamp: Read, Write. -/
import Derived.Test.YtfgjehecjgebdaaGreatMg21
import Derived.Test.YtfgjehecjgebdaaGreatMg12
import Derived.Test.YtfgjehecjgebdaaGreatMg19
namespace Go.Proofs.YtfgjehecjgebdaaGreat
open Go.RowKit
theorem secCheck_good {s:Sec} (h:s.Good):secCheck s.stamp s.data=0:=by
 have:=h.one;have:=h.most;have:=h.data
 simp only[secCheck]
 rw[if_neg (by omega),if_neg (by omega)]
set_option maxRecDepth 100000 in
theorem StWrite_calls {w d vs vc D} (h:IsDev w d vs vc D) (a:Int) (s:Sec) (hs:s.Good) (hcl:D.cache.length≤1000000) :
  Calls Tryz.prog 72 #[.pointer (some ⟨d,0,none⟩),.int .i64 a,secOf s] w (WritePost w d vs vc (D.write a (secText s))):=by
 have HG:=Lib.hid hs
 have H:=Lib.hid h
 obtain⟨st,mk,data⟩:=s
 have HCK:Hid (∀W,Calls Tryz.prog 114 #[.agg #[.int .i64 st,.int .u8 mk,.string (ba data)]] W fun e w'=>e = .returned (.int .i64 0)∧Kept (fun _=>False) W w'):=fun W=>by
  have:=StCheck_calls st mk data W
  rw[secCheck_good hs] at this
  exact this
 have HTX:Hid (∀W,Calls Tryz.prog 115 #[.agg #[.int .i64 st,.int .u8 mk,.string (ba data)]] W fun e w'=>e = .returned (.string (ba (secText ⟨st,mk,data⟩)))∧Kept (fun _=>False) W w'):=fun W=>StText_calls ⟨st,mk,data⟩ hs.most hs.mark hs.data W
 have HWR:Hid (∀W,Kept (fun _=>False) w W→Calls Tryz.prog 70 #[.pointer (some ⟨d,0,none⟩),.int .i64 a,.string (ba (secText ⟨st,mk,data⟩))] W (WritePost W d vs vc (D.write a (secText ⟨st,mk,data⟩)))):=fun W hW=>DevWrite_calls (h.keptF hW) a _ hcl
 clear h hs
 unfold secOf secV
 simp only
 generalize ba data=dt at *
 generalize secText ⟨st,mk,data⟩=tx at *
 go_enter Tryz.func72,Tryz.ntmps72
 go_wp2_with fail
 obtain⟨W,hW⟩:∃W,W=w.alloc (.cells #[.int .i64 st,.int .u8 mk,.string dt] 132):=⟨_,rfl⟩
 rw[←hW]
 have hb:W.heap[w.heap.size]? = some (.cells #[.int .i64 st,.int .u8 mk,.string dt] 132 (0,0)):=by rw[hW];exact heap_new w _
 have KW:Hid (Kept (fun _=>False) w W):=by rw[hW];exact(Kept.refl _ _).alloc _
 clear hW
 refine(HCK.out W).mono ?_
 rintro e w1 ⟨rfl,k1⟩
 have hb1:=k1.heap hb id
 have b0:w1.cell? ⟨w.heap.size,0,none⟩=some (.int .i64 st):=(cell_heap hb1 0).trans rfl
 have b1:w1.cell? ⟨w.heap.size,1,none⟩=some (.int .u8 mk):=(cell_heap hb1 1).trans rfl
 have b2:w1.cell? ⟨w.heap.size,2,none⟩=some (.string dt):=(cell_heap hb1 2).trans rfl
 have K1:Hid (Kept (fun _=>False) w w1):=KW.out.trans k1
 clear k1 hb hb1
 go_wp2_with fail
 refine(HTX.out w1).mono ?_
 rintro e w2 ⟨rfl,k2⟩
 have K2:Hid (Kept (fun _=>False) w w2):=K1.out.trans k2
 clear k2
 go_wp2_with fail
 refine(HWR.out w2 K2.out).mono ?_
 rintro e w3 ⟨rfl,vc3,h3⟩
 have H3:Hid (DevTo w d vs vc w3 vc3 (D.write a tx).2):=DevTo.behind H.out K2.out h3
 clear h3
 go_wp2_with fail
 go_ret
 exact⟨rfl,vc3,H3.out⟩
end Go.Proofs.YtfgjehecjgebdaaGreat
