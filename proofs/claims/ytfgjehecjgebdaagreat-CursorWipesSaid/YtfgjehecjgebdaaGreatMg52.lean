/- The laws of 10: awake. -/
import Derived.Test.YtfgjehecjgebdaaGreatMg48
import Derived.Test.YtfgjehecjgebdaaGreatMg51
import Derived.Test.YtfgjehecjgebdaaGreatMg50
namespace Go.Proofs.YtfgjehecjgebdaaGreat
open Go.RowKit Go.Maps Go.ChangeMaps
attribute [local go_sem] Oper.semAt_some
theorem aw10:(upto [98] (fromE (buildE (fun _=>0) (fun i=>if i=0 then ⟨#[97]⟩ else ⟨#[98]⟩) (fun i=>if i=0 then ⟨#[120]⟩ else ⟨#[]⟩) 2) [])).take 9 = [([97], [120])]:=by decide +kernel
set_option maxRecDepth 100000 in
set_option maxHeartbeats 4000000 in
theorem awake10_calls (w:World):Calls Tryz.prog 46 #[] w fun e w'=>e = .returned (.bool true)∧Kept (fun _=>False) w w':=by
 have HA:=Lib.hid aw10
 obtain⟨W,hW⟩:∃W,W=w.alloc (.cells #[.int .i64 0,.int .i64 0,.string ⟨#[97]⟩,.string ⟨#[120]⟩,.int .i64 0,.int .i64 0,.string ⟨#[98]⟩,.string ⟨#[]⟩] 72):=⟨_,rfl⟩
 have HW:=Lib.hid hW
 have hb:W.heap[w.heap.size]? = some (.cells #[.int .i64 0,.int .i64 0,.string ⟨#[97]⟩,.string ⟨#[120]⟩,.int .i64 0,.int .i64 0,.string ⟨#[98]⟩,.string ⟨#[]⟩] 72 (0,0)):=by rw[hW];exact heap_new w _
 have KW:Hid (Kept (fun _=>False) w W):=by rw[hW];exact(Kept.refl _ _).alloc _
 have HAC:Acts4 W (some ⟨w.heap.size,0,none⟩) 2 w.heap.size 0 (fun _=>0) (fun _=>0) (fun i=>if i=0 then ⟨#[97]⟩ else ⟨#[98]⟩) (fun i=>if i=0 then ⟨#[120]⟩ else ⟨#[]⟩):=by
  refine⟨fun _=>rfl,fun _=>lt_heap hb,fun i hi=>?_,fun i hi=>?_,fun i hi=>⟨by decide,by decide⟩⟩
  ·simp only[cell_heap hb]
   rcases i with _|_|i
   ·exact⟨rfl,rfl,rfl,rfl⟩
   ·exact⟨rfl,rfl,rfl,rfl⟩
   ·omega
  ·rcases i with _|_|i
   ·exact⟨by decide,by decide⟩
   ·exact⟨by decide,by decide⟩
   ·omega
 have CB:=Lib.hid (Build_calls (cap:=2) (by unfold maxLen;omega) HAC)
 rw[show min 2 60=2 from rfl] at CB
 obtain⟨E,hE⟩:∃E,E=buildE (fun _=>0) (fun i=>if i=0 then (⟨#[97]⟩:ByteArray) else ⟨#[98]⟩) (fun i=>if i=0 then (⟨#[120]⟩:ByteArray) else ⟨#[]⟩) 2:=⟨_,rfl⟩
 rw[←hE] at HA CB
 have HEL:Hid (E.length≤2):=by show _≤_;rw[hE];exact buildE_len _ _ _ _
 have CV:=Lib.hid (fun w=>Above_calls [97,255] (by simp) w)
 clear hb HAC hE
 go_enter Tryz.func46,Tryz.ntmps46
 go_wp2_with fail
 rw[←hW]
 clear hW
 refine CB.out.mono ?_
 rintro e w2 ⟨q,l,X,root,rfl,tw,te,el,hq, -,k2⟩
 have K2:=Lib.hid (KW.out.trans k2)
 have CR:=Lib.hid (CurRange_calls tw te.ti (by have:=HEL.out;omega) [] [98] 9)
 rw[show(9:Int).toNat=9 from rfl,HA.out] at CR
 clear tw te el hq k2 CB
 go_wp2_with fail
 refine CR.out.mono ?_
 rintro e w3 ⟨v3,rfl,r3,k3⟩
 have K3:=Lib.hid (K2.out.trans k3)
 obtain⟨g,off,c,rfl,hg,p1,p2⟩:=r3.en.at (j:=0) (by simp)
 have x1:w3.cell? ⟨g,off,none⟩=some (.string ⟨#[97]⟩):=by rw[Nat.zero_mul,Nat.add_zero] at p1;exact p1
 have x2:w3.cell? ⟨g,off + 1,none⟩=some (.string ⟨#[120]⟩):=by rw[Nat.zero_mul,Nat.add_zero] at p2;exact p2
 rw[show [(([97]:Bs),([120]:Bs))].length=1 from rfl]
 have CV2:=Lib.hid (CV.out w3)
 rw[show ba [97,255]=⟨#[97,255]⟩ from rfl,show ba (abv [97,255])=⟨#[98]⟩ from rfl] at CV2
 clear p1 p2 r3 k3 CR CV
 go_wp2_with fail
 refine CV2.out.mono ?_
 rintro e w4 ⟨rfl,k4⟩
 have K4:=Lib.hid (K3.out.trans k4)
 clear k4 CV2 x1 x2
 go_wp2
 refine bodyPost_ret (v:=.bool true) (by simp[results,Tryz.f46,go_sem]) rfl ?_
 exact⟨rfl,K4.out⟩
end Go.Proofs.YtfgjehecjgebdaaGreat
