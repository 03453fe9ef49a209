/- Stamp: Check, Text. -/
import Derived.Test.YtfgjehecjgebdaaGreatMg17
import Derived.Test.YtfgjehecjgebdaaGreatMg13
import Derived.Deep.RegionHeld3
namespace Go.Proofs.YtfgjehecjgebdaaGreat
open Go.RowKit
def secV (st:Int) (mk:Nat) (d:List UInt8):Value:=.agg #[.int .i64 st,.int .u8 mk,.string (ba d)]
def secOf (s:Sec):Value:=secV s.stamp s.mark s.data
def secCheck (st:Int) (d:List UInt8):Int:=if st < 1∨1099511627776 < st then 18 else if 44 < d.length then 3 else 0
theorem StCheck_calls (st:Int) (mk:Nat) (d:List UInt8) (w:World):Calls Tryz.prog 114 #[secV st mk d] w fun e w'=>e = .returned (.int .i64 (secCheck st d))∧Kept (fun _=>False) w w':=by
 unfold secV
 have hsz:=ba_size d
 generalize ba d=s at *
 by_cases h1:st < 1
 ·have HR:Hid (secCheck st d=18):=by simp[Hid,secCheck,h1]
  have hg1:decide (st < 1)=true:=by simpa using h1
  go_enter Tryz.func114,Tryz.ntmps114
  go_wp2
  go_ret
  exact⟨by rw[HR.out];rfl,(Kept.refl _ _).alloc _⟩
 ·have hg1:decide (st < 1)=false:=by simpa using h1
  by_cases h2:1099511627776 < st
  ·have HR:Hid (secCheck st d=18):=by simp[Hid,secCheck,h2]
   have hg2:decide (1099511627776 < st)=true:=by simpa using h2
   go_enter Tryz.func114,Tryz.ntmps114
   go_wp2
   go_ret
   exact⟨by rw[HR.out];rfl,(Kept.refl _ _).alloc _⟩
  ·have hg2:decide (1099511627776 < st)=false:=by simpa using h2
   by_cases h3:44 < d.length
   ·have HR:Hid (secCheck st d=3):=by simp[Hid,secCheck,h1,h2,h3]
    have h3':44 < s.size:=by omega
    go_enter Tryz.func114,Tryz.ntmps114
    go_wp2
    go_ret
    exact⟨by rw[HR.out];rfl,(Kept.refl _ _).alloc _⟩
   ·have HR:Hid (secCheck st d=0):=by simp[Hid,secCheck,h1,h2,h3]
    have h3':s.size≤44:=by omega
    clear h3
    go_enter Tryz.func114,Tryz.ntmps114
    go_wp2
    go_ret
    exact⟨by rw[HR.out];rfl,(Kept.refl _ _).alloc _⟩
theorem RowIs.drew {w g e xs} (h:RowIs w g e xs):RowIs w.drew g e xs:=h
set_option maxRecDepth 100000 in
theorem StText_calls (s:Sec) (h1:s.stamp≤1099511627776) (hm:s.mark < 256) (hd:s.data.length≤44) (w:World) :
  Calls Tryz.prog 115 #[secOf s] w fun e w'=>e = .returned (.string (ba (secText s)))∧Kept (fun _=>False) w w':=by
 unfold secOf secV
 obtain⟨st,mk,data⟩:=s
 simp only at h1 hm hd⊢
 have HL:=Lib.hid (secHead_len (s:=⟨st,mk,data⟩) h1 hm hd)
 have HBL:=Lib.hid (secBody_len (s:=⟨st,mk,data⟩) h1 hm hd)
 obtain⟨dt,hdt⟩:∃x,x=ba data:=⟨_,rfl⟩
 rw[←hdt]
 have HDT:=Lib.hid hdt
 have HD:=Lib.hid hd
 have HM:=Lib.hid hm
 have HS1:=Lib.hid h1
 clear hdt hd hm h1
 go_enter Tryz.func115,Tryz.ntmps115
 go_wp2
 obtain⟨W,hW⟩:∃W,W=(w.alloc (.cells #[.int .i64 st,.int .u8 mk,.string dt] 132)).alloc (.cells #[.slice none 0 0] 198):=⟨_,rfl⟩
 rw[←hW]
 have hb:W.heap[w.heap.size]? = some (.cells #[.int .i64 st,.int .u8 mk,.string dt] 132 (0,0)):=by rw[hW];exact heap_old (heap_new w _) _
 have ho:IsOut W (w.heap.size + 1) (.slice none 0 0) []:=by rw[hW];exact⟨heap_newAt (by simp) _,World.ownsRow_nil _ _ _ _⟩
 have KW:Hid (Kept (fun _=>False) w W):=by rw[hW];exact((Kept.refl _ _).alloc _).alloc _
 have HO:=Lib.hid ho
 have c0:W.cell? ⟨w.heap.size,0,none⟩=some (.int .i64 st):=(cell_heap hb 0).trans rfl
 have c1:W.cell? ⟨w.heap.size,1,none⟩=some (.int .u8 mk):=(cell_heap hb 1).trans rfl
 have c2:W.cell? ⟨w.heap.size,2,none⟩=some (.string dt):=(cell_heap hb 2).trans rfl
 have hbl:=lt_heap hb
 have HBX:=Lib.hid hb
 clear hW ho hb
 have HWM:Hid (IntKind.i64.wrap (mk:Int)=mk):=by have:=HM.out;simp only[Hid];rw[IntKind.wrap_i64];omega
 have HSPL:Hid (secHead ⟨st,mk,data⟩=encNs [(st:Int),(mk:Int)] ++ encSs [data]):=rfl
 have hNl:Hid (∀x ∈ [(st:Int),(mk:Int)], -9223372036854775808≤x∧x≤9223372036854775807):=by
  have:=HS1.out;have:=HM.out
  intro x hx
  simp at hx
  rcases hx with rfl|rfl<;>omega
 have hNb:Hid ((encNs [(st:Int),(mk:Int)]).length < 1000):=by
  have:=HL.out
  rw[HSPL.out] at this
  simp only[Hid,List.length_append] at this⊢
  omega
 have hSl:Hid (∀x ∈ [data],x.length≤1000000):=by
  have:=HD.out
  intro x hx
  simp at hx
  subst hx;omega
 go_cut [] from 5 to 15 (fun wx=>∃v,OutTo W (w.heap.size + 1) (.slice none 0 0) wx v (secHead ⟨st,mk,data⟩))
 case first =>
  go_region_held3 (fun w'=>w'.cell? ⟨w.heap.size,0,none⟩=some (.int .i64 st)∧w'.cell? ⟨w.heap.size,1,none⟩=some (.int .u8 mk)∧w'.cell? ⟨w.heap.size,2,none⟩=some (.string dt)) (go_keep)
   (first
    | (go_at_call 116;rw[HWM.out];refine(N_calls (l := [(st:Int),(mk:Int)]) (HO.out.keptF (by repeat (first|exact Kept.refl _ _|refine Kept.drew ?_|refine Kept.alloc ?_ _))) (fun _=>⟨rfl,by first|exact(RowIs.newAt (by simp) _ _).drew|exact((RowIs.newAt (by simp) _ _).kept ((Kept.refl (fun _=>False) _).alloc _) id).drew⟩) hNl.out (by simp) (by simp)).mono ?_;rintro e w1 ⟨rfl,v1,h1⟩;rw[List.nil_append] at h1;have hr1:∀(g:Nat) (xs:List Value),RowIs _ g 9 xs→RowIs w1 g 9 xs:=(fun g xs hr=>hr.kept h1.kept ((HO.out.keptF (by repeat (first|exact Kept.refl _ _|refine Kept.drew ?_|refine Kept.alloc ?_ _))).neRow hr (by decide) (by decide)));have HR1:=Lib.hid hr1;have H1:=Lib.hid (OutTo.behind HO.out (by repeat (first|exact Kept.refl _ _|refine Kept.drew ?_|refine Kept.alloc ?_ _)) h1);have hx1:=H1.out.kept.heap HBX.out (by simp[Value.ownBlock]);have d0:=(cell_heap hx1 0).trans rfl;have d1:=(cell_heap hx1 1).trans rfl;have d2:=(cell_heap hx1 2).trans rfl;clear hx1 h1 hr1)
    | (go_at_call 109;refine(S_calls (l := [data]) (H1.out.out.keptF (by repeat (first|exact Kept.refl _ _|refine Kept.drew ?_|refine Kept.alloc ?_ _))) (fun _=>⟨rfl,by first|(rw[HDT.out];exact RowIs.newAt (by simp) [.string (ba data)] _)|(refine HR1.out _ _ ?_;rw[HDT.out];first|exact(RowIs.newAt (by simp) [.string (ba data)] _).drew|exact((RowIs.newAt (by simp) [.string (ba data)] _).kept ((Kept.refl (fun _=>False) _).alloc _) id).drew)⟩) hSl.out (by simp) (by have:=hNb.out;omega)).mono ?_;rintro e w2 ⟨rfl,v2,h2⟩;have H2:=Lib.hid (H1.out.trans (OutTo.behind H1.out.out (by repeat (first|exact Kept.refl _ _|refine Kept.drew ?_|refine Kept.alloc ?_ _)) h2));have hx2:=H2.out.kept.heap HBX.out (by simp[Value.ownBlock]);have e0:=(cell_heap hx2 0).trans rfl;have e1:=(cell_heap hx2 1).trans rfl;have e2:=(cell_heap hx2 2).trans rfl;clear hx2 h2))
  all_goals (try go_wp2_with fail)
  all_goals go_meet
  all_goals exact⟨v2,by rw[HSPL.out];exact H2.out⟩
 case rest =>
  obtain⟨v3,h3⟩:=hcut
  have K3:Hid (Kept (fun _=>False) w wc):=by
   have hwl:=KW.out.size
   exact KW.out.then h3.kept (by rintro i hi (e|e);omega;simp[Value.ownBlock] at e)
  have c3:=OutText_calls h3.out
  obtain⟨b,hb⟩:∃b,b=ba (secHead ⟨st,mk,data⟩):=⟨_,rfl⟩
  have hbs:b.size=(secHead ⟨st,mk,data⟩).length:=by rw[hb,ba_size]
  rw[←hb] at c3
  obtain⟨m,hm⟩:∃m,m=60 - b.size:=⟨_,rfl⟩
  have hle:=HL.out
  have hm1:(60:Int) - b.size=m:=by omega
  have hb60:b.size≤60:=by omega
  obtain⟨O,hmk,hcv⟩:=run_zeros m (by omega)
  have hmk':∀w:World,(Instr.makeSlice 177 (.int .i64 (60 - (b.size:Int))) (.int .i64 (60 - (b.size:Int)))).run Tryz.prog w = .ok (.slice (some ⟨w.heap.size,0,none⟩) m m) (w.alloc O):=by rw[hm1];exact hmk
  have HP:Hid (b ++ ba (List.replicate m 0)=ba (secBody ⟨st,mk,data⟩)):=by
   simp only[Hid,secBody,padTo];rw[ba_append,hm,hbs,hb]
  obtain⟨p,hp⟩:∃p,p=secBody ⟨st,mk,data⟩:=⟨_,rfl⟩
  have hpl:p.length=60:=by rw[hp];exact HBL.out
  have HF:Hid (secText ⟨st,mk,data⟩=le4 (crcOf p) ++ p):=by rw[hp];rfl
  rw[←hp] at HP
  have HPL:=Lib.hid hpl;have HB:=Lib.hid hb;have HBS:=Lib.hid hbs
  have hzs:b.size + (ba (List.replicate m 0)).size≤1000:=by rw[ba_size];simp;omega
  have C3:=Lib.hid c3
  clear hmk hm hm1 hp hpl hb hbs hle h3 c3 c0 c1 c2
  go_wp2_with fail
  refine C3.out.mono ?_
  rintro e w2 ⟨rfl,rfl⟩
  go_wp2_with fail
  rw[HP.out]
  refine(Of_calls p (heap_newAt (by simp) _) (by have:=HPL.out;omega)).mono ?_
  rintro e w3 ⟨rfl,k3⟩
  have K4:Hid (Kept (fun _=>False) w w3):=((((K3.out).alloc _).alloc _).trans k3)
  have c4:=Lib.hid (Bytes_calls (crcOf p) (crcOf_lt p) w3)
  have HPS:Hid ((ba (le4 (crcOf p))).size + (ba p).size≤1000):=by simp only[Hid];rw[ba_size,ba_size,HPL.out];simp[le4_len]
  clear k3
  go_wp2_with fail
  refine c4.out.mono ?_
  rintro e w4 ⟨rfl,k4⟩
  have hps:=HPS.out
  go_wp2_with fail
  go_ret
  exact⟨by rw[HF.out,ba_append];rfl,K4.out.trans k4⟩
end Go.Proofs.YtfgjehecjgebdaaGreat
