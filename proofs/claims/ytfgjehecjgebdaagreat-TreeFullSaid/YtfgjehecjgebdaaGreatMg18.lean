/- Pages: full: a page's bytes. -/
import Derived.Test.YtfgjehecjgebdaaGreatMg14
import Derived.Test.YtfgjehecjgebdaaGreatMg10
namespace Go.Proofs.YtfgjehecjgebdaaGreat
open Go.RowKit
def padTo (k:Nat) (l:List UInt8):List UInt8:=l ++ List.replicate (k - l.length) 0
def summed (l:List UInt8):List UInt8:=le4 (crcOf l) ++ l
def fullB (t:List UInt8):List UInt8:=summed (padTo 252 (encS t))
theorem encS_one (t:List UInt8):encSs [t]=encS t:=by simp[encSs]
theorem encS_len (t:List UInt8) (h:t.length < 256):(encS t).length≤t.length + 2:=by
 simp only[encS,List.length_append,encU_len]
 have:=nb_le t.length 1 (by omega)
 omega
theorem padTo_len (k:Nat) (l:List UInt8) (h:l.length≤k):(padTo k l).length=k:=by simp[padTo];omega
theorem fullB_len (t:List UInt8) (h:t.length≤248):(fullB t).length=256:=by
 have:=encS_len t (by omega)
 simp only[fullB,summed,List.length_append,le4_len,padTo_len 252 (encS t) (by omega)]
set_option maxRecDepth 100000 in
theorem full_calls (t:List UInt8) (ht:t.length≤248) (w:World):Calls Tryz.prog 69 #[.string (ba t)] w fun e w'=>e = .returned (.string (ba (fullB t)))∧Kept (fun _=>False) w w':=by
 have hout:IsOut (w.alloc (.cells #[.slice none 0 0] 198)) w.heap.size (.slice none 0 0) []:=⟨heap_new w _,World.ownsRow_nil _ _ _ _⟩
 have HOUT:=Lib.hid hout;clear hout
 have h250:=encS_len t (by omega)
 obtain⟨b,hb⟩:∃b,b=ba (encS t):=⟨_,rfl⟩
 have hbs:b.size=(encS t).length:=by rw[hb,ba_size]
 obtain⟨m,hm⟩:∃m,m=252 - b.size:=⟨_,rfl⟩
 have hm1:(252:Int) - b.size=m:=by omega
 have hb252:b.size≤252:=by omega
 obtain⟨O,hmk,hcv⟩:=run_zeros m (by omega)
 have hmk':∀w:World,(Instr.makeSlice 177 (.int .i64 (252 - (b.size:Int))) (.int .i64 (252 - (b.size:Int)))).run Tryz.prog w = .ok (.slice (some ⟨w.heap.size,0,none⟩) m m) (w.alloc O):=by rw[hm1];exact hmk
 have HP:Hid (b ++ ba (List.replicate m 0)=ba (padTo 252 (encS t))):=by
  simp only[Hid,padTo];rw[ba_append,hm,hbs,hb]
 obtain⟨p,hp⟩:∃p,p=padTo 252 (encS t):=⟨_,rfl⟩
 have hpl:p.length=252:=by rw[hp];exact padTo_len _ _ (by omega)
 have HF:Hid (fullB t=le4 (crcOf p) ++ p):=by rw[hp];rfl
 rw[←hp] at HP
 have HPL:=Lib.hid hpl;have HB:=Lib.hid hb;have HBS:=Lib.hid hbs
 have hzs:b.size + (ba (List.replicate m 0)).size≤1000:=by rw[ba_size];simp;omega
 obtain⟨s,hs⟩:∃s,s=ba t:=⟨_,rfl⟩
 rw[←hs]
 have HS:=Lib.hid hs
 clear hmk hm hm1 hp hpl hb hbs h250 hs
 go_enter Tryz.func69,Tryz.ntmps69
 go_wp2_with fail
 refine(S_calls (l := [t]) (HOUT.out.keptF ((Kept.refl _ _).alloc _)) (fun _=>⟨rfl,by rw[HS.out];exact RowIs.newAt (by simp) [.string (ba t)] _⟩) (by intro x hx;simp at hx;subst hx;omega) (by simp) (by simp)).mono ?_
 rintro e w1 ⟨rfl,v1,h1⟩
 rw[encS_one,List.nil_append] at h1
 have K1:Hid (Kept (fun _=>False) w w1):=by
  have k0:Kept (fun _=>False) w (w.alloc (.cells #[.slice none 0 0] 198)):=(Kept.refl _ _).alloc _
  have h:=OutTo.behind HOUT.out ((Kept.refl _ _).alloc _) h1
  exact k0.then h.kept (by rintro i hi (e|e);omega;simp[Value.ownBlock] at e)
 have c2:=OutText_calls h1.out
 rw[←HB.out] at c2
 have C2:=Lib.hid c2;clear c2 h1
 go_wp2_with fail
 refine C2.out.mono ?_
 rintro e w2 ⟨rfl,rfl⟩
 go_wp2_with fail
 rw[HP.out]
 refine(Of_calls p (heap_newAt (by simp) _) (by have:=HPL.out;omega)).mono ?_
 rintro e w3 ⟨rfl,k3⟩
 have K3:Hid (Kept (fun _=>False) w w3):=((((K1.out).alloc _).alloc _).trans k3)
 have c4:=Lib.hid (Bytes_calls (crcOf p) (crcOf_lt p) w3)
 have HPS:Hid ((ba (le4 (crcOf p))).size + (ba p).size≤1000):=by simp only[Hid];rw[ba_size,ba_size,HPL.out];simp[le4_len]
 clear k3
 go_wp2_with fail
 refine c4.out.mono ?_
 rintro e w4 ⟨rfl,k4⟩
 have hps:=HPS.out
 go_wp2_with fail
 go_ret
 exact⟨by rw[HF.out,ba_append];rfl,K3.out.trans k4⟩
end Go.Proofs.YtfgjehecjgebdaaGreat
