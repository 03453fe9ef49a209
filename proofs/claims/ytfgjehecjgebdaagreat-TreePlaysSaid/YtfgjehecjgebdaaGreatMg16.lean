/- Device: Write. -/
import Derived.Test.YtfgjehecjgebdaaGreatMg13
import Derived.Test.YtfgjehecjgebdaaGreatMg11
namespace Go.Proofs.YtfgjehecjgebdaaGreat
open Go.RowKit
theorem und_writes:Tryz.prog.underlying 134=some (.slice 138):=by kernel_rfl
theorem info_write:(Tryz.prog.info? 138).map (fun i=>(i.zero,i.size,i.bytes))=some (some (.agg #[.int .i64 0,.string ⟨#[]⟩]),2,24):=by kernel_rfl
theorem pad64_ba (t:List UInt8):ba t ++ (ba zero64).extract (ba t).size 64=ba (pad64 t):=by
 have:(ba zero64).extract (ba t).size 64=ba (List.replicate (64 - t.length) 0):=by
  have h:=ba_extractn zero64 (ba t).size
  rw[ba_size zero64,show zero64.length=64 from rfl] at h
  rw[h,ba_size]
  unfold zero64
  rw[List.drop_replicate]
 rw[this, ←ba_append];rfl
def WritePost (w:World) (d:Nat) (vs vc:Value) (r:Int×Dev) (e:Ending) (w':World):Prop :=
 e = .returned (.int .i64 r.1) ∧ ∃vc',DevTo w d vs vc w' vc' r.2
theorem write_step {w wr d vs vc D W w1 v1} {p:Nat×List UInt8} (h:DevTo w d vs vc wr vc D) (hp:p.1 < D.secs.length∧p.2.length=64) (k0:Kept (fun _=>False) wr W)
  (hown:w1.ownsRow 0 138 2 v1 (D.cache.length + 1) (wrs D.cache ++ Wr p)) (hg:W.grownBy w1 vc.ownBlock) (hat:v1.ownBlock=vc.ownBlock∨v1.ownBlock=some W.heap.size) :
  w1.cell? ⟨d,1,none⟩=some vc∧w1.frozen? ⟨d,1,none⟩=false∧DevTo w d vs vc (w1.setCell ⟨d,1,none⟩ v1) v1 { D with cache:=D.cache ++ [p] } := by
 obtain⟨c,hh⟩:=h.dev.head
 have hne1:vs.ownBlock ≠ some d:=fun e=>by obtain⟨cs,f,hg⟩:=own_type h.dev.secs e;exact ne_type hg hh (by decide) rfl
 have hne2:vc.ownBlock ≠ some d:=fun e=>by obtain⟨cs,f,hg⟩:=own_type h.dev.cache e;exact ne_type hg hh (by decide) rfl
 have hne3:∀g,vs.ownBlock=some g → ¬vc.ownBlock=some g:=fun g e1 e2=>by
  obtain⟨cs,f,hg⟩:=own_type h.dev.secs e1
  obtain⟨cs',f',hg'⟩:=own_type h.dev.cache e2
  exact ne_type hg hg' (by decide) rfl
 have h0:=k0.heap hh id
 have h1:=(hg.block _ (lt_heap h0) (fun e=>hne2 e.symm)).trans h0
 have hk1:Kept (fun k=>k=d∨vc.ownBlock=some k) wr w1:=(k0.mono fun _ _ f=>f.elim).grown hg fun k hk=>.inl (.inr hk)
 have hk2:Kept (fun k=>k=d∨vc.ownBlock=some k) wr (w1.setCell ⟨d,1,none⟩ v1):=hk1.setCell (.inl (.inl rfl)) _
 have hne:v1.ownBlock ≠ some (⟨d,1,none⟩:Addr).block:=by
  rcases hat with e|e
  ·rw[e];exact hne2
  ·rw[e];intro e2;simp at e2
   have:=lt_heap h0
   omega
 refine⟨(cell_heap h1 1).trans rfl,free_heap h1 1,h.trans ⟨⟨⟨c,by rw[heap_set h1];rfl⟩,?_,?_,?_⟩,hk2.mono ?_,?_⟩⟩
 ·exact hk2.own h.dev.secs (fun g hg=>by rintro(rfl|e);exact hne1 hg;exact hne3 g hg e)
 ·have:=ownsRow_setCell_other hown (a:=⟨d,1,none⟩) hne v1
  simp only[List.length_append,List.length_cons,List.length_nil,wrs,List.flatMap_append,List.flatMap_cons,List.flatMap_nil,List.append_nil] at this⊢
  exact this
 ·have g:=h.dev.good
  exact⟨g.one,g.most,g.secs,by
   intro q hq
   simp only[List.mem_append,List.mem_singleton] at hq
   rcases hq with hq|rfl
   ·exact g.cache q hq
   ·exact hp,g.left⟩
 ·rintro k _ (e|e)
  ·exact .inl e
  ·exact .inr (.inr e)
 ·intro k hk
  rcases hat with e|e
  ·rw[e] at hk;exact .inl hk
  ·rw[e] at hk;simp at hk;subst hk;exact .inr k0.size
set_option maxRecDepth 100000 in
theorem DevWrite_calls {w d vs vc D} (h:IsDev w d vs vc D) (a:Int) (t:List UInt8) (hcl:D.cache.length≤1000000) :
  Calls Tryz.prog 70 #[.pointer (some ⟨d,0,none⟩),.int .i64 a,.string (ba t)] w (WritePost w d vs vc (D.write a t)):=by
 obtain⟨c,hh⟩:=h.head
 have hc0:w.cell? ⟨d,0,none⟩=some vs:=(cell_heap hh 0).trans rfl
 obtain⟨g,cap,rfl⟩:=own_form h.secs h.good.one
 have H:=Lib.hid h
 obtain⟨s,hs⟩:∃s,s=ba t:=⟨_,rfl⟩
 have hsz:s.size=t.length:=by rw[hs,ba_size]
 by_cases hbad:a < 0∨(D.secs.length:Int)≤a∨64 < t.length
 ·have HR:Hid (D.write a t=(4,D)):=by simp[Hid,Dev.write,hbad]
  rw[←hs]
  clear h hh hs
  by_cases h1:a < 0
  ·go_enter Tryz.func70,Tryz.ntmps70
   go_wp2
   go_ret
   exact⟨by rw[HR.out];rfl,_,by rw[HR.out];exact DevTo.refl H.out⟩
  ·by_cases h2:(D.secs.length:Int)≤a
   ·have h1':0≤a:=by omega
    go_enter Tryz.func70,Tryz.ntmps70
    go_wp2
    go_ret
    exact⟨by rw[HR.out];rfl,_,by rw[HR.out];exact DevTo.refl H.out⟩
   ·have h3:64 < s.size:=by omega
    have h1':0≤a:=by omega
    have h2':a < D.secs.length:=by omega
    clear h2 h1 hbad
    go_enter Tryz.func70,Tryz.ntmps70
    go_wp2
    go_ret
    exact⟨by rw[HR.out];rfl,_,by rw[HR.out];exact DevTo.refl H.out⟩
 ·obtain⟨i,rfl⟩:=Int.eq_ofNat_of_zero_le (show 0≤a by omega)
  have hi:i < D.secs.length:=by omega
  have ht:s.size≤64:=by omega
  have HC:=Lib.hid (DevCall_calls h)
  have HR:Hid (D.write i t=if D.call.1 then (0, { D.call.2 with cache:=D.cache ++ [(i,pad64 t)] }) else (16,D.call.2)):=by
   simp only[Hid,Dev.write,if_neg hbad];simp
  have HP:Hid (s ++ (ba zero64).extract s.size 64=ba (pad64 t)):=by rw[hs];exact pad64_ba t
  have HT:=Lib.hid (pad64_len t (by omega))
  obtain⟨z,hz⟩:∃z,z=ba zero64:=⟨_,rfl⟩
  have hz64:z.size=64:=by rw[hz,ba_size];rfl
  rw[←hz] at HP
  have HZ0:=Lib.hid hz
  rw[←hs]
  obtain⟨O,Z⟩:=zeros_calls
  rw[←hz] at Z
  have HZ:=Lib.hid Z
  have HS:=Lib.hid hs
  clear h hh hs hsz hbad hz Z
  go_enter Tryz.func70,Tryz.ntmps70
  go_wp2_with fail
  refine HC.out.mono ?_
  rintro e w1 ⟨rfl,hto,hsz1⟩
  have HTO:=Lib.hid hto;clear hto hsz1
  cases hcall:D.call.1 with
  | false =>
   rw[hcall] at HR
   have HCL:=Lib.hid hcall;clear hcall
   go_wp2_with fail
   go_ret
   exact⟨by rw[HR.out];rfl,_,by rw[HR.out];exact HTO.out⟩
  | true =>
   rw[hcall] at HR
   have HCL:=Lib.hid hcall;clear hcall
   obtain⟨c1,hh1⟩:=HTO.out.dev.head
   have hcc:w1.cell? ⟨d,1,none⟩=some vc:=(cell_heap hh1 1).trans rfl
   have hdl:=lt_heap hh1
   have HCA:Hid (D.call.2.cache=D.cache):=call_cache D
   have HSE:Hid (D.call.2.secs=D.secs):=call_secs D
   clear hh1
   have ho:w1.ownsRow 0 138 2 vc D.cache.length (wrs D.cache):=by have:=HTO.out.dev.cache;rw[HCA.out] at this;exact this
   have HO:=Lib.hid ho;clear ho
   go_wp2_with fail
   go_region_law (first
    | (refine step_call (args := #[]) rfl zeros_enters rfl (by simp) (HZ.out _) ?_;rintro e w' ⟨rfl,rfl⟩;refine⟨_,rfl,?_⟩)
    | (refine step_many (v:=vc) rfl (.tmp 32) (.tmp 41) rfl und_writes info_write rfl (by omega) rfl ((HO.out.alloc _).alloc _).drew (w1.heap.size + 1 + 1) rfl (reads_new2 (w:=w1.alloc O) (by simp) (.int .i64 i) (.string (s ++ z.extract s.size 64)) _).drew (by rw[HP.out];exact wrs_one [(i,pad64 t)]) (by unfold maxLen;omega) (by omega) ?_;intro v2 w2 hown2 hg2 hat2;have R:=write_step (p:=(i,pad64 t)) HTO.out (by rw[HSE.out];exact⟨hi,HT.out⟩) (((Kept.refl _ w1).alloc O).alloc _).drew (by rw[HP.out] at hown2;rw[HCA.out];exact hown2) hg2 hat2;obtain⟨g2,cap2,rfl⟩:=own_form2 hown2 (by omega);have hc2:=R.1;have hf2:=R.2.1;have HR2:=Lib.hid R.2.2;clear R hown2 hg2 hat2))
   all_goals
    go_wp2
    go_ret
    exact⟨by rw[HR.out];rfl,_,by rw[HR.out];rw[HCA.out] at HR2;exact HR2.out⟩
end Go.Proofs.YtfgjehecjgebdaaGreat
/- Device: Flush, Crash. -/
namespace Go.Proofs.YtfgjehecjgebdaaGreat
open Go.RowKit
theorem own_any {w:World} {base:Nat} {e:TypeId} {size:Nat} {v:Value} {n:Nat} {xs:List Value} (h:w.ownsRow base e size v n xs):∃A cap,v = .slice A n cap∧(0 < n → ∃g,A=some ⟨g,0,none⟩):=by
 rcases h.2 with⟨rfl,rfl⟩|⟨g,cap,_,hv,_⟩
 ·exact⟨none,0,rfl,by omega⟩
 ·exact⟨_,cap,hv,fun _=>⟨g,rfl⟩⟩
theorem sec_step {w d vc D g cap n} (h:IsDev w d (.slice (some ⟨g,0,none⟩) n cap) vc D) (i:Nat) (t:List UInt8) (ht:t.length=64) :
  DevTo w d (.slice (some ⟨g,0,none⟩) n cap) vc (w.setCell ⟨g,i,none⟩ (.string (ba t))) vc { D with secs:=D.secs.set i t } := by
 obtain⟨c,hh⟩:=h.head
 have hne1:g ≠ d:=by obtain⟨cs,f,hg⟩:=own_type h.secs (g:=g) rfl;exact ne_type hg hh (by decide)
 have hne3:¬vc.ownBlock=some g:=fun e2=>by
  obtain⟨cs,f,hg⟩:=own_type h.secs (g:=g) rfl
  obtain⟨cs',f',hg'⟩:=own_type h.cache e2
  exact ne_type hg hg' (by decide) rfl
 have hk:Kept (· = g) w (w.setCell ⟨g,i,none⟩ (.string (ba t))):=(Kept.refl _ _).set1 _ _
 have hn:n=D.secs.length:=by
  have:=h.secs.form (by have:=h.good.one;omega)
  obtain⟨_,_,e,_⟩:=this
  injection e
 subst hn
 refine⟨⟨⟨c,hk.heap hh (fun e=>hne1 e.symm)⟩,?_,hk.own h.cache (fun k hk' e=>hne3 (e ▸ hk')),?_⟩,hk.mono fun k _ e=>.inr (.inl (by rw[e];rfl)),fun k hk=>.inl hk⟩
 ·have:=(h.secs.stored i (Ss t)).1
  simp only[List.length_set,List.map_set]
  exact this
 ·have gd:=h.good
  exact⟨by simpa using gd.one,by simpa using gd.most,by
   intro x hx
   rcases List.mem_or_eq_of_mem_set hx with h'|h'
   ·exact gd.secs x h'
   ·rw[h'];exact ht,by simpa using gd.cache,gd.left⟩
theorem cache_cells {w d vs A n cap D} (h:IsDev w d vs (.slice A n cap) D) {C:List (Nat×List UInt8)} (hC:D.cache=C) (k:Nat) (hk:k < C.length):∃g,A=some ⟨g,0,none⟩∧w.cell? ⟨g,k * 2,none⟩=some (.int .i64 C[k].1)∧w.cell? ⟨g,k * 2 + 1,none⟩=some (.string (ba C[k].2))∧g < w.heap.size:=by
 subst hC
 obtain⟨g,cap',e,_,hlt⟩:=h.cache.form (by omega)
 injection e with e1 e2 e3
 subst e1
 have hw:=wrs_at D.cache k hk
 have hc:=h.cache.cells (g:=g) rfl
 have c1:=hc _ _ hw.1
 have c2:=hc _ _ hw.2
 rw[Addr.add_lit,Nat.zero_add] at c1 c2
 exact⟨g,rfl,c1,c2,hlt⟩
theorem cache_off {w d vs vc D} (h:IsDev w d vs vc D):DevTo w d vs vc (w.setCell ⟨d,1,none⟩ (.slice none 0 0)) (.slice none 0 0) { D with cache := [] } := by
 obtain⟨c,hh⟩:=h.head
 have hne1:vs.ownBlock ≠ some d:=fun e=>by obtain⟨cs,f,hg⟩:=own_type h.secs e;exact ne_type hg hh (by decide) rfl
 have hk:Kept (· = d) w (w.setCell ⟨d,1,none⟩ (.slice none 0 0)):=(Kept.refl _ _).set1 _ _
 have gd:=h.good
 exact⟨⟨⟨c,by rw[heap_set hh];rfl⟩,hk.own h.secs (fun g hg e=>hne1 (e ▸ hg)),World.ownsRow_nil _ _ _ _,⟨gd.one,gd.most,gd.secs,by simp,gd.left⟩⟩,hk.mono fun _ _ e=>.inl e,by simp[Value.ownBlock]⟩
set_option maxRecDepth 100000 in
theorem DevFlush_calls {w d vs vc D} (h:IsDev w d vs vc D) (hcl:D.cache.length≤1000000) :
  Calls Tryz.prog 71 #[.pointer (some ⟨d,0,none⟩)] w (WritePost w d vs vc D.flush):=by
 obtain⟨gs,caps,rfl⟩:=own_form h.secs h.good.one
 obtain⟨A,capc,rfl,_⟩:=own_any h.cache
 have HC:=Lib.hid (DevCall_calls h)
 have HCA:Hid (D.call.2.cache=D.cache):=call_cache D
 have HSE:Hid (D.call.2.secs=D.secs):=call_secs D
 have HG:=Lib.hid h.good
 clear h
 cases hcall:D.call.1 with
 | false =>
  have HR:Hid (D.flush=(16,D.call.2)):=by simp[Hid,Dev.flush,hcall]
  rw[hcall] at HC
  clear hcall
  go_enter Tryz.func71,Tryz.ntmps71
  go_wp2_with fail
  refine HC.out.mono ?_
  rintro e w1 ⟨rfl,hto,hsz1⟩
  have HTO:=Lib.hid hto;clear hto hsz1
  go_wp2_with fail
  go_ret
  exact⟨by rw[HR.out];rfl,_,by rw[HR.out];exact HTO.out⟩
 | true =>
  have HR:Hid (D.flush=(0, { D.call.2 with secs:=settle D.secs D.cache,cache := [] })):=by simp[Hid,Dev.flush,hcall]
  rw[hcall] at HC
  clear hcall
  go_enter Tryz.func71,Tryz.ntmps71
  go_wp2_with fail
  refine HC.out.mono ?_
  rintro e w1 ⟨rfl,hto,hsz1⟩
  obtain⟨c1,hh1⟩:=hto.dev.head
  have hcc:w1.cell? ⟨d,1,none⟩=some (.slice A D.cache.length capc):=(cell_heap hh1 1).trans rfl
  have HTO:=Lib.hid hto;clear hto hsz1 hh1
  go_wp2_with fail
  go_loopw [13] (fun i wr=>∃k:Nat,k≤D.cache.length∧i = .int .i64 k∧DevTo w d (.slice (some ⟨gs,0,none⟩) D.secs.length caps) (.slice A D.cache.length capc) wr (.slice A D.cache.length capc) { D.call.2 with secs:=settle D.secs (D.cache.take k) }) (fun i _=>D.cache.length - (intOf i).toNat)
  case atStart =>
   refine⟨0,Nat.zero_le _,rfl,?_⟩
   have e:({ D.call.2 with secs:=settle D.secs (D.cache.take 0) } : Dev)=D.call.2:=by
    have:=HSE.out
    simp only[List.take_zero,settle,List.foldl_nil]
    rw[←this]
   rw[e];exact HTO.out
  case round =>
   obtain⟨k,hk,rfl,hD⟩:=hrel
   obtain⟨c2,hh2⟩:=hD.dev.head
   by_cases hlt:k < D.cache.length
   ·obtain⟨g,rfl,hx1,hx2,hgl⟩:=cache_cells hD.dev (C:=D.cache) HCA.out k hlt
    have hp:=HG.out.cache D.cache[k] (List.getElem_mem _)
    have HST:Hid (settle D.secs (D.cache.take (k + 1))=(settle D.secs (D.cache.take k)).set D.cache[k].1 D.cache[k].2):=by
     rw[List.take_succ_eq_append_getElem hlt,settle_snoc];rfl
    obtain⟨i,hi⟩:∃i,i=D.cache[k].1:=⟨_,rfl⟩
    obtain⟨t,ht⟩:∃t,t=D.cache[k].2:=⟨_,rfl⟩
    rw[←hi, ←ht] at HST hp
    rw[←hi] at hx1
    rw[←ht] at hx2
    have hil:=hp.1
    have HT:=Lib.hid hp.2
    clear hi ht hp
    obtain⟨s,hs⟩:∃s,s=ba t:=⟨_,rfl⟩
    rw[←hs] at hx2
    have HS:=Lib.hid hs;clear hs
    have hsc:wr.cell? ⟨d,0,none⟩=some (.slice (some ⟨gs,0,none⟩) D.secs.length caps):=(cell_heap hh2 0).trans rfl
    have hdl:=lt_heap hh2
    have hgl2:gs < wr.heap.size:=by obtain⟨cs,f,hg⟩:=own_type hD.dev.secs (g:=gs) rfl;exact lt_heap hg
    have hsl:(settle D.secs (D.cache.take k)).length=D.secs.length:=settle_len _ _
    have hsr:wr.ownsRow 0 9 1 (.slice (some ⟨gs,0,none⟩) D.secs.length caps) D.secs.length ((settle D.secs (D.cache.take k)).map Ss):=by have:=hD.dev.secs;simp only[hsl] at this;exact this
    have hfz:wr.frozen? ⟨gs,i,none⟩=false:=hsr.frozenAt i
    obtain⟨old,hold⟩:∃x,wr.cell? ⟨gs,i,none⟩=some x:=⟨Ss ((settle D.secs (D.cache.take k))[i]'(by omega)),by rw[hsr.cellAt i (by omega)];simp[hsl,hil]⟩
    have HD:=Lib.hid hD
    clear hD hh2 hsl hsr
    go_wp2
    go_region
    go_wp2
    go_roundw
    case rel =>
     refine⟨k + 1,by omega,by go_num,?_⟩
     rw[HS.out,HST.out]
     exact(HD.out.trans (sec_step HD.out.dev i t HT.out)).after ((((Kept.refl _ _).alloc _)).drew)
    case measure=>simp[intOf];omega
   ·obtain rfl:k=D.cache.length:=by omega
    have hdl:=lt_heap hh2
    have hcc2:wr.cell? ⟨d,1,none⟩=some (.slice A D.cache.length capc):=(cell_heap hh2 1).trans rfl
    have hf2:wr.frozen? ⟨d,1,none⟩=false:=free_heap hh2 1
    have HD:=Lib.hid hD
    clear hD hh2
    go_wp2
    go_ret
    refine⟨by rw[HR.out];rfl,.slice none 0 0,?_⟩
    rw[HR.out]
    have h1:=HD.out
    rw[List.take_length] at h1
    exact h1.trans (cache_off h1.dev)
end Go.Proofs.YtfgjehecjgebdaaGreat
