/- Pages: Checkpoint whole; Format; Open. -/
import Derived.Test.YtfgjehecjgebdaaGreatMg33
import Derived.Test.YtfgjehecjgebdaaGreatMg32
namespace Go.Proofs.YtfgjehecjgebdaaGreat
open Go.RowKit Go.Maps Go.ChangeMaps
theorem Ck_calls {w st b c m d vs vc p g X} (h:IsStore w st b c m d vs vc p g X) (root log next:Int)
  (hT:∀i∈fresh X.l,(X.T i).length≤248) (hcl:X.D.cache.length≤900000) (hgen:X.sup.gen + 1≤1099511627776) :
  Calls Tryz.prog 21 #[.pointer (some ⟨st,0,none⟩),.int .i64 root,.int .i64 log,.int .i64 next] w (CkPost w st b c m d vs vc p g (X.check root log next)):=by
 cases hb:rootBad X root with
 | true=>exact Ck_root h root log next hb
 | false =>
  cases hn:numBad log next with
  | true=>exact Ck_num h root log next hb hn
  | false =>
   have hn':=hn
   simp only[numBad,decide_eq_false_iff_not] at hn'
   obtain⟨lg,rfl⟩:∃n:Nat,log=n:=⟨log.toNat,by omega⟩
   obtain⟨nx,rfl⟩:∃n:Nat,next=n:=⟨next.toNat,by omega⟩
   exact Ck_good h root lg nx hb hn hT hcl hgen
def sto0 (p:Nat) (D:Dev):Sto:=⟨List.replicate p 0,fun _ => [],⟨0, -1,0,0⟩,D⟩
def MadeAt (w:World) (d:Nat) (vs vc:Value) (p g:Nat) (X:Sto) (st:Nat) (w':World):Prop :=
 ∃b c m vc',w.heap.size≤st∧w.heap.size≤b∧w.heap.size≤c∧w.heap.size≤m∧IsStore w' st b c m d vs vc' p g X∧Kept (fun k=>k=d∨vs.ownBlock=some k∨vc.ownBlock=some k) w w' ∧ ∀k,vc'.ownBlock=some k→vc.ownBlock=some k∨w.heap.size≤k
theorem run_makeMap_dirty (w:World):(Instr.makeMap 79 none).run Tryz.prog w = .ok (.map (some w.heap.size)) (w.alloc (.map #[] 0)):=by
 simp[Instr.makeMap]
theorem rep_no2 (n:Nat):∀x∈List.replicate n 0,x ≠ 2:=by
 intro x hx;rw[(List.mem_replicate.1 hx).2];omega
theorem fresh_rep (n:Nat):fresh (List.replicate n 0) = []:=by
 apply List.eq_nil_iff_forall_not_mem.2
 intro i hi
 obtain⟨h1,h2⟩:=mem_fresh.1 hi
 rw[List.getD_eq_getElem?_getD,List.getElem?_replicate] at h2
 split at h2<;>simp at h2
set_option maxHeartbeats 4000000 in
set_option maxRecDepth 100000 in
theorem Format_calls {w d vs vc D p g} (h:IsDev w d vs vc D) (hl:LayGood p g) (ht:2 + 4 * p + g≤D.secs.length) (hcl:D.cache.length≤900000) (hok:((sto0 p D).check (-1) 1 1).1=0) :
  Calls Tryz.prog 61 #[.pointer (some ⟨d,0,none⟩),layV p g] w fun e w'=>∃st,e = .returned (.tuple #[.pointer (some ⟨st,0,none⟩),.int .i64 0])∧MadeAt w d vs vc p g ((sto0 p D).check (-1) 1 1).2 st w':=by
 have H:=Lib.hid h
 have HL:=Lib.hid hl
 have HOK:=Lib.hid hok
 obtain⟨tt,htt⟩:∃tt,tt=2 + 4 * p + g:=⟨_,rfl⟩
 have hgt:decide (D.secs.length < tt)=false:=by simp;omega
 have HLT:Hid (∀W,Calls Tryz.prog 60 #[.agg #[.int .i64 p,.int .i64 g]] W fun e w'=>e = .returned (.int .i64 tt)∧Kept (fun _=>False) W w'):=fun W=>by rw[htt];exact LayTotal_calls hl W
 have HLC:Hid (∀W,Calls Tryz.prog 79 #[.agg #[.int .i64 p,.int .i64 g]] W fun e w'=>e = .returned (.int .i64 0)∧Kept (fun _=>False) W w'):=fun W=>LayCheck_calls hl W
 obtain⟨r,hr⟩:∃r,r=(sto0 p D).check (-1) 1 1:=⟨_,rfl⟩
 rw[←hr] at HOK⊢
 have HRR:=Lib.hid hr
 clear hr
 have HCL:=Lib.hid hcl
 have hmm:=run_makeMap_dirty
 clear h hl htt ht hok hcl
 unfold layV
 go_enter Tryz.func61,Tryz.ntmps61
 go_wp2_with fail
 obtain⟨W,hW⟩:∃W,W=w.alloc (.cells #[.int .i64 p,.int .i64 g] 52):=⟨_,rfl⟩
 rw[←hW]
 obtain⟨N,hN⟩:∃N,N=w.heap.size:=⟨_,rfl⟩
 have HN:=Lib.hid hN
 have hb:W.heap[N]? = some (.cells #[.int .i64 p,.int .i64 g] 52 (0,0)):=by rw[hW,hN];exact heap_new w _
 have KW:Hid (Kept (fun _=>False) w W):=by rw[hW];exact(Kept.refl _ _).alloc _
 have HB:=Lib.hid hb
 rw[←hN]
 clear hW hb hN
 refine(HLC.out W).mono ?_
 rintro e w1 ⟨rfl,k1⟩
 have K1:Hid (Kept (fun _=>False) w w1):=KW.out.trans k1
 have B1:=Lib.hid (k1.heap HB.out id)
 have c0:w1.cell? ⟨N,0,none⟩=some (.int .i64 p):=(cell_heap B1.out 0).trans rfl
 have c1:w1.cell? ⟨N,1,none⟩=some (.int .i64 g):=(cell_heap B1.out 1).trans rfl
 clear k1
 go_wp2_with fail
 refine(HLT.out w1).mono ?_
 rintro e w2 ⟨rfl,k2⟩
 have K2:Hid (Kept (fun _=>False) w w2):=K1.out.trans k2
 have B2:=Lib.hid (k2.heap B1.out id)
 have HDL:=Lib.hid (DevLen_calls (H.out.keptF K2.out))
 have d0:w2.cell? ⟨N,0,none⟩=some (.int .i64 p):=(cell_heap B2.out 0).trans rfl
 clear k2 c0 c1
 go_wp2_with (go_at_call 80;refine HDL.out.mono ?_;rintro e w2b ⟨rfl,rfl⟩)
 refine(New_ok p w2 (by have:=HL.out.p1;omega) HL.out.p2).mono ?_
 rintro e w3 ⟨b,c,hb,hc,rfl,hsp,k3⟩
 have K3:Hid (Kept (fun _=>False) w w3):=K2.out.trans k3
 have B3:=Lib.hid (k3.heap B2.out id)
 have c0:w3.cell? ⟨N,0,none⟩=some (.int .i64 p):=(cell_heap B3.out 0).trans rfl
 have c1:w3.cell? ⟨N,1,none⟩=some (.int .i64 g):=(cell_heap B3.out 1).trans rfl
 have hl3:=lt_heap B3.out
 have HSP:=Lib.hid hsp
 have HBC:Hid (w.heap.size≤b∧w.heap.size≤c):=by have:=K2.out.size;exact⟨by omega,by omega⟩
 clear k3 hb hc hsp d0
 go_wp2_with fail
 obtain⟨W4,hW4⟩:∃W4,W4=(w3.alloc (.map #[] 0)).alloc (.cells #[.pointer (some ⟨b,0,none⟩),.pointer (some ⟨d,0,none⟩),.int .i64 p,.int .i64 g,.int .i64 0,.int .i64 (-1),.int .i64 0,.int .i64 0,.map (some w3.heap.size)] 81):=⟨_,rfl⟩
 rw[←hW4]
 have K4:Hid (Kept (fun _=>False) w W4):=by rw[hW4];exact(K3.out.alloc _).alloc _
 have HST:Hid (IsStore W4 (w3.heap.size + 1) b c w3.heap.size d vs vc p g (sto0 p D)):=by
  have k34:Kept (fun _=>False) w3 W4:=by rw[hW4];exact((Kept.refl _ _).alloc _).alloc _
  refine⟨by rw[hW4];exact heap_newAt (by simp) _,⟨k34.heap HSP.out.head id,k34.heap HSP.out.row id,HSP.out.le,HSP.out.len⟩,?_,H.out.keptF K4.out,by simp[sto0],HL.out⟩
  rw[hW4]
  exact(IsPut.made w3 _ _ (rep_no2 p)).kept ((Kept.refl (fun _=>False) _).alloc _) id
 have HCK:=Lib.hid (Ck_calls HST.out (-1) 1 1 (by simp only[sto0,fresh_rep];intro i hi;simp at hi) HCL.out (by simp[sto0]))
 rw[←HRR.out] at HCK
 obtain⟨e0,X'⟩:=r
 obtain rfl:e0=0:=HOK.out
 have HM:Hid (w.heap.size≤w3.heap.size):=K3.out.size
 clear hW4 c0 c1 hl3
 go_wp2_with fail
 refine HCK.out.mono ?_
 rintro e w5 ⟨rfl,vc',h5⟩
 have H5:=Lib.hid h5
 clear h5
 go_wp2_with fail
 go_ret2
 refine⟨w3.heap.size + 1,rfl,b,c,w3.heap.size,vc',by have:=HM.out;omega,HBC.out.1,HBC.out.2,HM.out,H5.out.sto,(K4.out.mono (fun _ _ f=>f.elim)).then H5.out.kept ?_,fun k hk=>?_⟩
 ·have:=HM.out
  have:=HBC.out
  rintro i hi (e|e|e|e)
  ·omega
  ·omega
  ·omega
  ·exact e
 ·rcases H5.out.own k hk with e|e
  ·exact .inl e
  ·exact .inr (Nat.le_trans K4.out.size e)
theorem supOf_len {p gen:Nat} {t:List UInt8} {s:Sup} {l:List Nat} (hs:supOf p gen t=some (s,l)):l.length=p ∧ ∀x∈l,x ≠ 2:=by
 unfold supOf at hs
 split at hs
 ·cases hs
 ·split at hs
  ·cases hs
  ·split at hs
   ·cases hs
   ·simp only[Option.some.injEq,Prod.mk.injEq] at hs
    rw[←hs.2]
    refine⟨by simp[parsed],fun x hx=>?_⟩
    simp only[parsed,List.mem_map] at hx
    obtain⟨i,_,rfl⟩:=hx
    rcases bitOf_01 (ba (pD p t).1) i with e|e<;>omega
def OpenPost (w:World) (d:Nat) (vs vc:Value) (p g:Nat) (D:Dev) (r:Option (Sec×Bool)) (e:Ending) (w':World):Prop :=
 Kept (fun _=>False) w w'∧match r with
  | none=>e = .returned (.tuple #[.pointer none,.int .i64 17])
  | some (x,s)=>if (if s then 1 else 0) ≠ x.stamp % 2 then e = .returned (.tuple #[.pointer none,.int .i64 17]) else
   match supOf p x.stamp x.data with
   | none=>e = .returned (.tuple #[.pointer none,.int .i64 17])
   | some (su,l)=>∃st,e = .returned (.tuple #[.pointer (some ⟨st,0,none⟩),.int .i64 0])∧MadeAt w d vs vc p g ⟨l,fun _ => [],su,D⟩ st w'
set_option maxHeartbeats 4000000 in
set_option maxRecDepth 100000 in
theorem Open_calls {w d vs vc D p g} (h:IsDev w d vs vc D) (hl:LayGood p g) (ht:2 + 4 * p + g≤D.secs.length) (hcl:D.cache.length≤900000) (hd:D.down=false) :
  Calls Tryz.prog 26 #[.pointer (some ⟨d,0,none⟩),layV p g] w fun e w'=>∃r,Newest (D.text 0) (D.text 1) r∧OpenPost w d vs vc p g D r e w':=by
 have H:=Lib.hid h
 have HL:=Lib.hid hl
 have hr0:D.read 0=(D.text 0,0):=by
  have:=hl.p1
  simp only[Dev.read];rw[if_neg (by omega),hd];rfl
 have hr1:D.read 1=(D.text 1,0):=by
  have:=hl.p1
  simp only[Dev.read];rw[if_neg (by omega),hd];rfl
 obtain⟨tt,htt⟩:∃tt,tt=2 + 4 * p + g:=⟨_,rfl⟩
 have hgt:decide (D.secs.length < tt)=false:=by simp;omega
 have HLT:Hid (∀W,Calls Tryz.prog 60 #[.agg #[.int .i64 p,.int .i64 g]] W fun e w'=>e = .returned (.int .i64 tt)∧Kept (fun _=>False) W w'):=fun W=>by rw[htt];exact LayTotal_calls hl W
 have HLC:Hid (∀W,Calls Tryz.prog 79 #[.agg #[.int .i64 p,.int .i64 g]] W fun e w'=>e = .returned (.int .i64 0)∧Kept (fun _=>False) W w'):=fun W=>LayCheck_calls hl W
 have HLA:Hid (∀W,Kept (fun _=>False) w W→Calls Tryz.prog 81 #[.pointer (some ⟨d,0,none⟩),.int .i64 0,.int .i64 1] W (LatestPost (D.text 0,0) (D.text 1,0) 0 1 W)):=fun W hW=>by
  have:=StLatest_calls (h.keptF hW) 0 1 (by omega)
  rw[hr0,hr1] at this
  exact this
 have HPP:Hid (∀gen mk t W,t.length≤44→Calls Tryz.prog 82 #[.agg #[.int .i64 p,.int .i64 g],secOf ⟨gen,mk,t⟩] W (ParseR (supOf p gen t) W)):=fun gen mk t W ht=>PgParse_calls hl gen mk t ht W
 clear h hl htt ht hcl hd hr0 hr1
 unfold layV
 go_enter Tryz.func26,Tryz.ntmps26
 go_wp2_with fail
 obtain⟨W,hW⟩:∃W,W=w.alloc (.cells #[.int .i64 p,.int .i64 g] 52):=⟨_,rfl⟩
 rw[←hW]
 obtain⟨N,hN⟩:∃N,N=w.heap.size:=⟨_,rfl⟩
 have hb:W.heap[N]? = some (.cells #[.int .i64 p,.int .i64 g] 52 (0,0)):=by rw[hW,hN];exact heap_new w _
 have KW:Hid (Kept (fun _=>False) w W):=by rw[hW];exact(Kept.refl _ _).alloc _
 have HB:=Lib.hid hb
 rw[←hN]
 clear hW hb hN
 refine(HLC.out W).mono ?_
 rintro e w1 ⟨rfl,k1⟩
 have K1:Hid (Kept (fun _=>False) w w1):=KW.out.trans k1
 have B1:=Lib.hid (k1.heap HB.out id)
 have c0:w1.cell? ⟨N,0,none⟩=some (.int .i64 p):=(cell_heap B1.out 0).trans rfl
 have c1:w1.cell? ⟨N,1,none⟩=some (.int .i64 g):=(cell_heap B1.out 1).trans rfl
 clear k1
 go_wp2_with fail
 refine(HLT.out w1).mono ?_
 rintro e w2 ⟨rfl,k2⟩
 have K2:Hid (Kept (fun _=>False) w w2):=K1.out.trans k2
 have B2:=Lib.hid (k2.heap B1.out id)
 have HDL:=Lib.hid (DevLen_calls (H.out.keptF K2.out))
 clear k2 c0 c1
 go_wp2_with (go_at_call 80;refine HDL.out.mono ?_;rintro e w2b ⟨rfl,rfl⟩)
 refine(HLA.out w2 K2.out).mono ?_
 rintro e w3 ⟨x,n,cc,rfl,k3,hcc,hnew⟩
 obtain rfl:cc=0:=by simpa using hcc
 obtain⟨r,hnw,hx⟩:=hnew rfl rfl
 have K3:Hid (Kept (fun _=>False) w w3):=K2.out.trans k3
 have B3:=Lib.hid (k3.heap B2.out id)
 have HNW:=Lib.hid hnw
 clear k3 hcc hnw
 cases r with
 | none =>
  simp only at hx
  subst hx
  simp only[secOf,secV]
  generalize ba x.data=dd at *
  go_wp2_with fail
  go_ret2
  exact⟨none,HNW.out,K3.out.alloc _,rfl⟩
 | some q =>
  obtain⟨y,s⟩:=q
  obtain⟨rfl,hn⟩:=hx
  have hgood:x.Good:=by
   cases HNW.out with
   | second _ h _=>exact h.1
   | first _ h _=>exact h.1
  have HG:=Lib.hid hgood
  obtain⟨k,hk⟩:∃k:Nat,k=if s then 1 else 0:=⟨_,rfl⟩
  have hnk:n=(k:Int):=by rw[hn,hk];cases s<;>rfl
  subst hnk
  have HK:=Lib.hid hk
  obtain⟨stp,mk,data⟩:=x
  obtain⟨g2,hg2⟩:∃g2,g2=stp % 2:=⟨_,rfl⟩
  have q2:Int.tmod (stp:Int) 2=(g2:Int):=by rw[Int.tmod_eq_emod_of_nonneg (by omega)];omega
  have HG2:=Lib.hid hg2
  obtain⟨o,ho⟩:∃o,o=supOf p stp data:=⟨_,rfl⟩
  have HPY:Hid (∀W,Calls Tryz.prog 82 #[.agg #[.int .i64 p,.int .i64 g],secOf ⟨stp,mk,data⟩] W (ParseR o W)):=fun W=>by
   rw[ho];exact HPP.out stp mk data W HG.out.data
  have HS:Hid (supOf p stp data=o):=ho.symm
  clear ho
  have hk0:decide ((k:Int) < 0)=false:=by simp
  clear hgood hn hk hg2
  simp only[secOf,secV] at HPY⊢
  obtain⟨dd,hdd⟩:∃dd,dd=ba data:=⟨_,rfl⟩
  rw[←hdd] at HPY⊢
  clear hdd
  by_cases hne:k=g2
  ·have hb2:((k:Int) != (g2:Int))=false:=by rw[bne_eq_false_iff_eq];omega
   have hb3:(k != g2)=false:=by rw[bne_eq_false_iff_eq];exact hne
   have HNE:=Lib.hid hne
   clear hne
   have c0:w3.cell? ⟨N,0,none⟩=some (.int .i64 p):=(cell_heap B3.out 0).trans rfl
   have c1:w3.cell? ⟨N,1,none⟩=some (.int .i64 g):=(cell_heap B3.out 1).trans rfl
   have hl3:=lt_heap B3.out
   go_wp2_with fail
   obtain⟨W,hW⟩:∃W,W=w3.alloc (.cells #[.int .i64 stp,.int .u8 mk,.string dd] 132):=⟨_,rfl⟩
   rw[←hW]
   have KW:Hid (Kept (fun _=>False) w W):=by rw[hW];exact K3.out.alloc _
   have BW:Hid (W.heap[N]? = some (.cells #[.int .i64 p,.int .i64 g] 52 (0,0))):=by rw[hW];exact heap_old B3.out _
   have HEQ:Hid (¬(if s then 1 else 0) ≠ stp % 2):=by simp only[Hid];rw[←HK.out, ←HG2.out,HNE.out];simp
   clear hW c0 c1 hl3
   refine(HPY.out W).mono ?_
   rintro e w4 ⟨k4,hres⟩
   have K4:Hid (Kept (fun _=>False) w w4):=KW.out.trans k4
   have B4:=Lib.hid (k4.heap BW.out id)
   have KS:Hid (W.heap.size≤w4.heap.size):=k4.size
   have HWS:Hid (w.heap.size≤W.heap.size):=KW.out.size
   clear k4
   cases o with
   | none =>
    simp only at hres
    subst hres
    simp only[supV,sup0]
    go_wp2_with fail
    go_ret2
    refine⟨some (⟨stp,mk,data⟩,s),HNW.out,K4.out.alloc _,?_⟩
    simp only
    rw[if_neg HEQ.out,HS.out]
    rfl
   | some q =>
    obtain⟨⟨sg,sr,sl,sn⟩,l⟩:=q
    simp only at hres
    obtain⟨b,c,hb,hc,rfl,hsp⟩:=hres
    have HSP:=Lib.hid hsp
    have HBC:Hid (w.heap.size≤b∧w.heap.size≤c):=by have:=HWS.out;exact⟨by omega,by omega⟩
    obtain⟨hlp,hl01⟩:=supOf_len HS.out
    have HLP:=Lib.hid hlp
    have HL1:=Lib.hid hl01
    have c0:w4.cell? ⟨N,0,none⟩=some (.int .i64 p):=(cell_heap B4.out 0).trans rfl
    have c1:w4.cell? ⟨N,1,none⟩=some (.int .i64 g):=(cell_heap B4.out 1).trans rfl
    have hl4:=lt_heap B4.out
    have hmm:=run_makeMap_dirty
    clear hb hc hsp hlp hl01
    simp only[supV]
    go_wp2_with fail
    go_ret2
    refine⟨some (⟨stp,mk,data⟩,s),HNW.out,((K4.out.alloc _).alloc _).alloc _,?_⟩
    simp only
    rw[if_neg HEQ.out,HS.out]
    have hsz:w.heap.size≤w4.heap.size:=K4.out.size
    have k5:Kept (fun _=>False) w4 (((w4.alloc (.cells #[.int .i64 sg,.int .i64 sr,.int .i64 sl,.int .i64 sn] 78)).alloc (.map #[] 0)).alloc (.cells (stoCells b d (w4.heap.size + 1) p g ⟨sg,sr,sl,sn⟩) 81)):=(((Kept.refl _ _).alloc _).alloc _).alloc _
    refine⟨w4.heap.size + 2,rfl,b,c,w4.heap.size + 1,vc,by omega,HBC.out.1,HBC.out.2,by omega,⟨?_,?_,?_,?_,HLP.out,HL.out⟩,?_,fun k hk=>.inl hk⟩
    ·exact heap_newAt (by simp) _
    ·exact⟨k5.heap HSP.out.head id,k5.heap HSP.out.row id,HSP.out.le,HSP.out.len⟩
    ·have hp:=IsPut.made (w4.alloc (.cells #[.int .i64 sg,.int .i64 sr,.int .i64 sl,.int .i64 sn] 78)) l (fun _ => []) HL1.out
     have e:(w4.alloc (.cells #[.int .i64 sg,.int .i64 sr,.int .i64 sl,.int .i64 sn] 78)).heap.size=w4.heap.size + 1:=by simp
     rw[e] at hp
     exact hp.kept ((Kept.refl (fun _=>False) _).alloc _) id
    ·exact H.out.keptF (K4.out.trans k5)
    ·exact(K4.out.trans k5).mono fun _ _ f=>f.elim
  ·have hb2:((k:Int) != (g2:Int))=true:=by rw[bne_iff_ne];omega
   have hb3:(k != g2)=true:=by rw[bne_iff_ne];exact hne
   have HNE:Hid ((if s then 1 else 0) ≠ stp % 2):=by simp only[Hid];rw[←HK.out, ←HG2.out];exact hne
   clear hne
   go_wp2_with fail
   go_ret2
   refine⟨some (⟨stp,mk,data⟩,s),HNW.out,K3.out.alloc _,?_⟩
   simp only
   rw[if_pos HNE.out]
   rfl
end Go.Proofs.YtfgjehecjgebdaaGreat
