/- Pages: Checkpoint whole; Format; Open. -/
import Derived.Test.YtfgjehecjgebdaaGreatMg35
import Derived.Test.YtfgjehecjgebdaaGreatMg33
namespace Go.Proofs.YtfgjehecjgebdaaGreat
open Go.RowKit Go.Maps Go.ChangeMaps
theorem Ck_calls {w st b c m d vs vc p g X} (h:IsStore w st b c m d vs vc p g X) (root log next:Int)
  (hT:∀i∈fresh X.l,(X.T i).length≤248) (hcl:X.D.cache.length≤900000) (hgen:X.sup.gen + 1≤1099511627776) :
  Calls Tryz.prog 21 #[.pointer (some ⟨st,0,none⟩),.int .i64 root,.int .i64 log,.int .i64 next] w (CkPost w st b c m d vs vc p g (X.check root log next)):=by
 cases hb:rootBad X root with
 | true=>exact Ck_root h root log next hb
 | false =>
  cases hn:numBad log next with
  | true=>exact Ck_num h root log next hb hn
  | false =>
   have hn':=hn
   simp only[numBad,decide_eq_false_iff_not] at hn'
   obtain⟨lg,rfl⟩:∃n:Nat,log=n:=⟨log.toNat,by omega⟩
   obtain⟨nx,rfl⟩:∃n:Nat,next=n:=⟨next.toNat,by omega⟩
   exact Ck_good h root lg nx hb hn hT hcl hgen
def sto0 (p:Nat) (D:Dev):Sto:=⟨List.replicate p 0,fun _ => [],⟨0, -1,0,0⟩,D⟩
def MadeAt (w:World) (d:Nat) (vs vc:Value) (p g:Nat) (X:Sto) (st:Nat) (w':World):Prop :=
 ∃b c m vc',w.heap.size≤st∧w.heap.size≤b∧w.heap.size≤c∧w.heap.size≤m∧IsStore w' st b c m d vs vc' p g X∧Kept (fun k=>k=d∨vs.ownBlock=some k∨vc.ownBlock=some k) w w' ∧ ∀k,vc'.ownBlock=some k→vc.ownBlock=some k∨w.heap.size≤k
theorem run_makeMap_dirty (w:World):(Instr.makeMap 79 none).run Tryz.prog w = .ok (.map (some w.heap.size)) (w.alloc (.map #[] 0)):=by
 simp[Instr.makeMap]
theorem rep_no2 (n:Nat):∀x∈List.replicate n 0,x ≠ 2:=by
 intro x hx;rw[(List.mem_replicate.1 hx).2];omega
theorem fresh_rep (n:Nat):fresh (List.replicate n 0) = []:=by
 apply List.eq_nil_iff_forall_not_mem.2
 intro i hi
 obtain⟨h1,h2⟩:=mem_fresh.1 hi
 rw[List.getD_eq_getElem?_getD,List.getElem?_replicate] at h2
 split at h2<;>simp at h2
set_option maxHeartbeats 4000000 in
set_option maxRecDepth 100000 in
theorem Format_calls {w d vs vc D p g} (h:IsDev w d vs vc D) (hl:LayGood p g) (ht:2 + 4 * p + g≤D.secs.length) (hcl:D.cache.length≤900000) (hok:((sto0 p D).check (-1) 1 1).1=0) :
  Calls Tryz.prog 61 #[.pointer (some ⟨d,0,none⟩),layV p g] w fun e w'=>∃st,e = .returned (.tuple #[.pointer (some ⟨st,0,none⟩),.int .i64 0])∧MadeAt w d vs vc p g ((sto0 p D).check (-1) 1 1).2 st w':=by
 have H:=Lib.hid h
 have HL:=Lib.hid hl
 have HOK:=Lib.hid hok
 obtain⟨tt,htt⟩:∃tt,tt=2 + 4 * p + g:=⟨_,rfl⟩
 have hgt:decide (D.secs.length < tt)=false:=by simp;omega
 have HLT:Hid (∀W,Calls Tryz.prog 60 #[.agg #[.int .i64 p,.int .i64 g]] W fun e w'=>e = .returned (.int .i64 tt)∧Kept (fun _=>False) W w'):=fun W=>by rw[htt];exact LayTotal_calls hl W
 have HLC:Hid (∀W,Calls Tryz.prog 79 #[.agg #[.int .i64 p,.int .i64 g]] W fun e w'=>e = .returned (.int .i64 0)∧Kept (fun _=>False) W w'):=fun W=>LayCheck_calls hl W
 obtain⟨r,hr⟩:∃r,r=(sto0 p D).check (-1) 1 1:=⟨_,rfl⟩
 rw[←hr] at HOK⊢
 have HRR:=Lib.hid hr
 clear hr
 have HCL:=Lib.hid hcl
 have hmm:=run_makeMap_dirty
 clear h hl htt ht hok hcl
 unfold layV
 go_enter Tryz.func61,Tryz.ntmps61
 go_wp2_with fail
 obtain⟨W,hW⟩:∃W,W=w.alloc (.cells #[.int .i64 p,.int .i64 g] 52):=⟨_,rfl⟩
 rw[←hW]
 obtain⟨N,hN⟩:∃N,N=w.heap.size:=⟨_,rfl⟩
 have HN:=Lib.hid hN
 have hb:W.heap[N]? = some (.cells #[.int .i64 p,.int .i64 g] 52 (0,0)):=by rw[hW,hN];exact heap_new w _
 have KW:Hid (Kept (fun _=>False) w W):=by rw[hW];exact(Kept.refl _ _).alloc _
 have HB:=Lib.hid hb
 rw[←hN]
 clear hW hb hN
 refine(HLC.out W).mono ?_
 rintro e w1 ⟨rfl,k1⟩
 have K1:Hid (Kept (fun _=>False) w w1):=KW.out.trans k1
 have B1:=Lib.hid (k1.heap HB.out id)
 have c0:w1.cell? ⟨N,0,none⟩=some (.int .i64 p):=(cell_heap B1.out 0).trans rfl
 have c1:w1.cell? ⟨N,1,none⟩=some (.int .i64 g):=(cell_heap B1.out 1).trans rfl
 clear k1
 go_wp2_with fail
 refine(HLT.out w1).mono ?_
 rintro e w2 ⟨rfl,k2⟩
 have K2:Hid (Kept (fun _=>False) w w2):=K1.out.trans k2
 have B2:=Lib.hid (k2.heap B1.out id)
 have HDL:=Lib.hid (DevLen_calls (H.out.keptF K2.out))
 have d0:w2.cell? ⟨N,0,none⟩=some (.int .i64 p):=(cell_heap B2.out 0).trans rfl
 clear k2 c0 c1
 go_wp2_with (go_at_call 80;refine HDL.out.mono ?_;rintro e w2b ⟨rfl,rfl⟩)
 refine(New_ok p w2 (by have:=HL.out.p1;omega) HL.out.p2).mono ?_
 rintro e w3 ⟨b,c,hb,hc,rfl,hsp,k3⟩
 have K3:Hid (Kept (fun _=>False) w w3):=K2.out.trans k3
 have B3:=Lib.hid (k3.heap B2.out id)
 have c0:w3.cell? ⟨N,0,none⟩=some (.int .i64 p):=(cell_heap B3.out 0).trans rfl
 have c1:w3.cell? ⟨N,1,none⟩=some (.int .i64 g):=(cell_heap B3.out 1).trans rfl
 have hl3:=lt_heap B3.out
 have HSP:=Lib.hid hsp
 have HBC:Hid (w.heap.size≤b∧w.heap.size≤c):=by have:=K2.out.size;exact⟨by omega,by omega⟩
 clear k3 hb hc hsp d0
 go_wp2_with fail
 obtain⟨W4,hW4⟩:∃W4,W4=(w3.alloc (.map #[] 0)).alloc (.cells #[.pointer (some ⟨b,0,none⟩),.pointer (some ⟨d,0,none⟩),.int .i64 p,.int .i64 g,.int .i64 0,.int .i64 (-1),.int .i64 0,.int .i64 0,.map (some w3.heap.size)] 81):=⟨_,rfl⟩
 rw[←hW4]
 have K4:Hid (Kept (fun _=>False) w W4):=by rw[hW4];exact(K3.out.alloc _).alloc _
 have HST:Hid (IsStore W4 (w3.heap.size + 1) b c w3.heap.size d vs vc p g (sto0 p D)):=by
  have k34:Kept (fun _=>False) w3 W4:=by rw[hW4];exact((Kept.refl _ _).alloc _).alloc _
  refine⟨by rw[hW4];exact heap_newAt (by simp) _,⟨k34.heap HSP.out.head id,k34.heap HSP.out.row id,HSP.out.le,HSP.out.len⟩,?_,H.out.keptF K4.out,by simp[sto0],HL.out⟩
  rw[hW4]
  exact(IsPut.made w3 _ _ (rep_no2 p)).kept ((Kept.refl (fun _=>False) _).alloc _) id
 have HCK:=Lib.hid (Ck_calls HST.out (-1) 1 1 (by simp only[sto0,fresh_rep];intro i hi;simp at hi) HCL.out (by simp[sto0]))
 rw[←HRR.out] at HCK
 obtain⟨e0,X'⟩:=r
 obtain rfl:e0=0:=HOK.out
 have HM:Hid (w.heap.size≤w3.heap.size):=K3.out.size
 clear hW4 c0 c1 hl3
 go_wp2_with fail
 refine HCK.out.mono ?_
 rintro e w5 ⟨rfl,vc',h5⟩
 have H5:=Lib.hid h5
 clear h5
 go_wp2_with fail
 go_ret2
 refine⟨w3.heap.size + 1,rfl,b,c,w3.heap.size,vc',by have:=HM.out;omega,HBC.out.1,HBC.out.2,HM.out,H5.out.sto,(K4.out.mono (fun _ _ f=>f.elim)).then H5.out.kept ?_,fun k hk=>?_⟩
 ·have:=HM.out
  have:=HBC.out
  rintro i hi (e|e|e|e)
  ·omega
  ·omega
  ·omega
  ·exact e
 ·rcases H5.out.own k hk with e|e
  ·exact .inl e
  ·exact .inr (Nat.le_trans K4.out.size e)
end Go.Proofs.YtfgjehecjgebdaaGreat
