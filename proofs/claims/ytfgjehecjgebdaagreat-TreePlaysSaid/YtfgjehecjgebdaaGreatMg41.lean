/- The tree: level, the two kids levelled. -/
import Derived.Test.YtfgjehecjgebdaaGreatMg39
import Derived.Test.YtfgjehecjgebdaaGreatMg34
import Derived.Test.YtfgjehecjgebdaaGreatMg06
namespace Go.Proofs.YtfgjehecjgebdaaGreat
open Go.RowKit Go.Maps Go.ChangeMaps
attribute [local go_sem] Oper.semAt_some
set_option maxRecDepth 100000 in
set_option maxHeartbeats 2000000 in
theorem TWlevel_full_b {w q wk vf vo W root Z} {s:Stp} {m:Nat} {l:Bool} {P1 P2 P3:Option Addr} {n1 c1 n2 c2 n3 c3:Nat} {vk:Value} {kid:Nd} (h:WkW w q wk vf vo W root Z) (hs:NdAp w (wkS q wk vf vo) (.agg #[.bool l,.slice P1 n1 c1,.slice P2 n2 c2,.slice P3 n3 c3]) s.n) (hk:NdAp w (wkS q wk vf vo) vk kid)
  (hok:s.n.Ok) (hat:s.at_ + 1≤s.n.kids.length) (hlf:s.n.leaf=false) (hm:s.at_=m + 1) (hu:kid.under=true) (he:(W.X.load (lvOther s)).2=0) (hkd:(W.X.load (lvOther s)).1.leaf=kid.leaf) (hf:kid.Fit) (hkl:kid.len≤8) (hZ:Z≤w.heap.size) (hl:W.fresh.length≤900) (hold:W.old.length≤900) :
  Calls Tryz.prog 90 #[.pointer (some ⟨wk,0,none⟩),.agg #[.int .i64 (s.id:Int),.int .i64 (s.at_:Int),.bool l,.slice P1 n1 c1,.slice P2 n2 c2,.slice P3 n3 c3],vk] w (LevTo (levelP W s kid) w q wk vf vo root Z):=by
 have CU:=Lib.hid fun w' (kk:Kept (fun _=>False) w w')=>NdUnder_calls (hk.zero.kept kk)
 rw[hu] at CU
 obtain⟨l',A1,m1,d1,A2,m2,d2,A3,m3,d3,rfl⟩:=hk.zero.agg
 have HKD:=Lib.hid hkd
 have HF:=Lib.hid hf;have HKL:=Lib.hid hkl;have HZ:=Lib.hid hZ;have HLL:=Lib.hid hl;have HOLD:=Lib.hid hold;have HU:=Lib.hid hu;have HM:=Lib.hid hm
 obtain⟨r,hr⟩:∃r,r=levelP W s kid:=⟨_,rfl⟩
 rw[←hr]
 have HR:=Lib.hid hr
 have hlk:=hok.len
 have hot:lvOther s=s.n.kids.getD m 0:=by unfold lvOther lvLeft;rw[if_neg (by omega),hm,Nat.add_sub_cancel]
 obtain⟨hn3,g,rfl,hg,hgc⟩:=kid_cell hs.zero rfl (i:=m) (by omega)
 rw[←hot] at hgc
 obtain⟨hn1,gk,rfl,hgk,hkc,kcs,kf,hkh⟩:=key_cell hs.zero rfl (i:=m) (by have:=(hok.inner hlf).2.1;omega)
 have hmk:m < n1:=by have:=(hok.inner hlf).2.1;omega
 obtain⟨kt,hkt⟩:∃t,t=ba (s.n.keys.getD m []):=⟨_,rfl⟩
 rw[←hkt] at hkc
 have HKT:=Lib.hid hkt;have HGK:=Lib.hid hgk;have HKC:=Lib.hid hkc;have HKH:=Lib.hid hkh
 clear hgk hkc hkt hn1 hkh
 have hm20:m≤20:=by omega
 have hmn:m < n3:=by omega
 have CL:=Lib.hid fun w' (kk:Kept (fun _=>False) w w')=>TreeLoad_calls (h.keptF kk).tw (lvOther s)
 obtain⟨ot,hot'⟩:∃o,o=lvOther s:=⟨_,rfl⟩
 rw[←hot'] at hgc CL he HKD
 have H:=Lib.hid h;have HS:=Lib.hid hs;have HK:=Lib.hid hk;have HOK:=Lib.hid hok;have HAT:=Lib.hid hat;have HE:=Lib.hid he;have HOT:=Lib.hid hot';have HLFT:Hid (lvLeft s=m):=by show _=_;unfold lvLeft;omega
 rw[hm]
 have g1:((m:Int) == (m:Int) + 1)=false:=by rw[beq_eq_false_iff_ne];omega
 have g2:max (m:Int) 0=m:=by omega
 have cwk:=(wk_cells h.blk).1
 have lwk:=lt_heap h.blk
 have HLF:=Lib.hid hlf
 clear h hs hk hok hat hu hr hm hot hot' hlf he hkd hf hkl hZ hl hold hn3 hlk
 go_enter Tryz.func90,Tryz.ntmps90
 go_wp2_with fail
 refine(CU.out _ (by repeat (first|exact Kept.refl _ _|refine Kept.alloc ?_ _))).mono ?_
 rintro e w1 ⟨rfl,k1⟩
 obtain⟨N,hN⟩:∃N,N=w.heap.size:=⟨_,rfl⟩
 have HN:=Lib.hid hN
 have B0:Hid (w1.heap[N]? = some (Obj.cells #[.int .i64 (s.id:Int),.int .i64 ((m + 1:Nat):Int),.bool l,.slice (some ⟨gk,0,none⟩) n1 c1,.slice P2 n2 c2,.slice (some ⟨g,0,none⟩) n3 c3] 157 (0,0))):=by show _=_;rw[hN];exact k1.heap (heap_old (heap_old (heap_new w _) _) _) not_false
 have B1:Hid (w1.heap[N + 1]? = some (Obj.cells #[.bool l',.slice A1 m1 d1,.slice A2 m2 d2,.slice A3 m3 d3] 148 (0,0))):=by show _=_;rw[hN];exact k1.heap (heap_old (heap_newAt (by simp) _) _) not_false
 have B2:Hid (w1.heap[N + 1 + 1]? = some (Obj.cells #[.bool false,.slice none 0 0,.slice none 0 0,.slice none 0 0] 148 (0,0))):=by show _=_;rw[hN];exact k1.heap (heap_newAt (by simp) _) not_false
 have K1:Hid (Kept (fun _=>False) w w1):=by exact((((Kept.refl _ w).alloc _).alloc _).alloc _).trans k1
 rw[←hN]
 have hgc1:w1.cell? ⟨g,m,none⟩=some (.int .i64 (ot:Nat)):=(World.cell?_of_block (K1.out.block g hg id)).trans hgc
 have x1:w1.cell? ⟨N,1,none⟩=some (.int .i64 ((m + 1:Nat):Int)):=(cell_heap B0.out 1).trans rfl
 have x2:w1.cell? ⟨N,2,none⟩=some (.bool l):=(cell_heap B0.out 2).trans rfl
 have x3:w1.cell? ⟨N,3,none⟩=some (.slice (some ⟨gk,0,none⟩) n1 c1):=(cell_heap B0.out 3).trans rfl
 have x4:w1.cell? ⟨N,4,none⟩=some (.slice P2 n2 c2):=(cell_heap B0.out 4).trans rfl
 have x5:w1.cell? ⟨N,5,none⟩=some (.slice (some ⟨g,0,none⟩) n3 c3):=(cell_heap B0.out 5).trans rfl
 have cwk1:w1.cell? ⟨wk,0,none⟩=some (.pointer (some ⟨q.t,0,none⟩)):=(World.cell?_of_block (K1.out.block wk lwk id)).trans cwk
 clear k1 CU hN cwk lwk hgc hg
 go_wp2_with fail
 refine(CL.out _ K1.out).mono ?_
 rintro e w2 ⟨k2,vb,rfl,hb⟩
 obtain⟨lb,X1,y1,z1,X2,y2,z2,X3,y3,z3,rfl⟩:=hb.agg
 have K2:=Lib.hid (K1.out.trans k2)
 have K12:=Lib.hid k2
 have hb2:=k2.heap B2.out not_false
 have HB2:=Lib.hid hb2
 have lb2:=lt_heap hb2
 have HO:=Lib.hid hb.opened
 have HO2:=Lib.hid HK.out.zero.opened
 have e0:(W.X.load (ot:Int)).2=0:=HE.out
 rw[e0]
 have hne:lb=l':=by
  obtain⟨_,_,_,_,_,_,_,_,_,_,e,h1, -⟩:=HO.out
  obtain⟨_,_,_,_,_,_,_,_,_,_,e',h2, -⟩:=HO2.out
  injection e with e;injection e with e;injection e with e _;injection e with e
  injection e' with e';injection e' with e';injection e' with e' _;injection e' with e'
  rw[e,e',h1.out.1,h2.out.1]
  exact HKD.out
 subst hne
 have hb21:=k2.heap B1.out not_false
 have HB1:=Lib.hid hb21
 have lb21:=lt_heap hb21
 obtain⟨f0, -, -, -⟩:=nd_cells hb21
 have HBS:=Lib.hid hb
 obtain⟨UX,UF,UO⟩:=W
 obtain⟨w3,hw3⟩:∃w3,w3=w2.alloc (.cells #[.bool lb,.slice X1 y1 z1,.slice X2 y2 z2,.slice X3 y3 z3] 148):=⟨_,rfl⟩
 have K3:Hid (Kept (fun _=>False) w2 w3):=by rw[hw3];exact(Kept.refl _ _).alloc _
 have HBB:Hid (w3.heap[w2.heap.size]? = some (.cells #[.bool lb,.slice X1 y1 z1,.slice X2 y2 z2,.slice X3 y3 z3] 148 (0,0))):=by show _=_;rw[hw3];exact heap_new w2 _
 have H3:=Lib.hid (H.out.keptF (K2.out.trans K3.out))
 obtain⟨Ao,co,evo⟩:=own_slice H3.out.ro
 subst evo
 obtain⟨lo,hlo⟩:∃n,n=UO.length:=⟨_,rfl⟩
 have HLO:=Lib.hid hlo
 have WK3:Hid (WkW w3 q wk vf (.slice Ao lo co) ⟨UX,UF,UO⟩ root Z):=by show WkW _ _ _ _ _ _ _ _;rw[hlo];exact H3.out
 have cwk2:w2.cell? ⟨wk,2,none⟩=some (.slice Ao lo co):=by rw[hlo];exact(wk_cells (H.out.keptF K2.out).blk).2.2
 have lwk2:=lt_heap (H.out.keptF K2.out).blk
 have fwk2:∀i,w2.frozen? ⟨wk,i,none⟩=false:=fun i=>free_heap (H.out.keptF K2.out).blk i
 have OWN:Hid ((w3.alloc (.cells #[.int .i64 (ot:Nat)] 3)).ownsRow 0 3 1 (.slice Ao lo co) lo (UO.map I)):=by
  have h:=WK3.out.ro.keptF ((Kept.refl _ w3).alloc (.cells #[.int .i64 (ot:Nat)] 3))
  unfold IRow at h
  dsimp only at h
  rw[←HLO.out] at h
  exact own_base h fun _ _=>Nat.zero_le _
 have M1:Hid (lo + 1≤maxLen):=by have:=HOLD.out;have:=HLO.out;simp only at *;show _≤_;unfold maxLen;omega
 have M2:Hid ((lo + 1) * 8≤140737488355328):=by have:=HOLD.out;have:=HLO.out;simp only at *;show _≤_;omega
 rw[hw3] at OWN
 have RD:Hid (Reads (w3.alloc (.cells #[.int .i64 (ot:Nat)] 3)) (w3.heap.size + 1) 1 (some ⟨w2.heap.size + 1,0,none⟩) 1 [.int .i64 (ot:Nat)]):=by
  have h:=reads_one w3 (.int .i64 (ot:Nat)) 3
  rw[show w2.heap.size + 1=w3.heap.size by rw[hw3];simp]
  exact h
 rw[hw3] at RD
 have HW3:=Lib.hid hw3
 clear hb k2 CL hb2 e0 hb21 hlo hw3 hgc1 cwk1
 go_wp2_with (at_builtin;(refine app_one (v:=.slice Ao lo co) rfl (.tmp 87) (.tmp 89) rfl Tryz.underlying28 info_int rfl rfl OWN.out _ rfl RD.out (ints_one [ot]) M1.out M2.out ?_;intro v' w4 hv' hg' hob;have hg2:(w3.alloc (.cells #[.int .i64 (ot:Nat)] 3)).grownBy w4 (Value.slice Ao lo co).ownBlock:=(by rw[HW3.out];exact hg');have hob2:v'.ownBlock=(Value.slice Ao lo co).ownBlock∨v'.ownBlock=some (w3.alloc (.cells #[.int .i64 (ot:Nat)] 3)).heap.size:=(by rw[HW3.out];exact hob);obtain⟨A6,c6,rfl,hb4,hw,hk5,ho5⟩:=wk_appO WK3.out ((Kept.refl _ w3).alloc _) (by have:=HZ.out;have:=K2.out.size;have:=K3.out.size;omega) HLO.out hv' hg2 hob2;have HW:=Lib.hid hw;have HK5:=Lib.hid hk5;have HO5:=Lib.hid ho5;have HB4:=Lib.hid hb4;obtain⟨b40,b41,b42⟩:=wk_cells hb4;have fw4:∀i,w4.frozen? ⟨wk,i,none⟩=false:=fun i=>free_heap hb4 i;clear hv' hg' hob hg2 hob2 hw hk5 ho5 hb4 fwk2 cwk2))
 obtain⟨w5,hw5⟩:∃w5,w5=w4.setCell ⟨wk,2,none⟩ (.slice A6 (lo + 1) c6):=⟨_,rfl⟩
 rw[←hw5] at HW HK5⊢
 have kN:∀ {i:Nat} {cs:Array Value} {f:Nat×Nat},w3.heap[i]? = some (.cells cs 148 f)→w5.heap[i]? = some (.cells cs 148 f):=fun hi=>HK5.out.heap hi (by
  rintro(e|e)
  ·subst e
   have h:=WK3.out.blk
   rw[hi] at h
   injection h with h
   injection h with _ h _
   exact absurd h (by decide)
  ·exact own_neH WK3.out.ro hi (by decide) _ e rfl)
 have HB5:=Lib.hid (kN HBB.out)
 have HK15:=Lib.hid (kN (K3.out.heap HB1.out not_false))
 have HR5:=Lib.hid (kN (K3.out.heap HB2.out not_false))
 clear hw5 b40 b41 b42 fw4 lwk2 lb2 lb21 f0 HB4
 refine wp_hide fun a0 ha0=>?_
 have HA0:=Lib.hid ha0
 refine wp_mono (Q:=Exit.then (fun a' w'=>∃b14 b15,w5.heap.size≤b14∧w5.heap.size≤b15∧b14 ≠ b15∧Kept (fun _=>False) w5 w'∧w'.heap[b14]? = some (.cells #[.bool lb,.slice X1 y1 z1,.slice X2 y2 z2,.slice X3 y3 z3] 148 (0,0))∧w'.heap[b15]? = some (.cells #[.bool lb,.slice A1 m1 d1,.slice A2 m2 d2,.slice A3 m3 d3] 148 (0,0)) ∧
  a'=(((a0.put (some 93) (.agg #[.bool lb,.slice X1 y1 z1,.slice X2 y2 z2,.slice X3 y3 z3])).put (some 94) (.agg #[.bool lb,.slice A1 m1 d1,.slice A2 m2 d2,.slice A3 m3 d3])).put (some 14) (.pointer (some ⟨b14,0,none⟩))).put (some 15) (.pointer (some ⟨b15,0,none⟩))) (fun _ _ _=>False)) ?reg ?rest
 case reg =>
  rw[HA0.out]
  have HSA:Hid (∀w',Kept (fun _=>False) w5 w'→w'.cell? ⟨w2.heap.size,0,none⟩=some (.bool lb)∧w'.cell? ⟨w2.heap.size,1,none⟩=some (.slice X1 y1 z1)∧w'.cell? ⟨w2.heap.size,2,none⟩=some (.slice X2 y2 z2)∧w'.cell? ⟨w2.heap.size,3,none⟩=some (.slice X3 y3 z3)∧w'.cell? ⟨N + 1,0,none⟩=some (.bool lb)∧w'.cell? ⟨N + 1,1,none⟩=some (.slice A1 m1 d1)∧w'.cell? ⟨N + 1,2,none⟩=some (.slice A2 m2 d2)∧w'.cell? ⟨N + 1,3,none⟩=some (.slice A3 m3 d3)):=fun w' kk=>by
   obtain⟨p0,p1,p2,p3⟩:=nd_cells (kk.heap HB5.out not_false)
   obtain⟨q0,q1,q2,q3⟩:=nd_cells (kk.heap HK15.out not_false)
   exact⟨p0,p1,p2,p3,q0,q1,q2,q3⟩
  have hS1:=HSA.out w5.drew (Kept.refl _ w5).drew
  refine wp_region_held_drew (S:=fun w'=>w'.cell? ⟨w2.heap.size,0,none⟩=some (.bool lb)∧w'.cell? ⟨w2.heap.size,1,none⟩=some (.slice X1 y1 z1)∧w'.cell? ⟨w2.heap.size,2,none⟩=some (.slice X2 y2 z2)∧w'.cell? ⟨w2.heap.size,3,none⟩=some (.slice X3 y3 z3)∧w'.cell? ⟨N + 1,0,none⟩=some (.bool lb)∧w'.cell? ⟨N + 1,1,none⟩=some (.slice A1 m1 d1)∧w'.cell? ⟨N + 1,2,none⟩=some (.slice A2 m2 d2)∧w'.cell? ⟨N + 1,3,none⟩=some (.slice A3 m3 d3)) (by kernel_rfl) hS1 (fun hHeld=>?_)
  clear hS1
  refine tk 0 (h:=?_)
  (try simp only[lits])
  refine tk 1 (h:=?_)
  (try simp only[lits])
  refine wpAnyH_ready (rs := [2,3]) (by kernel_rfl) (by simp) ?_
  refine AllReadyH.cons rfl (fun K hK=>?_) (AllReadyH.cons rfl (fun K hK=>?_) AllReadyH.nil)
  ·go_simp
   refine hK.out _ _ (HSA.out _ (((Kept.refl _ w5).alloc _).drew)) (fun hHeld=>?_)
   clear hK
   (try simp only[lits])
   refine wpAnyH_ready (rs := [3]) (by kernel_rfl) (by simp) ?_
   refine AllReadyH.cons rfl (fun K hK=>?_) AllReadyH.nil
   go_simp
   refine hK.out _ _ (HSA.out _ ((((Kept.refl _ w5).alloc _).alloc _).drew)) (fun hHeld=>?_)
   clear hK
   (try simp only[lits])
   refine wpAnyH_ready (rs := [4]) (by kernel_rfl) (by simp) ?_
   refine AllReadyH.cons rfl (fun K hK=>?_) AllReadyH.nil
   go_simp
   refine hK.out _ _ (HSA.out _ ((((Kept.refl _ w5).alloc _).alloc _).drew)) (fun hHeld=>?_)
   clear hK
   (try simp only[lits])
   refine wpAnyH_ready (rs := [5]) (by kernel_rfl) (by simp) ?_
   refine AllReadyH.cons rfl (fun K hK=>?_) AllReadyH.nil
   go_simp
   refine hK.out _ _ (HSA.out _ ((((Kept.refl _ w5).alloc _).alloc _).drew)) (fun hHeld=>?_)
   clear hK
   (try simp only[lits])
   refine wpAnyH_done (by kernel_rfl) ?_ _
   exact⟨w5.heap.size,w5.heap.size + 1,Nat.le_refl _,by omega,by omega,(((Kept.refl _ w5).alloc _).alloc _).drew,heap_old (heap_new w5 _) _,heap_newAt (by simp) _,rfl⟩
  ·go_simp
   refine hK.out _ _ (HSA.out _ (((Kept.refl _ w5).alloc _).drew)) (fun hHeld=>?_)
   clear hK
   (try simp only[lits])
   refine wpAnyH_ready (rs := [2]) (by kernel_rfl) (by simp) ?_
   refine AllReadyH.cons rfl (fun K hK=>?_) AllReadyH.nil
   go_simp
   refine hK.out _ _ (HSA.out _ ((((Kept.refl _ w5).alloc _).alloc _).drew)) (fun hHeld=>?_)
   clear hK
   (try simp only[lits])
   refine wpAnyH_ready (rs := [4]) (by kernel_rfl) (by simp) ?_
   refine AllReadyH.cons rfl (fun K hK=>?_) AllReadyH.nil
   go_simp
   refine hK.out _ _ (HSA.out _ ((((Kept.refl _ w5).alloc _).alloc _).drew)) (fun hHeld=>?_)
   clear hK
   (try simp only[lits])
   refine wpAnyH_ready (rs := [5]) (by kernel_rfl) (by simp) ?_
   refine AllReadyH.cons rfl (fun K hK=>?_) AllReadyH.nil
   go_simp
   refine hK.out _ _ (HSA.out _ ((((Kept.refl _ w5).alloc _).alloc _).drew)) (fun hHeld=>?_)
   clear hK
   (try simp only[lits])
   refine wpAnyH_done (by kernel_rfl) ?_ _
   exact⟨w5.heap.size + 1,w5.heap.size,by omega,Nat.le_refl _,by omega,(((Kept.refl _ w5).alloc _).alloc _).drew,heap_newAt (by simp) _,heap_old (heap_new w5 _) _,rfl⟩
 case rest =>
  rintro e a' w' hq
  cases e with
  | normal =>
   obtain⟨b14,b15,h14,h15,hne,k6,hb14,hb15,rfl⟩:=hq
   rw[HA0.out]
   simp only[Exit.then,Act.put,List.setIfInBounds_toArray,List.set_cons_succ,List.set_cons_zero]
   have kS:w3.heap[N]? = some (.cells #[.int .i64 (s.id:Int),.int .i64 ((m + 1:Nat):Int),.bool l,.slice (some ⟨gk,0,none⟩) n1 c1,.slice P2 n2 c2,.slice (some ⟨g,0,none⟩) n3 c3] 157 (0,0)):=K3.out.heap ((show Kept (fun _=>False) w1 w2 from K12.out).heap B0.out id) id
   have hst5:=(HK5.out.heap kS (by
    rintro(e|e)
    ·subst e
     have h:=WK3.out.blk
     rw[kS] at h
     injection h with h
     injection h with _ h _
     exact absurd h (by decide)
    ·exact own_neH WK3.out.ro kS (by decide) _ e rfl))
   have HST5:=Lib.hid hst5
   have hst:=k6.heap hst5 not_false
   clear hst5
   have HST:=Lib.hid hst
   have x1:w'.cell? ⟨N,1,none⟩=some (.int .i64 ((m + 1:Nat):Int)):=(cell_heap hst 1).trans rfl
   have x2:w'.cell? ⟨N,2,none⟩=some (.bool l):=(cell_heap hst 2).trans rfl
   have x3:w'.cell? ⟨N,3,none⟩=some (.slice (some ⟨gk,0,none⟩) n1 c1):=(cell_heap hst 3).trans rfl
   have x4:w'.cell? ⟨N,4,none⟩=some (.slice P2 n2 c2):=(cell_heap hst 4).trans rfl
   have x5:w'.cell? ⟨N,5,none⟩=some (.slice (some ⟨g,0,none⟩) n3 c3):=(cell_heap hst 5).trans rfl
   have K6:=Lib.hid k6;have H14:=Lib.hid hb14;have H15:=Lib.hid hb15;have HNE:=Lib.hid hne;have G14:=Lib.hid h14;have G15:=Lib.hid h15
   obtain⟨w0,hw0⟩:∃w0,w0=w':=⟨_,rfl⟩
   rw[←hw0] at hst x1 x2 x3 x4 x5 K6 H14 H15 HST⊢
   clear k6 hb14 hb15 hne h14 h15 hst kS ha0 HA0 hw0
   go_wp2_with fail
   obtain⟨na,hna⟩:∃n,n=(UX.load (ot:Int)).1:=⟨_,rfl⟩
   obtain⟨nb,hnb⟩:∃n,n=kid:=⟨_,rfl⟩
   have HNA:=Lib.hid hna;have HNB:=Lib.hid hnb
   have K13:=Lib.hid (K2.out.trans K3.out)
   have SW:Hid (∀g,wkS q wk vf (.slice A6 (lo + 1) c6) g→wkS q wk vf (.slice Ao (List.length UO) co) g∨w3.heap.size≤g):=by
    rintro g (e|e|e|e|e)
    ·exact .inl (.inl e)
    ·exact .inl (.inr (.inl e))
    ·exact .inl (.inr (.inr (.inl e)))
    ·exact .inl (.inr (.inr (.inr (.inl e))))
    ·rcases HO5.out g e with e|e
     ·exact .inl (.inr (.inr (.inr (.inr ((own_anylen _ _ _ _).trans e)))))
     ·exact .inr e
   have ST:Hid (∀g,(g=wk∨(Value.slice Ao lo co).ownBlock=some g)→wkS q wk vf (.slice Ao (List.length UO) co) g):=by
    rintro g (e|e)
    ·exact .inr (.inr (.inl e))
    ·exact .inr (.inr (.inr (.inr ((own_anylen _ _ _ _).trans e))))
   have TA0:Hid (NdAp w0 (wkS q wk vf (.slice A6 (lo + 1) c6)) (.agg #[.bool lb,.slice X1 y1 z1,.slice X2 y2 z2,.slice X3 y3 z3]) (UX.load (ot:Int)).1):=by
    have hlt:=H.out.lt
    have k12:=K12.out.size
    have k1s:=K1.out.size
    have k3s:=K3.out.size
    have k5s:=HK5.out.size
    have k6s:=K6.out.size
    have h5:=(HBS.out.kept K3.out).keptS HK5.out (by
     intro b hb
     have h0:=hlt b (ST.out b hb)
     omega)
    refine NdAp.between (h5.kept K6.out) HBS.out.lt fun g hg=>?_
    rcases SW.out g hg with e|e
    ·have:=hlt g e;exact .inl (by omega)
    ·exact .inr (by omega)
   have TB0:Hid (NdAp w0 (wkS q wk vf (.slice A6 (lo + 1) c6)) (.agg #[.bool lb,.slice A1 m1 d1,.slice A2 m2 d2,.slice A3 m3 d3]) kid):=((HK.out.keptF K13.out).kept HK5.out (fun g hg=>.inl (ST.out g hg)) SW.out).keptF K6.out
   have TS0:Hid (NdAp w0 (wkS q wk vf (.slice A6 (lo + 1) c6)) (.agg #[.bool l,.slice (some ⟨gk,0,none⟩) n1 c1,.slice P2 n2 c2,.slice (some ⟨g,0,none⟩) n3 c3]) s.n):=((HS.out.keptF K13.out).kept HK5.out (fun g hg=>.inl (ST.out g hg)) SW.out).keptF K6.out
   have TW0:Hid (WkW w0 q wk vf (.slice A6 (lo + 1) c6) ⟨UX,UF,UO ++ [ot]⟩ root Z):=HW.out.keptF K6.out
   have TK0:Hid (Kept (wkS q wk vf (.slice Ao (List.length UO) co)) w w0):=((K13.out.mono fun _ _=>False.elim).then HK5.out fun i _ e=>ST.out i e).then K6.out fun _ _=>False.elim
   have TV0:Hid (∀g,wkS q wk vf (.slice A6 (lo + 1) c6) g→wkS q wk vf (.slice Ao (List.length UO) co) g∨w.heap.size≤g):=fun g hg=>by
    rcases SW.out g hg with e|e
    ·exact .inl e
    ·exact .inr (by have:=K13.out.size;omega)
   have HR0:Hid (w0.heap[N + 1 + 1]? = some (.cells #[.bool false,.slice none 0 0,.slice none 0 0,.slice none 0 0] 148 (0,0))):=K6.out.heap HR5.out id
   have TZ0:Hid (Z≤w0.heap.size):=by have:=HZ.out;have:=TK0.out.size;show _≤_;omega
   have HKC0:Hid (∀w7,Kept (fun _=>False) w0 w7→w7.cell? ⟨gk,m,none⟩=some (.string kt)):=fun w7 kk=>by
    have h3:=(K2.out.trans K3.out).heap HKH.out id
    have h5:=HK5.out.block gk (lt_heap h3) (by
     rintro(e|e)
     ·subst e
      have h:=WK3.out.blk
      rw[h3] at h
      injection h with h
      injection h with _ h _
      exact absurd h (by decide)
     ·exact own_neH WK3.out.ro h3 (by decide) _ e rfl)
    have h6:=(K6.out.trans kk).block gk (by have:=lt_heap h3;have:=HK5.out.size;omega) id
    exact(World.cell?_of_block (h6.trans (h5.trans ((K2.out.trans K3.out).block gk HGK.out id)))).trans HKC.out
   have HLV:Hid (r=if (putAll ⟨UX,UF,UO ++ [ot]⟩ (nLevel (UX.load (ot:Int)).1 (s.n.keys.getD m []) kid)).2.1 ≠ 0 then (nd0,(putAll ⟨UX,UF,UO ++ [ot]⟩ (nLevel (UX.load (ot:Int)).1 (s.n.keys.getD m []) kid)).2.1,(putAll ⟨UX,UF,UO ++ [ot]⟩ (nLevel (UX.load (ot:Int)).1 (s.n.keys.getD m []) kid)).2.2) else (s.n.repl m (m + 2) (putAll ⟨UX,UF,UO ++ [ot]⟩ (nLevel (UX.load (ot:Int)).1 (s.n.keys.getD m []) kid)).1 (if (nLevel (UX.load (ot:Int)).1 (s.n.keys.getD m []) kid).length=2 then nBetween (UX.load (ot:Int)).1 (s.n.keys.getD m []) kid else []),0,(putAll ⟨UX,UF,UO ++ [ot]⟩ (nLevel (UX.load (ot:Int)).1 (s.n.keys.getD m []) kid)).2.2)):=by
    show _=_
    rw[HR.out]
    exact levelP_eq HU.out HOT.out.symm HLFT.out HE.out HKD.out (by rw[if_neg (by have:=HM.out;omega)]) (by rw[if_neg (by have:=HM.out;omega)]) rfl
   have FO:Hid ((UX.load (ot:Int)).1.Ok):=load_ok HE.out
   have FA:Hid ((UX.load (ot:Int)).1.Fit∧kid.Fit∧kid.leaf=(UX.load (ot:Int)).1.leaf∧(UX.load (ot:Int)).1.len + kid.len≤20):=by
    have f1:=FO.out.fit
    have f2:=HF.out
    have f3:=HKD.out
    have f4:=HKL.out
    have f5:=not_over.1 FO.out.most
    refine⟨f1,f2,f3.symm,?_⟩
    split at f5<;>omega
   have FK:Hid ((s.n.keys.getD m []).length≤24):=by
    have h1:m < s.n.keys.length:=by have:=(HOK.out.inner HLF.out).2.1;have:=HAT.out;have:=(HOK.out.inner HLF.out).1;have:=HM.out;omega
    rw[show s.n.keys.getD m []=s.n.keys[m] by simp[List.getD,h1]]
    exact HOK.out.kl _ (List.getElem_mem h1)
   obtain⟨na,hna⟩:∃n,n=(UX.load (ot:Int)).1:=⟨_,rfl⟩
   obtain⟨nb,hnb⟩:∃n,n=kid:=⟨_,rfl⟩
   obtain⟨ky,hky⟩:∃n,n=s.n.keys.getD m []:=⟨_,rfl⟩
   have HKT2:Hid (kt=ba ky):=by show _=_;rw[hky];exact HKT.out
   rw[←hna, ←hnb, ←hky] at HLV
   rw[←hna, ←hnb] at FA
   rw[←hna] at TA0
   rw[←hnb] at TB0
   rw[←hky] at FK
   have CLV:=Lib.hid fun w7 (kk:Kept (fun _=>False) w0 w7)=>NdLevel_calls (TA0.out.keptF kk).zero (TB0.out.keptF kk).zero (Nat.zero_le _) ky FK.out FA.out.1 FA.out.2.1 FA.out.2.2.1 FA.out.2.2.2
   have CBT:=Lib.hid fun w7 (kk:Kept (fun _=>False) w0 w7) (ho:(nJoin na ky nb).over=true)=>NdBetween_calls (TA0.out.keptF kk).zero (TB0.out.keptF kk).zero (Nat.zero_le _) ky FK.out FA.out.1 FA.out.2.1 FA.out.2.2.1 FA.out.2.2.2 ho
   rw[←HKT2.out] at CLV CBT
   obtain⟨VO,hVO⟩:∃v,v=Value.slice A6 (lo + 1) c6:=⟨_,rfl⟩
   rw[←hVO] at TA0 TB0 TS0 TW0 TV0
   obtain⟨WN,hWN⟩:∃v:Wk,v=⟨UX,UF,UO ++ [ot]⟩:=⟨_,rfl⟩
   have HWF:Hid (WN.fresh.length≤900):=by show _≤_;rw[hWN];exact HLL.out
   rw[←hWN] at TW0 HLV
   clear hna hnb hky hVO hWN
   have HSB:Hid (∀w7,Kept (fun _=>False) w0 w7→w7.cell? ⟨b14,0,none⟩=some (.bool lb)∧w7.cell? ⟨b14,1,none⟩=some (.slice X1 y1 z1)∧w7.cell? ⟨b14,2,none⟩=some (.slice X2 y2 z2)∧w7.cell? ⟨b14,3,none⟩=some (.slice X3 y3 z3)∧w7.cell? ⟨b15,0,none⟩=some (.bool lb)∧w7.cell? ⟨b15,1,none⟩=some (.slice A1 m1 d1)∧w7.cell? ⟨b15,2,none⟩=some (.slice A2 m2 d2)∧w7.cell? ⟨b15,3,none⟩=some (.slice A3 m3 d3)∧w7.cell? ⟨N,3,none⟩=some (.slice (some ⟨gk,0,none⟩) n1 c1)∧w7.cell? ⟨gk,m,none⟩=some (.string kt)):=fun w7 kk=>by
    obtain⟨p0,p1,p2,p3⟩:=nd_cells (kk.heap H14.out not_false)
    obtain⟨q0,q1,q2,q3⟩:=nd_cells (kk.heap H15.out not_false)
    exact⟨p0,p1,p2,p3,q0,q1,q2,q3,(cell_heap (kk.heap HST.out not_false) 3).trans rfl,HKC0.out _ kk⟩
   obtain⟨pN,hpN⟩:∃n,n=w0.heap.size:=⟨_,rfl⟩
   obtain⟨w8,hw8⟩:∃w8,w8=w0.alloc (.cells #[.slice none 0 0,.string ⟨#[]⟩] 169):=⟨_,rfl⟩
   rw[←hw8, ←hpN]
   have HPN:=Lib.hid hpN
   have K8:Hid (Kept (fun _=>False) w0 w8):=by rw[hw8];exact(Kept.refl _ _).alloc _
   have HP8:Hid (w8.heap[pN]? = some (.cells #[.slice none 0 0,.string ⟨#[]⟩] 169 (0,0))):=by show _=_;rw[hw8,hpN];exact heap_new w0 _
   have S8:Hid (w8.heap.size=pN + 1):=by show _=_;rw[hw8,hpN];simp
   have hS1:=HSB.out w8.drew K8.out.drew
   clear x1 x2 x3 x4 x5 hw8 hpN
   refine wp_region_held_drew (S:=fun w7=>w7.cell? ⟨b14,0,none⟩=some (.bool lb)∧w7.cell? ⟨b14,1,none⟩=some (.slice X1 y1 z1)∧w7.cell? ⟨b14,2,none⟩=some (.slice X2 y2 z2)∧w7.cell? ⟨b14,3,none⟩=some (.slice X3 y3 z3)∧w7.cell? ⟨b15,0,none⟩=some (.bool lb)∧w7.cell? ⟨b15,1,none⟩=some (.slice A1 m1 d1)∧w7.cell? ⟨b15,2,none⟩=some (.slice A2 m2 d2)∧w7.cell? ⟨b15,3,none⟩=some (.slice A3 m3 d3)∧w7.cell? ⟨N,3,none⟩=some (.slice (some ⟨gk,0,none⟩) n1 c1)∧w7.cell? ⟨gk,m,none⟩=some (.string kt)) (by kernel_rfl) hS1 (fun hHeld=>?_)
   clear hS1
   refine tk 0 (h:=?_)
   (try simp only[lits])
   refine tk 1 (h:=?_)
   (try simp only[lits])
   refine tk 2 (h:=?_)
   (try simp only[lits])
   refine tk 3 (h:=?_)
   (try simp only[lits])
   refine tk 4 (h:=?_)
   (try simp only[lits])
   refine tk 5 (h:=?_)
   (try simp only[lits])
   refine tk 6 (h:=?_)
   (try simp only[lits])
   refine tk 7 (h:=?_)
   (try simp only[lits])
   refine wpAnyH_ready (rs := [8]) (by kernel_rfl) (by simp) ?_
   refine AllReadyH.cons rfl (fun K hK=>?_) AllReadyH.nil
   go_simp
   refine(CLV.out _ K8.out.drew).mono ?_
   rintro e w9 ⟨vl,rfl,hnl,k9⟩
   have K9:Hid (Kept (fun _=>False) w8 w9):=(Kept.refl (fun _=>False) w8).drew.trans k9
   refine hK.out _ _ (HSB.out _ (K8.out.trans K9.out)) (fun hHeld=>?_)
   clear hK
   (try simp only[lits])
   refine tk 9 (h:=?_)
   (try simp only[lits])
   refine wpAnyH_done (by kernel_rfl) ?_ _
   have HNL:Hid (IsNds w9 w8.heap.size vl (nLevel na ky nb)):=hnl.base (by simp)
   obtain⟨ns,hns⟩:∃l,l=nLevel na ky nb:=⟨_,rfl⟩
   rw[←hns] at HNL HLV
   obtain⟨gl,cl,hvl, -⟩:=HNL.out
   subst hvl
   have FNS:Hid (∀n∈ns,n.Fit):=by
    have hj:=FA.out.1.join FA.out.2.1 FK.out FA.out.2.2.1 FA.out.2.2.2
    intro n hn
    rw[hns] at hn
    unfold nLevel at hn
    split at hn
    ·next ho =>
     have hh:=hj.1.halves ho
     simp only[List.mem_cons,List.not_mem_nil,or_false] at hn
     rcases hn with rfl|rfl
     ·exact hh.1
     ·exact hh.2.1
    ·simp only[List.mem_singleton] at hn
     subst hn;exact hj.1
   have FBK:Hid (∀w7,Kept (fun _=>False) w0 w7→ns.length=2→Calls Tryz.prog 129 #[.agg #[.bool lb,.slice X1 y1 z1,.slice X2 y2 z2,.slice X3 y3 z3],.string kt,.agg #[.bool lb,.slice A1 m1 d1,.slice A2 m2 d2,.slice A3 m3 d3]] w7 fun e w'=>e = .returned (Ss (nBetween na ky nb))∧Kept (fun _=>False) w7 w'):=fun w7 kk h2=>CBT.out w7 kk (by
    rw[hns] at h2
    unfold nLevel at h2
    split at h2
    ·next ho=>exact ho
    ·simp at h2)
   have L12:Hid (ns.length=1∨ns.length=2):=by
    show _∨_
    rw[hns]
    unfold nLevel
    split
    ·exact .inr rfl
    ·exact .inl rfl
   obtain⟨bt,hbt⟩:∃b,b=nBetween na ky nb:=⟨_,rfl⟩
   rw[←hbt] at FBK HLV
   obtain⟨ln,hln⟩:∃n,n=ns.length:=⟨_,rfl⟩
   rw[←hln] at L12 HNL HLV FBK⊢
   have HLN:=Lib.hid hln
   clear hnl k9 hns hln hHeld CBT CLV
   by_cases h2:ln=2
   ·have g9:((ln:Int) == 2)=true:=by rw[beq_iff_eq];omega
    obtain⟨kt2,hkt2⟩:∃t,t=ba bt:=⟨_,rfl⟩
    have CB:=Lib.hid fun w7 kk=>FBK.out w7 kk h2
    rw[show Ss bt = .string kt2 by rw[hkt2];rfl] at CB
    have HK2:=Lib.hid hkt2
    have HH2:=Lib.hid h2
    clear hkt2 hbt FBK h2
    go_wp2_with fail
    have hS1:=HSB.out w9.drew (K8.out.trans K9.out).drew
    refine wp_region_held_drew (S:=fun w7=>w7.cell? ⟨b14,0,none⟩=some (.bool lb)∧w7.cell? ⟨b14,1,none⟩=some (.slice X1 y1 z1)∧w7.cell? ⟨b14,2,none⟩=some (.slice X2 y2 z2)∧w7.cell? ⟨b14,3,none⟩=some (.slice X3 y3 z3)∧w7.cell? ⟨b15,0,none⟩=some (.bool lb)∧w7.cell? ⟨b15,1,none⟩=some (.slice A1 m1 d1)∧w7.cell? ⟨b15,2,none⟩=some (.slice A2 m2 d2)∧w7.cell? ⟨b15,3,none⟩=some (.slice A3 m3 d3)∧w7.cell? ⟨N,3,none⟩=some (.slice (some ⟨gk,0,none⟩) n1 c1)∧w7.cell? ⟨gk,m,none⟩=some (.string kt)) (by kernel_rfl) hS1 (fun hHeld=>?_)
    clear hS1
    refine tk 0 (h:=?_)
    (try simp only[lits])
    refine tk 1 (h:=?_)
    (try simp only[lits])
    refine tk 2 (h:=?_)
    (try simp only[lits])
    refine tk 3 (h:=?_)
    (try simp only[lits])
    refine tk 4 (h:=?_)
    (try simp only[lits])
    refine tk 5 (h:=?_)
    (try simp only[lits])
    refine tk 6 (h:=?_)
    (try simp only[lits])
    refine tk 7 (h:=?_)
    (try simp only[lits])
    refine wpAnyH_ready (rs := [8]) (by kernel_rfl) (by simp) ?_
    refine AllReadyH.cons rfl (fun K hK=>?_) AllReadyH.nil
    go_simp
    refine(CB.out _ (K8.out.trans K9.out).drew).mono ?_
    rintro e w10 ⟨rfl,k10⟩
    have K10:Hid (Kept (fun _=>False) w9 w10):=(Kept.refl (fun _=>False) w9).drew.trans k10
    refine hK.out _ _ (HSB.out _ ((K8.out.trans K9.out).trans K10.out)) (fun hHeld=>?_)
    clear hK
    (try simp only[lits])
    refine tk 9 (h:=?_)
    (try simp only[lits])
    refine wpAnyH_ready (rs := [10]) (by kernel_rfl) (by simp) ?_
    refine AllReadyH.cons rfl (fun K hK=>?_) AllReadyH.nil
    have hP10:=(K9.out.trans K10.out).heap HP8.out id
    have HP10:=Lib.hid hP10
    have fz10:w10.frozen? ⟨pN,1,none⟩=false:=free_heap hP10 1
    have cz10:w10.cell? ⟨pN,1,none⟩=some (.string ⟨#[]⟩):=(cell_heap hP10 1).trans rfl
    go_simp
    have KS:Hid (Kept (fun _=>False) w0 (w10.setCell ⟨pN,1,none⟩ (.string kt2))):=((K8.out.trans K9.out).trans K10.out).setCell (.inr (by rw[HPN.out];exact Nat.le_refl _)) _
    refine hK.out _ _ (HSB.out _ KS.out) (fun hHeld=>?_)
    clear hK
    (try simp only[lits])
    refine wpAnyH_done (by kernel_rfl) ?_ _
    have KP10:Hid (Kept (fun g=>wkS q wk vf VO g∨g=pN) w9 (w10.setCell ⟨pN,1,none⟩ (.string kt2))):=((K10.out.mono fun _ _=>False.elim).setCell (.inl (.inr rfl)) _)
    have L0:Hid (LvL w9 (w10.setCell ⟨pN,1,none⟩ (.string kt2)) q wk vf VO root Z pN (.string kt2) WN vf (.slice none 0 0) []) :=
     ⟨(((TW0.out.keptF K8.out).keptF K9.out).keptF K10.out).asideOne HP10.out ((Kept.refl (· = pN) w10).set1 1 _) (by decide) (by decide) (by decide),KP10.out,fun g hg=>.inl hg,heap_set HP10.out 1 _,IRow.nil _ _,fun _ h=>by cases h⟩
    obtain⟨wL,hwL⟩:∃wL,wL=w10.setCell ⟨pN,1,none⟩ (.string kt2):=⟨_,rfl⟩
    rw[←hwL] at L0⊢
    have HKB:Hid (bt=if ln=2 then bt else []):=(if_pos HH2.out).symm
    obtain⟨kb,hkb⟩:∃k,k=bt:=⟨_,rfl⟩
    rw[←hkb] at HK2
    have HKE:Hid (kb=if ln=2 then bt else []):=by show _=_;rw[hkb];exact HKB.out
    clear hHeld CB hP10 fz10 cz10 k10 hwL KP10 hkb HKB
    go_wp2_with fail
    clear g9
    have HBL:Hid (∀b,(wkS q wk vf VO b∨b=pN)→b < w8.heap.size):=by
     rintro b (e|e)
     ·exact(TW0.out.keptF K8.out).lt b e
     ·subst e;rw[S8.out];exact Nat.lt_succ_self _
    have L9:Hid (WkW w9 q wk vf VO WN root Z):=(TW0.out.keptF K8.out).keptF K9.out
    have TS9:Hid (NdAp w9 (wkS q wk vf VO) (.agg #[.bool l,.slice (some ⟨gk,0,none⟩) n1 c1,.slice P2 n2 c2,.slice (some ⟨g,0,none⟩) n3 c3]) s.n):=(TS0.out.keptF K8.out).keptF K9.out
    have HST9:=Lib.hid ((K8.out.trans K9.out).heap HST.out id)
    have HR9:=Lib.hid ((K8.out.trans K9.out).heap HR0.out id)
    have TK9:Hid (Kept (wkS q wk vf (.slice Ao (List.length UO) co)) w w9):=TK0.out.then (K8.out.trans K9.out) fun _ _=>False.elim
    have Z9:Hid (Z≤w9.heap.size):=by have:=TZ0.out;have:=(K8.out.trans K9.out).size;show _≤_;omega
    have VO9:Hid (∀b,VO.ownBlock=some b→b < w9.heap.size):=fun b hb=>L9.out.lt b (.inr (.inr (.inr (.inr hb))))
    have OFF:Hid (∀ {i:Nat} {cs:Array Value} {T:TypeId} {f:Nat×Nat},w9.heap[i]? = some (.cells cs T f)→T=157∨T=148 → ¬(wkS q wk vf VO i∨i=pN)):=by
     rintro i cs T f hh hT ((e|e|e|e|e)|e)
     ·subst e
      have h:=L9.out.tw.sto.sp.row
      rw[h] at hh
      injection hh with hh
      injection hh with _ e _
      rcases hT with hT|hT<;>(rw[hT] at e;exact absurd e (by decide))
     ·obtain⟨es,clock,hm⟩:=L9.out.tw.sto.put.heap
      exact map_ne hm hh e
     ·subst e
      have h:=L9.out.blk
      rw[h] at hh
      injection hh with hh
      injection hh with _ e _
      rcases hT with hT|hT<;>(rw[hT] at e;exact absurd e (by decide))
     ·exact own_neH L9.out.rf hh (by rcases hT with hT|hT<;>(rw[hT];decide)) _ e rfl
     ·exact own_neH L9.out.ro hh (by rcases hT with hT|hT<;>(rw[hT];decide)) _ e rfl
     ·subst e
      have h:=K9.out.heap HP8.out id
      rw[h] at hh
      injection hh with hh
      injection hh with _ e _
      rcases hT with hT|hT<;>(rw[hT] at e;exact absurd e (by decide))
    have LNB:ln≤2:=by have:=L12.out;omega
    go_loopw [19,20,21,126] (fun _ _ _ i wr=>∃(k:Nat) (U:Wk) (vfk:Value) (Ap:Option Addr) (cp:Nat) (ids:List Nat),k≤ln∧i = .int .i64 k∧Hid (LvL w9 wr q wk vf VO root Z pN (.string kt2) U vfk (.slice Ap k cp) ids)∧Hid (ids.length=k∧putAll WN ns=(ids ++ (putAll U (ns.drop k)).1,(putAll U (ns.drop k)).2)∧U.fresh.length≤WN.fresh.length + k)) (fun _ _ _ i _=>ln - (RowKit.intOf i).toNat)
    case atStart=>exact⟨0,WN,vf,none,0, [],Nat.zero_le _,rfl,L0.out,rfl,by simp,by simp⟩
    case round =>
     obtain⟨k,U,vfk,Ap,cp,ids,hk,rfl,LL,LP⟩:=hrel
     by_cases hlt:k < ln
     ·have hki:k < ns.length:=by have:=HLN.out;omega
      obtain⟨x0,Y1,p1,o1,Y2,p2,o2,Y3,p3,o3,cc0,cc1,cc2,cc3,hnd,hgl⟩:=nds_at HNL.out LL.out.kp HBL.out rfl hki
      obtain⟨nk,hnk⟩:∃n,n=ns[k]:=⟨_,rfl⟩
      rw[←hnk] at hnd
      have HND:=Lib.hid hnd
      have FN:Hid nk.Fit:=FNS.out nk (by rw[hnk];exact List.getElem_mem hki)
      have HDR:Hid (ns.drop k=nk :: ns.drop (k + 1)):=by show _=_;rw[hnk];exact List.drop_eq_getElem_cons hki
      have CP:=Lib.hid (fun w' (kk:Kept (fun _=>False) wr w')=>TWput_calls (LL.out.keptF kk).hw (HND.out.kept kk) FN.out (Nat.le_trans Z9.out (Nat.le_trans LL.out.kp.size kk.size)) (by have:=LP.out.2.2;have:=HWF.out;omega))
      obtain⟨⟨⟨ti,te⟩,U'⟩,hpu⟩:∃x,x=putP U nk:=⟨_,rfl⟩
      rw[←hpu] at CP
      have HPU:=Lib.hid hpu
      clear hnd hpu hnk hki
      go_wp2_with fail
      refine(CP.out _ ((Kept.refl _ wr).alloc _)).mono ?_
      intro e w5 hp
      obtain⟨rfl,vfk',LL5⟩:=(LL.out.keptF ((Kept.refl _ wr).alloc _)).put hp
      have L5:=Lib.hid LL5
      clear hp LL5 CP cc0 cc1 cc2 cc3 hgl
      dsimp only at L5⊢
      by_cases hz:te=0
      ·subst hz
       have hcp:w5.cell? ⟨pN,0,none⟩=some (.slice Ap k cp):=(cell_heap L5.out.pb 0).trans rfl
       have OWN:Hid ((w5.alloc (.cells #[.int .i64 (ti:Nat)] 3)).ownsRow 0 3 1 (.slice Ap k cp) k (ids.map I)):=by
        have h:=L5.out.ip.keptF ((Kept.refl _ w5).alloc (.cells #[.int .i64 (ti:Nat)] 3))
        unfold IRow at h
        rw[LP.out.1] at h
        exact own_base h fun _ _=>Nat.zero_le _
       have M1':Hid (k + 1≤maxLen):=by show _≤_;unfold maxLen;omega
       have M2':Hid ((k + 1) * 8≤140737488355328):=by show _≤_;omega
       have RD5:=Lib.hid (reads_one w5 (.int .i64 (ti:Nat)) 3)
       have fw5:w5.frozen? ⟨pN,0,none⟩=false:=free_heap L5.out.pb 0
       have lpN:=lt_heap L5.out.pb
       go_wp2_with (at_builtin;(refine app_one (v:=.slice Ap k cp) rfl (.tmp 141) (.tmp 143) rfl Tryz.underlying28 info_int rfl rfl OWN.out _ rfl RD5.out (ints_one [ti]) M1'.out M2'.out ?_;intro v' w6 hv' hg' hob;obtain⟨A7,c7,rfl,hb6,hL6⟩:=L5.out.app VO9.out ((Kept.refl _ w5).alloc _) LP.out.1.symm hv' hg' hob;have HL6:=Lib.hid hL6;have e0:=(cell_heap hb6 0).trans rfl;have fw6:w6.frozen? ⟨pN,0,none⟩=false:=free_heap hb6 0;clear hv' hg' hob hL6 hb6 hcp fw5 lpN))
       go_roundw
       case rel =>
        refine⟨k + 1,U',vfk',A7,c7,ids ++ [ti],by omega,by go_num,HL6.out,?_⟩
        obtain⟨a1,a2,a3⟩:=LP.out
        obtain⟨b1,b2⟩:=putAll_step HPU.out.symm (ns.drop (k + 1))
        refine⟨by rw[List.length_append,a1];rfl,?_,by omega⟩
        rw[a2,HDR.out,b1]
        simp
       case measure=>simp[RowKit.intOf];omega
      ·have g10:(te == 0)=false:=by rw[beq_eq_false_iff_ne];exact hz
       have g11:(te != 0)=true:=by rw[bne_iff_ne];exact hz
       have hR5:=L5.out.kp.heap HR9.out (OFF.out HR9.out (.inr rfl))
       have HR5':=Lib.hid hR5
       obtain⟨d0',d1',d2',d3'⟩:=nd_cells hR5
       have fz:∀i,w5.frozen? ⟨N + 1 + 1,i,none⟩=false:=fun i=>free_heap hR5 i
       have HZE:=Lib.hid hz
       have lR5:=lt_heap hR5
       clear hR5 hz
       go_wp2_with fail
       have hb4:=set4_heap HR5'.out (by simp) (.bool false) (.slice none 0 0) (.slice none 0 0) (.slice none 0 0)
       have k4:=set4_kept w5 (N + 1 + 1) (.bool false) (.slice none 0 0) (.slice none 0 0) (.slice none 0 0)
       obtain⟨e0,e1,e2,e3⟩:=nd_cells hb4
       refine bodyPost_ret (v:=.tuple #[.agg #[.bool false,.slice none 0 0,.slice none 0 0,.slice none 0 0],.int .i64 te]) (by simp[results,Tryz.f90,go_sem,e0,e1,e2,e3]) rfl ?_
       have hr:r=(nd0,te,U'):=by
        have e:putAll WN ns=(ids,te,U'):=by
         rw[LP.out.2.1,HDR.out,putAll_bad HPU.out.symm HZE.out,List.append_nil]
        rw[HLV.out,e,if_pos HZE.out]
       rw[hr]
       have hn:=HN.out
       have hpn:=HPN.out
       refine⟨_,vfk',VO,rfl,NdAp.new L5.out.hw (nd0_is _ w5.heap.size) (Nat.le_refl _),L5.out.hw.asideOne HR5'.out k4 (by decide) (by decide) (by decide),?_,fun g hg=>?_⟩
       ·refine(TK9.out.then L5.out.kp fun i hi e=>?_).then k4 fun i hi e=>by omega
        rcases e with e|e
        ·exact(TV0.out i e).resolve_right (by omega)
        ·have:=TK0.out.size;omega
       ·rcases hg with e|e|e|e|e
        ·exact .inl (.inl e)
        ·exact .inl (.inr (.inl e))
        ·exact .inl (.inr (.inr (.inl e)))
        ·rcases L5.out.fk g e with e|e
         ·exact .inl (.inr (.inr (.inr (.inl e))))
         ·exact .inr (Nat.le_trans TK9.out.size e)
        ·exact TV0.out g (.inr (.inr (.inr (.inr e))))
     ·obtain rfl:k=ln:=by omega
      have hST:=LL.out.kp.heap HST9.out (OFF.out HST9.out (.inl rfl))
      have hR5:=LL.out.kp.heap HR9.out (OFF.out HR9.out (.inr rfl))
      have HR5':=Lib.hid hR5
      have x2:wr.cell? ⟨N,2,none⟩=some (.bool l):=(cell_heap hST 2).trans rfl
      have x3:wr.cell? ⟨N,3,none⟩=some (.slice (some ⟨gk,0,none⟩) n1 c1):=(cell_heap hST 3).trans rfl
      have x4:wr.cell? ⟨N,4,none⟩=some (.slice P2 n2 c2):=(cell_heap hST 4).trans rfl
      have x5:wr.cell? ⟨N,5,none⟩=some (.slice (some ⟨g,0,none⟩) n3 c3):=(cell_heap hST 5).trans rfl
      have y0:wr.cell? ⟨pN,0,none⟩=some (.slice Ap k cp):=(cell_heap LL.out.pb 0).trans rfl
      have y1:wr.cell? ⟨pN,1,none⟩=some (.string kt2):=(cell_heap LL.out.pb 1).trans rfl
      have KW:Hid (Kept (fun g=>wkS q wk vf VO g∨g=pN) w0 wr):=((K8.out.trans K9.out).mono fun _ _=>False.elim).then LL.out.kp fun _ _ e=>e
      have SL:Hid (∀g,wkS q wk vfk VO g→wkS q wk vf VO g∨w9.heap.size≤g):=by
       rintro g (e|e|e|e|e)
       ·exact .inl (.inl e)
       ·exact .inl (.inr (.inl e))
       ·exact .inl (.inr (.inr (.inl e)))
       ·rcases LL.out.fk g e with e|e
        ·exact .inl (.inr (.inr (.inr (.inl e))))
        ·exact .inr e
       ·exact .inl (.inr (.inr (.inr (.inr e))))
      have TSr:Hid (NdAp wr (wkS q wk vfk VO) (.agg #[.bool l,.slice (some ⟨gk,0,none⟩) n1 c1,.slice P2 n2 c2,.slice (some ⟨g,0,none⟩) n3 c3]) s.n):=TS0.out.kept KW.out (fun g e=>by
       rcases e with e|e
       ·exact .inl e
       ·exact .inr (by rw[e,HPN.out];exact Nat.le_refl _)) (fun g e=>by
       rcases SL.out g e with e|e
       ·exact .inl e
       ·exact .inr (Nat.le_trans (K8.out.trans K9.out).size e))
      have CR:=Lib.hid fun w' (kk:Kept (fun _=>False) wr w')=>TWrepl2_calls (TSr.out.keptF kk).zero (LL.out.ip.keptF kk) (by rw[LP.out.1];exact L12.out) kb m (by have:=HAT.out;have:=HM.out;have:=(HOK.out.inner HLF.out).1;omega) (HOK.out.inner HLF.out).2.1 (by have:=HOK.out.len;omega)
      rw[←HK2.out] at CR
      clear hST hR5 hlt hk
      go_wp2_with fail
      refine(CR.out _ (Kept.refl _ wr)).mono ?_
      rintro e w6 ⟨vn,rfl,hn,k6⟩
      obtain⟨lb',Z1,s1,t1,Z2,s2,t2,Z3,s3,t3,rfl⟩:=hn.agg
      have K6':=Lib.hid k6
      have NN:=Lib.hid hn
      have hb3:=k6.heap HR5'.out not_false
      have HB3:=Lib.hid hb3
      obtain⟨d0',d1',d2',d3'⟩:=nd_cells hb3
      have fz:∀i,w6.frozen? ⟨N + 1 + 1,i,none⟩=false:=fun i=>free_heap hb3 i
      clear hn k6 CR hb3 x2 x3 x4 x5 y0 y1
      go_wp2_with fail
      have hb4:=set4_heap HB3.out (by simp) (.bool lb') (.slice Z1 s1 t1) (.slice Z2 s2 t2) (.slice Z3 s3 t3)
      have k4:=set4_kept w6 (N + 1 + 1) (.bool lb') (.slice Z1 s1 t1) (.slice Z2 s2 t2) (.slice Z3 s3 t3)
      obtain⟨e0,e1,e2,e3⟩:=nd_cells hb4
      refine bodyPost_ret (v:=.tuple #[.agg #[.bool lb',.slice Z1 s1 t1,.slice Z2 s2 t2,.slice Z3 s3 t3],.int .i64 0]) (by simp[results,Tryz.f90,go_sem,e0,e1,e2,e3]) rfl ?_
      have hr:r=(s.n.repl m (m + 2) ids kb,0,U):=by
       have e:putAll WN ns=(ids,0,U):=by
        rw[LP.out.2.1,HLN.out,List.drop_length];simp[putAll]
       rw[HLV.out,e,if_neg (by simp), ←HKE.out]
      rw[hr]
      have hn:=HN.out
      have hpn:=HPN.out
      refine⟨_,vfk,VO,rfl,NdAp.new LL.out.hw (NN.out.keptB HB3.out k4 fun _ e=>e) (Nat.le_refl _),(LL.out.hw.keptF K6'.out).asideOne HB3.out k4 (by decide) (by decide) (by decide),?_,fun g hg=>?_⟩
      ·refine((TK9.out.then LL.out.kp fun i hi e=>?_).then K6'.out fun i hi e=>e.elim).then k4 fun i hi e=>by omega
       rcases e with e|e
       ·exact(TV0.out i e).resolve_right (by omega)
       ·have:=TK0.out.size;omega
      ·rcases SL.out g hg with e|e
       ·exact TV0.out g e
       ·exact .inr (Nat.le_trans TK9.out.size e)
   ·have g9:((ln:Int) == 2)=false:=by rw[beq_eq_false_iff_ne];omega
    have HK2:Hid ((⟨#[]⟩:ByteArray)=ba []):=rfl
    have L0:Hid (LvL w9 w9 q wk vf VO root Z pN (.string ⟨#[]⟩) WN vf (.slice none 0 0) []) :=
     ⟨(TW0.out.keptF K8.out).keptF K9.out,Kept.refl _ _,fun g hg=>.inl hg,K9.out.heap HP8.out id,IRow.nil _ _,fun _ h=>by cases h⟩
    obtain⟨kt2,hkt2⟩:∃t:ByteArray,t=⟨#[]⟩:=⟨_,rfl⟩
    obtain⟨kb,hkb⟩:∃k:Bs,k = []:=⟨_,rfl⟩
    have HKE:Hid (kb=if ln=2 then bt else []):=by show _=_;rw[if_neg h2];exact hkb
    rw[←hkt2, ←hkb] at HK2
    rw[←hkt2] at L0
    clear FBK hkt2 h2 hkb
    go_wp2_with fail
    clear g9
    have HBL:Hid (∀b,(wkS q wk vf VO b∨b=pN)→b < w8.heap.size):=by
     rintro b (e|e)
     ·exact(TW0.out.keptF K8.out).lt b e
     ·subst e;rw[S8.out];exact Nat.lt_succ_self _
    have L9:Hid (WkW w9 q wk vf VO WN root Z):=(TW0.out.keptF K8.out).keptF K9.out
    have TS9:Hid (NdAp w9 (wkS q wk vf VO) (.agg #[.bool l,.slice (some ⟨gk,0,none⟩) n1 c1,.slice P2 n2 c2,.slice (some ⟨g,0,none⟩) n3 c3]) s.n):=(TS0.out.keptF K8.out).keptF K9.out
    have HST9:=Lib.hid ((K8.out.trans K9.out).heap HST.out id)
    have HR9:=Lib.hid ((K8.out.trans K9.out).heap HR0.out id)
    have TK9:Hid (Kept (wkS q wk vf (.slice Ao (List.length UO) co)) w w9):=TK0.out.then (K8.out.trans K9.out) fun _ _=>False.elim
    have Z9:Hid (Z≤w9.heap.size):=by have:=TZ0.out;have:=(K8.out.trans K9.out).size;show _≤_;omega
    have VO9:Hid (∀b,VO.ownBlock=some b→b < w9.heap.size):=fun b hb=>L9.out.lt b (.inr (.inr (.inr (.inr hb))))
    have OFF:Hid (∀ {i:Nat} {cs:Array Value} {T:TypeId} {f:Nat×Nat},w9.heap[i]? = some (.cells cs T f)→T=157∨T=148 → ¬(wkS q wk vf VO i∨i=pN)):=by
     rintro i cs T f hh hT ((e|e|e|e|e)|e)
     ·subst e
      have h:=L9.out.tw.sto.sp.row
      rw[h] at hh
      injection hh with hh
      injection hh with _ e _
      rcases hT with hT|hT<;>(rw[hT] at e;exact absurd e (by decide))
     ·obtain⟨es,clock,hm⟩:=L9.out.tw.sto.put.heap
      exact map_ne hm hh e
     ·subst e
      have h:=L9.out.blk
      rw[h] at hh
      injection hh with hh
      injection hh with _ e _
      rcases hT with hT|hT<;>(rw[hT] at e;exact absurd e (by decide))
     ·exact own_neH L9.out.rf hh (by rcases hT with hT|hT<;>(rw[hT];decide)) _ e rfl
     ·exact own_neH L9.out.ro hh (by rcases hT with hT|hT<;>(rw[hT];decide)) _ e rfl
     ·subst e
      have h:=K9.out.heap HP8.out id
      rw[h] at hh
      injection hh with hh
      injection hh with _ e _
      rcases hT with hT|hT<;>(rw[hT] at e;exact absurd e (by decide))
    have LNB:ln≤2:=by have:=L12.out;omega
    go_loopw [19,20,21,126] (fun _ _ _ i wr=>∃(k:Nat) (U:Wk) (vfk:Value) (Ap:Option Addr) (cp:Nat) (ids:List Nat),k≤ln∧i = .int .i64 k∧Hid (LvL w9 wr q wk vf VO root Z pN (.string kt2) U vfk (.slice Ap k cp) ids)∧Hid (ids.length=k∧putAll WN ns=(ids ++ (putAll U (ns.drop k)).1,(putAll U (ns.drop k)).2)∧U.fresh.length≤WN.fresh.length + k)) (fun _ _ _ i _=>ln - (RowKit.intOf i).toNat)
    case atStart=>exact⟨0,WN,vf,none,0, [],Nat.zero_le _,rfl,L0.out,rfl,by simp,by simp⟩
    case round =>
     obtain⟨k,U,vfk,Ap,cp,ids,hk,rfl,LL,LP⟩:=hrel
     by_cases hlt:k < ln
     ·have hki:k < ns.length:=by have:=HLN.out;omega
      obtain⟨x0,Y1,p1,o1,Y2,p2,o2,Y3,p3,o3,cc0,cc1,cc2,cc3,hnd,hgl⟩:=nds_at HNL.out LL.out.kp HBL.out rfl hki
      obtain⟨nk,hnk⟩:∃n,n=ns[k]:=⟨_,rfl⟩
      rw[←hnk] at hnd
      have HND:=Lib.hid hnd
      have FN:Hid nk.Fit:=FNS.out nk (by rw[hnk];exact List.getElem_mem hki)
      have HDR:Hid (ns.drop k=nk :: ns.drop (k + 1)):=by show _=_;rw[hnk];exact List.drop_eq_getElem_cons hki
      have CP:=Lib.hid (fun w' (kk:Kept (fun _=>False) wr w')=>TWput_calls (LL.out.keptF kk).hw (HND.out.kept kk) FN.out (Nat.le_trans Z9.out (Nat.le_trans LL.out.kp.size kk.size)) (by have:=LP.out.2.2;have:=HWF.out;omega))
      obtain⟨⟨⟨ti,te⟩,U'⟩,hpu⟩:∃x,x=putP U nk:=⟨_,rfl⟩
      rw[←hpu] at CP
      have HPU:=Lib.hid hpu
      clear hnd hpu hnk hki
      go_wp2_with fail
      refine(CP.out _ ((Kept.refl _ wr).alloc _)).mono ?_
      intro e w5 hp
      obtain⟨rfl,vfk',LL5⟩:=(LL.out.keptF ((Kept.refl _ wr).alloc _)).put hp
      have L5:=Lib.hid LL5
      clear hp LL5 CP cc0 cc1 cc2 cc3 hgl
      dsimp only at L5⊢
      by_cases hz:te=0
      ·subst hz
       have hcp:w5.cell? ⟨pN,0,none⟩=some (.slice Ap k cp):=(cell_heap L5.out.pb 0).trans rfl
       have OWN:Hid ((w5.alloc (.cells #[.int .i64 (ti:Nat)] 3)).ownsRow 0 3 1 (.slice Ap k cp) k (ids.map I)):=by
        have h:=L5.out.ip.keptF ((Kept.refl _ w5).alloc (.cells #[.int .i64 (ti:Nat)] 3))
        unfold IRow at h
        rw[LP.out.1] at h
        exact own_base h fun _ _=>Nat.zero_le _
       have M1':Hid (k + 1≤maxLen):=by show _≤_;unfold maxLen;omega
       have M2':Hid ((k + 1) * 8≤140737488355328):=by show _≤_;omega
       have RD5:=Lib.hid (reads_one w5 (.int .i64 (ti:Nat)) 3)
       have fw5:w5.frozen? ⟨pN,0,none⟩=false:=free_heap L5.out.pb 0
       have lpN:=lt_heap L5.out.pb
       go_wp2_with (at_builtin;(refine app_one (v:=.slice Ap k cp) rfl (.tmp 141) (.tmp 143) rfl Tryz.underlying28 info_int rfl rfl OWN.out _ rfl RD5.out (ints_one [ti]) M1'.out M2'.out ?_;intro v' w6 hv' hg' hob;obtain⟨A7,c7,rfl,hb6,hL6⟩:=L5.out.app VO9.out ((Kept.refl _ w5).alloc _) LP.out.1.symm hv' hg' hob;have HL6:=Lib.hid hL6;have e0:=(cell_heap hb6 0).trans rfl;have fw6:w6.frozen? ⟨pN,0,none⟩=false:=free_heap hb6 0;clear hv' hg' hob hL6 hb6 hcp fw5 lpN))
       go_roundw
       case rel =>
        refine⟨k + 1,U',vfk',A7,c7,ids ++ [ti],by omega,by go_num,HL6.out,?_⟩
        obtain⟨a1,a2,a3⟩:=LP.out
        obtain⟨b1,b2⟩:=putAll_step HPU.out.symm (ns.drop (k + 1))
        refine⟨by rw[List.length_append,a1];rfl,?_,by omega⟩
        rw[a2,HDR.out,b1]
        simp
       case measure=>simp[RowKit.intOf];omega
      ·have g10:(te == 0)=false:=by rw[beq_eq_false_iff_ne];exact hz
       have g11:(te != 0)=true:=by rw[bne_iff_ne];exact hz
       have hR5:=L5.out.kp.heap HR9.out (OFF.out HR9.out (.inr rfl))
       have HR5':=Lib.hid hR5
       obtain⟨d0',d1',d2',d3'⟩:=nd_cells hR5
       have fz:∀i,w5.frozen? ⟨N + 1 + 1,i,none⟩=false:=fun i=>free_heap hR5 i
       have HZE:=Lib.hid hz
       have lR5:=lt_heap hR5
       clear hR5 hz
       go_wp2_with fail
       have hb4:=set4_heap HR5'.out (by simp) (.bool false) (.slice none 0 0) (.slice none 0 0) (.slice none 0 0)
       have k4:=set4_kept w5 (N + 1 + 1) (.bool false) (.slice none 0 0) (.slice none 0 0) (.slice none 0 0)
       obtain⟨e0,e1,e2,e3⟩:=nd_cells hb4
       refine bodyPost_ret (v:=.tuple #[.agg #[.bool false,.slice none 0 0,.slice none 0 0,.slice none 0 0],.int .i64 te]) (by simp[results,Tryz.f90,go_sem,e0,e1,e2,e3]) rfl ?_
       have hr:r=(nd0,te,U'):=by
        have e:putAll WN ns=(ids,te,U'):=by
         rw[LP.out.2.1,HDR.out,putAll_bad HPU.out.symm HZE.out,List.append_nil]
        rw[HLV.out,e,if_pos HZE.out]
       rw[hr]
       have hn:=HN.out
       have hpn:=HPN.out
       refine⟨_,vfk',VO,rfl,NdAp.new L5.out.hw (nd0_is _ w5.heap.size) (Nat.le_refl _),L5.out.hw.asideOne HR5'.out k4 (by decide) (by decide) (by decide),?_,fun g hg=>?_⟩
       ·refine(TK9.out.then L5.out.kp fun i hi e=>?_).then k4 fun i hi e=>by omega
        rcases e with e|e
        ·exact(TV0.out i e).resolve_right (by omega)
        ·have:=TK0.out.size;omega
       ·rcases hg with e|e|e|e|e
        ·exact .inl (.inl e)
        ·exact .inl (.inr (.inl e))
        ·exact .inl (.inr (.inr (.inl e)))
        ·rcases L5.out.fk g e with e|e
         ·exact .inl (.inr (.inr (.inr (.inl e))))
         ·exact .inr (Nat.le_trans TK9.out.size e)
        ·exact TV0.out g (.inr (.inr (.inr (.inr e))))
     ·obtain rfl:k=ln:=by omega
      have hST:=LL.out.kp.heap HST9.out (OFF.out HST9.out (.inl rfl))
      have hR5:=LL.out.kp.heap HR9.out (OFF.out HR9.out (.inr rfl))
      have HR5':=Lib.hid hR5
      have x2:wr.cell? ⟨N,2,none⟩=some (.bool l):=(cell_heap hST 2).trans rfl
      have x3:wr.cell? ⟨N,3,none⟩=some (.slice (some ⟨gk,0,none⟩) n1 c1):=(cell_heap hST 3).trans rfl
      have x4:wr.cell? ⟨N,4,none⟩=some (.slice P2 n2 c2):=(cell_heap hST 4).trans rfl
      have x5:wr.cell? ⟨N,5,none⟩=some (.slice (some ⟨g,0,none⟩) n3 c3):=(cell_heap hST 5).trans rfl
      have y0:wr.cell? ⟨pN,0,none⟩=some (.slice Ap k cp):=(cell_heap LL.out.pb 0).trans rfl
      have y1:wr.cell? ⟨pN,1,none⟩=some (.string kt2):=(cell_heap LL.out.pb 1).trans rfl
      have KW:Hid (Kept (fun g=>wkS q wk vf VO g∨g=pN) w0 wr):=((K8.out.trans K9.out).mono fun _ _=>False.elim).then LL.out.kp fun _ _ e=>e
      have SL:Hid (∀g,wkS q wk vfk VO g→wkS q wk vf VO g∨w9.heap.size≤g):=by
       rintro g (e|e|e|e|e)
       ·exact .inl (.inl e)
       ·exact .inl (.inr (.inl e))
       ·exact .inl (.inr (.inr (.inl e)))
       ·rcases LL.out.fk g e with e|e
        ·exact .inl (.inr (.inr (.inr (.inl e))))
        ·exact .inr e
       ·exact .inl (.inr (.inr (.inr (.inr e))))
      have TSr:Hid (NdAp wr (wkS q wk vfk VO) (.agg #[.bool l,.slice (some ⟨gk,0,none⟩) n1 c1,.slice P2 n2 c2,.slice (some ⟨g,0,none⟩) n3 c3]) s.n):=TS0.out.kept KW.out (fun g e=>by
       rcases e with e|e
       ·exact .inl e
       ·exact .inr (by rw[e,HPN.out];exact Nat.le_refl _)) (fun g e=>by
       rcases SL.out g e with e|e
       ·exact .inl e
       ·exact .inr (Nat.le_trans (K8.out.trans K9.out).size e))
      have CR:=Lib.hid fun w' (kk:Kept (fun _=>False) wr w')=>TWrepl2_calls (TSr.out.keptF kk).zero (LL.out.ip.keptF kk) (by rw[LP.out.1];exact L12.out) kb m (by have:=HAT.out;have:=HM.out;have:=(HOK.out.inner HLF.out).1;omega) (HOK.out.inner HLF.out).2.1 (by have:=HOK.out.len;omega)
      rw[←HK2.out] at CR
      clear hST hR5 hlt hk
      go_wp2_with fail
      refine(CR.out _ (Kept.refl _ wr)).mono ?_
      rintro e w6 ⟨vn,rfl,hn,k6⟩
      obtain⟨lb',Z1,s1,t1,Z2,s2,t2,Z3,s3,t3,rfl⟩:=hn.agg
      have K6':=Lib.hid k6
      have NN:=Lib.hid hn
      have hb3:=k6.heap HR5'.out not_false
      have HB3:=Lib.hid hb3
      obtain⟨d0',d1',d2',d3'⟩:=nd_cells hb3
      have fz:∀i,w6.frozen? ⟨N + 1 + 1,i,none⟩=false:=fun i=>free_heap hb3 i
      clear hn k6 CR hb3 x2 x3 x4 x5 y0 y1
      go_wp2_with fail
      have hb4:=set4_heap HB3.out (by simp) (.bool lb') (.slice Z1 s1 t1) (.slice Z2 s2 t2) (.slice Z3 s3 t3)
      have k4:=set4_kept w6 (N + 1 + 1) (.bool lb') (.slice Z1 s1 t1) (.slice Z2 s2 t2) (.slice Z3 s3 t3)
      obtain⟨e0,e1,e2,e3⟩:=nd_cells hb4
      refine bodyPost_ret (v:=.tuple #[.agg #[.bool lb',.slice Z1 s1 t1,.slice Z2 s2 t2,.slice Z3 s3 t3],.int .i64 0]) (by simp[results,Tryz.f90,go_sem,e0,e1,e2,e3]) rfl ?_
      have hr:r=(s.n.repl m (m + 2) ids kb,0,U):=by
       have e:putAll WN ns=(ids,0,U):=by
        rw[LP.out.2.1,HLN.out,List.drop_length];simp[putAll]
       rw[HLV.out,e,if_neg (by simp), ←HKE.out]
      rw[hr]
      have hn:=HN.out
      have hpn:=HPN.out
      refine⟨_,vfk,VO,rfl,NdAp.new LL.out.hw (NN.out.keptB HB3.out k4 fun _ e=>e) (Nat.le_refl _),(LL.out.hw.keptF K6'.out).asideOne HB3.out k4 (by decide) (by decide) (by decide),?_,fun g hg=>?_⟩
      ·refine((TK9.out.then LL.out.kp fun i hi e=>?_).then K6'.out fun i hi e=>e.elim).then k4 fun i hi e=>by omega
       rcases e with e|e
       ·exact(TV0.out i e).resolve_right (by omega)
       ·have:=TK0.out.size;omega
      ·rcases SL.out g hg with e|e
       ·exact TV0.out g e
       ·exact .inr (Nat.le_trans TK9.out.size e)
  | _=>exact hq.elim
end Go.Proofs.YtfgjehecjgebdaaGreat
/- The tree: level, the two kids levelled. -/
namespace Go.Proofs.YtfgjehecjgebdaaGreat
open Go.RowKit Go.Maps Go.ChangeMaps
attribute [local go_sem] Oper.semAt_some
set_option maxRecDepth 100000 in
set_option maxHeartbeats 2000000 in
theorem TWlevel_full_a {w q wk vf vo W root Z} {s:Stp} {l:Bool} {P1 P2 P3:Option Addr} {n1 c1 n2 c2 n3 c3:Nat} {vk:Value} {kid:Nd} (h:WkW w q wk vf vo W root Z) (hs:NdAp w (wkS q wk vf vo) (.agg #[.bool l,.slice P1 n1 c1,.slice P2 n2 c2,.slice P3 n3 c3]) s.n) (hk:NdAp w (wkS q wk vf vo) vk kid)
  (hok:s.n.Ok) (hat:s.at_ + 1≤s.n.kids.length) (hlf:s.n.leaf=false) (hm:s.at_=0) (hu:kid.under=true) (he:(W.X.load (lvOther s)).2=0) (hkd:(W.X.load (lvOther s)).1.leaf=kid.leaf) (hf:kid.Fit) (hkl:kid.len≤8) (hZ:Z≤w.heap.size) (hl:W.fresh.length≤900) (hold:W.old.length≤900) :
  Calls Tryz.prog 90 #[.pointer (some ⟨wk,0,none⟩),.agg #[.int .i64 (s.id:Int),.int .i64 (s.at_:Int),.bool l,.slice P1 n1 c1,.slice P2 n2 c2,.slice P3 n3 c3],vk] w (LevTo (levelP W s kid) w q wk vf vo root Z):=by
 have CU:=Lib.hid fun w' (kk:Kept (fun _=>False) w w')=>NdUnder_calls (hk.zero.kept kk)
 rw[hu] at CU
 obtain⟨l',A1,m1,d1,A2,m2,d2,A3,m3,d3,rfl⟩:=hk.zero.agg
 have HKD:=Lib.hid hkd
 have HF:=Lib.hid hf;have HKL:=Lib.hid hkl;have HZ:=Lib.hid hZ;have HLL:=Lib.hid hl;have HOLD:=Lib.hid hold;have HU:=Lib.hid hu;have HM:=Lib.hid hm
 obtain⟨r,hr⟩:∃r,r=levelP W s kid:=⟨_,rfl⟩
 rw[←hr]
 have HR:=Lib.hid hr
 have hlk:=hok.len
 have hot:lvOther s=s.n.kids.getD 1 0:=by unfold lvOther lvLeft;rw[if_pos (by omega),hm]
 have hk2:=(hok.inner hlf).1
 obtain⟨hn3,g,rfl,hg,hg0⟩:=kid_cell hs.zero rfl (i:=0) (by omega)
 obtain⟨-,g',eg, -,hgc⟩:=kid_cell hs.zero rfl (i:=1) (by omega)
 injection eg with eg
 injection eg with eg
 subst eg
 rw[←hot] at hgc
 obtain⟨hn1,gk,rfl,hgk,hkc,kcs,kf,hkh⟩:=key_cell hs.zero rfl (i:=0) (by have:=(hok.inner hlf).2.1;omega)
 have hmk:0 < n1:=by have:=(hok.inner hlf).2.1;omega
 obtain⟨kt,hkt⟩:∃t,t=ba (s.n.keys.getD 0 []):=⟨_,rfl⟩
 rw[←hkt] at hkc
 have HKT:=Lib.hid hkt;have HGK:=Lib.hid hgk;have HKC:=Lib.hid hkc;have HKH:=Lib.hid hkh
 clear hgk hkc hkt hn1 hkh
 obtain⟨k0,hk0⟩:∃k,k=s.n.kids.getD 0 0:=⟨_,rfl⟩
 rw[←hk0] at hg0
 have hmn:1 < n3:=by omega
 have hmn0:0 < n3:=by omega
 have CL:=Lib.hid fun w' (kk:Kept (fun _=>False) w w')=>TreeLoad_calls (h.keptF kk).tw (lvOther s)
 obtain⟨ot,hot'⟩:∃o,o=lvOther s:=⟨_,rfl⟩
 rw[←hot'] at hgc CL he HKD
 have H:=Lib.hid h;have HS:=Lib.hid hs;have HK:=Lib.hid hk;have HOK:=Lib.hid hok;have HAT:=Lib.hid hat;have HE:=Lib.hid he;have HOT:=Lib.hid hot';have HLFT:Hid (lvLeft s=0):=by show _=_;unfold lvLeft;omega
 rw[hm]
 have g2:max (-1:Int) 0=0:=by decide
 have cwk:=(wk_cells h.blk).1
 have lwk:=lt_heap h.blk
 have HLF:=Lib.hid hlf
 clear h hs hk hok hat hu hr hm hot hot' hk0 hk2 hlf he hkd hf hkl hZ hl hold hn3 hlk
 go_enter Tryz.func90,Tryz.ntmps90
 go_wp2_with fail
 refine(CU.out _ (by repeat (first|exact Kept.refl _ _|refine Kept.alloc ?_ _))).mono ?_
 rintro e w1 ⟨rfl,k1⟩
 obtain⟨N,hN⟩:∃N,N=w.heap.size:=⟨_,rfl⟩
 have HN:=Lib.hid hN
 have B0:Hid (w1.heap[N]? = some (Obj.cells #[.int .i64 (s.id:Int),.int .i64 ((0:Nat):Int),.bool l,.slice (some ⟨gk,0,none⟩) n1 c1,.slice P2 n2 c2,.slice (some ⟨g,0,none⟩) n3 c3] 157 (0,0))):=by show _=_;rw[hN];exact k1.heap (heap_old (heap_old (heap_new w _) _) _) not_false
 have B1:Hid (w1.heap[N + 1]? = some (Obj.cells #[.bool l',.slice A1 m1 d1,.slice A2 m2 d2,.slice A3 m3 d3] 148 (0,0))):=by show _=_;rw[hN];exact k1.heap (heap_old (heap_newAt (by simp) _) _) not_false
 have B2:Hid (w1.heap[N + 1 + 1]? = some (Obj.cells #[.bool false,.slice none 0 0,.slice none 0 0,.slice none 0 0] 148 (0,0))):=by show _=_;rw[hN];exact k1.heap (heap_newAt (by simp) _) not_false
 have K1:Hid (Kept (fun _=>False) w w1):=by exact((((Kept.refl _ w).alloc _).alloc _).alloc _).trans k1
 rw[←hN]
 have hgc1:w1.cell? ⟨g,1,none⟩=some (.int .i64 (ot:Nat)):=(World.cell?_of_block (K1.out.block g hg id)).trans hgc
 have hgc0:w1.cell? ⟨g,0,none⟩=some (.int .i64 (k0:Nat)):=(World.cell?_of_block (K1.out.block g hg id)).trans hg0
 have x1:w1.cell? ⟨N,1,none⟩=some (.int .i64 ((0:Nat):Int)):=(cell_heap B0.out 1).trans rfl
 have x2:w1.cell? ⟨N,2,none⟩=some (.bool l):=(cell_heap B0.out 2).trans rfl
 have x3:w1.cell? ⟨N,3,none⟩=some (.slice (some ⟨gk,0,none⟩) n1 c1):=(cell_heap B0.out 3).trans rfl
 have x4:w1.cell? ⟨N,4,none⟩=some (.slice P2 n2 c2):=(cell_heap B0.out 4).trans rfl
 have x5:w1.cell? ⟨N,5,none⟩=some (.slice (some ⟨g,0,none⟩) n3 c3):=(cell_heap B0.out 5).trans rfl
 have cwk1:w1.cell? ⟨wk,0,none⟩=some (.pointer (some ⟨q.t,0,none⟩)):=(World.cell?_of_block (K1.out.block wk lwk id)).trans cwk
 clear k1 CU hN cwk lwk hgc hg hg0
 go_wp2_with fail
 refine(CL.out _ K1.out).mono ?_
 rintro e w2 ⟨k2,vb,rfl,hb⟩
 obtain⟨lb,X1,y1,z1,X2,y2,z2,X3,y3,z3,rfl⟩:=hb.agg
 have K2:=Lib.hid (K1.out.trans k2)
 have K12:=Lib.hid k2
 have hb2:=k2.heap B2.out not_false
 have HB2:=Lib.hid hb2
 have lb2:=lt_heap hb2
 have HO:=Lib.hid hb.opened
 have HO2:=Lib.hid HK.out.zero.opened
 have e0:(W.X.load (ot:Int)).2=0:=HE.out
 rw[e0]
 have hne:lb=l':=by
  obtain⟨_,_,_,_,_,_,_,_,_,_,e,h1, -⟩:=HO.out
  obtain⟨_,_,_,_,_,_,_,_,_,_,e',h2, -⟩:=HO2.out
  injection e with e;injection e with e;injection e with e _;injection e with e
  injection e' with e';injection e' with e';injection e' with e' _;injection e' with e'
  rw[e,e',h1.out.1,h2.out.1]
  exact HKD.out
 subst hne
 have hb21:=k2.heap B1.out not_false
 have HB1:=Lib.hid hb21
 have lb21:=lt_heap hb21
 obtain⟨f0, -, -, -⟩:=nd_cells hb21
 have HBS:=Lib.hid hb
 obtain⟨UX,UF,UO⟩:=W
 obtain⟨w3,hw3⟩:∃w3,w3=w2.alloc (.cells #[.bool lb,.slice X1 y1 z1,.slice X2 y2 z2,.slice X3 y3 z3] 148):=⟨_,rfl⟩
 have K3:Hid (Kept (fun _=>False) w2 w3):=by rw[hw3];exact(Kept.refl _ _).alloc _
 have HBB:Hid (w3.heap[w2.heap.size]? = some (.cells #[.bool lb,.slice X1 y1 z1,.slice X2 y2 z2,.slice X3 y3 z3] 148 (0,0))):=by show _=_;rw[hw3];exact heap_new w2 _
 have H3:=Lib.hid (H.out.keptF (K2.out.trans K3.out))
 obtain⟨Ao,co,evo⟩:=own_slice H3.out.ro
 subst evo
 obtain⟨lo,hlo⟩:∃n,n=UO.length:=⟨_,rfl⟩
 have HLO:=Lib.hid hlo
 have WK3:Hid (WkW w3 q wk vf (.slice Ao lo co) ⟨UX,UF,UO⟩ root Z):=by show WkW _ _ _ _ _ _ _ _;rw[hlo];exact H3.out
 have cwk2:w2.cell? ⟨wk,2,none⟩=some (.slice Ao lo co):=by rw[hlo];exact(wk_cells (H.out.keptF K2.out).blk).2.2
 have lwk2:=lt_heap (H.out.keptF K2.out).blk
 have fwk2:∀i,w2.frozen? ⟨wk,i,none⟩=false:=fun i=>free_heap (H.out.keptF K2.out).blk i
 have OWN:Hid ((w3.alloc (.cells #[.int .i64 (ot:Nat)] 3)).ownsRow 0 3 1 (.slice Ao lo co) lo (UO.map I)):=by
  have h:=WK3.out.ro.keptF ((Kept.refl _ w3).alloc (.cells #[.int .i64 (ot:Nat)] 3))
  unfold IRow at h
  dsimp only at h
  rw[←HLO.out] at h
  exact own_base h fun _ _=>Nat.zero_le _
 have M1:Hid (lo + 1≤maxLen):=by have:=HOLD.out;have:=HLO.out;simp only at *;show _≤_;unfold maxLen;omega
 have M2:Hid ((lo + 1) * 8≤140737488355328):=by have:=HOLD.out;have:=HLO.out;simp only at *;show _≤_;omega
 rw[hw3] at OWN
 have RD:Hid (Reads (w3.alloc (.cells #[.int .i64 (ot:Nat)] 3)) (w3.heap.size + 1) 1 (some ⟨w2.heap.size + 1,0,none⟩) 1 [.int .i64 (ot:Nat)]):=by
  have h:=reads_one w3 (.int .i64 (ot:Nat)) 3
  rw[show w2.heap.size + 1=w3.heap.size by rw[hw3];simp]
  exact h
 rw[hw3] at RD
 have HW3:=Lib.hid hw3
 clear hb k2 CL hb2 e0 hb21 hlo hw3 hgc1 hgc0 cwk1
 go_wp2_with (at_builtin;(refine app_one (v:=.slice Ao lo co) rfl (.tmp 87) (.tmp 89) rfl Tryz.underlying28 info_int rfl rfl OWN.out _ rfl RD.out (ints_one [ot]) M1.out M2.out ?_;intro v' w4 hv' hg' hob;have hg2:(w3.alloc (.cells #[.int .i64 (ot:Nat)] 3)).grownBy w4 (Value.slice Ao lo co).ownBlock:=(by rw[HW3.out];exact hg');have hob2:v'.ownBlock=(Value.slice Ao lo co).ownBlock∨v'.ownBlock=some (w3.alloc (.cells #[.int .i64 (ot:Nat)] 3)).heap.size:=(by rw[HW3.out];exact hob);obtain⟨A6,c6,rfl,hb4,hw,hk5,ho5⟩:=wk_appO WK3.out ((Kept.refl _ w3).alloc _) (by have:=HZ.out;have:=K2.out.size;have:=K3.out.size;omega) HLO.out hv' hg2 hob2;have HW:=Lib.hid hw;have HK5:=Lib.hid hk5;have HO5:=Lib.hid ho5;have HB4:=Lib.hid hb4;obtain⟨b40,b41,b42⟩:=wk_cells hb4;have fw4:∀i,w4.frozen? ⟨wk,i,none⟩=false:=fun i=>free_heap hb4 i;clear hv' hg' hob hg2 hob2 hw hk5 ho5 hb4 fwk2 cwk2))
 obtain⟨w5,hw5⟩:∃w5,w5=w4.setCell ⟨wk,2,none⟩ (.slice A6 (lo + 1) c6):=⟨_,rfl⟩
 rw[←hw5] at HW HK5⊢
 have kN:∀ {i:Nat} {cs:Array Value} {f:Nat×Nat},w3.heap[i]? = some (.cells cs 148 f)→w5.heap[i]? = some (.cells cs 148 f):=fun hi=>HK5.out.heap hi (by
  rintro(e|e)
  ·subst e
   have h:=WK3.out.blk
   rw[hi] at h
   injection h with h
   injection h with _ h _
   exact absurd h (by decide)
  ·exact own_neH WK3.out.ro hi (by decide) _ e rfl)
 have HB5:=Lib.hid (kN HBB.out)
 have HK15:=Lib.hid (kN (K3.out.heap HB1.out not_false))
 have HR5:=Lib.hid (kN (K3.out.heap HB2.out not_false))
 clear hw5 b40 b41 b42 fw4 lwk2 lb2 lb21 f0 HB4
 refine wp_hide fun a0 ha0=>?_
 have HA0:=Lib.hid ha0
 refine wp_mono (Q:=Exit.then (fun a' w'=>∃b14 b15,w5.heap.size≤b14∧w5.heap.size≤b15∧b14 ≠ b15∧Kept (fun _=>False) w5 w'∧w'.heap[b14]? = some (.cells #[.bool lb,.slice X1 y1 z1,.slice X2 y2 z2,.slice X3 y3 z3] 148 (0,0))∧w'.heap[b15]? = some (.cells #[.bool lb,.slice A1 m1 d1,.slice A2 m2 d2,.slice A3 m3 d3] 148 (0,0)) ∧
  a'=(((a0.put (some 93) (.agg #[.bool lb,.slice X1 y1 z1,.slice X2 y2 z2,.slice X3 y3 z3])).put (some 94) (.agg #[.bool lb,.slice A1 m1 d1,.slice A2 m2 d2,.slice A3 m3 d3])).put (some 14) (.pointer (some ⟨b14,0,none⟩))).put (some 15) (.pointer (some ⟨b15,0,none⟩))) (fun _ _ _=>False)) ?reg ?rest
 case reg =>
  rw[HA0.out]
  have HSA:Hid (∀w',Kept (fun _=>False) w5 w'→w'.cell? ⟨w2.heap.size,0,none⟩=some (.bool lb)∧w'.cell? ⟨w2.heap.size,1,none⟩=some (.slice X1 y1 z1)∧w'.cell? ⟨w2.heap.size,2,none⟩=some (.slice X2 y2 z2)∧w'.cell? ⟨w2.heap.size,3,none⟩=some (.slice X3 y3 z3)∧w'.cell? ⟨N + 1,0,none⟩=some (.bool lb)∧w'.cell? ⟨N + 1,1,none⟩=some (.slice A1 m1 d1)∧w'.cell? ⟨N + 1,2,none⟩=some (.slice A2 m2 d2)∧w'.cell? ⟨N + 1,3,none⟩=some (.slice A3 m3 d3)):=fun w' kk=>by
   obtain⟨p0,p1,p2,p3⟩:=nd_cells (kk.heap HB5.out not_false)
   obtain⟨q0,q1,q2,q3⟩:=nd_cells (kk.heap HK15.out not_false)
   exact⟨p0,p1,p2,p3,q0,q1,q2,q3⟩
  have hS1:=HSA.out w5.drew (Kept.refl _ w5).drew
  refine wp_region_held_drew (S:=fun w'=>w'.cell? ⟨w2.heap.size,0,none⟩=some (.bool lb)∧w'.cell? ⟨w2.heap.size,1,none⟩=some (.slice X1 y1 z1)∧w'.cell? ⟨w2.heap.size,2,none⟩=some (.slice X2 y2 z2)∧w'.cell? ⟨w2.heap.size,3,none⟩=some (.slice X3 y3 z3)∧w'.cell? ⟨N + 1,0,none⟩=some (.bool lb)∧w'.cell? ⟨N + 1,1,none⟩=some (.slice A1 m1 d1)∧w'.cell? ⟨N + 1,2,none⟩=some (.slice A2 m2 d2)∧w'.cell? ⟨N + 1,3,none⟩=some (.slice A3 m3 d3)) (by kernel_rfl) hS1 (fun hHeld=>?_)
  clear hS1
  refine tk 0 (h:=?_)
  (try simp only[lits])
  refine tk 1 (h:=?_)
  (try simp only[lits])
  refine wpAnyH_ready (rs := [2,3]) (by kernel_rfl) (by simp) ?_
  refine AllReadyH.cons rfl (fun K hK=>?_) (AllReadyH.cons rfl (fun K hK=>?_) AllReadyH.nil)
  ·go_simp
   refine hK.out _ _ (HSA.out _ (((Kept.refl _ w5).alloc _).drew)) (fun hHeld=>?_)
   clear hK
   (try simp only[lits])
   refine wpAnyH_ready (rs := [3]) (by kernel_rfl) (by simp) ?_
   refine AllReadyH.cons rfl (fun K hK=>?_) AllReadyH.nil
   go_simp
   refine hK.out _ _ (HSA.out _ ((((Kept.refl _ w5).alloc _).alloc _).drew)) (fun hHeld=>?_)
   clear hK
   (try simp only[lits])
   refine wpAnyH_ready (rs := [4]) (by kernel_rfl) (by simp) ?_
   refine AllReadyH.cons rfl (fun K hK=>?_) AllReadyH.nil
   go_simp
   refine hK.out _ _ (HSA.out _ ((((Kept.refl _ w5).alloc _).alloc _).drew)) (fun hHeld=>?_)
   clear hK
   (try simp only[lits])
   refine wpAnyH_ready (rs := [5]) (by kernel_rfl) (by simp) ?_
   refine AllReadyH.cons rfl (fun K hK=>?_) AllReadyH.nil
   go_simp
   refine hK.out _ _ (HSA.out _ ((((Kept.refl _ w5).alloc _).alloc _).drew)) (fun hHeld=>?_)
   clear hK
   (try simp only[lits])
   refine wpAnyH_done (by kernel_rfl) ?_ _
   exact⟨w5.heap.size,w5.heap.size + 1,Nat.le_refl _,by omega,by omega,(((Kept.refl _ w5).alloc _).alloc _).drew,heap_old (heap_new w5 _) _,heap_newAt (by simp) _,rfl⟩
  ·go_simp
   refine hK.out _ _ (HSA.out _ (((Kept.refl _ w5).alloc _).drew)) (fun hHeld=>?_)
   clear hK
   (try simp only[lits])
   refine wpAnyH_ready (rs := [2]) (by kernel_rfl) (by simp) ?_
   refine AllReadyH.cons rfl (fun K hK=>?_) AllReadyH.nil
   go_simp
   refine hK.out _ _ (HSA.out _ ((((Kept.refl _ w5).alloc _).alloc _).drew)) (fun hHeld=>?_)
   clear hK
   (try simp only[lits])
   refine wpAnyH_ready (rs := [4]) (by kernel_rfl) (by simp) ?_
   refine AllReadyH.cons rfl (fun K hK=>?_) AllReadyH.nil
   go_simp
   refine hK.out _ _ (HSA.out _ ((((Kept.refl _ w5).alloc _).alloc _).drew)) (fun hHeld=>?_)
   clear hK
   (try simp only[lits])
   refine wpAnyH_ready (rs := [5]) (by kernel_rfl) (by simp) ?_
   refine AllReadyH.cons rfl (fun K hK=>?_) AllReadyH.nil
   go_simp
   refine hK.out _ _ (HSA.out _ ((((Kept.refl _ w5).alloc _).alloc _).drew)) (fun hHeld=>?_)
   clear hK
   (try simp only[lits])
   refine wpAnyH_done (by kernel_rfl) ?_ _
   exact⟨w5.heap.size + 1,w5.heap.size,by omega,Nat.le_refl _,by omega,(((Kept.refl _ w5).alloc _).alloc _).drew,heap_newAt (by simp) _,heap_old (heap_new w5 _) _,rfl⟩
 case rest =>
  rintro e a' w' hq
  cases e with
  | normal =>
   obtain⟨b14,b15,h14,h15,hne,k6,hb14,hb15,rfl⟩:=hq
   rw[HA0.out]
   simp only[Exit.then,Act.put,List.setIfInBounds_toArray,List.set_cons_succ,List.set_cons_zero]
   have kS:w3.heap[N]? = some (.cells #[.int .i64 (s.id:Int),.int .i64 ((0:Nat):Int),.bool l,.slice (some ⟨gk,0,none⟩) n1 c1,.slice P2 n2 c2,.slice (some ⟨g,0,none⟩) n3 c3] 157 (0,0)):=K3.out.heap ((show Kept (fun _=>False) w1 w2 from K12.out).heap B0.out id) id
   have hst5:=(HK5.out.heap kS (by
    rintro(e|e)
    ·subst e
     have h:=WK3.out.blk
     rw[kS] at h
     injection h with h
     injection h with _ h _
     exact absurd h (by decide)
    ·exact own_neH WK3.out.ro kS (by decide) _ e rfl))
   have HST5:=Lib.hid hst5
   have hst:=k6.heap hst5 not_false
   clear hst5
   have HST:=Lib.hid hst
   have x1:w'.cell? ⟨N,1,none⟩=some (.int .i64 ((0:Nat):Int)):=(cell_heap hst 1).trans rfl
   have x2:w'.cell? ⟨N,2,none⟩=some (.bool l):=(cell_heap hst 2).trans rfl
   have x3:w'.cell? ⟨N,3,none⟩=some (.slice (some ⟨gk,0,none⟩) n1 c1):=(cell_heap hst 3).trans rfl
   have x4:w'.cell? ⟨N,4,none⟩=some (.slice P2 n2 c2):=(cell_heap hst 4).trans rfl
   have x5:w'.cell? ⟨N,5,none⟩=some (.slice (some ⟨g,0,none⟩) n3 c3):=(cell_heap hst 5).trans rfl
   have HSA:Hid (∀w7,Kept (fun i=>i=b14∨i=b15) w' w7→w7.cell? ⟨w2.heap.size,0,none⟩=some (.bool lb)∧w7.cell? ⟨w2.heap.size,1,none⟩=some (.slice X1 y1 z1)∧w7.cell? ⟨w2.heap.size,2,none⟩=some (.slice X2 y2 z2)∧w7.cell? ⟨w2.heap.size,3,none⟩=some (.slice X3 y3 z3)∧w7.cell? ⟨N + 1,0,none⟩=some (.bool lb)∧w7.cell? ⟨N + 1,1,none⟩=some (.slice A1 m1 d1)∧w7.cell? ⟨N + 1,2,none⟩=some (.slice A2 m2 d2)∧w7.cell? ⟨N + 1,3,none⟩=some (.slice A3 m3 d3)):=fun w7 kk=>by
    have s5:=lt_heap HB5.out
    have s6:=lt_heap HK15.out
    obtain⟨p0,p1,p2,p3⟩:=nd_cells (kk.heap (k6.heap HB5.out not_false) (by omega))
    obtain⟨q0,q1,q2,q3⟩:=nd_cells (kk.heap (k6.heap HK15.out not_false) (by omega))
    exact⟨p0,p1,p2,p3,q0,q1,q2,q3⟩
   have f14:∀i,w'.frozen? ⟨b14,i,none⟩=false:=fun i=>free_heap hb14 i
   have f15:∀i,w'.frozen? ⟨b15,i,none⟩=false:=fun i=>free_heap hb15 i
   have K6a:=Lib.hid k6;have H14a:=Lib.hid hb14;have H15a:=Lib.hid hb15;have HNE:=Lib.hid hne;have G14:=Lib.hid h14;have G15:=Lib.hid h15
   have HSTa:=Lib.hid hst
   obtain⟨r0,r1,r2,r3⟩:=nd_cells hb14
   obtain⟨t0,t1,t2,t3⟩:=nd_cells hb15
   have l14:=lt_heap hb14
   have l15:=lt_heap hb15
   clear k6 hb14 hb15 hne h14 h15 hst kS ha0 HA0
   go_wp2_with fail
   clear x1 x2 x3 x4 x5
   have hS1:=HSA.out w'.drew (Kept.refl _ w').drew
   refine wp_region_held_drew (S:=fun w7=>w7.cell? ⟨w2.heap.size,0,none⟩=some (.bool lb)∧w7.cell? ⟨w2.heap.size,1,none⟩=some (.slice X1 y1 z1)∧w7.cell? ⟨w2.heap.size,2,none⟩=some (.slice X2 y2 z2)∧w7.cell? ⟨w2.heap.size,3,none⟩=some (.slice X3 y3 z3)∧w7.cell? ⟨N + 1,0,none⟩=some (.bool lb)∧w7.cell? ⟨N + 1,1,none⟩=some (.slice A1 m1 d1)∧w7.cell? ⟨N + 1,2,none⟩=some (.slice A2 m2 d2)∧w7.cell? ⟨N + 1,3,none⟩=some (.slice A3 m3 d3)) (by kernel_rfl) hS1 (fun hHeld=>?_)
   clear hS1
   refine tk 0 (h:=?_)
   (try simp only[lits])
   refine tk 1 (h:=?_)
   (try simp only[lits])
   refine wpAnyH_ready (rs := [2]) (by kernel_rfl) (by simp) ?_
   refine AllReadyH.cons rfl (fun K hK=>?_) AllReadyH.nil
   go_simp
   have hA:=set4_heap H14a.out (by simp) (.bool lb) (.slice A1 m1 d1) (.slice A2 m2 d2) (.slice A3 m3 d3)
   have kA:=set4_kept w' b14 (.bool lb) (.slice A1 m1 d1) (.slice A2 m2 d2) (.slice A3 m3 d3)
   obtain⟨wA,hwA⟩:∃wA,wA=((((w'.setCell ⟨b14,0,none⟩ (.bool lb)).setCell ⟨b14,1,none⟩ (.slice A1 m1 d1)).setCell ⟨b14,2,none⟩ (.slice A2 m2 d2)).setCell ⟨b14,3,none⟩ (.slice A3 m3 d3)).drew:=⟨_,rfl⟩
   rw[←hwA]
   have KA:Hid (Kept (fun i=>i=b14∨i=b15) w' wA):=by rw[hwA];exact(kA.mono fun _ _ e=>.inl e).drew
   have HA14:Hid (wA.heap[b14]? = some (.cells #[.bool lb,.slice A1 m1 d1,.slice A2 m2 d2,.slice A3 m3 d3] 148 (0,0))):=by rw[hwA];exact hA
   have HA15:Hid (wA.heap[b15]? = some (.cells #[.bool lb,.slice A1 m1 d1,.slice A2 m2 d2,.slice A3 m3 d3] 148 (0,0))):=by rw[hwA];exact kA.heap H15a.out (fun e=>HNE.out e.symm)
   refine hK.out _ _ (HSA.out _ KA.out) (fun hHeld=>?_)
   clear hK hA kA hwA f14 r0 r1 r2 r3 t0 t1 t2 t3 f15 l14 l15
   (try simp only[lits])
   have f15:∀i,wA.frozen? ⟨b15,i,none⟩=false:=fun i=>free_heap HA15.out i
   obtain⟨t0,t1,t2,t3⟩:=nd_cells HA15.out
   have l15:=lt_heap HA15.out
   refine wpAnyH_ready (rs := [3]) (by kernel_rfl) (by simp) ?_
   refine AllReadyH.cons rfl (fun K hK=>?_) AllReadyH.nil
   go_simp
   have hB:=set4_heap HA15.out (by simp) (.bool lb) (.slice X1 y1 z1) (.slice X2 y2 z2) (.slice X3 y3 z3)
   have kB:=set4_kept wA b15 (.bool lb) (.slice X1 y1 z1) (.slice X2 y2 z2) (.slice X3 y3 z3)
   obtain⟨w0,hw0⟩:∃w0,w0=((((wA.setCell ⟨b15,0,none⟩ (.bool lb)).setCell ⟨b15,1,none⟩ (.slice X1 y1 z1)).setCell ⟨b15,2,none⟩ (.slice X2 y2 z2)).setCell ⟨b15,3,none⟩ (.slice X3 y3 z3)):=⟨_,rfl⟩
   rw[←hw0]
   have KB:Hid (Kept (fun i=>i=b14∨i=b15) w' w0):=by rw[hw0];exact KA.out.trans (kB.mono fun _ _ e=>.inr e)
   have H15:Hid (w0.heap[b15]? = some (.cells #[.bool lb,.slice X1 y1 z1,.slice X2 y2 z2,.slice X3 y3 z3] 148 (0,0))):=by rw[hw0];exact hB
   have H14:Hid (w0.heap[b14]? = some (.cells #[.bool lb,.slice A1 m1 d1,.slice A2 m2 d2,.slice A3 m3 d3] 148 (0,0))):=by rw[hw0];exact kB.heap HA14.out HNE.out
   refine hK.out _ _ (HSA.out _ KB.out) (fun hHeld=>?_)
   clear hK hB kB hw0 t0 t1 t2 t3 f15 l15
   (try simp only[lits])
   refine wpAnyH_done (by kernel_rfl) ?_ _
   have K6:Hid (Kept (fun _=>False) w5 w0):=K6a.out.then KB.out fun i hi e=>by have:=G14.out;have:=G15.out;omega
   have HST:Hid (w0.heap[N]? = some (.cells #[.int .i64 (s.id:Int),.int .i64 ((0:Nat):Int),.bool l,.slice (some ⟨gk,0,none⟩) n1 c1,.slice P2 n2 c2,.slice (some ⟨g,0,none⟩) n3 c3] 157 (0,0))):=K6.out.heap HST5.out not_false
   go_wp2_with fail
   have K13:=Lib.hid (K2.out.trans K3.out)
   have SW:Hid (∀g,wkS q wk vf (.slice A6 (lo + 1) c6) g→wkS q wk vf (.slice Ao (List.length UO) co) g∨w3.heap.size≤g):=by
    rintro g (e|e|e|e|e)
    ·exact .inl (.inl e)
    ·exact .inl (.inr (.inl e))
    ·exact .inl (.inr (.inr (.inl e)))
    ·exact .inl (.inr (.inr (.inr (.inl e))))
    ·rcases HO5.out g e with e|e
     ·exact .inl (.inr (.inr (.inr (.inr ((own_anylen _ _ _ _).trans e)))))
     ·exact .inr e
   have ST:Hid (∀g,(g=wk∨(Value.slice Ao lo co).ownBlock=some g)→wkS q wk vf (.slice Ao (List.length UO) co) g):=by
    rintro g (e|e)
    ·exact .inr (.inr (.inl e))
    ·exact .inr (.inr (.inr (.inr ((own_anylen _ _ _ _).trans e))))
   have TA0:Hid (NdAp w0 (wkS q wk vf (.slice A6 (lo + 1) c6)) (.agg #[.bool lb,.slice X1 y1 z1,.slice X2 y2 z2,.slice X3 y3 z3]) (UX.load (ot:Int)).1):=by
    have hlt:=H.out.lt
    have k12:=K12.out.size
    have k1s:=K1.out.size
    have k3s:=K3.out.size
    have k5s:=HK5.out.size
    have k6s:=K6.out.size
    have h5:=(HBS.out.kept K3.out).keptS HK5.out (by
     intro b hb
     have h0:=hlt b (ST.out b hb)
     omega)
    refine NdAp.between (h5.kept K6.out) HBS.out.lt fun g hg=>?_
    rcases SW.out g hg with e|e
    ·have:=hlt g e;exact .inl (by omega)
    ·exact .inr (by omega)
   have TB0:Hid (NdAp w0 (wkS q wk vf (.slice A6 (lo + 1) c6)) (.agg #[.bool lb,.slice A1 m1 d1,.slice A2 m2 d2,.slice A3 m3 d3]) kid):=((HK.out.keptF K13.out).kept HK5.out (fun g hg=>.inl (ST.out g hg)) SW.out).keptF K6.out
   have TS0:Hid (NdAp w0 (wkS q wk vf (.slice A6 (lo + 1) c6)) (.agg #[.bool l,.slice (some ⟨gk,0,none⟩) n1 c1,.slice P2 n2 c2,.slice (some ⟨g,0,none⟩) n3 c3]) s.n):=((HS.out.keptF K13.out).kept HK5.out (fun g hg=>.inl (ST.out g hg)) SW.out).keptF K6.out
   have TW0:Hid (WkW w0 q wk vf (.slice A6 (lo + 1) c6) ⟨UX,UF,UO ++ [ot]⟩ root Z):=HW.out.keptF K6.out
   have TK0:Hid (Kept (wkS q wk vf (.slice Ao (List.length UO) co)) w w0):=((K13.out.mono fun _ _=>False.elim).then HK5.out fun i _ e=>ST.out i e).then K6.out fun _ _=>False.elim
   have TV0:Hid (∀g,wkS q wk vf (.slice A6 (lo + 1) c6) g→wkS q wk vf (.slice Ao (List.length UO) co) g∨w.heap.size≤g):=fun g hg=>by
    rcases SW.out g hg with e|e
    ·exact .inl e
    ·exact .inr (by have:=K13.out.size;omega)
   have HR0:Hid (w0.heap[N + 1 + 1]? = some (.cells #[.bool false,.slice none 0 0,.slice none 0 0,.slice none 0 0] 148 (0,0))):=K6.out.heap HR5.out id
   have TZ0:Hid (Z≤w0.heap.size):=by have:=HZ.out;have:=TK0.out.size;show _≤_;omega
   have HKC0:Hid (∀w7,Kept (fun _=>False) w0 w7→w7.cell? ⟨gk,0,none⟩=some (.string kt)):=fun w7 kk=>by
    have h3:=(K2.out.trans K3.out).heap HKH.out id
    have h5:=HK5.out.block gk (lt_heap h3) (by
     rintro(e|e)
     ·subst e
      have h:=WK3.out.blk
      rw[h3] at h
      injection h with h
      injection h with _ h _
      exact absurd h (by decide)
     ·exact own_neH WK3.out.ro h3 (by decide) _ e rfl)
    have h6:=(K6.out.trans kk).block gk (by have:=lt_heap h3;have:=HK5.out.size;omega) id
    exact(World.cell?_of_block (h6.trans (h5.trans ((K2.out.trans K3.out).block gk HGK.out id)))).trans HKC.out
   have HLV:Hid (r=if (putAll ⟨UX,UF,UO ++ [ot]⟩ (nLevel kid (s.n.keys.getD 0 []) (UX.load (ot:Int)).1)).2.1 ≠ 0 then (nd0,(putAll ⟨UX,UF,UO ++ [ot]⟩ (nLevel kid (s.n.keys.getD 0 []) (UX.load (ot:Int)).1)).2.1,(putAll ⟨UX,UF,UO ++ [ot]⟩ (nLevel kid (s.n.keys.getD 0 []) (UX.load (ot:Int)).1)).2.2) else (s.n.repl 0 (0 + 2) (putAll ⟨UX,UF,UO ++ [ot]⟩ (nLevel kid (s.n.keys.getD 0 []) (UX.load (ot:Int)).1)).1 (if (nLevel kid (s.n.keys.getD 0 []) (UX.load (ot:Int)).1).length=2 then nBetween kid (s.n.keys.getD 0 []) (UX.load (ot:Int)).1 else []),0,(putAll ⟨UX,UF,UO ++ [ot]⟩ (nLevel kid (s.n.keys.getD 0 []) (UX.load (ot:Int)).1)).2.2)):=by
    show _=_
    rw[HR.out]
    exact levelP_eq HU.out HOT.out.symm HLFT.out HE.out HKD.out (by rw[if_pos (by have:=HM.out;omega)]) (by rw[if_pos (by have:=HM.out;omega)]) rfl
   have FO:Hid ((UX.load (ot:Int)).1.Ok):=load_ok HE.out
   have FA:Hid (kid.Fit∧(UX.load (ot:Int)).1.Fit∧(UX.load (ot:Int)).1.leaf=kid.leaf∧kid.len + (UX.load (ot:Int)).1.len≤20):=by
    have f1:=FO.out.fit
    have f2:=HF.out
    have f3:=HKD.out
    have f4:=HKL.out
    have f5:=not_over.1 FO.out.most
    refine⟨f2,f1,f3,?_⟩
    split at f5<;>omega
   have FK:Hid ((s.n.keys.getD 0 []).length≤24):=by
    have h1:0 < s.n.keys.length:=by have:=(HOK.out.inner HLF.out).2.1;have:=HAT.out;have:=(HOK.out.inner HLF.out).1;have:=HM.out;omega
    rw[show s.n.keys.getD 0 []=s.n.keys[0] by simp[List.getD,h1]]
    exact HOK.out.kl _ (List.getElem_mem h1)
   obtain⟨na,hna⟩:∃n,n=kid:=⟨_,rfl⟩
   obtain⟨nb,hnb⟩:∃n,n=(UX.load (ot:Int)).1:=⟨_,rfl⟩
   obtain⟨ky,hky⟩:∃n,n=s.n.keys.getD 0 []:=⟨_,rfl⟩
   have HKT2:Hid (kt=ba ky):=by show _=_;rw[hky];exact HKT.out
   rw[←hna, ←hnb, ←hky] at HLV
   rw[←hna, ←hnb] at FA
   rw[←hnb] at TA0
   rw[←hna] at TB0
   rw[←hky] at FK
   have CLV:=Lib.hid fun w7 (kk:Kept (fun _=>False) w0 w7)=>NdLevel_calls (TB0.out.keptF kk).zero (TA0.out.keptF kk).zero (Nat.zero_le _) ky FK.out FA.out.1 FA.out.2.1 FA.out.2.2.1 FA.out.2.2.2
   have CBT:=Lib.hid fun w7 (kk:Kept (fun _=>False) w0 w7) (ho:(nJoin na ky nb).over=true)=>NdBetween_calls (TB0.out.keptF kk).zero (TA0.out.keptF kk).zero (Nat.zero_le _) ky FK.out FA.out.1 FA.out.2.1 FA.out.2.2.1 FA.out.2.2.2 ho
   rw[←HKT2.out] at CLV CBT
   obtain⟨VO,hVO⟩:∃v,v=Value.slice A6 (lo + 1) c6:=⟨_,rfl⟩
   rw[←hVO] at TA0 TB0 TS0 TW0 TV0
   obtain⟨WN,hWN⟩:∃v:Wk,v=⟨UX,UF,UO ++ [ot]⟩:=⟨_,rfl⟩
   have HWF:Hid (WN.fresh.length≤900):=by show _≤_;rw[hWN];exact HLL.out
   rw[←hWN] at TW0 HLV
   clear hna hnb hky hVO hWN
   have HSB:Hid (∀w7,Kept (fun _=>False) w0 w7→w7.cell? ⟨b14,0,none⟩=some (.bool lb)∧w7.cell? ⟨b14,1,none⟩=some (.slice A1 m1 d1)∧w7.cell? ⟨b14,2,none⟩=some (.slice A2 m2 d2)∧w7.cell? ⟨b14,3,none⟩=some (.slice A3 m3 d3)∧w7.cell? ⟨b15,0,none⟩=some (.bool lb)∧w7.cell? ⟨b15,1,none⟩=some (.slice X1 y1 z1)∧w7.cell? ⟨b15,2,none⟩=some (.slice X2 y2 z2)∧w7.cell? ⟨b15,3,none⟩=some (.slice X3 y3 z3)∧w7.cell? ⟨N,3,none⟩=some (.slice (some ⟨gk,0,none⟩) n1 c1)∧w7.cell? ⟨gk,0,none⟩=some (.string kt)):=fun w7 kk=>by
    obtain⟨p0,p1,p2,p3⟩:=nd_cells (kk.heap H14.out not_false)
    obtain⟨q0,q1,q2,q3⟩:=nd_cells (kk.heap H15.out not_false)
    exact⟨p0,p1,p2,p3,q0,q1,q2,q3,(cell_heap (kk.heap HST.out not_false) 3).trans rfl,HKC0.out _ kk⟩
   obtain⟨pN,hpN⟩:∃n,n=w0.heap.size:=⟨_,rfl⟩
   obtain⟨w8,hw8⟩:∃w8,w8=w0.alloc (.cells #[.slice none 0 0,.string ⟨#[]⟩] 169):=⟨_,rfl⟩
   rw[←hw8, ←hpN]
   have HPN:=Lib.hid hpN
   have K8:Hid (Kept (fun _=>False) w0 w8):=by rw[hw8];exact(Kept.refl _ _).alloc _
   have HP8:Hid (w8.heap[pN]? = some (.cells #[.slice none 0 0,.string ⟨#[]⟩] 169 (0,0))):=by show _=_;rw[hw8,hpN];exact heap_new w0 _
   have S8:Hid (w8.heap.size=pN + 1):=by show _=_;rw[hw8,hpN];simp
   have hS1:=HSB.out w8.drew K8.out.drew
   clear hw8 hpN
   refine wp_region_held_drew (S:=fun w7=>w7.cell? ⟨b14,0,none⟩=some (.bool lb)∧w7.cell? ⟨b14,1,none⟩=some (.slice A1 m1 d1)∧w7.cell? ⟨b14,2,none⟩=some (.slice A2 m2 d2)∧w7.cell? ⟨b14,3,none⟩=some (.slice A3 m3 d3)∧w7.cell? ⟨b15,0,none⟩=some (.bool lb)∧w7.cell? ⟨b15,1,none⟩=some (.slice X1 y1 z1)∧w7.cell? ⟨b15,2,none⟩=some (.slice X2 y2 z2)∧w7.cell? ⟨b15,3,none⟩=some (.slice X3 y3 z3)∧w7.cell? ⟨N,3,none⟩=some (.slice (some ⟨gk,0,none⟩) n1 c1)∧w7.cell? ⟨gk,0,none⟩=some (.string kt)) (by kernel_rfl) hS1 (fun hHeld=>?_)
   clear hS1
   refine tk 0 (h:=?_)
   (try simp only[lits])
   refine tk 1 (h:=?_)
   (try simp only[lits])
   refine tk 2 (h:=?_)
   (try simp only[lits])
   refine tk 3 (h:=?_)
   (try simp only[lits])
   refine tk 4 (h:=?_)
   (try simp only[lits])
   refine tk 5 (h:=?_)
   (try simp only[lits])
   refine tk 6 (h:=?_)
   (try simp only[lits])
   refine tk 7 (h:=?_)
   (try simp only[lits])
   refine wpAnyH_ready (rs := [8]) (by kernel_rfl) (by simp) ?_
   refine AllReadyH.cons rfl (fun K hK=>?_) AllReadyH.nil
   go_simp
   refine(CLV.out _ K8.out.drew).mono ?_
   rintro e w9 ⟨vl,rfl,hnl,k9⟩
   have K9:Hid (Kept (fun _=>False) w8 w9):=(Kept.refl (fun _=>False) w8).drew.trans k9
   refine hK.out _ _ (HSB.out _ (K8.out.trans K9.out)) (fun hHeld=>?_)
   clear hK
   (try simp only[lits])
   refine tk 9 (h:=?_)
   (try simp only[lits])
   refine wpAnyH_done (by kernel_rfl) ?_ _
   have HNL:Hid (IsNds w9 w8.heap.size vl (nLevel na ky nb)):=hnl.base (by simp)
   obtain⟨ns,hns⟩:∃l,l=nLevel na ky nb:=⟨_,rfl⟩
   rw[←hns] at HNL HLV
   obtain⟨gl,cl,hvl, -⟩:=HNL.out
   subst hvl
   have FNS:Hid (∀n∈ns,n.Fit):=by
    have hj:=FA.out.1.join FA.out.2.1 FK.out FA.out.2.2.1 FA.out.2.2.2
    intro n hn
    rw[hns] at hn
    unfold nLevel at hn
    split at hn
    ·next ho =>
     have hh:=hj.1.halves ho
     simp only[List.mem_cons,List.not_mem_nil,or_false] at hn
     rcases hn with rfl|rfl
     ·exact hh.1
     ·exact hh.2.1
    ·simp only[List.mem_singleton] at hn
     subst hn;exact hj.1
   have FBK:Hid (∀w7,Kept (fun _=>False) w0 w7→ns.length=2→Calls Tryz.prog 129 #[.agg #[.bool lb,.slice A1 m1 d1,.slice A2 m2 d2,.slice A3 m3 d3],.string kt,.agg #[.bool lb,.slice X1 y1 z1,.slice X2 y2 z2,.slice X3 y3 z3]] w7 fun e w'=>e = .returned (Ss (nBetween na ky nb))∧Kept (fun _=>False) w7 w'):=fun w7 kk h2=>CBT.out w7 kk (by
    rw[hns] at h2
    unfold nLevel at h2
    split at h2
    ·next ho=>exact ho
    ·simp at h2)
   have L12:Hid (ns.length=1∨ns.length=2):=by
    show _∨_
    rw[hns]
    unfold nLevel
    split
    ·exact .inr rfl
    ·exact .inl rfl
   obtain⟨bt,hbt⟩:∃b,b=nBetween na ky nb:=⟨_,rfl⟩
   rw[←hbt] at FBK HLV
   obtain⟨ln,hln⟩:∃n,n=ns.length:=⟨_,rfl⟩
   rw[←hln] at L12 HNL HLV FBK⊢
   have HLN:=Lib.hid hln
   clear hnl k9 hns hln hHeld CBT CLV
   by_cases h2:ln=2
   ·have g9:((ln:Int) == 2)=true:=by rw[beq_iff_eq];omega
    obtain⟨kt2,hkt2⟩:∃t,t=ba bt:=⟨_,rfl⟩
    have CB:=Lib.hid fun w7 kk=>FBK.out w7 kk h2
    rw[show Ss bt = .string kt2 by rw[hkt2];rfl] at CB
    have HK2:=Lib.hid hkt2
    have HH2:=Lib.hid h2
    clear hkt2 hbt FBK h2
    go_wp2_with fail
    have hS1:=HSB.out w9.drew (K8.out.trans K9.out).drew
    refine wp_region_held_drew (S:=fun w7=>w7.cell? ⟨b14,0,none⟩=some (.bool lb)∧w7.cell? ⟨b14,1,none⟩=some (.slice A1 m1 d1)∧w7.cell? ⟨b14,2,none⟩=some (.slice A2 m2 d2)∧w7.cell? ⟨b14,3,none⟩=some (.slice A3 m3 d3)∧w7.cell? ⟨b15,0,none⟩=some (.bool lb)∧w7.cell? ⟨b15,1,none⟩=some (.slice X1 y1 z1)∧w7.cell? ⟨b15,2,none⟩=some (.slice X2 y2 z2)∧w7.cell? ⟨b15,3,none⟩=some (.slice X3 y3 z3)∧w7.cell? ⟨N,3,none⟩=some (.slice (some ⟨gk,0,none⟩) n1 c1)∧w7.cell? ⟨gk,0,none⟩=some (.string kt)) (by kernel_rfl) hS1 (fun hHeld=>?_)
    clear hS1
    refine tk 0 (h:=?_)
    (try simp only[lits])
    refine tk 1 (h:=?_)
    (try simp only[lits])
    refine tk 2 (h:=?_)
    (try simp only[lits])
    refine tk 3 (h:=?_)
    (try simp only[lits])
    refine tk 4 (h:=?_)
    (try simp only[lits])
    refine tk 5 (h:=?_)
    (try simp only[lits])
    refine tk 6 (h:=?_)
    (try simp only[lits])
    refine tk 7 (h:=?_)
    (try simp only[lits])
    refine wpAnyH_ready (rs := [8]) (by kernel_rfl) (by simp) ?_
    refine AllReadyH.cons rfl (fun K hK=>?_) AllReadyH.nil
    go_simp
    refine(CB.out _ (K8.out.trans K9.out).drew).mono ?_
    rintro e w10 ⟨rfl,k10⟩
    have K10:Hid (Kept (fun _=>False) w9 w10):=(Kept.refl (fun _=>False) w9).drew.trans k10
    refine hK.out _ _ (HSB.out _ ((K8.out.trans K9.out).trans K10.out)) (fun hHeld=>?_)
    clear hK
    (try simp only[lits])
    refine tk 9 (h:=?_)
    (try simp only[lits])
    refine wpAnyH_ready (rs := [10]) (by kernel_rfl) (by simp) ?_
    refine AllReadyH.cons rfl (fun K hK=>?_) AllReadyH.nil
    have hP10:=(K9.out.trans K10.out).heap HP8.out id
    have HP10:=Lib.hid hP10
    have fz10:w10.frozen? ⟨pN,1,none⟩=false:=free_heap hP10 1
    have cz10:w10.cell? ⟨pN,1,none⟩=some (.string ⟨#[]⟩):=(cell_heap hP10 1).trans rfl
    go_simp
    have KS:Hid (Kept (fun _=>False) w0 (w10.setCell ⟨pN,1,none⟩ (.string kt2))):=((K8.out.trans K9.out).trans K10.out).setCell (.inr (by rw[HPN.out];exact Nat.le_refl _)) _
    refine hK.out _ _ (HSB.out _ KS.out) (fun hHeld=>?_)
    clear hK
    (try simp only[lits])
    refine wpAnyH_done (by kernel_rfl) ?_ _
    have KP10:Hid (Kept (fun g=>wkS q wk vf VO g∨g=pN) w9 (w10.setCell ⟨pN,1,none⟩ (.string kt2))):=((K10.out.mono fun _ _=>False.elim).setCell (.inl (.inr rfl)) _)
    have L0:Hid (LvL w9 (w10.setCell ⟨pN,1,none⟩ (.string kt2)) q wk vf VO root Z pN (.string kt2) WN vf (.slice none 0 0) []) :=
     ⟨(((TW0.out.keptF K8.out).keptF K9.out).keptF K10.out).asideOne HP10.out ((Kept.refl (· = pN) w10).set1 1 _) (by decide) (by decide) (by decide),KP10.out,fun g hg=>.inl hg,heap_set HP10.out 1 _,IRow.nil _ _,fun _ h=>by cases h⟩
    obtain⟨wL,hwL⟩:∃wL,wL=w10.setCell ⟨pN,1,none⟩ (.string kt2):=⟨_,rfl⟩
    rw[←hwL] at L0⊢
    have HKB:Hid (bt=if ln=2 then bt else []):=(if_pos HH2.out).symm
    obtain⟨kb,hkb⟩:∃k,k=bt:=⟨_,rfl⟩
    rw[←hkb] at HK2
    have HKE:Hid (kb=if ln=2 then bt else []):=by show _=_;rw[hkb];exact HKB.out
    clear hHeld CB hP10 fz10 cz10 k10 hwL KP10 hkb HKB
    go_wp2_with fail
    clear g9
    have HBL:Hid (∀b,(wkS q wk vf VO b∨b=pN)→b < w8.heap.size):=by
     rintro b (e|e)
     ·exact(TW0.out.keptF K8.out).lt b e
     ·subst e;rw[S8.out];exact Nat.lt_succ_self _
    have L9:Hid (WkW w9 q wk vf VO WN root Z):=(TW0.out.keptF K8.out).keptF K9.out
    have TS9:Hid (NdAp w9 (wkS q wk vf VO) (.agg #[.bool l,.slice (some ⟨gk,0,none⟩) n1 c1,.slice P2 n2 c2,.slice (some ⟨g,0,none⟩) n3 c3]) s.n):=(TS0.out.keptF K8.out).keptF K9.out
    have HST9:=Lib.hid ((K8.out.trans K9.out).heap HST.out id)
    have HR9:=Lib.hid ((K8.out.trans K9.out).heap HR0.out id)
    have TK9:Hid (Kept (wkS q wk vf (.slice Ao (List.length UO) co)) w w9):=TK0.out.then (K8.out.trans K9.out) fun _ _=>False.elim
    have Z9:Hid (Z≤w9.heap.size):=by have:=TZ0.out;have:=(K8.out.trans K9.out).size;show _≤_;omega
    have VO9:Hid (∀b,VO.ownBlock=some b→b < w9.heap.size):=fun b hb=>L9.out.lt b (.inr (.inr (.inr (.inr hb))))
    have OFF:Hid (∀ {i:Nat} {cs:Array Value} {T:TypeId} {f:Nat×Nat},w9.heap[i]? = some (.cells cs T f)→T=157∨T=148 → ¬(wkS q wk vf VO i∨i=pN)):=by
     rintro i cs T f hh hT ((e|e|e|e|e)|e)
     ·subst e
      have h:=L9.out.tw.sto.sp.row
      rw[h] at hh
      injection hh with hh
      injection hh with _ e _
      rcases hT with hT|hT<;>(rw[hT] at e;exact absurd e (by decide))
     ·obtain⟨es,clock,hm⟩:=L9.out.tw.sto.put.heap
      exact map_ne hm hh e
     ·subst e
      have h:=L9.out.blk
      rw[h] at hh
      injection hh with hh
      injection hh with _ e _
      rcases hT with hT|hT<;>(rw[hT] at e;exact absurd e (by decide))
     ·exact own_neH L9.out.rf hh (by rcases hT with hT|hT<;>(rw[hT];decide)) _ e rfl
     ·exact own_neH L9.out.ro hh (by rcases hT with hT|hT<;>(rw[hT];decide)) _ e rfl
     ·subst e
      have h:=K9.out.heap HP8.out id
      rw[h] at hh
      injection hh with hh
      injection hh with _ e _
      rcases hT with hT|hT<;>(rw[hT] at e;exact absurd e (by decide))
    have LNB:ln≤2:=by have:=L12.out;omega
    go_loopw [19,20,21,126] (fun _ _ _ i wr=>∃(k:Nat) (U:Wk) (vfk:Value) (Ap:Option Addr) (cp:Nat) (ids:List Nat),k≤ln∧i = .int .i64 k∧Hid (LvL w9 wr q wk vf VO root Z pN (.string kt2) U vfk (.slice Ap k cp) ids)∧Hid (ids.length=k∧putAll WN ns=(ids ++ (putAll U (ns.drop k)).1,(putAll U (ns.drop k)).2)∧U.fresh.length≤WN.fresh.length + k)) (fun _ _ _ i _=>ln - (RowKit.intOf i).toNat)
    case atStart=>exact⟨0,WN,vf,none,0, [],Nat.zero_le _,rfl,L0.out,rfl,by simp,by simp⟩
    case round =>
     obtain⟨k,U,vfk,Ap,cp,ids,hk,rfl,LL,LP⟩:=hrel
     by_cases hlt:k < ln
     ·have hki:k < ns.length:=by have:=HLN.out;omega
      obtain⟨x0,Y1,p1,o1,Y2,p2,o2,Y3,p3,o3,cc0,cc1,cc2,cc3,hnd,hgl⟩:=nds_at HNL.out LL.out.kp HBL.out rfl hki
      obtain⟨nk,hnk⟩:∃n,n=ns[k]:=⟨_,rfl⟩
      rw[←hnk] at hnd
      have HND:=Lib.hid hnd
      have FN:Hid nk.Fit:=FNS.out nk (by rw[hnk];exact List.getElem_mem hki)
      have HDR:Hid (ns.drop k=nk :: ns.drop (k + 1)):=by show _=_;rw[hnk];exact List.drop_eq_getElem_cons hki
      have CP:=Lib.hid (fun w' (kk:Kept (fun _=>False) wr w')=>TWput_calls (LL.out.keptF kk).hw (HND.out.kept kk) FN.out (Nat.le_trans Z9.out (Nat.le_trans LL.out.kp.size kk.size)) (by have:=LP.out.2.2;have:=HWF.out;omega))
      obtain⟨⟨⟨ti,te⟩,U'⟩,hpu⟩:∃x,x=putP U nk:=⟨_,rfl⟩
      rw[←hpu] at CP
      have HPU:=Lib.hid hpu
      clear hnd hpu hnk hki
      go_wp2_with fail
      refine(CP.out _ ((Kept.refl _ wr).alloc _)).mono ?_
      intro e w5 hp
      obtain⟨rfl,vfk',LL5⟩:=(LL.out.keptF ((Kept.refl _ wr).alloc _)).put hp
      have L5:=Lib.hid LL5
      clear hp LL5 CP cc0 cc1 cc2 cc3 hgl
      dsimp only at L5⊢
      by_cases hz:te=0
      ·subst hz
       have hcp:w5.cell? ⟨pN,0,none⟩=some (.slice Ap k cp):=(cell_heap L5.out.pb 0).trans rfl
       have OWN:Hid ((w5.alloc (.cells #[.int .i64 (ti:Nat)] 3)).ownsRow 0 3 1 (.slice Ap k cp) k (ids.map I)):=by
        have h:=L5.out.ip.keptF ((Kept.refl _ w5).alloc (.cells #[.int .i64 (ti:Nat)] 3))
        unfold IRow at h
        rw[LP.out.1] at h
        exact own_base h fun _ _=>Nat.zero_le _
       have M1':Hid (k + 1≤maxLen):=by show _≤_;unfold maxLen;omega
       have M2':Hid ((k + 1) * 8≤140737488355328):=by show _≤_;omega
       have RD5:=Lib.hid (reads_one w5 (.int .i64 (ti:Nat)) 3)
       have fw5:w5.frozen? ⟨pN,0,none⟩=false:=free_heap L5.out.pb 0
       have lpN:=lt_heap L5.out.pb
       go_wp2_with (at_builtin;(refine app_one (v:=.slice Ap k cp) rfl (.tmp 141) (.tmp 143) rfl Tryz.underlying28 info_int rfl rfl OWN.out _ rfl RD5.out (ints_one [ti]) M1'.out M2'.out ?_;intro v' w6 hv' hg' hob;obtain⟨A7,c7,rfl,hb6,hL6⟩:=L5.out.app VO9.out ((Kept.refl _ w5).alloc _) LP.out.1.symm hv' hg' hob;have HL6:=Lib.hid hL6;have e0:=(cell_heap hb6 0).trans rfl;have fw6:w6.frozen? ⟨pN,0,none⟩=false:=free_heap hb6 0;clear hv' hg' hob hL6 hb6 hcp fw5 lpN))
       go_roundw
       case rel =>
        refine⟨k + 1,U',vfk',A7,c7,ids ++ [ti],by omega,by go_num,HL6.out,?_⟩
        obtain⟨a1,a2,a3⟩:=LP.out
        obtain⟨b1,b2⟩:=putAll_step HPU.out.symm (ns.drop (k + 1))
        refine⟨by rw[List.length_append,a1];rfl,?_,by omega⟩
        rw[a2,HDR.out,b1]
        simp
       case measure=>simp[RowKit.intOf];omega
      ·have g10:(te == 0)=false:=by rw[beq_eq_false_iff_ne];exact hz
       have g11:(te != 0)=true:=by rw[bne_iff_ne];exact hz
       have hR5:=L5.out.kp.heap HR9.out (OFF.out HR9.out (.inr rfl))
       have HR5':=Lib.hid hR5
       obtain⟨d0',d1',d2',d3'⟩:=nd_cells hR5
       have fz:∀i,w5.frozen? ⟨N + 1 + 1,i,none⟩=false:=fun i=>free_heap hR5 i
       have HZE:=Lib.hid hz
       have lR5:=lt_heap hR5
       clear hR5 hz
       go_wp2_with fail
       have hb4:=set4_heap HR5'.out (by simp) (.bool false) (.slice none 0 0) (.slice none 0 0) (.slice none 0 0)
       have k4:=set4_kept w5 (N + 1 + 1) (.bool false) (.slice none 0 0) (.slice none 0 0) (.slice none 0 0)
       obtain⟨e0,e1,e2,e3⟩:=nd_cells hb4
       refine bodyPost_ret (v:=.tuple #[.agg #[.bool false,.slice none 0 0,.slice none 0 0,.slice none 0 0],.int .i64 te]) (by simp[results,Tryz.f90,go_sem,e0,e1,e2,e3]) rfl ?_
       have hr:r=(nd0,te,U'):=by
        have e:putAll WN ns=(ids,te,U'):=by
         rw[LP.out.2.1,HDR.out,putAll_bad HPU.out.symm HZE.out,List.append_nil]
        rw[HLV.out,e,if_pos HZE.out]
       rw[hr]
       have hn:=HN.out
       have hpn:=HPN.out
       refine⟨_,vfk',VO,rfl,NdAp.new L5.out.hw (nd0_is _ w5.heap.size) (Nat.le_refl _),L5.out.hw.asideOne HR5'.out k4 (by decide) (by decide) (by decide),?_,fun g hg=>?_⟩
       ·refine(TK9.out.then L5.out.kp fun i hi e=>?_).then k4 fun i hi e=>by omega
        rcases e with e|e
        ·exact(TV0.out i e).resolve_right (by omega)
        ·have:=TK0.out.size;omega
       ·rcases hg with e|e|e|e|e
        ·exact .inl (.inl e)
        ·exact .inl (.inr (.inl e))
        ·exact .inl (.inr (.inr (.inl e)))
        ·rcases L5.out.fk g e with e|e
         ·exact .inl (.inr (.inr (.inr (.inl e))))
         ·exact .inr (Nat.le_trans TK9.out.size e)
        ·exact TV0.out g (.inr (.inr (.inr (.inr e))))
     ·obtain rfl:k=ln:=by omega
      have hST:=LL.out.kp.heap HST9.out (OFF.out HST9.out (.inl rfl))
      have hR5:=LL.out.kp.heap HR9.out (OFF.out HR9.out (.inr rfl))
      have HR5':=Lib.hid hR5
      have x2:wr.cell? ⟨N,2,none⟩=some (.bool l):=(cell_heap hST 2).trans rfl
      have x3:wr.cell? ⟨N,3,none⟩=some (.slice (some ⟨gk,0,none⟩) n1 c1):=(cell_heap hST 3).trans rfl
      have x4:wr.cell? ⟨N,4,none⟩=some (.slice P2 n2 c2):=(cell_heap hST 4).trans rfl
      have x5:wr.cell? ⟨N,5,none⟩=some (.slice (some ⟨g,0,none⟩) n3 c3):=(cell_heap hST 5).trans rfl
      have y0:wr.cell? ⟨pN,0,none⟩=some (.slice Ap k cp):=(cell_heap LL.out.pb 0).trans rfl
      have y1:wr.cell? ⟨pN,1,none⟩=some (.string kt2):=(cell_heap LL.out.pb 1).trans rfl
      have KW:Hid (Kept (fun g=>wkS q wk vf VO g∨g=pN) w0 wr):=((K8.out.trans K9.out).mono fun _ _=>False.elim).then LL.out.kp fun _ _ e=>e
      have SL:Hid (∀g,wkS q wk vfk VO g→wkS q wk vf VO g∨w9.heap.size≤g):=by
       rintro g (e|e|e|e|e)
       ·exact .inl (.inl e)
       ·exact .inl (.inr (.inl e))
       ·exact .inl (.inr (.inr (.inl e)))
       ·rcases LL.out.fk g e with e|e
        ·exact .inl (.inr (.inr (.inr (.inl e))))
        ·exact .inr e
       ·exact .inl (.inr (.inr (.inr (.inr e))))
      have TSr:Hid (NdAp wr (wkS q wk vfk VO) (.agg #[.bool l,.slice (some ⟨gk,0,none⟩) n1 c1,.slice P2 n2 c2,.slice (some ⟨g,0,none⟩) n3 c3]) s.n):=TS0.out.kept KW.out (fun g e=>by
       rcases e with e|e
       ·exact .inl e
       ·exact .inr (by rw[e,HPN.out];exact Nat.le_refl _)) (fun g e=>by
       rcases SL.out g e with e|e
       ·exact .inl e
       ·exact .inr (Nat.le_trans (K8.out.trans K9.out).size e))
      have CR:=Lib.hid fun w' (kk:Kept (fun _=>False) wr w')=>TWrepl2_calls (TSr.out.keptF kk).zero (LL.out.ip.keptF kk) (by rw[LP.out.1];exact L12.out) kb 0 (by have:=HAT.out;have:=HM.out;have:=(HOK.out.inner HLF.out).1;omega) (HOK.out.inner HLF.out).2.1 (by have:=HOK.out.len;omega)
      rw[←HK2.out] at CR
      clear hST hR5 hlt hk
      go_wp2_with fail
      refine(CR.out _ (Kept.refl _ wr)).mono ?_
      rintro e w6 ⟨vn,rfl,hn,k6⟩
      obtain⟨lb',Z1,s1,t1,Z2,s2,t2,Z3,s3,t3,rfl⟩:=hn.agg
      have K6':=Lib.hid k6
      have NN:=Lib.hid hn
      have hb3:=k6.heap HR5'.out not_false
      have HB3:=Lib.hid hb3
      obtain⟨d0',d1',d2',d3'⟩:=nd_cells hb3
      have fz:∀i,w6.frozen? ⟨N + 1 + 1,i,none⟩=false:=fun i=>free_heap hb3 i
      clear hn k6 CR hb3 x2 x3 x4 x5 y0 y1
      go_wp2_with fail
      have hb4:=set4_heap HB3.out (by simp) (.bool lb') (.slice Z1 s1 t1) (.slice Z2 s2 t2) (.slice Z3 s3 t3)
      have k4:=set4_kept w6 (N + 1 + 1) (.bool lb') (.slice Z1 s1 t1) (.slice Z2 s2 t2) (.slice Z3 s3 t3)
      obtain⟨e0,e1,e2,e3⟩:=nd_cells hb4
      refine bodyPost_ret (v:=.tuple #[.agg #[.bool lb',.slice Z1 s1 t1,.slice Z2 s2 t2,.slice Z3 s3 t3],.int .i64 0]) (by simp[results,Tryz.f90,go_sem,e0,e1,e2,e3]) rfl ?_
      have hr:r=(s.n.repl 0 (0 + 2) ids kb,0,U):=by
       have e:putAll WN ns=(ids,0,U):=by
        rw[LP.out.2.1,HLN.out,List.drop_length];simp[putAll]
       rw[HLV.out,e,if_neg (by simp), ←HKE.out]
      rw[hr]
      have hn:=HN.out
      have hpn:=HPN.out
      refine⟨_,vfk,VO,rfl,NdAp.new LL.out.hw (NN.out.keptB HB3.out k4 fun _ e=>e) (Nat.le_refl _),(LL.out.hw.keptF K6'.out).asideOne HB3.out k4 (by decide) (by decide) (by decide),?_,fun g hg=>?_⟩
      ·refine((TK9.out.then LL.out.kp fun i hi e=>?_).then K6'.out fun i hi e=>e.elim).then k4 fun i hi e=>by omega
       rcases e with e|e
       ·exact(TV0.out i e).resolve_right (by omega)
       ·have:=TK0.out.size;omega
      ·rcases SL.out g hg with e|e
       ·exact TV0.out g e
       ·exact .inr (Nat.le_trans TK9.out.size e)
   ·have g9:((ln:Int) == 2)=false:=by rw[beq_eq_false_iff_ne];omega
    have HK2:Hid ((⟨#[]⟩:ByteArray)=ba []):=rfl
    have L0:Hid (LvL w9 w9 q wk vf VO root Z pN (.string ⟨#[]⟩) WN vf (.slice none 0 0) []) :=
     ⟨(TW0.out.keptF K8.out).keptF K9.out,Kept.refl _ _,fun g hg=>.inl hg,K9.out.heap HP8.out id,IRow.nil _ _,fun _ h=>by cases h⟩
    obtain⟨kt2,hkt2⟩:∃t:ByteArray,t=⟨#[]⟩:=⟨_,rfl⟩
    obtain⟨kb,hkb⟩:∃k:Bs,k = []:=⟨_,rfl⟩
    have HKE:Hid (kb=if ln=2 then bt else []):=by show _=_;rw[if_neg h2];exact hkb
    rw[←hkt2, ←hkb] at HK2
    rw[←hkt2] at L0
    clear FBK hkt2 h2 hkb
    go_wp2_with fail
    clear g9
    have HBL:Hid (∀b,(wkS q wk vf VO b∨b=pN)→b < w8.heap.size):=by
     rintro b (e|e)
     ·exact(TW0.out.keptF K8.out).lt b e
     ·subst e;rw[S8.out];exact Nat.lt_succ_self _
    have L9:Hid (WkW w9 q wk vf VO WN root Z):=(TW0.out.keptF K8.out).keptF K9.out
    have TS9:Hid (NdAp w9 (wkS q wk vf VO) (.agg #[.bool l,.slice (some ⟨gk,0,none⟩) n1 c1,.slice P2 n2 c2,.slice (some ⟨g,0,none⟩) n3 c3]) s.n):=(TS0.out.keptF K8.out).keptF K9.out
    have HST9:=Lib.hid ((K8.out.trans K9.out).heap HST.out id)
    have HR9:=Lib.hid ((K8.out.trans K9.out).heap HR0.out id)
    have TK9:Hid (Kept (wkS q wk vf (.slice Ao (List.length UO) co)) w w9):=TK0.out.then (K8.out.trans K9.out) fun _ _=>False.elim
    have Z9:Hid (Z≤w9.heap.size):=by have:=TZ0.out;have:=(K8.out.trans K9.out).size;show _≤_;omega
    have VO9:Hid (∀b,VO.ownBlock=some b→b < w9.heap.size):=fun b hb=>L9.out.lt b (.inr (.inr (.inr (.inr hb))))
    have OFF:Hid (∀ {i:Nat} {cs:Array Value} {T:TypeId} {f:Nat×Nat},w9.heap[i]? = some (.cells cs T f)→T=157∨T=148 → ¬(wkS q wk vf VO i∨i=pN)):=by
     rintro i cs T f hh hT ((e|e|e|e|e)|e)
     ·subst e
      have h:=L9.out.tw.sto.sp.row
      rw[h] at hh
      injection hh with hh
      injection hh with _ e _
      rcases hT with hT|hT<;>(rw[hT] at e;exact absurd e (by decide))
     ·obtain⟨es,clock,hm⟩:=L9.out.tw.sto.put.heap
      exact map_ne hm hh e
     ·subst e
      have h:=L9.out.blk
      rw[h] at hh
      injection hh with hh
      injection hh with _ e _
      rcases hT with hT|hT<;>(rw[hT] at e;exact absurd e (by decide))
     ·exact own_neH L9.out.rf hh (by rcases hT with hT|hT<;>(rw[hT];decide)) _ e rfl
     ·exact own_neH L9.out.ro hh (by rcases hT with hT|hT<;>(rw[hT];decide)) _ e rfl
     ·subst e
      have h:=K9.out.heap HP8.out id
      rw[h] at hh
      injection hh with hh
      injection hh with _ e _
      rcases hT with hT|hT<;>(rw[hT] at e;exact absurd e (by decide))
    have LNB:ln≤2:=by have:=L12.out;omega
    go_loopw [19,20,21,126] (fun _ _ _ i wr=>∃(k:Nat) (U:Wk) (vfk:Value) (Ap:Option Addr) (cp:Nat) (ids:List Nat),k≤ln∧i = .int .i64 k∧Hid (LvL w9 wr q wk vf VO root Z pN (.string kt2) U vfk (.slice Ap k cp) ids)∧Hid (ids.length=k∧putAll WN ns=(ids ++ (putAll U (ns.drop k)).1,(putAll U (ns.drop k)).2)∧U.fresh.length≤WN.fresh.length + k)) (fun _ _ _ i _=>ln - (RowKit.intOf i).toNat)
    case atStart=>exact⟨0,WN,vf,none,0, [],Nat.zero_le _,rfl,L0.out,rfl,by simp,by simp⟩
    case round =>
     obtain⟨k,U,vfk,Ap,cp,ids,hk,rfl,LL,LP⟩:=hrel
     by_cases hlt:k < ln
     ·have hki:k < ns.length:=by have:=HLN.out;omega
      obtain⟨x0,Y1,p1,o1,Y2,p2,o2,Y3,p3,o3,cc0,cc1,cc2,cc3,hnd,hgl⟩:=nds_at HNL.out LL.out.kp HBL.out rfl hki
      obtain⟨nk,hnk⟩:∃n,n=ns[k]:=⟨_,rfl⟩
      rw[←hnk] at hnd
      have HND:=Lib.hid hnd
      have FN:Hid nk.Fit:=FNS.out nk (by rw[hnk];exact List.getElem_mem hki)
      have HDR:Hid (ns.drop k=nk :: ns.drop (k + 1)):=by show _=_;rw[hnk];exact List.drop_eq_getElem_cons hki
      have CP:=Lib.hid (fun w' (kk:Kept (fun _=>False) wr w')=>TWput_calls (LL.out.keptF kk).hw (HND.out.kept kk) FN.out (Nat.le_trans Z9.out (Nat.le_trans LL.out.kp.size kk.size)) (by have:=LP.out.2.2;have:=HWF.out;omega))
      obtain⟨⟨⟨ti,te⟩,U'⟩,hpu⟩:∃x,x=putP U nk:=⟨_,rfl⟩
      rw[←hpu] at CP
      have HPU:=Lib.hid hpu
      clear hnd hpu hnk hki
      go_wp2_with fail
      refine(CP.out _ ((Kept.refl _ wr).alloc _)).mono ?_
      intro e w5 hp
      obtain⟨rfl,vfk',LL5⟩:=(LL.out.keptF ((Kept.refl _ wr).alloc _)).put hp
      have L5:=Lib.hid LL5
      clear hp LL5 CP cc0 cc1 cc2 cc3 hgl
      dsimp only at L5⊢
      by_cases hz:te=0
      ·subst hz
       have hcp:w5.cell? ⟨pN,0,none⟩=some (.slice Ap k cp):=(cell_heap L5.out.pb 0).trans rfl
       have OWN:Hid ((w5.alloc (.cells #[.int .i64 (ti:Nat)] 3)).ownsRow 0 3 1 (.slice Ap k cp) k (ids.map I)):=by
        have h:=L5.out.ip.keptF ((Kept.refl _ w5).alloc (.cells #[.int .i64 (ti:Nat)] 3))
        unfold IRow at h
        rw[LP.out.1] at h
        exact own_base h fun _ _=>Nat.zero_le _
       have M1':Hid (k + 1≤maxLen):=by show _≤_;unfold maxLen;omega
       have M2':Hid ((k + 1) * 8≤140737488355328):=by show _≤_;omega
       have RD5:=Lib.hid (reads_one w5 (.int .i64 (ti:Nat)) 3)
       have fw5:w5.frozen? ⟨pN,0,none⟩=false:=free_heap L5.out.pb 0
       have lpN:=lt_heap L5.out.pb
       go_wp2_with (at_builtin;(refine app_one (v:=.slice Ap k cp) rfl (.tmp 141) (.tmp 143) rfl Tryz.underlying28 info_int rfl rfl OWN.out _ rfl RD5.out (ints_one [ti]) M1'.out M2'.out ?_;intro v' w6 hv' hg' hob;obtain⟨A7,c7,rfl,hb6,hL6⟩:=L5.out.app VO9.out ((Kept.refl _ w5).alloc _) LP.out.1.symm hv' hg' hob;have HL6:=Lib.hid hL6;have e0:=(cell_heap hb6 0).trans rfl;have fw6:w6.frozen? ⟨pN,0,none⟩=false:=free_heap hb6 0;clear hv' hg' hob hL6 hb6 hcp fw5 lpN))
       go_roundw
       case rel =>
        refine⟨k + 1,U',vfk',A7,c7,ids ++ [ti],by omega,by go_num,HL6.out,?_⟩
        obtain⟨a1,a2,a3⟩:=LP.out
        obtain⟨b1,b2⟩:=putAll_step HPU.out.symm (ns.drop (k + 1))
        refine⟨by rw[List.length_append,a1];rfl,?_,by omega⟩
        rw[a2,HDR.out,b1]
        simp
       case measure=>simp[RowKit.intOf];omega
      ·have g10:(te == 0)=false:=by rw[beq_eq_false_iff_ne];exact hz
       have g11:(te != 0)=true:=by rw[bne_iff_ne];exact hz
       have hR5:=L5.out.kp.heap HR9.out (OFF.out HR9.out (.inr rfl))
       have HR5':=Lib.hid hR5
       obtain⟨d0',d1',d2',d3'⟩:=nd_cells hR5
       have fz:∀i,w5.frozen? ⟨N + 1 + 1,i,none⟩=false:=fun i=>free_heap hR5 i
       have HZE:=Lib.hid hz
       have lR5:=lt_heap hR5
       clear hR5 hz
       go_wp2_with fail
       have hb4:=set4_heap HR5'.out (by simp) (.bool false) (.slice none 0 0) (.slice none 0 0) (.slice none 0 0)
       have k4:=set4_kept w5 (N + 1 + 1) (.bool false) (.slice none 0 0) (.slice none 0 0) (.slice none 0 0)
       obtain⟨e0,e1,e2,e3⟩:=nd_cells hb4
       refine bodyPost_ret (v:=.tuple #[.agg #[.bool false,.slice none 0 0,.slice none 0 0,.slice none 0 0],.int .i64 te]) (by simp[results,Tryz.f90,go_sem,e0,e1,e2,e3]) rfl ?_
       have hr:r=(nd0,te,U'):=by
        have e:putAll WN ns=(ids,te,U'):=by
         rw[LP.out.2.1,HDR.out,putAll_bad HPU.out.symm HZE.out,List.append_nil]
        rw[HLV.out,e,if_pos HZE.out]
       rw[hr]
       have hn:=HN.out
       have hpn:=HPN.out
       refine⟨_,vfk',VO,rfl,NdAp.new L5.out.hw (nd0_is _ w5.heap.size) (Nat.le_refl _),L5.out.hw.asideOne HR5'.out k4 (by decide) (by decide) (by decide),?_,fun g hg=>?_⟩
       ·refine(TK9.out.then L5.out.kp fun i hi e=>?_).then k4 fun i hi e=>by omega
        rcases e with e|e
        ·exact(TV0.out i e).resolve_right (by omega)
        ·have:=TK0.out.size;omega
       ·rcases hg with e|e|e|e|e
        ·exact .inl (.inl e)
        ·exact .inl (.inr (.inl e))
        ·exact .inl (.inr (.inr (.inl e)))
        ·rcases L5.out.fk g e with e|e
         ·exact .inl (.inr (.inr (.inr (.inl e))))
         ·exact .inr (Nat.le_trans TK9.out.size e)
        ·exact TV0.out g (.inr (.inr (.inr (.inr e))))
     ·obtain rfl:k=ln:=by omega
      have hST:=LL.out.kp.heap HST9.out (OFF.out HST9.out (.inl rfl))
      have hR5:=LL.out.kp.heap HR9.out (OFF.out HR9.out (.inr rfl))
      have HR5':=Lib.hid hR5
      have x2:wr.cell? ⟨N,2,none⟩=some (.bool l):=(cell_heap hST 2).trans rfl
      have x3:wr.cell? ⟨N,3,none⟩=some (.slice (some ⟨gk,0,none⟩) n1 c1):=(cell_heap hST 3).trans rfl
      have x4:wr.cell? ⟨N,4,none⟩=some (.slice P2 n2 c2):=(cell_heap hST 4).trans rfl
      have x5:wr.cell? ⟨N,5,none⟩=some (.slice (some ⟨g,0,none⟩) n3 c3):=(cell_heap hST 5).trans rfl
      have y0:wr.cell? ⟨pN,0,none⟩=some (.slice Ap k cp):=(cell_heap LL.out.pb 0).trans rfl
      have y1:wr.cell? ⟨pN,1,none⟩=some (.string kt2):=(cell_heap LL.out.pb 1).trans rfl
      have KW:Hid (Kept (fun g=>wkS q wk vf VO g∨g=pN) w0 wr):=((K8.out.trans K9.out).mono fun _ _=>False.elim).then LL.out.kp fun _ _ e=>e
      have SL:Hid (∀g,wkS q wk vfk VO g→wkS q wk vf VO g∨w9.heap.size≤g):=by
       rintro g (e|e|e|e|e)
       ·exact .inl (.inl e)
       ·exact .inl (.inr (.inl e))
       ·exact .inl (.inr (.inr (.inl e)))
       ·rcases LL.out.fk g e with e|e
        ·exact .inl (.inr (.inr (.inr (.inl e))))
        ·exact .inr e
       ·exact .inl (.inr (.inr (.inr (.inr e))))
      have TSr:Hid (NdAp wr (wkS q wk vfk VO) (.agg #[.bool l,.slice (some ⟨gk,0,none⟩) n1 c1,.slice P2 n2 c2,.slice (some ⟨g,0,none⟩) n3 c3]) s.n):=TS0.out.kept KW.out (fun g e=>by
       rcases e with e|e
       ·exact .inl e
       ·exact .inr (by rw[e,HPN.out];exact Nat.le_refl _)) (fun g e=>by
       rcases SL.out g e with e|e
       ·exact .inl e
       ·exact .inr (Nat.le_trans (K8.out.trans K9.out).size e))
      have CR:=Lib.hid fun w' (kk:Kept (fun _=>False) wr w')=>TWrepl2_calls (TSr.out.keptF kk).zero (LL.out.ip.keptF kk) (by rw[LP.out.1];exact L12.out) kb 0 (by have:=HAT.out;have:=HM.out;have:=(HOK.out.inner HLF.out).1;omega) (HOK.out.inner HLF.out).2.1 (by have:=HOK.out.len;omega)
      rw[←HK2.out] at CR
      clear hST hR5 hlt hk
      go_wp2_with fail
      refine(CR.out _ (Kept.refl _ wr)).mono ?_
      rintro e w6 ⟨vn,rfl,hn,k6⟩
      obtain⟨lb',Z1,s1,t1,Z2,s2,t2,Z3,s3,t3,rfl⟩:=hn.agg
      have K6':=Lib.hid k6
      have NN:=Lib.hid hn
      have hb3:=k6.heap HR5'.out not_false
      have HB3:=Lib.hid hb3
      obtain⟨d0',d1',d2',d3'⟩:=nd_cells hb3
      have fz:∀i,w6.frozen? ⟨N + 1 + 1,i,none⟩=false:=fun i=>free_heap hb3 i
      clear hn k6 CR hb3 x2 x3 x4 x5 y0 y1
      go_wp2_with fail
      have hb4:=set4_heap HB3.out (by simp) (.bool lb') (.slice Z1 s1 t1) (.slice Z2 s2 t2) (.slice Z3 s3 t3)
      have k4:=set4_kept w6 (N + 1 + 1) (.bool lb') (.slice Z1 s1 t1) (.slice Z2 s2 t2) (.slice Z3 s3 t3)
      obtain⟨e0,e1,e2,e3⟩:=nd_cells hb4
      refine bodyPost_ret (v:=.tuple #[.agg #[.bool lb',.slice Z1 s1 t1,.slice Z2 s2 t2,.slice Z3 s3 t3],.int .i64 0]) (by simp[results,Tryz.f90,go_sem,e0,e1,e2,e3]) rfl ?_
      have hr:r=(s.n.repl 0 (0 + 2) ids kb,0,U):=by
       have e:putAll WN ns=(ids,0,U):=by
        rw[LP.out.2.1,HLN.out,List.drop_length];simp[putAll]
       rw[HLV.out,e,if_neg (by simp), ←HKE.out]
      rw[hr]
      have hn:=HN.out
      have hpn:=HPN.out
      refine⟨_,vfk,VO,rfl,NdAp.new LL.out.hw (NN.out.keptB HB3.out k4 fun _ e=>e) (Nat.le_refl _),(LL.out.hw.keptF K6'.out).asideOne HB3.out k4 (by decide) (by decide) (by decide),?_,fun g hg=>?_⟩
      ·refine((TK9.out.then LL.out.kp fun i hi e=>?_).then K6'.out fun i hi e=>e.elim).then k4 fun i hi e=>by omega
       rcases e with e|e
       ·exact(TV0.out i e).resolve_right (by omega)
       ·have:=TK0.out.size;omega
      ·rcases SL.out g hg with e|e
       ·exact TV0.out g e
       ·exact .inr (Nat.le_trans TK9.out.size e)
  | _=>exact hq.elim
end Go.Proofs.YtfgjehecjgebdaaGreat
/- The tree: level, whole; what it keeps; Delete of a key that isn't there. -/
namespace Go.Proofs.YtfgjehecjgebdaaGreat
open Go.RowKit Go.Maps Go.ChangeMaps
attribute [local go_sem] Oper.semAt_some
theorem TWlevel_calls {w q wk vf vo W root Z} {s:Stp} {l:Bool} {P1 P2 P3:Option Addr} {n1 c1 n2 c2 n3 c3:Nat} {vk:Value} {kid:Nd} (h:WkW w q wk vf vo W root Z) (hs:NdAp w (wkS q wk vf vo) (.agg #[.bool l,.slice P1 n1 c1,.slice P2 n2 c2,.slice P3 n3 c3]) s.n) (hk:NdAp w (wkS q wk vf vo) vk kid)
  (hok:s.n.Ok) (hlf:s.n.leaf=false) (hat:s.at_ + 1≤s.n.kids.length) (hf:kid.Fit) (hkl:kid.len≤8) (hZ:Z≤w.heap.size) (hl:W.fresh.length≤900) (hold:W.old.length≤900) :
  Calls Tryz.prog 90 #[.pointer (some ⟨wk,0,none⟩),.agg #[.int .i64 (s.id:Int),.int .i64 (s.at_:Int),.bool l,.slice P1 n1 c1,.slice P2 n2 c2,.slice P3 n3 c3],vk] w (LevTo (levelP W s kid) w q wk vf vo root Z):=by
 by_cases hu:kid.under=false
 ·exact TWlevel_fit h hs hk hok hlf hat hf hZ hl hu
 ·have hu':kid.under=true:=by simpa using hu
  by_cases he:(W.X.load (lvOther s)).2=0
  ·by_cases hkd:(W.X.load (lvOther s)).1.leaf=kid.leaf
   ·rcases (show s.at_=0 ∨ ∃m,s.at_=m + 1 by cases s.at_ with|zero=>exact .inl rfl|succ m=>exact .inr ⟨m,rfl⟩) with hm|⟨m,hm⟩
    ·exact TWlevel_full_a h hs hk hok hat hlf hm hu' he hkd hf hkl hZ hl hold
    ·exact TWlevel_full_b h hs hk hok hat hlf hm hu' he hkd hf hkl hZ hl hold
   ·rcases (show s.at_=0 ∨ ∃m,s.at_=m + 1 by cases s.at_ with|zero=>exact .inl rfl|succ m=>exact .inr ⟨m,rfl⟩) with hm|⟨m,hm⟩
    ·exact TWlevel_kind_a h hs hk hok hat hlf hm hu' he hkd
    ·exact TWlevel_kind_b h hs hk hok hat hm hu' he hkd
  ·rcases (show s.at_=0 ∨ ∃m,s.at_=m + 1 by cases s.at_ with|zero=>exact .inl rfl|succ m=>exact .inr ⟨m,rfl⟩) with hm|⟨m,hm⟩
   ·exact TWlevel_load_a h hs hk hok hat hlf hm hu' he
   ·exact TWlevel_load_b h hs hk hok hat hm hu' he
theorem putP_id {W:Wk} {n:Nd} (h0:(putP W n).1.2=0) (h128:W.X.l.length≤128):(putP W n).1.1 < 128∧(putP W n).2.X.l.length≤128:=by have:=putP_lt h0;omega
theorem levelP_fit {W:Wk} {s:Stp} {kid:Nd} (hok:s.n.Ok) (hlf:s.n.leaf=false) (hat:s.at_ + 1≤s.n.kids.length) (hf:kid.Fit) (hkl:kid.len≤8) (h128:W.X.l.length≤128) (h0:(levelP W s kid).2.1=0):(levelP W s kid).1.Fit∧(levelP W s kid).1.len≤8:=by
 have hlen:=hok.len
 have hsl:s.n.len≤6:=by simp[Nd.len,hlf];omega
 have h2:=(hok.inner hlf).1
 by_cases hu:kid.under=false
 ·rw[levelP_put hu] at h0⊢
  have h1:=(putP_id h0 h128).1
  obtain⟨f1, -,f3⟩:=hok.fit.repl hlf (i:=s.at_) (j:=s.at_ + 1) (ids := [(putP W kid).1.1]) (key := []) (by omega) (by omega) (by intro x hx;simp only[List.mem_singleton] at hx;subst hx;exact h1) (.inl rfl) (by simp) (by omega)
  exact⟨f1,by simp only[List.length_singleton] at f3;simp only;omega⟩
 ·have hu':kid.under=true:=by simpa using hu
  by_cases he:(W.X.load (lvOther s)).2=0
  ·by_cases hkd:(W.X.load (lvOther s)).1.leaf=kid.leaf
   ·obtain⟨e1,e2⟩:=levelP_two (W:=W) (s:=s) (kid:=kid) hu' rfl rfl he hkd rfl rfl rfl
    have hof:=(load_ok he)
    have hol:=not_over.1 hof.most
    have hfit:(if lvLeft s=s.at_ then kid else (W.X.load (lvOther s)).1).Fit∧(if lvLeft s=s.at_ then (W.X.load (lvOther s)).1 else kid).Fit∧(if lvLeft s=s.at_ then (W.X.load (lvOther s)).1 else kid).leaf=(if lvLeft s=s.at_ then kid else (W.X.load (lvOther s)).1).leaf∧(if lvLeft s=s.at_ then kid else (W.X.load (lvOther s)).1).len + (if lvLeft s=s.at_ then (W.X.load (lvOther s)).1 else kid).len≤20:=by
     by_cases hc:lvLeft s=s.at_
     ·rw[if_pos hc,if_pos hc];exact⟨hf,hof.fit,hkd,by split at hol<;>omega⟩
     ·rw[if_neg hc,if_neg hc];exact⟨hof.fit,hf,hkd.symm,by split at hol<;>omega⟩
    have hlk:lvLeft s < s.n.keys.length:=by have:=(hok.inner hlf).2.1;unfold lvLeft;omega
    have hkey:(s.n.keys.getD (lvLeft s) []).length≤24:=by
     rw[show s.n.keys.getD (lvLeft s) []=s.n.keys[lvLeft s] by simp[List.getD,hlk]]
     exact hok.kl _ (List.getElem_mem hlk)
    obtain⟨j1, -, -⟩:=hfit.1.join hfit.2.1 hkey hfit.2.2.1 hfit.2.2.2
    generalize nJoin _ _ _=J at e1 e2 j1
    by_cases hz:(layP (W.add (lvOther s)) J).2.1=0
    ·rw[e1 hz]
     have p:=layP_ok (W:=W.add (lvOther s)) j1 h128 hz
     obtain⟨f1, -,f3⟩:=hok.fit.repl hlf (i:=lvLeft s) (j:=lvLeft s + 2) (ids:=(layP (W.add (lvOther s)) J).1.1) (key:=(layP (W.add (lvOther s)) J).1.2) (by omega) (by have:=(hok.inner hlf).2.1;omega) p.lt p.n p.key (by omega)
     exact⟨f1,by have:=p.n;simp only;omega⟩
    ·have:=e2 hz
     rw[this] at h0
     exact absurd h0 hz
   ·unfold levelP at h0
    rw[if_neg (by simp[hu']),if_neg (by simp[he]),if_pos hkd] at h0
    exact absurd h0 (show ¬(17:Int)=0 by decide)
  ·unfold levelP at h0
   rw[if_neg (by simp[hu']),if_pos he] at h0
   exact absurd h0 he
theorem putP_len (W:Wk) (n:Nd):(putP W n).2.X.l.length=W.X.l.length:=by
 unfold putP
 split
 ·rfl
 ·split
  ·rfl
  ·simp
theorem layP_len (W:Wk) (n:Nd):(layP W n).2.2.X.l.length=W.X.l.length:=by
 unfold layP
 split
 ·exact putP_len _ _
 ·split
  ·exact putP_len _ _
  ·simp only;rw[putP_len,putP_len]
theorem levelP_counts (W:Wk) (s:Stp) (kid:Nd):(levelP W s kid).2.2.fresh.length≤W.fresh.length + 2∧(levelP W s kid).2.2.old.length≤W.old.length + 1∧(levelP W s kid).2.2.X.l.length=W.X.l.length:=by
 by_cases hu:kid.under=false
 ·rw[levelP_put hu]
  have h1:=putP_fresh W kid
  have h2:=putP_old W kid
  have h3:=putP_len W kid
  refine⟨?_,?_,?_⟩<;>simp only
  ·omega
  ·rw[h2];omega
  ·exact h3
 ·have hu':kid.under=true:=by simpa using hu
  by_cases he:(W.X.load (lvOther s)).2=0
  ·by_cases hkd:(W.X.load (lvOther s)).1.leaf=kid.leaf
   ·obtain⟨e1,e2⟩:=levelP_two (W:=W) (s:=s) (kid:=kid) hu' rfl rfl he hkd rfl rfl rfl
    generalize nJoin _ _ _=J at e1 e2
    have hc:=layP_counts (W.add (lvOther s)) J
    have hl:=layP_len (W.add (lvOther s)) J
    have ha:(W.add (lvOther s)).fresh=W.fresh∧(W.add (lvOther s)).old=W.old ++ [lvOther s]∧(W.add (lvOther s)).X=W.X:=⟨rfl,rfl,rfl⟩
    rw[ha.1,ha.2.1] at hc
    rw[ha.2.2] at hl
    have e3:(levelP W s kid).2.2=(layP (W.add (lvOther s)) J).2.2:=by
     by_cases hz:(layP (W.add (lvOther s)) J).2.1=0
     ·rw[e1 hz]
     ·rw[e2 hz]
    rw[e3]
    exact⟨hc.1,by rw[hc.2];simp,hl⟩
   ·unfold levelP
    rw[if_neg (by simp[hu']),if_neg (by simp[he]),if_pos hkd]
    simp
  ·unfold levelP
   rw[if_neg (by simp[hu']),if_pos he]
   simp
section
variable {P:Program} {ops:Array Oper} {Q:Exit→Act→World→Prop} {md:Region.Mode} {C:World→Prop} {z:Nat}
theorem wpAnyZ_two {i j:Nat} {oi oj:Oper} {fuel:Nat} {listed:Array Bool} {a:Act} {w:World} (hr:Region.ready md ops listed = [i,j]) (hi:ops[i]? = some oi) (hj:ops[j]? = some oj)
  (h1:∀K':Act→World→Prop,Shut (∀a w,((listed.setIfInBounds i true).getD z true=false→C w)→wpAnyZ P md ops Q C z fuel (listed.setIfInBounds i true) a w→K' a w)→if Region.wanted oi (yielded ops a.tmps)=true then Oper.wp P oi a w K' Q else K' (a.put oi.dst undef) w)
  (h2:∀K':Act→World→Prop,Shut (∀a w,((listed.setIfInBounds j true).getD z true=false→C w)→wpAnyZ P md ops Q C z fuel (listed.setIfInBounds j true) a w→K' a w)→if Region.wanted oj (yielded ops a.tmps)=true then Oper.wp P oj a w K' Q else K' (a.put oj.dst undef) w) :
  wpAnyZ P md ops Q C z (fuel + 1) listed a w:=by
 refine⟨fun h0=>(by rw[hr] at h0;cases h0),fun k hk=>?_⟩
 rw[hr] at hk
 simp only[List.mem_cons,List.not_mem_nil,or_false] at hk
 rcases hk with rfl|rfl
 ·exact wpOp_step hi (fun K' hK=>h1 K' (fun a w hC hW=>hK a w ⟨hC,hW⟩))
 ·exact wpOp_step hj (fun K' hK=>h2 K' (fun a w hC hW=>hK a w ⟨hC,hW⟩))
end
def DelTo (r:Bool×Int×Int×Sto) (w:World) (q:TQ) (e:Ending) (w':World):Prop:=e = .returned (.tuple #[.bool r.1,.int .i64 r.2.1])∧TW w' q r.2.2.2 r.2.2.1∧Kept (fun k=>k=q.c∨k=q.m∨k=q.t) w w'
theorem TreeDelete_none {w q X root} (h:TW w q X root) (k:Bs) (hg:(getT X root k).2 ≠ 0∨(getT X root k).1.2=false) :
  Calls Tryz.prog 35 #[.pointer (some ⟨q.t,0,none⟩),.string (ba k)] w (DelTo (delT X root k) w q):=by
 have HD:Hid (delT X root k=(false,(getT X root k).2,root,X)):=by show _=_;unfold delT;rw[if_pos hg]
 have CG:=Lib.hid (TreeGet_calls h k)
 have H:=Lib.hid h
 obtain⟨⟨⟨v,ok⟩,er⟩,hr⟩:∃r,r=getT X root k:=⟨_,rfl⟩
 obtain⟨d,hd⟩:∃d,d=delT X root k:=⟨_,rfl⟩
 rw[←hr] at CG HD hg
 rw[←hd] at HD⊢
 unfold GetTo at CG
 dsimp only at CG HD hg
 obtain⟨ks,hks⟩:∃s,s=ba k:=⟨_,rfl⟩
 obtain⟨vs,hvs⟩:∃s,s=ba v:=⟨_,rfl⟩
 rw[←hks, ←hvs] at CG
 rw[←hks]
 clear h hr hd hks hvs
 by_cases ho:ok=false
 ·subst ho
  clear hg
  go_enter Tryz.func35,Tryz.ntmps35
  go_wp2_with fail
  refine CG.out.mono ?_
  rintro e w1 ⟨rfl,k1⟩
  have K1:=Lib.hid k1
  clear k1 CG
  go_wp2
  refine bodyPost_ret (v:=.tuple #[.bool false,.int .i64 er]) (by simp[results,Tryz.f35,go_sem]) rfl ?_
  rw[HD.out]
  exact⟨rfl,H.out.keptF K1.out,K1.out.mono fun _ _=>False.elim⟩
 ·have ho':ok=true:=by simpa using ho
  subst ho'
  have hz:er ≠ 0:=by simpa using hg
  have hz1:(er == 0)=false:=by rw[beq_eq_false_iff_ne];exact hz
  have hz2:(er != 0)=true:=by rw[bne_iff_ne];exact hz
  clear hg hz ho
  go_enter Tryz.func35,Tryz.ntmps35
  go_wp2_with fail
  refine CG.out.mono ?_
  rintro e w1 ⟨rfl,k1⟩
  have K1:=Lib.hid k1
  clear k1 CG
  go_wp2
  refine bodyPost_ret (v:=.tuple #[.bool false,.int .i64 er]) (by simp[results,Tryz.f35,go_sem]) rfl ?_
  rw[HD.out]
  exact⟨rfl,H.out.keptF K1.out,K1.out.mono fun _ _=>False.elim⟩
end Go.Proofs.YtfgjehecjgebdaaGreat
/- The tree: Delete of a key that is there. -/
namespace Go.Proofs.YtfgjehecjgebdaaGreat
open Go.RowKit Go.Maps Go.ChangeMaps
attribute [local go_sem] Oper.semAt_some
theorem getT_found {X:Sto} {root:Int} {k v:Bs} (h:getT X root k=((v,true),0)):∃r:Nat,root=r∧(downT X k 12 r).2=0:=by
 unfold getT at h
 split at h
 ·injection h with h _;injection h with _ h;cases h
 ·next hr =>
  obtain⟨r,rfl⟩:=Int.eq_ofNat_of_zero_le (a:=root) (by omega)
  rw[Int.toNat_natCast] at h
  split at h
  ·injection h with h _;injection h with _ h;cases h
  ·next hd=>exact⟨r,rfl,Classical.not_not.1 hd⟩
structure DlB (w w2:World) (q:TQ) (root:Int) (B E wkb b12:Nat) (U:Wk) (vf vo:Value) (n:Nd) (vn:Array Value) (W:World):Prop where
 kw:Kept (fun k=>k=q.c∨k=q.m) w W
 kz:Kept (fun b=>b < B∨E≤b) w2 W
 hw:WkW W q wkb vf vo U root E
 bn:W.heap[b12]? = some (.cells vn 148 (0,0))
 nd:NdAp W (wkS q wkb vf vo) (.agg vn) n
theorem DlB.keptF {w w2 q root B E wkb b12 U vf vo n vn W W'} (h:DlB w w2 q root B E wkb b12 U vf vo n vn W) (k:Kept (fun _=>False) W W'):DlB w w2 q root B E wkb b12 U vf vo n vn W' :=
 ⟨h.kw.then k fun _ _ e=>e.elim,h.kz.then k fun _ _ e=>e.elim,h.hw.keptF k,k.heap h.bn id,h.nd.keptF k⟩
theorem WkW.off2 {w q wk vf vo W root Z} (h:WkW w q wk vf vo W root Z) {i:Nat} {cs:Array Value} {T:TypeId} {f:Nat×Nat} (hh:w.heap[i]? = some (.cells cs T f)) (hT:T=157∨T=148):¬wkS q wk vf vo i:=by
 rintro(e|e|e|e|e)
 ·subst e
  have h:=h.tw.sto.sp.row
  rw[h] at hh
  injection hh with hh
  injection hh with _ e _
  rcases hT with hT|hT<;>(rw[hT] at e;exact absurd e (by decide))
 ·obtain⟨es,clock,hm⟩:=h.tw.sto.put.heap
  exact map_ne hm hh e
 ·subst e
  have h:=h.blk
  rw[h] at hh
  injection hh with hh
  injection hh with _ e _
  rcases hT with hT|hT<;>(rw[hT] at e;exact absurd e (by decide))
 ·exact own_neH h.rf hh (by rcases hT with hT|hT<;>(rw[hT];decide)) _ e rfl
 ·exact own_neH h.ro hh (by rcases hT with hT|hT<;>(rw[hT];decide)) _ e rfl
theorem IsWay.blk {w B E g n c L} (h:IsWay w B E (.slice (some ⟨g,0,none⟩) n c) L):B≤g∧g < E ∧ ∃cs f,w.heap[g]? = some (.cells cs 157 f):=by
 obtain⟨cs,ho,h2, -⟩:=h
 obtain⟨cs',f,hh⟩:=own_type ho rfl
 exact⟨own_ge ho rfl,h2 g rfl,cs',f,hh⟩
theorem IsWay.idAt {w B E g n c L} (h:IsWay w B E (.slice (some ⟨g,0,none⟩) n c) L) {i:Nat} (hi:i < L.length):w.cell? ⟨g,i * 6,none⟩=some (.int .i64 L[i].id)∧g < w.heap.size:=by
 obtain⟨g',c',v0,v1,v2,v3,e,hg,h0, -⟩:=h.at hi
 injection e with e _ _
 injection e with e
 injection e with e _ _
 subst e
 exact⟨h0,hg⟩
theorem NdAp.set {w w' S v n N cs f} {T:Nat→Prop} (h:NdAp w S v n) (hN:w.heap[N]? = some (.cells cs 148 f)) (k:Kept T w w') (hT:∀i,T i→i=N):NdAp w' S v n:=⟨h.1.keptB hN k hT,h.2⟩
theorem sinkP_cons {U:Wk} {n:Nd} {st:Stp} {l:List Stp} {n5:Nd} {e5:Int} {U5:Wk} (h:(n5,e5,U5)=levelP U st n):(e5 ≠ 0→sinkP U n (st :: l)=(n5,e5,U5))∧(e5=0→sinkP U n (st :: l)=sinkP (U5.add st.id) n5 l):=by
 simp only[sinkP]
 rw[←h]
 exact⟨fun h=>if_pos h,fun h=>if_neg (fun h'=>h' h)⟩
set_option maxRecDepth 100000 in
set_option maxHeartbeats 4000000 in
theorem TreeDelete_way {w q X} {root:Nat} {v:Bs} (h:TW w q X root) (k:Bs) (hg:getT X root k=((v,true),0)) (hd:(downT X k 12 root).2=0) :
  Calls Tryz.prog 35 #[.pointer (some ⟨q.t,0,none⟩),.string (ba k)] w (DelTo (delT X root k) w q):=by
 have CG:=Lib.hid (TreeGet_calls h k)
 have CD:=Lib.hid fun w' (kk:Kept (fun _=>False) w w')=>TreeDown_calls (h.keptF kk) k
 rw[hg] at CG
 unfold GetTo at CG
 dsimp only at CG
 obtain⟨R,hR⟩:∃R,R=downT X k 12 root:=⟨_,rfl⟩
 have HWO:Hid (WayOk 12 k R.1):=by show WayOk _ _ _;rw[hR];exact downT_ok 12 root hd
 rw[←hR] at CD hd
 obtain⟨L,er⟩:=R
 simp only at hd
 subst hd
 unfold DownTo at CD
 dsimp only at CD HWO
 have hlen:0 < L.length:=List.length_pos_iff.2 HWO.out.ne
 obtain⟨m,hm⟩:∃m,m=L.length - 1:=⟨_,rfl⟩
 obtain⟨s,hs⟩:∃s,s=L[L.length - 1]:=⟨_,rfl⟩
 have hrev:L.reverse=s :: (L.take m).reverse:=by
  have e:L=L.take m ++ [s]:=by
   rw[hs,hm]
   have:=List.take_append_drop (L.length - 1) L
   rw[List.drop_eq_getElem_cons (by omega),show L.length - 1 + 1=L.length by omega,List.drop_length] at this
   exact this.symm
  conv=>lhs;rw[e]
  simp
 obtain⟨r,hr⟩:∃r,r=delT X root k:=⟨_,rfl⟩
 have HD:Hid (r=if (sinkP ((wk0 X).add s.id) (s.n.cut k) (L.take m).reverse).2.1 ≠ 0 then (false,doneP (sinkP ((wk0 X).add s.id) (s.n.cut k) (L.take m).reverse).2.2 0 (sinkP ((wk0 X).add s.id) (s.n.cut k) (L.take m).reverse).2.1 root) else
  if (sinkP ((wk0 X).add s.id) (s.n.cut k) (L.take m).reverse).1.leaf=true∧(sinkP ((wk0 X).add s.id) (s.n.cut k) (L.take m).reverse).1.len=0 then (true,doneP (sinkP ((wk0 X).add s.id) (s.n.cut k) (L.take m).reverse).2.2 (-1) 0 root) else
  if (sinkP ((wk0 X).add s.id) (s.n.cut k) (L.take m).reverse).1.leaf=false∧(sinkP ((wk0 X).add s.id) (s.n.cut k) (L.take m).reverse).1.len=1 then (true,doneP (sinkP ((wk0 X).add s.id) (s.n.cut k) (L.take m).reverse).2.2 ((sinkP ((wk0 X).add s.id) (s.n.cut k) (L.take m).reverse).1.kids.getD 0 0) 0 root) else
  (decide ((putP (sinkP ((wk0 X).add s.id) (s.n.cut k) (L.take m).reverse).2.2 (sinkP ((wk0 X).add s.id) (s.n.cut k) (L.take m).reverse).1).1.2=0),doneP (putP (sinkP ((wk0 X).add s.id) (s.n.cut k) (L.take m).reverse).2.2 (sinkP ((wk0 X).add s.id) (s.n.cut k) (L.take m).reverse).1).2 (putP (sinkP ((wk0 X).add s.id) (s.n.cut k) (L.take m).reverse).2.2 (sinkP ((wk0 X).add s.id) (s.n.cut k) (L.take m).reverse).1).1.1 (putP (sinkP ((wk0 X).add s.id) (s.n.cut k) (L.take m).reverse).2.2 (sinkP ((wk0 X).add s.id) (s.n.cut k) (L.take m).reverse).1).1.2 root)):=by
  show _=_
  rw[hr]
  unfold delT
  rw[hg,if_neg (by simp),Int.toNat_natCast, ←hR,hrev]
 obtain⟨Y,hY⟩:∃Y,Y=sinkP ((wk0 X).add s.id) (s.n.cut k) (L.take m).reverse:=⟨_,rfl⟩
 rw[←hY] at HD
 have HY:=Lib.hid hY
 rw[←hr]
 obtain⟨ks,hks⟩:∃s,s=ba k:=⟨_,rfl⟩
 obtain⟨vs,hvs⟩:∃s,s=ba v:=⟨_,rfl⟩
 rw[←hks] at CG CD⊢
 rw[←hvs] at CG
 have HKS:=Lib.hid hks
 have H:=Lib.hid h
 have hl12:=HWO.out.len
 have HLM:Hid (L.length=m + 1):=by show _=_;omega
 have hlast:L.getLast? = some s:=by rw[List.getLast?_eq_getElem?,List.getElem?_eq_getElem (by omega),hs]
 have HOK:Hid (s.n.Ok∧s.n.leaf=true):=⟨(HWO.out.ok s (by rw[hs];exact List.getElem_mem _)).1,HWO.out.last s hlast⟩
 have HSL:Hid (∀hh:m < L.length,L[m]=s):=fun hh=>by rw[hs];congr
 have hm11:m≤11:=by omega
 clear h hg hR hrev hr hks hvs hlast hs hm hY hlen hl12
 go_enter Tryz.func35,Tryz.ntmps35
 go_wp2_with fail
 refine CG.out.mono ?_
 rintro e w1 ⟨rfl,k1⟩
 have K1:=Lib.hid k1
 clear k1 CG
 go_wp2_with fail
 refine(CD.out _ K1.out).mono ?_
 rintro e w2 ⟨k2,v1,rfl,hw1⟩
 have K2:=Lib.hid (K1.out.trans k2)
 have K12:=Lib.hid k2
 obtain⟨g,cw,u0,u1,u2,u3,rfl,hgl,c0,c1,c2,c3,c4,c5,hn,hlt⟩:=hw1.at (i:=m) (by have:=HLM.out;omega)
 have hLm:=HSL.out (by have:=HLM.out;omega)
 rw[hLm] at c0 c1 hn
 have HW:=Lib.hid hw1
 rw[HLM.out] at HW⊢
 obtain⟨l,A1,n1,d1,A2,n2,d2,A3,n3,d3,e,HE,N1,R1,R2,R3⟩:=hn.opened
 injection e with e
 injection e with e
 injection e with e0 e
 injection e with e1 e
 injection e with e2 e
 injection e with e3 e
 subst e0 e1 e2 e3
 have CC:=Lib.hid fun w' (kk:Kept (fun _=>False) w2 w')=>NdCut_calls ((N1.out.kept kk).base (Nat.zero_le _)) (Nat.zero_le _) HOK.out.1.sm HOK.out.1.up HOK.out.2 (HOK.out.1.leaf HOK.out.2).1 k
 rw[←HKS.out] at CC
 have HLT:=Lib.hid hlt
 clear k2 CD hw1 hLm hn hlt e
 go_wp2_with fail
 refine(CC.out _ (((Kept.refl _ w2).alloc _).alloc _)).mono ?_
 rintro e w3 ⟨vc,rfl,hnc,k3⟩
 obtain⟨cl,Z1,s1,t1,Z2,s2,t2,Z3,s3,t3,rfl⟩:=hnc.agg
 have HN3:=Lib.hid hnc
 have hw3:=k3.heap (heap_old (heap_new w2 (.cells #[.pointer (some ⟨q.t,0,none⟩),.slice none 0 0,.slice none 0 0] 162)) _) id
 have hl3:w3.heap[w2.heap.size + 1]? = some (.cells #[.int .i64 (s.id:Int),.int .i64 (s.at_:Int),.bool l,.slice A1 n1 d1,.slice A2 n2 d2,.slice A3 n3 d3] 157 (0,0)):=k3.heap (heap_newAt (by simp) _) id
 obtain⟨E,hE⟩:∃n,n=w2.heap.size:=⟨_,rfl⟩
 rw[←hE] at hw3 hl3⊢
 have HE2:=Lib.hid hE
 have K3:Hid (Kept (fun _=>False) w2 w3):=(((Kept.refl _ w2).alloc _).alloc _).trans k3
 have HW3:=Lib.hid hw3;have HL3:=Lib.hid hl3
 have le1:=lt_heap hw3
 have le2:=lt_heap hl3
 obtain⟨y0,y1,y2⟩:=wk_cells hw3
 have z0:w3.cell? ⟨E + 1,0,none⟩=some (.int .i64 s.id):=(cell_heap hl3 0).trans rfl
 clear hnc k3 CC hw3 hl3 hE c0 c1 c2 c3 c4 c5
 go_wp2_with fail
 obtain⟨b12,hb12⟩:∃n,n=w3.heap.size:=⟨_,rfl⟩
 obtain⟨w4,hw4⟩:∃w4,w4=w3.alloc (.cells #[.bool cl,.slice Z1 s1 t1,.slice Z2 s2 t2,.slice Z3 s3 t3] 148):=⟨_,rfl⟩
 rw[←hw4, ←hb12]
 have K4:Hid (Kept (fun _=>False) w3 w4):=by rw[hw4];exact(Kept.refl _ _).alloc _
 have HB4:Hid (w4.heap[b12]? = some (.cells #[.bool cl,.slice Z1 s1 t1,.slice Z2 s2 t2,.slice Z3 s3 t3] 148 (0,0))):=by show _=_;rw[hw4,hb12];exact heap_new w3 _
 have T4:Hid (TW w4 q X root):=H.out.keptF ((K2.out.trans K3.out).trans K4.out)
 have W4:Hid (WkW w4 q E (.slice none 0 0) (.slice none 0 0) ⟨X, [], []⟩ root E):=WkW.new T4.out (K4.out.heap HW3.out id) E
 have HL4:=Lib.hid (K4.out.heap HL3.out id)
 have N4:Hid (NdAp w4 (wkS q E (.slice none 0 0) (.slice none 0 0)) (.agg #[.bool cl,.slice Z1 s1 t1,.slice Z2 s2 t2,.slice Z3 s3 t3]) (s.n.cut k)):=NdAp.first W4.out (HN3.out.kept K4.out)
 have EB:Hid (E + 2≤b12):=by show _≤_;omega
 have CC:Hid (∀w',Kept (· = E) w4 w'→w'.cell? ⟨E + 1,0,none⟩=some (.int .i64 s.id)):=fun w' kk=>(cell_heap (kk.heap HL4.out (by omega)) 0).trans rfl
 have hC1:w4.drew.cell? ⟨E,2,none⟩=some (.slice none 0 0):=(wk_cells W4.out.blk).2.2
 have hC2:=CC.out w4.drew (Kept.refl _ w4).drew
 clear hw4 hb12 y0 y1 y2 z0 le1 le2
 refine wp_region_z 11 (fun w'=>w'.cell? ⟨E,2,none⟩=some (.slice none 0 0)∧w'.cell? ⟨E + 1,0,none⟩=some (.int .i64 s.id)) (by kernel_rfl) ⟨hC1,hC2⟩ (fun hC=>?_)
 clear hC1 hC2
 refine tz 0 (h:=?_)
 (try simp only[lits])
 refine tz 1 (h:=?_)
 (try simp only[lits])
 refine tz 2 (h:=?_)
 (try simp only[lits])
 refine tz 3 (h:=?_)
 (try simp only[lits])
 refine tz 4 (h:=?_)
 (try simp only[lits])
 refine tz 5 (h:=?_)
 (try simp only[lits])
 refine tz 6 (h:=?_)
 (try simp only[lits])
 refine wpAnyZ_one (i:=7) (by kernel_rfl) rfl (fun K hK=>?_)
 go_simp
 have K5:Hid (Kept (fun _=>False) w4 ((w4.alloc (.cells #[.int .i64 (s.id:Nat)] 3)).drew)):=((Kept.refl _ w4).alloc _).drew
 have OW:Hid (((w4.alloc (.cells #[.int .i64 (s.id:Nat)] 3)).drew).ownsRow 0 3 1 (.slice none 0 0) 0 (([]:List Nat).map I)):=World.ownsRow_nil _ _ _ _
 have W5:=Lib.hid (W4.out.keptF K5.out)
 refine hK.out _ _ (fun _=>⟨(wk_cells W5.out.blk).2.2,CC.out _ (K5.out.mono fun _ _=>False.elim)⟩) ?_
 clear hK hC
 (try simp only[lits])
 refine wpAnyZ_one (i:=8) (by kernel_rfl) rfl (fun K hK=>?_)
 refine step_one (v:=.slice none 0 0) rfl (.tmp 55) (.tmp 58) rfl Tryz.underlying28 info_int rfl rfl OW.out _ rfl (reads_one w4.drew (.int .i64 (s.id:Nat)) 3) (ints_one [s.id]) (by unfold maxLen;omega) (by omega) ?_
 intro v' z1 hv1 hg1 hob1
 obtain⟨A6,c6,rfl,hb6,hw6,hk6,ho6⟩:=wk_appO (x:=s.id) W4.out K5.out (by have:=EB.out;have:=lt_heap HB4.out;omega) rfl hv1 hg1 hob1
 have HW6:Hid (WkW (z1.setCell ⟨E,2,none⟩ (.slice A6 1 c6)) q E (.slice none 0 0) (.slice A6 1 c6) ((wk0 X).add s.id) root E):=hw6
 have HK6:Hid (Kept (fun k=>k=E∨(Value.slice none 0 0).ownBlock=some k) w4 (z1.setCell ⟨E,2,none⟩ (.slice A6 1 c6))):=hk6
 have HO6:Hid (∀g,(Value.slice A6 1 c6).ownBlock=some g→(Value.slice none 0 0).ownBlock=some g∨w4.heap.size≤g):=ho6
 have HB6:=Lib.hid hb6
 have cwk6:z1.cell? ⟨E,2,none⟩=some (.slice none 0 0):=(cell_heap hb6 2).trans rfl
 have fz6:z1.frozen? ⟨E,2,none⟩=false:=free_heap hb6 2
 have kz1:Kept (· = E) w4 z1:=(K5.out.mono fun _ _=>False.elim).trans ⟨hg1.os,hg1.tape,hg1.output,hg1.size,fun k hk' hne=>hg1.block k hk' fun e=>by cases e⟩
 have cc1:=CC.out z1 kz1
 refine hK.out _ _ (fun _=>⟨cwk6,cc1⟩) ?_
 clear hK hw6 hk6 ho6 hb6 kz1 hv1 hg1 hob1
 (try simp only[lits])
 refine wpAnyZ_one (i:=9) (by kernel_rfl) rfl (fun K hK=>?_)
 go_simp
 refine hK.out _ _ (fun _=>⟨cwk6,cc1⟩) ?_
 clear hK
 (try simp only[lits])
 refine wpAnyZ_one (i:=10) (by kernel_rfl) rfl (fun K hK=>?_)
 go_simp
 refine hK.out _ _ (fun _=>⟨cwk6,cc1⟩) ?_
 clear hK
 (try simp only[lits])
 refine wpAnyZ_one (i:=11) (by kernel_rfl) rfl (fun K hK=>?_)
 go_simp
 refine hK.out _ _ (fun h=>by cases h) ?_
 clear hK
 (try simp only[lits])
 refine wpAnyZ_done (by kernel_rfl) ?_ _
 clear cc1 cwk6 fz6
 obtain⟨w6,hw6⟩:∃w6,w6=z1.setCell ⟨E,2,none⟩ (.slice A6 1 c6):=⟨_,rfl⟩
 rw[←hw6] at HW6 HK6⊢
 clear hw6 HB6
 have NK:Hid (∀g,(g=E∨(Value.slice none 0 0).ownBlock=some g)→wkS q E (.slice none 0 0) (.slice none 0 0) g):=fun g hg=>by
  rcases hg with e|e
  ·exact .inr (.inr (.inl e))
  ·cases e
 have DB:Hid (DlB w w2 q root w1.heap.size E E b12 ((wk0 X).add s.id) (.slice none 0 0) (.slice A6 1 c6) (s.n.cut k) #[.bool cl,.slice Z1 s1 t1,.slice Z2 s2 t2,.slice Z3 s3 t3] w6):=by
  refine⟨?_,?_,HW6.out,?_,?_⟩
  ·refine((((K2.out.trans K3.out).trans K4.out).mono fun _ _=>False.elim).then HK6.out fun i hi e=>?_)
   have:=K2.out.size;have:=HE2.out
   rcases e with e|e
   ·omega
   ·cases e
  ·refine((K3.out.trans K4.out).mono fun _ _=>False.elim).then HK6.out fun i hi e=>?_
   rcases e with e|e
   ·exact .inr (by omega)
   ·cases e
  ·exact HK6.out.heap HB4.out (by
    have:=EB.out
    rintro(e|e)
    ·omega
    ·cases e)
  ·refine N4.out.kept HK6.out (fun g hg=>.inl (NK.out g hg)) fun g hg=>?_
   rcases hg with e|e|e|e|e
   ·exact .inl (.inl e)
   ·exact .inl (.inr (.inl e))
   ·exact .inl (.inr (.inr (.inl e)))
   ·cases e
   ·rcases HO6.out g e with e|e
    ·cases e
    ·exact .inr e
 go_wp2_with fail
 have WAYK:Hid (∀W,Kept (fun b=>b < w1.heap.size∨E≤b) w2 W→IsWay W w1.heap.size w2.heap.size (.slice (some ⟨g,0,none⟩) (m + 1) cw) L):=fun W kk=>HW.out.kept kk (fun b hb=>by
  have:=HE2.out
  rcases hb with e|e
  ·exact .inl e
  ·exact .inr (by omega))
 have HQ:Hid (q.c < w.heap.size∧q.m < w.heap.size∧q.t < w.heap.size∧w.heap.size≤w1.heap.size∧w1.heap.size≤E∧E=w2.heap.size):=by
  have:=H.out.small;have:=K1.out.size;have:=K12.out.size;have:=HE2.out
  exact⟨by omega,by omega,by omega,by omega,by omega,by omega⟩
 have HF0:Hid ((s.n.cut k).Fit∧(s.n.cut k).len≤8):=by
  obtain⟨f1, -,f3⟩:=HOK.out.1.fit.cut HOK.out.2 k
  have:=not_over.1 HOK.out.1.most
  refine⟨f1,?_⟩
  split at this<;>omega
 have XL:Hid (X.l.length≤128):=T4.out.sto.sp.len
 have KM:Hid (((wk0 X).add s.id).fresh.length + 2 * m≤50∧((wk0 X).add s.id).old.length + 2 * m≤50):=by
  constructor<;>simp[wk0,Wk.add]<;>omega
 clear HLT HL3 HW3 HN3 HL4 HB4 W4 N4 CC W5 OW HK6 HO6 NK R1 R2 R3 N1
 obtain⟨U0,hU0⟩:∃U,U=(wk0 X).add s.id:=⟨_,rfl⟩
 have HX0:Hid (U0.X=X):=by show _=_;rw[hU0];rfl
 rw[←hU0] at HY DB KM
 clear hU0
 go_loopw [8,13] (fun _ i wr=>∃(j:Nat) (U:Wk) (vf vo:Value) (n:Nd) (vl:Bool) (B1:Option Addr) (x1 y1:Nat) (B2:Option Addr) (x2 y2:Nat) (B3:Option Addr) (x3 y3:Nat),j≤m∧i = .int .i64 ((j:Int) - 1)∧Hid (DlB w w2 q root w1.heap.size E E b12 U vf vo n #[.bool vl,.slice B1 x1 y1,.slice B2 x2 y2,.slice B3 x3 y3] wr)∧Hid (Y=sinkP U n (L.take j).reverse∧n.Fit∧n.len≤8∧U.X.l.length≤128∧U.fresh.length + 2 * j≤50∧U.old.length + 2 * j≤50)) (fun _ i _=>(RowKit.intOf i + 1).toNat)
 case atStart=>exact⟨m,U0,_,_,_,_,_,_,_,_,_,_,_,_,_,Nat.le_refl _,by go_num,DB.out,HY.out,HF0.out.1,HF0.out.2,by rw[HX0.out];exact XL.out,KM.out.1,KM.out.2⟩
 case round =>
  obtain⟨j,U,vf,vo,n,vl,B1,x1,y1,B2,x2,y2,B3,x3,y3,hj,rfl,D,F⟩:=hrel
  clear DB HY HX0 KM
  have SI:Hid (∀b,wkS q E vf vo b→b=q.c∨b=q.m∨E≤b):=by
   rintro b (e|e|e|e|e)
   ·exact .inl e
   ·exact .inr (.inl e)
   ·exact .inr (.inr (by omega))
   ·exact .inr (.inr (own_ge D.out.hw.rf e))
   ·exact .inr (.inr (own_ge D.out.hw.ro e))
  by_cases h0:0 < j
  ·obtain⟨i,rfl⟩:∃i,j=i + 1:=⟨j - 1,by omega⟩
   have hiL:i < L.length:=by have:=HLM.out;omega
   have hway:=WAYK.out wr D.out.kz
   obtain⟨gb1,gb2,gcs,gf,ghh⟩:=hway.blk
   obtain⟨g',cw',u0,u1,u2,u3,ev,hgl',c0,c1,c2,c3,c4,c5,hn,hlt⟩:=hway.at (i:=i) hiL
   injection ev with ev ev2 ev3
   injection ev with ev
   injection ev with ev _ _
   subst ev
   clear ev2 ev3
   obtain⟨l',P1,p1,r1,P2,p2,r2,P3,p3,r3,e'⟩:=hn.agg
   injection e' with e'
   injection e' with e'
   injection e' with e0 e'
   injection e' with e1 e'
   injection e' with e2 e'
   injection e' with e3 _
   subst e0 e1 e2 e3
   obtain⟨st,hst⟩:∃st,st=L[i]:=⟨_,rfl⟩
   rw[←hst] at c0 c1 hn
   have HWK:=HWO.out
   have hok:=HWK.ok st (by rw[hst];exact List.getElem_mem _)
   have hin:=HWK.inner st (by
    rw[hst,List.dropLast_eq_take,List.mem_take_iff_getElem]
    exact⟨i,by have:=HLM.out;omega,rfl⟩)
   have hat:st.at_ + 1≤st.n.kids.length:=by
    have:=find_le st.n k hok.1.up
    have:=(hok.1.inner hin).2.1
    rw[hok.2];omega
   have HTK:Hid ((L.take (i + 1)).reverse=st :: (L.take i).reverse):=by show _=_;rw[hst];exact take_rev L i hiL
   have hSN:NdAp wr (wkS q E vf vo) (.agg #[.bool l',.slice P1 p1 r1,.slice P2 p2 r2,.slice P3 p3 r3]) st.n:=NdAp.between hn hlt fun b hb=>by
    have:=HQ.out
    rcases SI.out b hb with e|e|e<;>omega
   have CL:=Lib.hid fun w' (kk:Kept (fun _=>False) wr w')=>TWlevel_calls (D.out.hw.keptF kk) (hSN.keptF kk) (D.out.nd.keptF kk) hok.1 hin hat F.out.2.1 F.out.2.2.1 (Nat.le_trans (Nat.le_of_lt (lt_heap D.out.hw.blk)) kk.size) (by have:=F.out;omega) (by have:=F.out;omega)
   have LF:Hid ((levelP U st n).2.1=0→(levelP U st n).1.Fit∧(levelP U st n).1.len≤8):=levelP_fit hok.1 hin hat F.out.2.1 F.out.2.2.1 F.out.2.2.2.1
   have LC:=Lib.hid (levelP_counts U st n)
   obtain⟨⟨n5,e5,U5⟩,h5⟩:∃x,x=levelP U st n:=⟨_,rfl⟩
   rw[←h5] at CL LF LC
   have H5:=Lib.hid h5
   unfold LevTo at CL
   dsimp only at CL LF LC
   have CW:Hid (∀w',Kept (wkS q E vf vo) wr w'→(w'.cell? ⟨g,i * 6,none⟩=some (.int .i64 st.id)∧w'.cell? ⟨g,i * 6 + 1,none⟩=some (.int .i64 st.at_)∧w'.cell? ⟨g,i * 6 + 2,none⟩=some (.bool l')∧w'.cell? ⟨g,i * 6 + 3,none⟩=some (.slice P1 p1 r1)∧w'.cell? ⟨g,i * 6 + 4,none⟩=some (.slice P2 p2 r2)∧w'.cell? ⟨g,i * 6 + 5,none⟩=some (.slice P3 p3 r3)) ∧
     w'.cell? ⟨b12,0,none⟩=some (.bool vl)∧w'.cell? ⟨b12,1,none⟩=some (.slice B1 x1 y1)∧w'.cell? ⟨b12,2,none⟩=some (.slice B2 x2 y2)∧w'.cell? ⟨b12,3,none⟩=some (.slice B3 x3 y3)):=fun w' kk=>by
    have ce:∀o,w'.cell? ⟨g,o,none⟩=wr.cell? ⟨g,o,none⟩:=fun o=>World.cell?_of_block (kk.block g hgl' (D.out.hw.off2 ghh (.inl rfl)))
    refine⟨⟨(ce _).trans c0,(ce _).trans c1,(ce _).trans c2,(ce _).trans c3,(ce _).trans c4,(ce _).trans c5⟩,?_⟩
    exact nd_cells (kk.heap D.out.bn (D.out.hw.off2 D.out.bn (.inr rfl)))
   have hC1:=CW.out wr.drew (Kept.refl _ wr).drew
   have hi11:i≤11:=by omega
   have him:(i:Int) < (m:Int) + 1:=by omega
   have GB:Hid (w1.heap.size≤g∧g < w2.heap.size):=⟨gb1,gb2⟩
   clear hway hn hlt hst hok hin hat hSN h5 hiL c0 c1 c2 c3 c4 c5 HWK gb1 gb2 ghh
   go_wp2_with fail
   go_cut [8] from 65 to 97 (fun v wx=>∃(vf' vo':Value) (vl':Bool) (Q1:Option Addr) (a1 b1:Nat) (Q2:Option Addr) (a2 b2:Nat) (Q3:Option Addr) (a3 b3:Nat),v = .int .i64 e5∧Hid (DlB w w2 q root w1.heap.size E E b12 U5 vf' vo' n5 #[.bool vl',.slice Q1 a1 b1,.slice Q2 a2 b2,.slice Q3 a3 b3] wx))
   case first =>
    refine wp_region_z 10 (fun w'=>(w'.cell? ⟨g,i * 6,none⟩=some (.int .i64 st.id)∧w'.cell? ⟨g,i * 6 + 1,none⟩=some (.int .i64 st.at_)∧w'.cell? ⟨g,i * 6 + 2,none⟩=some (.bool l')∧w'.cell? ⟨g,i * 6 + 3,none⟩=some (.slice P1 p1 r1)∧w'.cell? ⟨g,i * 6 + 4,none⟩=some (.slice P2 p2 r2)∧w'.cell? ⟨g,i * 6 + 5,none⟩=some (.slice P3 p3 r3)) ∧
     w'.cell? ⟨b12,0,none⟩=some (.bool vl)∧w'.cell? ⟨b12,1,none⟩=some (.slice B1 x1 y1)∧w'.cell? ⟨b12,2,none⟩=some (.slice B2 x2 y2)∧w'.cell? ⟨b12,3,none⟩=some (.slice B3 x3 y3)) (by kernel_rfl) hC1 (fun hC=>?_)
    clear hC1
    refine tz 0 (h:=?_)
    (try simp only[lits])
    refine tz 1 (h:=?_)
    (try simp only[lits])
    refine tz 2 (h:=?_)
    (try simp only[lits])
    refine tz 3 (h:=?_)
    (try simp only[lits])
    refine tz 4 (h:=?_)
    (try simp only[lits])
    refine tz 5 (h:=?_)
    (try simp only[lits])
    refine wpAnyZ_one (i:=6) (by kernel_rfl) rfl (fun K hK=>?_)
    go_simp
    refine(CL.out _ (Kept.refl _ wr).drew).mono ?_
    rintro e w5 ⟨v5,vf',vo',rfl,hnd5,hw5,hk5,hs5⟩
    obtain⟨vl',Q1,a1,b1,Q2,a2,b2,Q3,a3,b3,rfl⟩:=hnd5.1.agg
    have hk5':Kept (wkS q E vf vo) wr w5:=(Kept.refl (wkS q E vf vo) wr).drew.trans hk5
    have HN5:=Lib.hid hnd5;have HW5:=Lib.hid hw5;have HK5:=Lib.hid hk5'
    have hC5:=CW.out w5 hk5'
    have hb5:=hk5'.heap D.out.bn (D.out.hw.off2 D.out.bn (.inr rfl))
    have HB5:=Lib.hid hb5
    have fz5:∀i,w5.frozen? ⟨b12,i,none⟩=false:=fun i=>free_heap hb5 i
    have lb5:=lt_heap hb5
    refine hK.out _ _ (fun _=>hC5) ?_
    clear hK hC hnd5 hw5 hk5 hs5 hk5' hb5 CL
    (try simp only[lits])
    have hC:=hC5
    refine tz 7 (h:=?_)
    (try simp only[lits])
    refine tz 8 (h:=?_)
    (try simp only[lits])
    have FIN:Hid (DlB w w2 q root w1.heap.size E E b12 U5 vf' vo' n5 #[.bool vl',.slice Q1 a1 b1,.slice Q2 a2 b2,.slice Q3 a3 b3] ((((w5.setCell ⟨b12,0,none⟩ (.bool vl')).setCell ⟨b12,1,none⟩ (.slice Q1 a1 b1)).setCell ⟨b12,2,none⟩ (.slice Q2 a2 b2)).setCell ⟨b12,3,none⟩ (.slice Q3 a3 b3))):=by
     have hb4:=set4_heap HB5.out (by simp) (.bool vl') (.slice Q1 a1 b1) (.slice Q2 a2 b2) (.slice Q3 a3 b3)
     have k4:=set4_kept w5 b12 (.bool vl') (.slice Q1 a1 b1) (.slice Q2 a2 b2) (.slice Q3 a3 b3)
     have hq:=HQ.out
     have heb:=EB.out
     refine⟨(D.out.kw.then HK5.out fun i hi e=>?_).then k4 fun i hi e=>by omega,(D.out.kz.then HK5.out fun i hi e=>?_).then k4 fun i hi e=>.inr (by omega),HW5.out.asideOne HB5.out k4 (by decide) (by decide) (by decide),hb4,HN5.out.set HB5.out k4 fun _ e=>e⟩
     ·rcases SI.out i e with e|e|e
      ·exact .inl e
      ·exact .inr e
      ·omega
     ·rcases SI.out i e with e|e|e
      ·exact .inl (by omega)
      ·exact .inl (by omega)
      ·exact .inr e
    refine wpAnyZ_two (i:=9) (j:=10) (by kernel_rfl) rfl rfl (fun K hK=>?_) (fun K hK=>?_)
    ·go_simp
     refine hK.out _ _ (fun _=>hC5) ?_
     clear hK
     (try simp only[lits])
     refine wpAnyZ_one (i:=10) (by kernel_rfl) rfl (fun K hK=>?_)
     go_simp
     refine hK.out _ _ (fun h=>by cases h) ?_
     clear hK
     (try simp only[lits])
     refine wpAnyZ_one (i:=11) (by kernel_rfl) rfl (fun K hK=>?_)
     go_simp
     refine hK.out _ _ (fun h=>by cases h) ?_
     clear hK
     (try simp only[lits])
     refine wpAnyZ_done (by kernel_rfl) ?_ _
     go_wp2_with fail
     go_meet
     exact⟨_,_,_,_,_,_,_,_,_,_,_,_,rfl,FIN.out⟩
    ·go_simp
     refine hK.out _ _ (fun h=>by cases h) ?_
     clear hK
     (try simp only[lits])
     refine wpAnyZ_one (i:=9) (by kernel_rfl) rfl (fun K hK=>?_)
     go_simp
     refine hK.out _ _ (fun h=>by cases h) ?_
     clear hK
     (try simp only[lits])
     refine wpAnyZ_one (i:=11) (by kernel_rfl) rfl (fun K hK=>?_)
     go_simp
     refine hK.out _ _ (fun h=>by cases h) ?_
     clear hK
     (try simp only[lits])
     refine wpAnyZ_done (by kernel_rfl) ?_ _
     go_wp2_with fail
     go_meet
     exact⟨_,_,_,_,_,_,_,_,_,_,_,_,rfl,FIN.out⟩
   case rest =>
    obtain⟨vf',vo',vl',Q1,a1,b1,Q2,a2,b2,Q3,a3,b3,rfl,D5⟩:=hcut
    have HSC:=Lib.hid (sinkP_cons H5.out (l:=(L.take i).reverse))
    have BND:Hid (U5.fresh.length≤U.fresh.length + 2∧U5.old.length≤U.old.length + 1∧U5.X.l.length=U.X.l.length):=LC.out
    clear CL hC1
    by_cases hz:e5=0
    ·subst hz
     have hiL:i < L.length:=by have:=HLM.out;omega
     have hway5:=WAYK.out wc D5.out.kz
     obtain⟨ci5,gl5⟩:=hway5.idAt hiL
     have hsid:L[i].id=st.id:=by
      have h:=HTK.out
      rw[take_rev L i hiL] at h
      injection h with h _
      rw[h]
     rw[hsid] at ci5
     obtain⟨UX,UF,UO⟩:=U5
     obtain⟨Ao,co,evo⟩:=own_slice D5.out.hw.ro
     subst evo
     obtain⟨lo,hlo⟩:∃n,n=UO.length:=⟨_,rfl⟩
     simp only at D5
     rw[←hlo] at D5
     have HLO:=Lib.hid hlo
     have LB:Hid (lo≤50):=by have:=BND.out;have:=F.out;simp only at *;show _≤_;omega
     have ROW:Hid (∀b,(Value.slice Ao lo co).ownBlock=some b→E≤b):=fun b hb=>own_ge D5.out.hw.ro hb
     have CI:Hid (∀w',Kept (fun k=>k=E∨(Value.slice Ao lo co).ownBlock=some k) wc w'→w'.cell? ⟨g,i * 6,none⟩=some (.int .i64 st.id)):=fun w' kk=>(World.cell?_of_block (kk.block g gl5 (by
      have:=GB.out;have:=HQ.out
      rintro(e|e)
      ·omega
      ·have:=ROW.out g e;omega))).trans ci5
     have hD1:wc.drew.cell? ⟨E,2,none⟩=some (.slice Ao lo co):=(wk_cells D5.out.hw.blk).2.2
     have hD2:=CI.out wc.drew (Kept.refl _ wc).drew
     clear ci5 gl5 hway5 hiL hsid hlo
     go_wp2_with fail
     refine wp_region_z 14 (fun w'=>w'.cell? ⟨E,2,none⟩=some (.slice Ao lo co)∧w'.cell? ⟨g,i * 6,none⟩=some (.int .i64 st.id)) (by kernel_rfl) ⟨hD1,hD2⟩ (fun hC=>?_)
     clear hD1 hD2
     refine tz 0 (h:=?_)
     (try simp only[lits])
     refine tz 1 (h:=?_)
     (try simp only[lits])
     refine tz 2 (h:=?_)
     (try simp only[lits])
     refine tz 3 (h:=?_)
     (try simp only[lits])
     refine tz 4 (h:=?_)
     (try simp only[lits])
     refine tz 5 (h:=?_)
     (try simp only[lits])
     refine tz 6 (h:=?_)
     (try simp only[lits])
     refine tz 7 (h:=?_)
     (try simp only[lits])
     refine tz 8 (h:=?_)
     (try simp only[lits])
     refine tz 9 (h:=?_)
     (try simp only[lits])
     refine wpAnyZ_one (i:=10) (by kernel_rfl) rfl (fun K hK=>?_)
     go_simp
     have K5:Hid (Kept (fun _=>False) wc ((wc.alloc (.cells #[.int .i64 (st.id:Nat)] 3)).drew)):=((Kept.refl _ wc).alloc _).drew
     have D6:=Lib.hid (D5.out.keptF K5.out)
     have OW:Hid (((wc.alloc (.cells #[.int .i64 (st.id:Nat)] 3)).drew).ownsRow 0 3 1 (.slice Ao lo co) lo (UO.map I)):=by
      have h:=D6.out.hw.ro
      unfold IRow at h
      dsimp only at h
      rw[←HLO.out] at h
      exact own_base h fun _ _=>Nat.zero_le _
     refine hK.out _ _ (fun _=>⟨(wk_cells D6.out.hw.blk).2.2,CI.out _ (K5.out.mono fun _ _=>False.elim)⟩) ?_
     clear hK hC
     (try simp only[lits])
     refine wpAnyZ_one (i:=11) (by kernel_rfl) rfl (fun K hK=>?_)
     refine step_one (v:=.slice Ao lo co) rfl (.tmp 88) (.tmp 94) rfl Tryz.underlying28 info_int rfl rfl OW.out _ rfl (reads_one wc.drew (.int .i64 (st.id:Nat)) 3) (ints_one [st.id]) (by have:=LB.out;unfold maxLen;omega) (by have:=LB.out;omega) ?_
     intro v' z1 hv1 hg1 hob1
     obtain⟨A7,c7,rfl,hb7,hw7,hk7,ho7⟩:=wk_appO (x:=st.id) D5.out.hw K5.out (Nat.le_of_lt (lt_heap D5.out.hw.blk)) HLO.out hv1 hg1 hob1
     have HW7:=Lib.hid hw7;have HK7:=Lib.hid hk7;have HO7:=Lib.hid ho7
     have HB7:=Lib.hid hb7
     have cwk7:z1.cell? ⟨E,2,none⟩=some (.slice Ao lo co):=(cell_heap hb7 2).trans rfl
     have fz7:z1.frozen? ⟨E,2,none⟩=false:=free_heap hb7 2
     have kz1:Kept (fun k=>k=E∨(Value.slice Ao lo co).ownBlock=some k) wc z1:=(K5.out.mono fun _ _=>False.elim).trans ⟨hg1.os,hg1.tape,hg1.output,hg1.size,fun k hk' hne=>hg1.block k hk' fun e=>hne (.inr e.symm)⟩
     have cc1:=CI.out z1 kz1
     refine hK.out _ _ (fun _=>⟨cwk7,cc1⟩) ?_
     clear hK hw7 hk7 ho7 hb7 kz1 hv1 hg1 hob1
     (try simp only[lits])
     refine wpAnyZ_one (i:=12) (by kernel_rfl) rfl (fun K hK=>?_)
     go_simp
     refine hK.out _ _ (fun _=>⟨cwk7,cc1⟩) ?_
     clear hK
     (try simp only[lits])
     refine wpAnyZ_one (i:=13) (by kernel_rfl) rfl (fun K hK=>?_)
     go_simp
     refine hK.out _ _ (fun _=>⟨cwk7,cc1⟩) ?_
     clear hK
     (try simp only[lits])
     refine wpAnyZ_one (i:=14) (by kernel_rfl) rfl (fun K hK=>?_)
     go_simp
     refine hK.out _ _ (fun h=>by cases h) ?_
     clear hK
     (try simp only[lits])
     refine wpAnyZ_done (by kernel_rfl) ?_ _
     clear cc1 cwk7 fz7
     obtain⟨w7,hw7⟩:∃w7,w7=z1.setCell ⟨E,2,none⟩ (.slice A7 (lo + 1) c7):=⟨_,rfl⟩
     rw[←hw7] at HW7 HK7⊢
     clear hw7 HB7
     have ST:∀g,(g=E∨(Value.slice Ao lo co).ownBlock=some g)→wkS q E vf' (.slice Ao lo co) g:=by
      rintro g (e|e)
      ·exact .inr (.inr (.inl e))
      ·exact .inr (.inr (.inr (.inr e)))
     have DN:Hid (DlB w w2 q root w1.heap.size E E b12 ⟨UX,UF,UO ++ [st.id]⟩ vf' (.slice A7 (lo + 1) c7) n5 #[.bool vl',.slice Q1 a1 b1,.slice Q2 a2 b2,.slice Q3 a3 b3] w7):=by
      refine⟨D5.out.kw.then HK7.out fun i hi e=>?_,D5.out.kz.then HK7.out fun i hi e=>.inr ?_,HW7.out,HK7.out.heap D5.out.bn fun e=>D5.out.hw.off2 D5.out.bn (.inr rfl) (ST _ e),D5.out.nd.kept HK7.out (fun g hg=>.inl (ST g hg)) fun g hg=>?_⟩
      ·have:=HQ.out
       rcases e with e|e
       ·omega
       ·have:=ROW.out i e;omega
      ·rcases e with e|e
       ·omega
       ·exact ROW.out i e
      ·rcases hg with e|e|e|e|e
       ·exact .inl (.inl e)
       ·exact .inl (.inr (.inl e))
       ·exact .inl (.inr (.inr (.inl e)))
       ·exact .inl (.inr (.inr (.inr (.inl e))))
       ·rcases HO7.out g e with e|e
        ·exact .inl (.inr (.inr (.inr (.inr e))))
        ·exact .inr e
     go_wp2_with fail
     go_roundw
     case rel =>
      refine⟨i,⟨UX,UF,UO ++ [st.id]⟩,vf',.slice A7 (lo + 1) c7,n5,vl',Q1,a1,b1,Q2,a2,b2,Q3,a3,b3,by omega,by go_num,DN.out,?_⟩
      have hb:UF.length≤U.fresh.length + 2∧UO.length≤U.old.length + 1∧UX.l.length=U.X.l.length:=BND.out
      have hf:=F.out
      have hl:=LF.out trivial
      refine⟨by rw[hf.1,HTK.out,HSC.out.2 trivial];rfl,hl.1,hl.2,by show UX.l.length≤128;omega,by show UF.length + 2 * i≤50;omega,by show(UO ++ [st.id]).length + 2 * i≤50;rw[List.length_append,List.length_singleton];omega⟩
     case measure=>simp[RowKit.intOf]
    ·have g1:(e5 == 0)=false:=by rw[beq_eq_false_iff_ne];exact hz
     have g2:(e5 != 0)=true:=by rw[bne_iff_ne];exact hz
     have CD:=Lib.hid (TWdone_calls D5.out.hw ⟨by have:=BND.out;have:=F.out;omega,by have:=BND.out;have:=F.out;omega⟩ 0 e5)
     unfold DoneTo at CD
     have hr:Hid (r=(false,doneP U5 0 e5 root)):=by
      have e:Y=(n5,e5,U5):=by rw[F.out.1,HTK.out,HSC.out.1 hz]
      show _=_
      rw[HD.out,e,if_pos hz]
     obtain⟨⟨f1,f2,f3⟩,hf⟩:∃x,x=doneP U5 0 e5 root:=⟨_,rfl⟩
     rw[←hf] at CD hr
     dsimp only at CD
     clear hz hf
     go_wp2_with fail
     refine CD.out.mono ?_
     rintro e w6 ⟨rfl,tw6,k6⟩
     have T6:=Lib.hid tw6;have K6:=Lib.hid k6
     clear tw6 k6 CD
     go_wp2_with fail
     refine bodyPost_ret (v:=.tuple #[.bool false,.int .i64 f1]) (by simp[results,Tryz.f35,go_sem]) rfl ?_
     rw[hr.out]
     exact⟨rfl,T6.out,(D5.out.kw.mono fun i _ e=>by rcases e with e|e;exact .inl e;exact .inr (.inl e)).trans K6.out⟩
  ·obtain rfl:j=0:=by omega
   have hY0:Hid (Y=(n,0,U)):=by show _=_;rw[F.out.1];rfl
   have HDn:Hid (r=if n.leaf=true∧n.len=0 then (true,doneP U (-1) 0 root) else if n.leaf=false∧n.len=1 then (true,doneP U (n.kids.getD 0 0) 0 root) else (decide ((putP U n).1.2=0),doneP (putP U n).2 (putP U n).1.1 (putP U n).1.2 root)):=by
    show _=_
    rw[HD.out,hY0.out,if_neg (by simp)]
   have HB:=Lib.hid D.out.bn
   obtain⟨b0,b1,b2,b3⟩:=nd_cells D.out.bn
   obtain⟨l'',C1,i1,o1,C2,i2,o2,C3,i3,o3,e,HEn, -, -, -,R3⟩:=D.out.nd.1.opened
   injection e with e
   injection e with e
   injection e with e0 e
   injection e with e1 e
   injection e with e2 e
   injection e with e3 _
   injection e0 with e0
   subst e0
   injection e3 with e3 e4 e5
   subst e3 e4 e5
   clear e1 e2
   have CLn:=Lib.hid fun w' (kk:Kept (fun _=>False) wr w')=>NdLen_calls (D.out.nd.1.kept kk)
   have CPt:=Lib.hid fun w' (kk:Kept (fun _=>False) wr w')=>TWput_calls (D.out.hw.keptF kk) (D.out.nd.keptF kk).zero F.out.2.1 (Nat.le_trans (Nat.le_of_lt (lt_heap D.out.hw.blk)) kk.size) (by have:=F.out;omega)
   have PB:Hid ((putP U n).2.fresh.length≤1000∧(putP U n).2.old.length≤1000):=by
    have h1:=putP_fresh U n
    have h2:=putP_old U n
    have:=F.out
    exact⟨by omega,by rw[h2];omega⟩
   obtain⟨⟨⟨ti,te⟩,U7⟩,hpu⟩:∃x,x=putP U n:=⟨_,rfl⟩
   rw[←hpu] at CPt PB
   have HPU:=Lib.hid hpu
   unfold PutTo at CPt
   obtain⟨ll,hll⟩:∃x,x=n.len:=⟨_,rfl⟩
   rw[←hll] at CLn
   have HLL:=Lib.hid hll
   have HLe:=Lib.hid HEn.out.1
   have HLk:=Lib.hid HEn.out.2.2.2
   clear hpu hll hj h0
   cases vl
   ·by_cases hz:ll=1
    ·have hk1:n.kids.length=1:=by
      have:=HLL.out
      have e:n.leaf=false:=HLe.out.symm
      simp[Nd.len,e] at this;omega
     obtain⟨g3,c3',ev3⟩:=own_form R3.out (by omega)
     injection ev3 with ev3 ev4 ev5
     subst ev3
     clear ev4 ev5
     have q3:wr.cell? ⟨g3,0,none⟩=some (.int .i64 (n.kids.getD 0 0:Nat)):=by
      rw[IRow.at_ R3.out (by omega)]
      simp[List.getD,hk1]
     have lg3:g3 < wr.heap.size:=own_lt R3.out rfl
     have hi3:x3=1:=by have:=HLk.out;omega
     obtain⟨kd,hkd⟩:∃x,x=n.kids.getD 0 0:=⟨_,rfl⟩
     rw[←hkd] at q3
     have CD:=Lib.hid fun w' (kk:Kept (fun _=>False) wr w')=>TWdone_calls (D.out.hw.keptF kk) (by have:=F.out;exact⟨by omega,by omega⟩) (kd:Nat) 0
     unfold DoneTo at CD
     obtain⟨⟨f1,f2,f3⟩,hf⟩:∃x,x=doneP U (kd:Nat) 0 root:=⟨_,rfl⟩
     rw[←hf] at CD
     dsimp only at CD
     have hr:Hid (r=(true,f1,f2,f3)):=by
      show _=_
      rw[HDn.out,if_neg (by rw[←HLe.out];simp),if_pos ⟨HLe.out.symm,by rw[←HLL.out];exact hz⟩, ←hkd,hf]
     have g1:((ll:Int) == 1)=true:=by rw[beq_iff_eq];omega
     subst hi3
     clear hf hkd hk1 hz
     go_wp2_with fail
     refine(CLn.out _ (Kept.refl _ _)).mono ?_
     rintro e w6 ⟨rfl,k6⟩
     have K6:=Lib.hid k6
     obtain⟨b0',b1',b2',b3'⟩:=nd_cells (k6.heap HB.out id)
     have q3':w6.cell? ⟨g3,0,none⟩=some (.int .i64 kd):=(World.cell?_of_block (k6.block g3 lg3 id)).trans q3
     clear b0 b1 b2 b3 q3 lg3 CLn
     go_wp2_with fail
     refine(CD.out _ k6).mono ?_
     rintro e w8 ⟨rfl,tw8,k8⟩
     have T8:=Lib.hid tw8;have K8:=Lib.hid k8
     clear tw8 k8 CD
     go_wp2_with fail
     refine bodyPost_ret (v:=.tuple #[.bool true,.int .i64 f1]) (by simp[results,Tryz.f35,go_sem]) rfl ?_
     rw[hr.out]
     exact⟨rfl,T8.out,((D.out.kw.then K6.out fun _ _=>False.elim).mono fun i _ e=>by rcases e with e|e;exact .inl e;exact .inr (.inl e)).trans K8.out⟩
    ·have g1:((ll:Int) == 1)=false:=by rw[beq_eq_false_iff_ne];omega
     have HZ1:=Lib.hid hz
     clear hz
     go_wp2_with fail
     refine(CLn.out _ (Kept.refl _ _)).mono ?_
     rintro e w6 ⟨rfl,k6⟩
     have K6:=Lib.hid k6
     obtain⟨b0',b1',b2',b3'⟩:=nd_cells (k6.heap HB.out id)
     clear b0 b1 b2 b3 CLn
     go_wp2_with fail
     refine(CPt.out _ k6).mono ?_
     rintro e w7 ⟨rfl,vf7,hw7,hk7,hv7⟩
     dsimp only at hw7 hk7 hv7⊢
     have HW7:=Lib.hid hw7;have HK7:=Lib.hid hk7
     have CD:=Lib.hid (TWdone_calls HW7.out PB.out ti te)
     unfold DoneTo at CD
     obtain⟨⟨f1,f2,f3⟩,hf⟩:∃x,x=doneP U7 ti te root:=⟨_,rfl⟩
     rw[←hf] at CD
     dsimp only at CD
     have hr:Hid (r=(decide (te=0),f1,f2,f3)):=by
      show _=_
      rw[HDn.out,if_neg (by rw[←HLe.out];simp),if_neg (fun h=>HZ1.out (HLL.out.trans h.2)),hf, ←HPU.out]
     clear hf hw7 hk7 hv7 CPt
     by_cases hz:te=0
     ·subst hz
      go_wp2_with fail
      refine CD.out.mono ?_
      rintro e w8 ⟨rfl,tw8,k8⟩
      have T8:=Lib.hid tw8;have K8:=Lib.hid k8
      clear tw8 k8 CD
      go_wp2_with fail
      refine bodyPost_ret (v:=.tuple #[.bool true,.int .i64 f1]) (by simp[results,Tryz.f35,go_sem]) rfl ?_
      rw[hr.out]
      refine⟨by simp,T8.out,((D.out.kw.then ((K6.out.mono fun _ _=>False.elim).trans HK7.out) fun i hi e=>?_).mono fun i _ e=>by rcases e with e|e;exact .inl e;exact .inr (.inl e)).trans K8.out⟩
      have:=HQ.out
      rcases e with e|e|e|e
      ·exact .inl e
      ·exact .inr e
      ·omega
      ·have:=own_ge D.out.hw.rf e;omega
     ·have g1:(te == 0)=false:=by rw[beq_eq_false_iff_ne];exact hz
      have HZ:=Lib.hid hz
      clear hz
      go_wp2_with fail
      refine CD.out.mono ?_
      rintro e w8 ⟨rfl,tw8,k8⟩
      have T8:=Lib.hid tw8;have K8:=Lib.hid k8
      clear tw8 k8 CD
      go_wp2_with fail
      refine bodyPost_ret (v:=.tuple #[.bool false,.int .i64 f1]) (by simp[results,Tryz.f35,go_sem]) rfl ?_
      rw[hr.out]
      refine⟨by rw[decide_eq_false HZ.out],T8.out,((D.out.kw.then ((K6.out.mono fun _ _=>False.elim).trans HK7.out) fun i hi e=>?_).mono fun i _ e=>by rcases e with e|e;exact .inl e;exact .inr (.inl e)).trans K8.out⟩
      have:=HQ.out
      rcases e with e|e|e|e
      ·exact .inl e
      ·exact .inr e
      ·omega
      ·have:=own_ge D.out.hw.rf e;omega
   ·by_cases hz:ll=0
    ·have CD:=Lib.hid fun w' (kk:Kept (fun _=>False) wr w')=>TWdone_calls (D.out.hw.keptF kk) (by have:=F.out;exact⟨by omega,by omega⟩) (-1) 0
     unfold DoneTo at CD
     obtain⟨⟨f1,f2,f3⟩,hf⟩:∃x,x=doneP U (-1) 0 root:=⟨_,rfl⟩
     rw[←hf] at CD
     dsimp only at CD
     have hr:Hid (r=(true,f1,f2,f3)):=by
      show _=_
      rw[HDn.out,if_pos ⟨HLe.out.symm,by rw[←HLL.out];exact hz⟩,hf]
     have g1:((ll:Int) == 0)=true:=by rw[beq_iff_eq];omega
     clear hf hz
     go_wp2_with fail
     refine(CLn.out _ (Kept.refl _ _)).mono ?_
     rintro e w6 ⟨rfl,k6⟩
     have K6:=Lib.hid k6
     obtain⟨b0',b1',b2',b3'⟩:=nd_cells (k6.heap HB.out id)
     clear b0 b1 b2 b3 CLn
     go_wp2_with fail
     refine(CD.out _ k6).mono ?_
     rintro e w8 ⟨rfl,tw8,k8⟩
     have T8:=Lib.hid tw8;have K8:=Lib.hid k8
     clear tw8 k8 CD
     go_wp2_with fail
     refine bodyPost_ret (v:=.tuple #[.bool true,.int .i64 f1]) (by simp[results,Tryz.f35,go_sem]) rfl ?_
     rw[hr.out]
     exact⟨rfl,T8.out,((D.out.kw.then K6.out fun _ _=>False.elim).mono fun i _ e=>by rcases e with e|e;exact .inl e;exact .inr (.inl e)).trans K8.out⟩
    ·have g1:((ll:Int) == 0)=false:=by rw[beq_eq_false_iff_ne];omega
     have HZ1:=Lib.hid hz
     clear hz
     go_wp2_with fail
     refine(CLn.out _ (Kept.refl _ _)).mono ?_
     rintro e w6 ⟨rfl,k6⟩
     have K6:=Lib.hid k6
     obtain⟨b0',b1',b2',b3'⟩:=nd_cells (k6.heap HB.out id)
     clear b0 b1 b2 b3 CLn
     go_wp2_with fail
     refine(CPt.out _ k6).mono ?_
     rintro e w7 ⟨rfl,vf7,hw7,hk7,hv7⟩
     dsimp only at hw7 hk7 hv7⊢
     have HW7:=Lib.hid hw7;have HK7:=Lib.hid hk7
     have CD:=Lib.hid (TWdone_calls HW7.out PB.out ti te)
     unfold DoneTo at CD
     obtain⟨⟨f1,f2,f3⟩,hf⟩:∃x,x=doneP U7 ti te root:=⟨_,rfl⟩
     rw[←hf] at CD
     dsimp only at CD
     have hr:Hid (r=(decide (te=0),f1,f2,f3)):=by
      show _=_
      rw[HDn.out,if_neg (fun h=>HZ1.out (HLL.out.trans h.2)),if_neg (fun h=>by have:=h.1;rw[←HLe.out] at this;cases this),hf, ←HPU.out]
     clear hf hw7 hk7 hv7 CPt
     by_cases hz:te=0
     ·subst hz
      go_wp2_with fail
      refine CD.out.mono ?_
      rintro e w8 ⟨rfl,tw8,k8⟩
      have T8:=Lib.hid tw8;have K8:=Lib.hid k8
      clear tw8 k8 CD
      go_wp2_with fail
      refine bodyPost_ret (v:=.tuple #[.bool true,.int .i64 f1]) (by simp[results,Tryz.f35,go_sem]) rfl ?_
      rw[hr.out]
      refine⟨by simp,T8.out,((D.out.kw.then ((K6.out.mono fun _ _=>False.elim).trans HK7.out) fun i hi e=>?_).mono fun i _ e=>by rcases e with e|e;exact .inl e;exact .inr (.inl e)).trans K8.out⟩
      have:=HQ.out
      rcases e with e|e|e|e
      ·exact .inl e
      ·exact .inr e
      ·omega
      ·have:=own_ge D.out.hw.rf e;omega
     ·have g1:(te == 0)=false:=by rw[beq_eq_false_iff_ne];exact hz
      have HZ:=Lib.hid hz
      clear hz
      go_wp2_with fail
      refine CD.out.mono ?_
      rintro e w8 ⟨rfl,tw8,k8⟩
      have T8:=Lib.hid tw8;have K8:=Lib.hid k8
      clear tw8 k8 CD
      go_wp2_with fail
      refine bodyPost_ret (v:=.tuple #[.bool false,.int .i64 f1]) (by simp[results,Tryz.f35,go_sem]) rfl ?_
      rw[hr.out]
      refine⟨by rw[decide_eq_false HZ.out],T8.out,((D.out.kw.then ((K6.out.mono fun _ _=>False.elim).trans HK7.out) fun i hi e=>?_).mono fun i _ e=>by rcases e with e|e;exact .inl e;exact .inr (.inl e)).trans K8.out⟩
      have:=HQ.out
      rcases e with e|e|e|e
      ·exact .inl e
      ·exact .inr e
      ·omega
      ·have:=own_ge D.out.hw.rf e;omega
theorem TreeDelete_calls {w q X root} (h:TW w q X root) (k:Bs):Calls Tryz.prog 35 #[.pointer (some ⟨q.t,0,none⟩),.string (ba k)] w (DelTo (delT X root k) w q):=by
 by_cases hg:(getT X root k).2 ≠ 0∨(getT X root k).1.2=false
 ·exact TreeDelete_none h k hg
 ·obtain⟨v,hv⟩:∃v,getT X root k=((v,true),0):=⟨(getT X root k).1.1,Prod.ext (Prod.ext rfl (by simpa using fun h=>hg (.inr h))) (Classical.not_not.1 fun h=>hg (.inl h))⟩
  obtain⟨r,rfl,hd⟩:=getT_found hv
  exact TreeDelete_way h k hv hd
end Go.Proofs.YtfgjehecjgebdaaGreat
