/- Pages: a store's Dirty. -/
import Derived.Test.YtfgjehecjgebdaaGreatMg30
import Derived.Test.YtfgjehecjgebdaaGreatMg31
namespace Go.Proofs.YtfgjehecjgebdaaGreat
open Go.RowKit Go.Maps Go.ChangeMaps
theorem keys_prs (ks:List Nat) (T:Nat→List UInt8):intKeys (DataW.map (prs ks T))=ks.map fun i:Nat=>(i:Int):=by
 simp only[intKeys,prs,List.map_map]
 apply List.map_congr_left
 intro a _
 rfl
theorem sorted_keys {ks:List Nat} (h:ks.Pairwise (· < ·)) {ss:List Int} (hp:ss.Perm (ks.map fun i:Nat=>(i:Int))):ss.mergeSort (fun x y=>decide (x≤y))=ks.map fun i:Nat=>(i:Int):=by
 have tr:∀a b c:Int,decide (a≤b)=true→decide (b≤c)=true→decide (a≤c)=true:=by
  intro a b c h1 h2;simp only[decide_eq_true_eq] at *;omega
 have tot:∀a b:Int,(decide (a≤b) || decide (b≤a))=true:=by
  intro a b;simp only[Bool.or_eq_true,decide_eq_true_eq];omega
 refine List.Perm.eq_of_pairwise (le:=fun a b=>decide (a≤b)=true) (fun a b _ _ h1 h2=>by simp only[decide_eq_true_eq] at h1 h2;omega) (List.pairwise_mergeSort tr tot ss) ?_ ((List.mergeSort_perm ss _).trans hp)
 rw[List.pairwise_map]
 exact h.imp fun {a b} hlt=>by simp only[decide_eq_true_eq];omega
def StoDirtyPost (l:List Nat) (w:World) (e:Ending) (w':World):Prop :=
 ∃v:Value,e = .returned v∧w'.ownsRow w.heap.size 3 1 v (fresh l).length ((fresh l).map fun i:Nat=>Value.int .i64 (i:Int))∧Kept (fun _=>False) w w'
theorem StoDirty_calls {w st b c m d vs vc p g X} (h:IsStore w st b c m d vs vc p g X) :
  Calls Tryz.prog 68 #[.pointer (some ⟨st,0,none⟩)] w (StoDirtyPost X.l w):=by
 have hc:w.cell? ⟨st,8,none⟩=some (.map (some m)):=(cell_heap h.head 8).trans rfl
 refine(Dirty_calls st m 128 _ pgR w hc h.put (by
  show(prs (fresh X.l) X.T).length≤1000
  rw[prs_len];have:=fresh_len X.l;have:=h.sp.len;omega)).mono ?_
 rintro e w' ⟨v,ss,rfl,hp,hrow,hb⟩
 rw[keys_prs] at hp
 have hl:ss.length=(fresh X.l).length:=by have:=hp.length_eq;simpa using this
 rw[sorted_keys (fresh_up X.l) hp,hl,List.map_map] at hrow
 exact⟨v,rfl,hrow,Kept.of_below hb⟩
end Go.Proofs.YtfgjehecjgebdaaGreat
/- Pages: Checkpoint. -/
namespace Go.Proofs.YtfgjehecjgebdaaGreat
open Go.RowKit Go.Maps Go.ChangeMaps
def rootBad (X:Sto) (root:Int):Bool:=decide (root < -1∨(0≤root∧stAt X.l root ≠ 1∧stAt X.l root ≠ 2)∨(X.l.length:Int)≤root)
def numBad (log next:Int):Bool:=decide (log < 1∨1099511627776 < log∨next < 0∨1099511627776 < next)
structure StoTo (w:World) (st b c m d:Nat) (vs vc:Value) (p g:Nat) (w':World) (vc':Value) (X':Sto):Prop where
 sto:IsStore w' st b c m d vs vc' p g X'
 kept:Kept (fun k=>k=st∨k=c∨k=m∨k=d∨vs.ownBlock=some k∨vc.ownBlock=some k) w w'
 own:∀k,vc'.ownBlock=some k→vc.ownBlock=some k∨w.heap.size≤k
def CkPost (w:World) (st b c m d:Nat) (vs vc:Value) (p g:Nat) (r:Int×Sto) (e:Ending) (w':World):Prop :=
 e = .returned (.int .i64 r.1) ∧ ∃vc',StoTo w st b c m d vs vc p g w' vc' r.2
theorem StoTo.refl {w st b c m d vs vc p g X} (h:IsStore w st b c m d vs vc p g X):StoTo w st b c m d vs vc p g w vc X:=⟨h,Kept.refl _ _,fun _ h=>.inl h⟩
theorem check_bad {X:Sto} {root log next:Int} (h:ckBad X root log next ≠ 0):X.check root log next=(ckBad X root log next,X):=by simp[Sto.check,h]
set_option maxRecDepth 100000 in
theorem Ck_root {w st b c m d vs vc p g X} (h:IsStore w st b c m d vs vc p g X) (root log next:Int) (hb:rootBad X root=true) :
  Calls Tryz.prog 21 #[.pointer (some ⟨st,0,none⟩),.int .i64 root,.int .i64 log,.int .i64 next] w (CkPost w st b c m d vs vc p g (X.check root log next)):=by
 have hc0:w.cell? ⟨st,0,none⟩=some (.pointer (some ⟨b,0,none⟩)):=(cell_heap h.head 0).trans rfl
 have HST:=Lib.hid (State_calls h.sp root)
 have HLN:=Lib.hid (Len_calls h.sp)
 have H:=Lib.hid h
 have HR:Hid (X.check root log next=(8,X)):=by
  have e:ckBad X root log next=8:=by simp only[ckBad];rw[if_pos (by simpa[rootBad] using hb)]
  rw[Hid,check_bad (by rw[e];omega),e]
 simp only[rootBad,decide_eq_true_eq] at hb
 by_cases h1:root < -1
 ·have hg1:decide (root < -1)=true:=by simpa using h1
  clear h hb h1
  go_enter Tryz.func21,Tryz.ntmps21
  go_wp2
  go_ret
  exact⟨by rw[HR.out];rfl,vc,by rw[HR.out];exact StoTo.refl H.out⟩
 ·have hg1:decide (root < -1)=false:=by simpa using h1
  have h0:0≤root:=by
   have:=h.len;have:=h.lay.p1
   omega
  have hg2:decide (0≤root)=true:=by simpa using h0
  have hs:stAt X.l root ≠ 1∧stAt X.l root ≠ 2:=by
   rcases hb with hb|hb|hb
   ·omega
   ·exact hb.2
   ·have:stAt X.l root = -1:=by
     simp only[stAt,if_neg (show ¬root < 0 by omega)]
     rw[List.getElem?_eq_none (by omega)]
    omega
  have ht1:(stAt X.l root != 1)=true:=by simpa using hs.1
  have ht2:(stAt X.l root != 2)=true:=by simpa using hs.2
  clear h hb h1 h0 hs
  generalize stAt X.l root=sv at *
  go_enter Tryz.func21,Tryz.ntmps21
  go_wp2_with (first|(go_at_call 66;refine HST.out.mono ?_;rintro e w1 ⟨rfl,rfl⟩)|(go_at_call 67;refine HLN.out.mono ?_;rintro e w1 ⟨rfl,rfl⟩))
  go_ret
  exact⟨by rw[HR.out];rfl,vc,by rw[HR.out];exact StoTo.refl H.out⟩
set_option maxRecDepth 100000 in
theorem Ck_num {w st b c m d vs vc p g X} (h:IsStore w st b c m d vs vc p g X) (root log next:Int) (hb:rootBad X root=false) (hn:numBad log next=true) :
  Calls Tryz.prog 21 #[.pointer (some ⟨st,0,none⟩),.int .i64 root,.int .i64 log,.int .i64 next] w (CkPost w st b c m d vs vc p g (X.check root log next)):=by
 have hc0:w.cell? ⟨st,0,none⟩=some (.pointer (some ⟨b,0,none⟩)):=(cell_heap h.head 0).trans rfl
 have HST:=Lib.hid (State_calls h.sp root)
 have HLN:=Lib.hid (Len_calls h.sp)
 have H:=Lib.hid h
 have HR:Hid (X.check root log next=(18,X)):=by
  have e:ckBad X root log next=18:=by simp only[ckBad];rw[if_neg (by simpa[rootBad] using hb),if_pos (by simpa[numBad] using hn)]
  rw[Hid,check_bad (by rw[e];omega),e]
 simp only[rootBad,decide_eq_false_iff_not] at hb
 simp only[numBad,decide_eq_true_eq] at hn
 have hg1:decide (root < -1)=false:=by simp;omega
 have hg9:decide ((X.l.length:Int)≤root)=false:=by simp;omega
 have hroot:root = -1∨(0≤root∧stAt X.l root=1)∨(0≤root∧stAt X.l root=2):=by omega
 have hnum:(decide (log < 1)=true)∨(decide (log < 1)=false∧decide (1099511627776 < log)=true)∨(decide (log < 1)=false∧decide (1099511627776 < log)=false∧decide (next < 0)=true)∨(decide (log < 1)=false∧decide (1099511627776 < log)=false∧decide (next < 0)=false∧decide (1099511627776 < next)=true):=by
  simp only[decide_eq_true_eq,decide_eq_false_iff_not];omega
 have HRT:=Lib.hid hroot
 clear h hb hn hroot
 rcases HRT.out with h0|⟨h0,hs⟩|⟨h0,hs⟩
 ·have hg2:decide (0≤root)=false:=by simp;omega
  clear h0
  rcases hnum with n1|⟨n1,n2⟩|⟨n1,n2,n3⟩|⟨n1,n2,n3,n4⟩
  all_goals
   go_enter Tryz.func21,Tryz.ntmps21
   go_wp2_with (first|(go_at_call 66;refine HST.out.mono ?_;rintro e w1 ⟨rfl,rfl⟩)|(go_at_call 67;refine HLN.out.mono ?_;rintro e w1 ⟨rfl,rfl⟩))
   go_ret
   exact⟨by rw[HR.out];rfl,vc,by rw[HR.out];exact StoTo.refl H.out⟩
 ·have hg2:decide (0≤root)=true:=by simpa using h0
  rw[hs] at HST
  clear h0 hs
  rcases hnum with n1|⟨n1,n2⟩|⟨n1,n2,n3⟩|⟨n1,n2,n3,n4⟩
  all_goals
   go_enter Tryz.func21,Tryz.ntmps21
   go_wp2_with (first|(go_at_call 66;refine HST.out.mono ?_;rintro e w1 ⟨rfl,rfl⟩)|(go_at_call 67;refine HLN.out.mono ?_;rintro e w1 ⟨rfl,rfl⟩))
   go_ret
   exact⟨by rw[HR.out];rfl,vc,by rw[HR.out];exact StoTo.refl H.out⟩
 ·have hg2:decide (0≤root)=true:=by simpa using h0
  rw[hs] at HST
  clear h0 hs
  rcases hnum with n1|⟨n1,n2⟩|⟨n1,n2,n3⟩|⟨n1,n2,n3,n4⟩
  all_goals
   go_enter Tryz.func21,Tryz.ntmps21
   go_wp2_with (first|(go_at_call 66;refine HST.out.mono ?_;rintro e w1 ⟨rfl,rfl⟩)|(go_at_call 67;refine HLN.out.mono ?_;rintro e w1 ⟨rfl,rfl⟩))
   go_ret
   exact⟨by rw[HR.out];rfl,vc,by rw[HR.out];exact StoTo.refl H.out⟩
end Go.Proofs.YtfgjehecjgebdaaGreat
/- Pages: Checkpoint, the good way. -/
namespace Go.Proofs.YtfgjehecjgebdaaGreat
open Go.RowKit Go.Maps Go.ChangeMaps
theorem IsDev.not {w d vs vc D} (h:IsDev w d vs vc D) {k:Nat} {cs:Array Value} {e:TypeId} {f:Nat×Nat} (hk:w.heap[k]? = some (.cells cs e f)) (h1:e ≠ 136) (h2:e ≠ 9) (h3:e ≠ 138) :
  ¬(k=d∨vs.ownBlock=some k∨vc.ownBlock=some k):=by
 obtain⟨c0,hd⟩:=h.head
 rintro(rfl|e1|e1)
 ·exact ne_type hk hd h1 rfl
 ·obtain⟨cs',f',hg⟩:=own_type h.secs e1;exact ne_type hk hg h2 rfl
 ·obtain⟨cs',f',hg⟩:=own_type h.cache e1;exact ne_type hk hg h3 rfl
theorem IsDev.notMap {w d vs vc D} (h:IsDev w d vs vc D) {m:Nat} {es clock} (hm:w.heap[m]? = some (.map es clock)):¬(m=d∨vs.ownBlock=some m∨vc.ownBlock=some m):=by
 obtain⟨c0,hd⟩:=h.head
 rintro(rfl|e1|e1)
 ·exact map_ne hm hd rfl
 ·obtain⟨cs',f',hg⟩:=own_type h.secs e1;exact map_ne hm hg rfl
 ·obtain⟨cs',f',hg⟩:=own_type h.cache e1;exact map_ne hm hg rfl
theorem IsStore.devStep {w w' st b c m d vs vc vc' p g X D'} (h:IsStore w st b c m d vs vc p g X) (t:DevTo w d vs vc w' vc' D'):IsStore w' st b c m d vs vc' p g { X with D:=D' } := by
 obtain⟨es,clock,hm⟩:=h.put.heap
 exact⟨t.kept.heap h.head (h.dev.not h.head (by decide) (by decide) (by decide)),⟨t.kept.heap h.sp.head (h.dev.not h.sp.head (by decide) (by decide) (by decide)),t.kept.heap h.sp.row (h.dev.not h.sp.row (by decide) (by decide) (by decide)),h.sp.le,h.sp.len⟩,h.put.kept t.kept (h.dev.notMap hm),t.dev,h.len,h.lay⟩
theorem DevTo.sto {w w' st b c m d vs vc vc' p g X D'} (h:IsStore w st b c m d vs vc p g X) (t:DevTo w d vs vc w' vc' D'):StoTo w st b c m d vs vc p g w' vc' { X with D:=D' } :=
 ⟨h.devStep t,t.kept.mono fun k _ e=>by rcases e with e|e|e;exact .inr (.inr (.inr (.inl e)));exact .inr (.inr (.inr (.inr (.inl e))));exact .inr (.inr (.inr (.inr (.inr e)))),t.own⟩
theorem pgW_take (T:Nat→List UInt8) (id k:Nat) (hk:k < 4):(pgW T id).take (k + 1)=(pgW T id).take k ++ [(2 + 4 * id + k,((fullB (T id)).drop (64 * k)).take 64)]:=by
 have hl:k < (pgW T id).length:=by simp[pgW];omega
 rw[List.take_succ_eq_append_getElem hl]
 simp[pgW]
theorem pgW_len (T:Nat→List UInt8) (id:Nat):(pgW T id).length=4:=by simp[pgW]
theorem flat_len (T:Nat→List UInt8) (l:List Nat):(l.flatMap (pgW T)).length=4 * l.length:=by
 induction l with
 | nil=>rfl
 | cons a r ih=>rw[List.flatMap_cons,List.length_append,pgW_len,ih,List.length_cons];omega
theorem flat_take (T:Nat→List UInt8) (l:List Nat) (j:Nat) (hj:j < l.length):(l.take (j + 1)).flatMap (pgW T)=(l.take j).flatMap (pgW T) ++ pgW T l[j]:=by
 rw[List.take_succ_eq_append_getElem hj,List.flatMap_append]
 simp
theorem flat_split (T:Nat→List UInt8) (l:List Nat) (j k:Nat) (hj:j < l.length):l.flatMap (pgW T)=((l.take j).flatMap (pgW T) ++ (pgW T l[j]).take k) ++ ((pgW T l[j]).drop k ++ (l.drop (j + 1)).flatMap (pgW T)):=by
 conv=>lhs;rw[←List.take_append_drop (j + 1) l,List.flatMap_append,flat_take T l j hj]
 simp only[List.append_assoc]
 rw[←List.append_assoc ((pgW T l[j]).take k),List.take_append_drop]
theorem ba_part (l:List UInt8) (x n:Nat):(ba l).extract x (x + n)=ba ((l.drop x).take n):=by
 apply ByteArray.ext
 apply Array.ext'
 simp[ba]
theorem check_w {X:Sto} {root log next:Int} (hb:ckBad X root log next=0) {r:Int×Dev} (h:wrAll X.D ((fresh X.l).flatMap (pgW X.T))=r) (hr:r.1 ≠ 0):X.check root log next=(r.1, { X with D:=r.2 }):=by
 simp[Sto.check,ckDev,hb,h,hr]
theorem check_f {X:Sto} {root log next:Int} (hb:ckBad X root log next=0) {D1:Dev} (h:wrAll X.D ((fresh X.l).flatMap (pgW X.T))=(0,D1)) (hr:D1.flush.1 ≠ 0):X.check root log next=(D1.flush.1, { X with D:=D1.flush.2 }):=by
 simp[Sto.check,ckDev,hb,h,hr]
theorem check_s {X:Sto} {root log next:Int} (hb:ckBad X root log next=0) {D1:Dev} (h:wrAll X.D ((fresh X.l).flatMap (pgW X.T))=(0,D1)) (hf:D1.flush.1=0) {r:Int×Dev}
  (hs:D1.flush.2.write ((X.sup.gen + 1) % 2:Nat) (secText ⟨X.sup.gen + 1,0,supB ⟨X.sup.gen + 1,root,log.toNat,next.toNat⟩ X.l⟩)=r) (hr:r.1 ≠ 0):X.check root log next=(r.1, { X with D:=r.2 }):=by
 simp only[Sto.check,ckDev,hb,h,hf,hs,hr,ne_eq,not_true_eq_false,not_false_eq_true,if_true,if_false]
theorem check_e {X:Sto} {root log next:Int} (hb:ckBad X root log next=0) {D1 D2:Dev} (h:wrAll X.D ((fresh X.l).flatMap (pgW X.T))=(0,D1)) (hf:D1.flush.1=0)
  (hs:D1.flush.2.write ((X.sup.gen + 1) % 2:Nat) (secText ⟨X.sup.gen + 1,0,supB ⟨X.sup.gen + 1,root,log.toNat,next.toNat⟩ X.l⟩)=(0,D2)) :
  X.check root log next=if D2.flush.1=0 then (0, { X with l:=kp X.l,sup:=⟨X.sup.gen + 1,root,log.toNat,next.toNat⟩,D:=D2.flush.2 }) else (D2.flush.1, { X with D:=D2.flush.2 }):=by
 simp only[Sto.check,ckDev,hb,h,hf,hs,ne_eq,not_true_eq_false,if_false]
theorem DevTo.stoF {w w1 w' st b c m d vs vc vc' p g X D'} (h:IsStore w st b c m d vs vc p g X) (k:Kept (fun _=>False) w w1) (t:DevTo w1 d vs vc w' vc' D'):StoTo w st b c m d vs vc p g w' vc' { X with D:=D' } :=
 DevTo.sto h (DevTo.behind h.dev k t)
theorem write_enters:Enters Tryz.prog 70:=enters_of Tryz.func70 (by kernel_rfl) rfl
theorem flush_cache (D:Dev):D.flush.2.cache.length≤D.cache.length:=by
 unfold Dev.flush
 split
 ·simp
 ·rw[call_cache];omega
theorem sto_sup {w:World} {st b d m p g:Nat} {s:Sup} (h:w.heap[st]? = some (.cells (stoCells b d m p g s) 81 (0,0))) (s':Sup) :
  ((((w.setCell ⟨st,4,none⟩ (.int .i64 s'.gen)).setCell ⟨st,5,none⟩ (.int .i64 s'.root)).setCell ⟨st,6,none⟩ (.int .i64 s'.log)).setCell ⟨st,7,none⟩ (.int .i64 s'.next)).heap[st]? = some (.cells (stoCells b d m p g s') 81 (0,0)):=by
 rw[heap_set (heap_set (heap_set (heap_set h _ _) _ _) _ _) _ _]
 rfl
theorem ck_end {w W w7 st b c m d vs vc p g X} (h:IsStore w st b c m d vs vc p g X) (s':Sup)
  (hW:W=(((w.setCell ⟨st,4,none⟩ (.int .i64 s'.gen)).setCell ⟨st,5,none⟩ (.int .i64 s'.root)).setCell ⟨st,6,none⟩ (.int .i64 s'.log)).setCell ⟨st,7,none⟩ (.int .i64 s'.next))
  (k7:Kept (· = c) W w7) (hs:IsSp w7 b c (kp X.l)) {es clock} (hm:w7.heap[m]? = some (.map es clock)) :
  IsStore (setBlock w7 m (.map #[] clock)) st b c m d vs vc p g { X with l:=kp X.l,sup:=s' } ∧ Kept (fun k=>k=st∨k=c∨k=m) w (setBlock w7 m (.map #[] clock)):=by
 have hhd:=sto_sup h.head s'
 rw[←hW] at hhd
 have kW:Kept (· = st) w W:=by rw[hW];exact((((Kept.refl _ _).set1 4 _).set1 5 _).set1 6 _).set1 7 _
 have hcs:st ≠ c:=fun e=>ne_type h.head h.sp.row (by decide) e
 have k8:=setBlock_kept hm (.map #[] clock)
 have hh7:=k7.heap hhd hcs
 have kk:Kept (fun k=>k=st∨k=c∨k=m) w (setBlock w7 m (.map #[] clock)):=((kW.mono fun _ _ e=>.inl e).trans (k7.mono fun _ _ e=>.inr (.inl e))).trans (k8.mono fun _ _ e=>.inr (.inr e))
 obtain⟨es0,clock0,hm0⟩:=h.put.heap
 have hcm:c ≠ m:=map_ne hm0 h.sp.row
 have nst:=h.dev.not h.head (by decide) (by decide) (by decide)
 have nc:=h.dev.not h.sp.row (by decide) (by decide) (by decide)
 have nm:=h.dev.notMap hm0
 refine⟨⟨k8.heap hh7 (map_ne hm hh7),⟨k8.heap hs.head (map_ne hm hs.head),k8.heap hs.row hcm,hs.le,hs.len⟩,IsPut.cleared _ _ (kp_no2 _) hm,?_,?_,h.lay⟩,kk⟩
 ·refine h.dev.kept kk ?_ ?_ ?_
  ·rintro(e|e|e)
   ·exact nst (.inl e.symm)
   ·exact nc (.inl e.symm)
   ·exact nm (.inl e.symm)
  ·rintro i hi (e|e|e)<;>subst e
   ·exact nst (.inr (.inl hi))
   ·exact nc (.inr (.inl hi))
   ·exact nm (.inr (.inl hi))
  ·rintro i hi (e|e|e)<;>subst e
   ·exact nst (.inr (.inr hi))
   ·exact nc (.inr (.inr hi))
   ·exact nm (.inr (.inr hi))
 ·simp only[kp,chg_len];exact h.len
set_option maxHeartbeats 4000000 in
set_option maxRecDepth 100000 in
set_option maxHeartbeats 4000000 in
theorem Ck_good {w st b c m d vs vc p g X} (h:IsStore w st b c m d vs vc p g X) (root:Int) (log next:Nat) (hb:rootBad X root=false) (hn:numBad log next=false)
  (hT:∀i∈fresh X.l,(X.T i).length≤248) (hcl:X.D.cache.length≤900000) (hgen:X.sup.gen + 1≤1099511627776) :
  Calls Tryz.prog 21 #[.pointer (some ⟨st,0,none⟩),.int .i64 root,.int .i64 log,.int .i64 next] w (CkPost w st b c m d vs vc p g (X.check root log next)):=by
 have hc0:w.cell? ⟨st,0,none⟩=some (.pointer (some ⟨b,0,none⟩)):=(cell_heap h.head 0).trans rfl
 have HST:=Lib.hid (State_calls h.sp root)
 have HLN:=Lib.hid (Len_calls h.sp)
 have HDY:=Lib.hid (StoDirty_calls h)
 have H:=Lib.hid h
 have HCB:Hid (ckBad X root log next=0):=by
  simp only[rootBad,decide_eq_false_iff_not] at hb
  simp only[numBad,decide_eq_false_iff_not] at hn
  simp only[Hid,ckBad];rw[if_neg hb,if_neg hn]
 simp only[rootBad,decide_eq_false_iff_not] at hb
 simp only[numBad,decide_eq_false_iff_not] at hn
 have h128:=h.sp.len
 have HSG:Hid (Sup.Good ⟨X.sup.gen + 1,root,log,next⟩):=⟨by simp only;omega,by simp only;omega,by simp only;omega,by simp only;omega,by simp only;omega⟩
 have HSB:=Lib.hid (supB_len HSG.out h.sp.len)
 have HSC:Hid (Sec.Good ⟨X.sup.gen + 1,0,supB ⟨X.sup.gen + 1,root,log,next⟩ X.l⟩):=⟨by simp only;omega,by simp only;omega,by simp only;omega,by simp only;exact HSB.out.1⟩
 have HFLEN:Hid ((fresh X.l).length≤128):=by have:=fresh_len X.l;simp only[Hid];omega
 have hg1:decide (root < -1)=false:=by simp;omega
 have hg9:decide ((X.l.length:Int)≤root)=false:=by simp;omega
 have hroot:root = -1∨(0≤root∧stAt X.l root=1)∨(0≤root∧stAt X.l root=2):=by omega
 have n1:decide ((log:Int) < 1)=false:=by simp;omega
 have n2:decide ((1099511627776:Int) < log)=false:=by simp;omega
 have n3:decide ((next:Int) < 0)=false:=by simp
 have n4:decide ((1099511627776:Int) < next)=false:=by simp;omega
 obtain⟨s,hs⟩:∃s:Sup,s=⟨X.sup.gen + 1,root,log,next⟩:=⟨_,rfl⟩
 have HS:=Lib.hid hs
 rw[←hs] at HSG HSC
 have HRT:=Lib.hid hroot
 clear h hb hn hroot hs h128
 rcases HRT.out with h0|⟨h0,hs⟩|⟨h0,hs⟩
 ·
  have hg2:decide (0≤root)=false:=by simp;omega
  clear h0
  go_enter Tryz.func21,Tryz.ntmps21
  go_wp2_with (first|(go_at_call 66;refine HST.out.mono ?_;rintro e w1 ⟨rfl,rfl⟩)|(go_at_call 67;refine HLN.out.mono ?_;rintro e w1 ⟨rfl,rfl⟩))
  refine HDY.out.mono ?_
  rintro e w1 ⟨v,rfl,hrow,k1⟩
  obtain⟨A,cap,rfl,hA⟩:=own_any hrow
  have HROW:=Lib.hid hrow
  have K1:=Lib.hid k1
  clear hrow k1
  go_wp2_with fail
  go_loopw [70] (fun n wr=>∃j:Nat,j≤(fresh X.l).length∧n = .int .i64 j ∧ ∃vcj,DevTo w1 d vs vc wr vcj (wrAll X.D (((fresh X.l).take j).flatMap (pgW X.T))).2∧(wrAll X.D (((fresh X.l).take j).flatMap (pgW X.T))).1=0) (fun n _=>(fresh X.l).length - (intOf n).toNat)
  case atStart=>exact⟨0,Nat.zero_le _,rfl,vc,by simpa[wrAll] using DevTo.refl (H.out.keptF K1.out).dev,by simp[wrAll]⟩
  case round =>
   obtain⟨j,hj,rfl,vcj,hto,h0⟩:=hrel
   by_cases hlt:j < (fresh X.l).length
   ·obtain⟨gk,rfl⟩:=hA (by omega)
    have hcell:wr.cell? ⟨gk,j,none⟩=some (.int .i64 ((fresh X.l)[j]:Nat)):=by
     have hr1:=RowIs.of_own HROW.out
     have hn:¬(gk=d∨vs.ownBlock=some gk∨vc.ownBlock=some gk):=by
      obtain⟨cs,f,hg,_⟩:=hr1
      exact(H.out.keptF K1.out).dev.not hg (by decide) (by decide) (by decide)
     exact(hr1.kept hto.kept hn).cell (by rw[List.getElem?_map,List.getElem?_eq_getElem hlt];rfl)
    have hst:=(H.out.keptF K1.out).devStep hto
    have hc8:wr.cell? ⟨st,8,none⟩=some (.map (some m)):=(cell_heap hst.head 8).trans rfl
    obtain⟨id,hid⟩:∃id,id=(fresh X.l)[j]:=⟨_,rfl⟩
    have hmem:id∈fresh X.l:=by rw[hid];exact List.getElem_mem _
    obtain⟨hidl,hid2⟩:=mem_fresh.1 hmem
    rw[←hid] at hcell
    have h128:=H.out.sp.len
    have hlook:=World.ownsMap.lookup hst.put (int_keyed und_int) und_dirty (z:=.agg #[.string ⟨#[]⟩]) (Tryz.zeroValue122 wr) (zd:=.lit (.string [])) (zp := []) (by simp[pgR]) (key_int id (by omega))
    obtain⟨v,ps,hrun,hv⟩:=hlook
    rw[at_prs hidl hid2] at hv
    have hv:=pgR_inv hv
    subst hv
    have hfd:=run_page_text (ba (X.T id))
    have CF:=Lib.hid (fun W=>full_calls (X.T id) (hT id hmem) W)
    have HTO:=Lib.hid hto
    have HST2:=Lib.hid hst
    have HH0:=Lib.hid h0
    have HID:=Lib.hid hid
    clear hto hst h0 hid hmem hid2
    go_wp2_with fail
    refine(CF.out _).mono ?_
    rintro e w2 ⟨rfl,k2⟩
    have HK2:=Lib.hid k2
    clear k2
    go_wp2_with fail
    obtain⟨prev,hprev⟩:∃q,q=((fresh X.l).take j).flatMap (pgW X.T):=⟨_,rfl⟩
    have HPREV:=Lib.hid hprev
    rw[←hprev] at HTO HST2 HH0
    have HPL:Hid (prev.length≤512):=by
     have:=HFLEN.out
     simp only[Hid];rw[hprev,flat_len,List.length_take];omega
    have H3:Hid (DevTo w1 d vs vc w2 vcj (wrAll X.D prev).2):=HTO.out.after HK2.out
    have hfl:=fullB_len (X.T id) (hT id (mem_fresh.2 ⟨hidl,by have:=HID.out;rw[this];exact(mem_fresh.1 (List.getElem_mem _)).2⟩))
    obtain⟨fb,hfb⟩:∃fb,fb=fullB (X.T id):=⟨_,rfl⟩
    have HFB:=Lib.hid hfb
    rw[←hfb] at hfl
    have hsz:(ba fb).size=256:=by rw[ba_size];exact hfl
    obtain⟨rw_,hrw⟩:∃r,r=ba fb:=⟨_,rfl⟩
    have HRW:=Lib.hid hrw
    rw[←hfb, ←hrw]
    rw[←hrw] at hsz
    clear hprev hcell hc8 hrun hv hfd hfb hrw hfl
    go_loopw [82] (fun n wr2=>∃k:Nat,k≤4∧n = .int .i64 k ∧ ∃vck,DevTo w1 d vs vc wr2 vck (wrAll X.D (prev ++ (pgW X.T id).take k)).2∧(wrAll X.D (prev ++ (pgW X.T id).take k)).1=0) (fun n _=>4 - (intOf n).toNat)
    case atStart=>exact⟨0,Nat.zero_le _,rfl,vcj,by simpa using H3.out,by simpa using HH0.out⟩
    case round =>
     obtain⟨k,hk,rfl,vck,hto,h0⟩:=hrel
     by_cases hlt4:k < 4
     ·have hst:=(H.out.keptF K1.out).devStep hto
      have hc1:wr.cell? ⟨st,1,none⟩=some (.pointer (some ⟨d,0,none⟩)):=(cell_heap hst.head 1).trans rfl
      have HTK:=Lib.hid hto
      have HK0:=Lib.hid h0
      have hcap:(wrAll X.D (prev ++ (pgW X.T id).take k)).2.cache.length≤1000000:=by
       have h1:=wrAll_cache X.D (prev ++ (pgW X.T id).take k)
       have h2:=HPL.out
       rw[List.length_append,List.length_take,pgW_len] at h1
       omega
      obtain⟨x,hx⟩:∃x,x=k * 64:=⟨_,rfl⟩
      obtain⟨y,hy⟩:∃y,y=(k + 1) * 64:=⟨_,rfl⟩
      obtain⟨a4,ha4⟩:∃a4,a4=id * 4:=⟨_,rfl⟩
      obtain⟨b4,hb4⟩:∃b4,b4=2 + a4:=⟨_,rfl⟩
      obtain⟨z,hz⟩:∃z,z=b4 + k:=⟨_,rfl⟩
      have q1:IntKind.i64.wrap ((k:Int) * 64)=(x:Int):=by rw[IntKind.wrap_i64];omega
      have q2a:IntKind.i64.wrap ((k:Int) + 1)=((k + 1:Nat):Int):=by rw[IntKind.wrap_i64];omega
      have q2:IntKind.i64.wrap (IntKind.i64.wrap ((k:Int) + 1) * 64)=(y:Int):=by rw[q2a,IntKind.wrap_i64];omega
      have q3:IntKind.i64.wrap ((id:Int) * 4)=(a4:Int):=by rw[IntKind.wrap_i64];omega
      have q4:IntKind.i64.wrap (2 + (a4:Int))=(b4:Int):=by rw[IntKind.wrap_i64];omega
      have q5:IntKind.i64.wrap ((b4:Int) + (k:Int))=(z:Int):=by rw[IntKind.wrap_i64];omega
      have hxy:x≤y:=by omega
      have hy256:(y:Int)≤256:=by omega
      have HEX:Hid (rw_.extract x y=ba ((fb.drop (64 * k)).take 64)):=by
       have e:=ba_part fb (64 * k) 64
       simp only[Hid]
       rw[HRW.out,hx,hy, ←e]
       congr 1<;>omega
      have HW:Hid (∀W,Kept (fun _=>False) wr W→Calls Tryz.prog 70 #[.pointer (some ⟨d,0,none⟩),.int .i64 z,.string (rw_.extract x y)] W (WritePost W d vs vck ((wrAll X.D (prev ++ (pgW X.T id).take k)).2.write (z:Nat) ((fb.drop (64 * k)).take 64)))):=fun W hW=>by
       rw[HEX.out]
       exact DevWrite_calls (hto.dev.keptF hW) (z:Nat) ((fb.drop (64 * k)).take 64) hcap
      have HZ:Hid (z=2 + 4 * id + k):=by simp only[Hid];omega
      clear hx hy ha4 hb4 hz q2a
      have hk63:k < 4:=hlt4
      obtain⟨r,hr⟩:∃r,r=(wrAll X.D (prev ++ (pgW X.T id).take k)).2.write (z:Nat) ((fb.drop (64 * k)).take 64):=⟨_,rfl⟩
      rw[←hr] at HW
      have HRR:Hid (wrAll X.D (prev ++ (pgW X.T id).take (k + 1))=r):=by
       simp only[Hid]
       rw[pgW_take X.T id k hlt4, ←List.append_assoc,wrAll_snoc _ _ _ HK0.out,hr, ←HFB.out, ←HZ.out]
      obtain⟨er,D2⟩:=r
      clear hto h0 hst hcap hr
      by_cases he:er=0
      ·subst he
       go_wp2_with fail
       go_region_law (first
        | (refine step_call (args := #[.tmp 88,.tmp 93,.tmp 100]) rfl write_enters rfl (by simp[Act.eval]) (HW.out _ ((Kept.refl _ _).drew)) ?_;rintro e w3 ⟨rfl,vc3,h3⟩;refine⟨_,rfl,?_⟩))
       all_goals
        have HT2:=Lib.hid (HTK.out.trans (DevTo.behind HTK.out.dev ((Kept.refl _ _).drew) h3))
        clear h3
        go_wp2_with fail
        go_roundw
        case rel=>exact⟨k + 1,by omega,by go_num,vc3,by rw[HRR.out];exact HT2.out,by rw[HRR.out]⟩
        case measure=>simp[intOf];omega
      ·have ht:(er != 0)=true:=by simpa using he
       have HCK:Hid (X.check root log next=(er, { X with D:=D2 })):=by
        refine check_w HCB.out (r:=(er,D2)) ?_ he
        rw[flat_split X.T (fresh X.l) j (k + 1) hlt, ←HID.out, ←HPREV.out,wrAll_stop _ _ _ (by rw[HRR.out];exact he)]
        exact HRR.out
       clear he
       go_wp2_with fail
       go_region_law (first
        | (refine step_call (args := #[.tmp 88,.tmp 93,.tmp 100]) rfl write_enters rfl (by simp[Act.eval]) (HW.out _ ((Kept.refl _ _).drew)) ?_;rintro e w3 ⟨rfl,vc3,h3⟩;refine⟨_,rfl,?_⟩))
       all_goals
        have HT2:=Lib.hid (HTK.out.trans (DevTo.behind HTK.out.dev ((Kept.refl _ _).drew) h3))
        clear h3
        go_wp2_with fail
        go_ret
        exact⟨by rw[HCK.out];rfl,vc3,by rw[HCK.out];exact DevTo.stoF H.out K1.out HT2.out⟩
     ·obtain rfl:k=4:=by omega
      have HN:Hid (((fresh X.l).take (j + 1)).flatMap (pgW X.T)=prev ++ (pgW X.T id).take 4):=by
       simp only[Hid]
       have e4:(pgW X.T id).take 4=pgW X.T id:=List.take_of_length_le (by rw[pgW_len];omega)
       rw[e4,flat_take X.T _ j hlt, ←HID.out, ←HPREV.out]
      have hf128:=HFLEN.out
      have HTK:=Lib.hid hto
      have HK0:=Lib.hid h0
      clear hto h0
      go_wp2_with fail
      go_roundw
      case rel=>exact⟨j + 1,by omega,by go_num,vck,by rw[HN.out];exact HTK.out,by rw[HN.out];exact HK0.out⟩
      case measure=>simp[intOf];omega
   ·have hall:(fresh X.l).take j=fresh X.l:=List.take_of_length_le (by omega)
    rw[hall] at hto h0
    obtain⟨D1,hD1⟩:∃D1,D1=(wrAll X.D ((fresh X.l).flatMap (pgW X.T))).2:=⟨_,rfl⟩
    have HW1:Hid (wrAll X.D ((fresh X.l).flatMap (pgW X.T))=(0,D1)):=by simp only[Hid];rw[hD1, ←h0]
    have HCP:Hid (D1.cache.length≤901000):=by
     have h1:=wrAll_cache X.D ((fresh X.l).flatMap (pgW X.T))
     have h2:=HFLEN.out
     simp only[Hid]
     rw[flat_len, ←hD1] at h1
     omega
    rw[←hD1] at hto
    have hst:=(H.out.keptF K1.out).devStep hto
    have hc1:wr.cell? ⟨st,1,none⟩=some (.pointer (some ⟨d,0,none⟩)):=(cell_heap hst.head 1).trans rfl
    have HFL:=Lib.hid (DevFlush_calls hto.dev (by have:=HCP.out;omega))
    have HTO:=Lib.hid hto
    clear hto hst h0 hall hD1
    obtain⟨r1,hr1⟩:∃r,D1.flush=r:=⟨_,rfl⟩
    rw[hr1] at HFL
    have HR1:=Lib.hid hr1
    clear hr1
    obtain⟨e1,D2⟩:=r1
    by_cases he:e1=0
    ·subst he
     have HFSH:Hid (D1.flush.1=0):=by simp only[Hid];rw[HR1.out]
     obtain⟨gn,hgn⟩:∃n,n=X.sup.gen + 1:=⟨_,rfl⟩
     have HSV:Hid (s=⟨gn,root,log,next⟩):=by rw[hgn];exact HS.out
     obtain⟨g2,hg2⟩:∃n,n=gn % 2:=⟨_,rfl⟩
     obtain⟨r2,hr2⟩:∃r,D2.write (g2:Nat) (secText ⟨gn,0,supB s X.l⟩)=r:=⟨_,rfl⟩
     have hD2:D2.cache.length≤901000:=by
      have h1:=flush_cache D1
      have h2:=HCP.out
      rw[HR1.out] at h1
      simp only at h1
      omega
     have hD3:r2.2.cache.length≤901001:=by
      have h1:=write_cache D2 (g2:Nat) (secText ⟨gn,0,supB s X.l⟩)
      rw[hr2] at h1
      omega
     have HD2:=Lib.hid hD2
     have HD3:=Lib.hid hD3
     have HR2:=Lib.hid hr2
     have HR2':Hid (D1.flush.2.write ((X.sup.gen + 1) % 2:Nat) (secText ⟨X.sup.gen + 1,0,supB ⟨X.sup.gen + 1,root,log,next⟩ X.l⟩)=r2):=by
      simp only[Hid];rw[←HS.out, ←hgn,HR1.out, ←hg2];exact hr2
     obtain⟨e2,D3⟩:=r2
     obtain⟨r3,hr3⟩:∃r,D3.flush=r:=⟨_,rfl⟩
     have HR3:=Lib.hid hr3
     obtain⟨e3,D4⟩:=r3
     have q1:IntKind.i64.wrap ((X.sup.gen:Int) + 1)=(gn:Int):=by rw[IntKind.wrap_i64];omega
     have q2:Int.tmod (gn:Int) 2=(g2:Int):=by rw[Int.tmod_eq_emod_of_nonneg (by omega)];omega
     have HGN:=Lib.hid hgn
     clear hgn hg2 hr2 hr3 hD2 hD3
     go_wp2_with fail
     refine HFL.out.mono ?_
     rintro e w3 ⟨rfl,vc3,h3⟩
     have HT2:=Lib.hid (HTO.out.trans h3)
     clear h3
     have hst3:=(H.out.keptF K1.out).devStep HT2.out
     have c0:w3.cell? ⟨st,0,none⟩=some (.pointer (some ⟨b,0,none⟩)):=(cell_heap hst3.head 0).trans rfl
     have c1:w3.cell? ⟨st,1,none⟩=some (.pointer (some ⟨d,0,none⟩)):=(cell_heap hst3.head 1).trans rfl
     have c4:w3.cell? ⟨st,4,none⟩=some (.int .i64 X.sup.gen):=(cell_heap hst3.head 4).trans rfl
     have hl3:=lt_heap hst3.head
     have HST3:=Lib.hid hst3
     clear hst3
     go_wp2_with fail
     obtain⟨W,hW⟩:∃W,W=w3.alloc (.cells #[.int .i64 gn,.int .i64 root,.int .i64 log,.int .i64 next] 78):=⟨_,rfl⟩
     rw[←hW]
     have hbx:W.heap[w3.heap.size]? = some (.cells #[.int .i64 gn,.int .i64 root,.int .i64 log,.int .i64 next] 78 (0,0)):=by rw[hW];exact heap_new w3 _
     have KW:Hid (Kept (fun _=>False) w3 W):=by rw[hW];exact(Kept.refl _ _).alloc _
     have HSTW:=Lib.hid (HST3.out.keptF KW.out)
     have HBX:=Lib.hid hbx
     have b0:W.cell? ⟨w3.heap.size,0,none⟩=some (.int .i64 gn):=(cell_heap hbx 0).trans rfl
     have b1:W.cell? ⟨w3.heap.size,1,none⟩=some (.int .i64 root):=(cell_heap hbx 1).trans rfl
     have b2:W.cell? ⟨w3.heap.size,2,none⟩=some (.int .i64 log):=(cell_heap hbx 2).trans rfl
     have b3:W.cell? ⟨w3.heap.size,3,none⟩=some (.int .i64 next):=(cell_heap hbx 3).trans rfl
     have d0:W.cell? ⟨st,0,none⟩=some (.pointer (some ⟨b,0,none⟩)):=(cell_heap HSTW.out.head 0).trans rfl
     have d1:W.cell? ⟨st,1,none⟩=some (.pointer (some ⟨d,0,none⟩)):=(cell_heap HSTW.out.head 1).trans rfl
     have hlW:=lt_heap hbx
     obtain⟨sb,hsb⟩:∃t,t=ba (supB s X.l):=⟨_,rfl⟩
     have HTX:Hid (∀U,Kept (fun _=>False) W U→Calls Tryz.prog 73 #[.agg #[.int .i64 gn,.int .i64 root,.int .i64 log,.int .i64 next],.pointer (some ⟨b,0,none⟩)] U fun e w'=>e = .returned (.string sb)∧Kept (fun _=>False) U w'):=fun U hU=>by
      have h1:=SupText_calls (HSTW.out.keptF hU).sp s HSG.out
      rw[←hsb] at h1
      have e1:supV s = .agg #[.int .i64 gn,.int .i64 root,.int .i64 log,.int .i64 next]:=by rw[HSV.out];rfl
      rw[e1] at h1
      exact h1
     have HWR:Hid (∀U,Kept (fun _=>False) W U→Calls Tryz.prog 72 #[.pointer (some ⟨d,0,none⟩),.int .i64 g2,.agg #[.int .i64 gn,.int .u8 0,.string sb]] U (WritePost U d vs vc3 (e2,D3))):=fun U hU=>by
      have hgood:Sec.Good ⟨gn,0,supB s X.l⟩:=by
       have h1:=HSC.out
       rw[←HGN.out] at h1
       exact h1
      have h1:=StWrite_calls (HSTW.out.keptF hU).dev (g2:Nat) ⟨gn,0,supB s X.l⟩ hgood (by have:=HD2.out;simp only;omega)
      have h2:=HR2.out
      simp only at h1
      rw[h2] at h1
      unfold secOf secV at h1
      simp only at h1
      rw[←hsb] at h1
      exact h1
     have HNE:Hid (¬(st=d∨vs.ownBlock=some st∨vc3.ownBlock=some st)):=HSTW.out.dev.not HSTW.out.head (by decide) (by decide) (by decide)
     have HNB:Hid (¬(w3.heap.size=d∨vs.ownBlock=some w3.heap.size∨vc3.ownBlock=some w3.heap.size)):=HSTW.out.dev.not hbx (by decide) (by decide) (by decide)
     clear hW hbx hsb c0 c1 c4 q1 hl3
     go_cut [16] from 125 to 141 (fun v wx=>v = .int .i64 e2 ∧ ∃vc4,DevTo W d vs vc3 wx vc4 D3)
     case first =>
      go_region_held3 (fun w'=>w'.cell? ⟨st,0,none⟩=some (.pointer (some ⟨b,0,none⟩))∧w'.cell? ⟨st,1,none⟩=some (.pointer (some ⟨d,0,none⟩))∧w'.cell? ⟨w3.heap.size,0,none⟩=some (.int .i64 gn)∧w'.cell? ⟨w3.heap.size,1,none⟩=some (.int .i64 root)∧w'.cell? ⟨w3.heap.size,2,none⟩=some (.int .i64 log)∧w'.cell? ⟨w3.heap.size,3,none⟩=some (.int .i64 next)) (go_keep)
       (first
        | (go_at_call 73;refine(HTX.out _ (by repeat (first|exact Kept.refl _ _|refine Kept.drew ?_|refine Kept.alloc ?_ _))).mono ?_;rintro e w4 ⟨rfl,k4⟩;have K4:Hid (Kept (fun _=>False) W w4):=Kept.trans (by repeat (first|exact Kept.refl _ _|refine Kept.drew ?_|refine Kept.alloc ?_ _)) k4;have hs4:=(HSTW.out.keptF K4.out).head;have hx4:=K4.out.heap HBX.out id;have x0:w4.cell? ⟨st,0,none⟩=some (.pointer (some ⟨b,0,none⟩)):=(cell_heap hs4 0).trans rfl;have x1:w4.cell? ⟨st,1,none⟩=some (.pointer (some ⟨d,0,none⟩)):=(cell_heap hs4 1).trans rfl;have y0:w4.cell? ⟨w3.heap.size,0,none⟩=some (.int .i64 gn):=(cell_heap hx4 0).trans rfl;have y1:w4.cell? ⟨w3.heap.size,1,none⟩=some (.int .i64 root):=(cell_heap hx4 1).trans rfl;have y2:w4.cell? ⟨w3.heap.size,2,none⟩=some (.int .i64 log):=(cell_heap hx4 2).trans rfl;have y3:w4.cell? ⟨w3.heap.size,3,none⟩=some (.int .i64 next):=(cell_heap hx4 3).trans rfl;clear k4 hs4 hx4)
        | (go_at_call 72;refine(HWR.out _ (by repeat (first|exact K4.out|exact Kept.refl _ _|refine Kept.drew ?_|refine Kept.alloc ?_ _))).mono ?_;rintro e w5 ⟨rfl,vc4,h4⟩;have H4:Hid (DevTo W d vs vc3 w5 vc4 D3):=DevTo.behind HSTW.out.dev (by repeat (first|exact K4.out|exact Kept.refl _ _|refine Kept.drew ?_|refine Kept.alloc ?_ _)) h4;have hs5:=H4.out.kept.heap HSTW.out.head HNE.out;have hx5:=H4.out.kept.heap HBX.out HNB.out;have u0:w5.cell? ⟨st,0,none⟩=some (.pointer (some ⟨b,0,none⟩)):=(cell_heap hs5 0).trans rfl;have u1:w5.cell? ⟨st,1,none⟩=some (.pointer (some ⟨d,0,none⟩)):=(cell_heap hs5 1).trans rfl;have z0:w5.cell? ⟨w3.heap.size,0,none⟩=some (.int .i64 gn):=(cell_heap hx5 0).trans rfl;have z1:w5.cell? ⟨w3.heap.size,1,none⟩=some (.int .i64 root):=(cell_heap hx5 1).trans rfl;have z2:w5.cell? ⟨w3.heap.size,2,none⟩=some (.int .i64 log):=(cell_heap hx5 2).trans rfl;have z3:w5.cell? ⟨w3.heap.size,3,none⟩=some (.int .i64 next):=(cell_heap hx5 3).trans rfl;clear h4 hs5 hx5))
      all_goals (try go_wp2_with fail)
      all_goals go_meet
      all_goals exact⟨rfl,vc4,H4.out⟩
     case rest =>
      obtain⟨rfl,vc4,h4⟩:=hcut
      have HT4:=Lib.hid (HT2.out.trans (DevTo.behind HT2.out.dev KW.out h4))
      have HST4:=Lib.hid (HSTW.out.devStep h4)
      have hx4:=h4.kept.heap HBX.out HNB.out
      have HX4:=Lib.hid hx4
      have c1:wc.cell? ⟨st,1,none⟩=some (.pointer (some ⟨d,0,none⟩)):=(cell_heap HST4.out.head 1).trans rfl
      clear h4 b0 b1 b2 b3 d0 d1 hlW hx4
      by_cases he2:e2=0
      ·subst he2
       have HFL2:=Lib.hid (DevFlush_calls HST4.out.dev (by have:=HD3.out;simp only at this⊢;omega))
       rw[HR3.out] at HFL2
       by_cases he3:e3=0
       ·subst he3
        have HCK:Hid (X.check root log next=(0, { X with l:=kp X.l,sup:=s,D:=D4 })):=by
         have h1:=check_e (root:=root) (log:=(log:Int)) (next:=(next:Int)) HCB.out HW1.out HFSH.out (D2:=D3) HR2'.out
         rw[HR3.out,if_pos rfl] at h1
         simp only[Hid]
         rw[h1,HS.out]
         rfl
        go_wp2_with fail
        refine HFL2.out.mono ?_
        rintro e w5 ⟨rfl,vc5,h5⟩
        have HT5:=Lib.hid (HT4.out.trans h5)
        have HST5:=Lib.hid (HST4.out.devStep h5)
        have hx5:=h5.kept.heap HX4.out (HST4.out.dev.not HX4.out (by decide) (by decide) (by decide))
        have hs5:=HST5.out.head
        have b0:w5.cell? ⟨w3.heap.size,0,none⟩=some (.int .i64 gn):=(cell_heap hx5 0).trans rfl
        have b1:w5.cell? ⟨w3.heap.size,1,none⟩=some (.int .i64 root):=(cell_heap hx5 1).trans rfl
        have b2:w5.cell? ⟨w3.heap.size,2,none⟩=some (.int .i64 log):=(cell_heap hx5 2).trans rfl
        have b3:w5.cell? ⟨w3.heap.size,3,none⟩=some (.int .i64 next):=(cell_heap hx5 3).trans rfl
        have d0:w5.cell? ⟨st,0,none⟩=some (.pointer (some ⟨b,0,none⟩)):=(cell_heap hs5 0).trans rfl
        have d4:w5.cell? ⟨st,4,none⟩=some (.int .i64 X.sup.gen):=(cell_heap hs5 4).trans rfl
        have d5:w5.cell? ⟨st,5,none⟩=some (.int .i64 X.sup.root):=(cell_heap hs5 5).trans rfl
        have d6:w5.cell? ⟨st,6,none⟩=some (.int .i64 X.sup.log):=(cell_heap hs5 6).trans rfl
        have d7:w5.cell? ⟨st,7,none⟩=some (.int .i64 X.sup.next):=(cell_heap hs5 7).trans rfl
        have f4:=free_heap hs5 4
        have f5:=free_heap hs5 5
        have f6:=free_heap hs5 6
        have f7:=free_heap hs5 7
        clear h5 hx5 hs5
        go_wp2_with fail
        obtain⟨W6,hW6⟩:∃W6,W6=(((w5.setCell ⟨st,4,none⟩ (.int .i64 gn)).setCell ⟨st,5,none⟩ (.int .i64 root)).setCell ⟨st,6,none⟩ (.int .i64 log)).setCell ⟨st,7,none⟩ (.int .i64 next):=⟨_,rfl⟩
        rw[←hW6]
        have KW6:Hid (Kept (· = st) w5 W6):=by rw[hW6];exact((((Kept.refl _ _).set1 4 _).set1 5 _).set1 6 _).set1 7 _
        have HSP6:Hid (IsSp W6 b c X.l):=by
         have h1:=HST5.out.sp
         exact⟨KW6.out.heap h1.head (fun e=>ne_type h1.head HST5.out.head (by decide) e),KW6.out.heap h1.row (fun e=>ne_type h1.row HST5.out.head (by decide) e),h1.le,h1.len⟩
        have HW6:=Lib.hid hW6
        clear hW6 b0 b1 b2 b3 d0 d4 d5 d6 d7 f4 f5 f6 f7
        refine(Keep_calls HSP6.out).mono ?_
        rintro e w7 ⟨rfl,h7,k7⟩
        obtain⟨es,clock,hm⟩:=HST5.out.put.heap
        have hm7:=k7.heap (KW6.out.heap hm (fun e=>map_ne hm HST5.out.head e.symm)) (fun e=>map_ne hm HST5.out.sp.row e.symm)
        have hclr:=run_clear_map (P:=Tryz.prog) und_dirty hm7
        have hh6:W6.heap[st]? = some (.cells (stoCells b d m p g ⟨gn,root,log,next⟩) 81 (0,0)):=by rw[HW6.out];exact sto_sup HST5.out.head ⟨gn,root,log,next⟩
        have hh7:=k7.heap hh6 (fun e=>ne_type HST5.out.head HST5.out.sp.row (by decide) e)
        have c8:w7.cell? ⟨st,8,none⟩=some (.map (some m)):=(cell_heap hh7 8).trans rfl
        obtain⟨w8,hw8⟩:∃w8,w8=setBlock w7 m (.map #[] clock):=⟨_,rfl⟩
        rw[←hw8] at hclr
        have hend:=ck_end HST5.out ⟨gn,root,log,next⟩ HW6.out k7 h7 hm7
        rw[←hw8] at hend
        have HEND:=Lib.hid hend
        clear hw8 hend hm hm7 hh6 hh7 h7 k7
        go_wp2_with fail
        go_ret
        have s5:=DevTo.stoF H.out K1.out HT5.out
        exact⟨by rw[HCK.out];rfl,vc5,by rw[HCK.out,HSV.out];exact⟨HEND.out.1,s5.kept.trans (HEND.out.2.mono fun k _ e=>by rcases e with e|e|e;exact .inl e;exact .inr (.inl e);exact .inr (.inr (.inl e))),s5.own⟩⟩
       ·have ht:(e3 != 0)=true:=by simpa using he3
        have HCK:Hid (X.check root log next=(e3, { X with D:=D4 })):=by
         have h1:=check_e (root:=root) (log:=(log:Int)) (next:=(next:Int)) HCB.out HW1.out HFSH.out (D2:=D3) HR2'.out
         rw[HR3.out,if_neg he3] at h1
         exact h1
        clear he3
        go_wp2_with fail
        refine HFL2.out.mono ?_
        rintro e w5 ⟨rfl,vc5,h5⟩
        have HT5:=Lib.hid (HT4.out.trans h5)
        clear h5
        go_wp2_with fail
        go_ret
        exact⟨by rw[HCK.out];rfl,vc5,by rw[HCK.out];exact DevTo.stoF H.out K1.out HT5.out⟩
      ·have ht:(e2 != 0)=true:=by simpa using he2
       have HCK:Hid (X.check root log next=(e2, { X with D:=D3 })):=by
        have h1:=check_s (root:=root) (log:=(log:Int)) (next:=(next:Int)) HCB.out HW1.out HFSH.out HR2'.out he2
        exact h1
       clear he2
       go_wp2_with fail
       go_ret
       exact⟨by rw[HCK.out];rfl,vc4,by rw[HCK.out];exact DevTo.stoF H.out K1.out HT4.out⟩
    ·have ht:(e1 != 0)=true:=by simpa using he
     have HCK:Hid (X.check root log next=(e1, { X with D:=D2 })):=by
      have:=check_f HCB.out HW1.out (by rw[HR1.out];exact he)
      rw[HR1.out] at this
      exact this
     clear he
     go_wp2_with fail
     refine HFL.out.mono ?_
     rintro e w3 ⟨rfl,vc3,h3⟩
     have HT2:=Lib.hid (HTO.out.trans h3)
     clear h3
     go_wp2_with fail
     go_ret
     exact⟨by rw[HCK.out];rfl,vc3,by rw[HCK.out];exact DevTo.stoF H.out K1.out HT2.out⟩
 ·
  have hg2:decide (0≤root)=true:=by simpa using h0
  rw[hs] at HST
  clear h0 hs
  go_enter Tryz.func21,Tryz.ntmps21
  go_wp2_with (first|(go_at_call 66;refine HST.out.mono ?_;rintro e w1 ⟨rfl,rfl⟩)|(go_at_call 67;refine HLN.out.mono ?_;rintro e w1 ⟨rfl,rfl⟩))
  refine HDY.out.mono ?_
  rintro e w1 ⟨v,rfl,hrow,k1⟩
  obtain⟨A,cap,rfl,hA⟩:=own_any hrow
  have HROW:=Lib.hid hrow
  have K1:=Lib.hid k1
  clear hrow k1
  go_wp2_with fail
  go_loopw [70] (fun n wr=>∃j:Nat,j≤(fresh X.l).length∧n = .int .i64 j ∧ ∃vcj,DevTo w1 d vs vc wr vcj (wrAll X.D (((fresh X.l).take j).flatMap (pgW X.T))).2∧(wrAll X.D (((fresh X.l).take j).flatMap (pgW X.T))).1=0) (fun n _=>(fresh X.l).length - (intOf n).toNat)
  case atStart=>exact⟨0,Nat.zero_le _,rfl,vc,by simpa[wrAll] using DevTo.refl (H.out.keptF K1.out).dev,by simp[wrAll]⟩
  case round =>
   obtain⟨j,hj,rfl,vcj,hto,h0⟩:=hrel
   by_cases hlt:j < (fresh X.l).length
   ·obtain⟨gk,rfl⟩:=hA (by omega)
    have hcell:wr.cell? ⟨gk,j,none⟩=some (.int .i64 ((fresh X.l)[j]:Nat)):=by
     have hr1:=RowIs.of_own HROW.out
     have hn:¬(gk=d∨vs.ownBlock=some gk∨vc.ownBlock=some gk):=by
      obtain⟨cs,f,hg,_⟩:=hr1
      exact(H.out.keptF K1.out).dev.not hg (by decide) (by decide) (by decide)
     exact(hr1.kept hto.kept hn).cell (by rw[List.getElem?_map,List.getElem?_eq_getElem hlt];rfl)
    have hst:=(H.out.keptF K1.out).devStep hto
    have hc8:wr.cell? ⟨st,8,none⟩=some (.map (some m)):=(cell_heap hst.head 8).trans rfl
    obtain⟨id,hid⟩:∃id,id=(fresh X.l)[j]:=⟨_,rfl⟩
    have hmem:id∈fresh X.l:=by rw[hid];exact List.getElem_mem _
    obtain⟨hidl,hid2⟩:=mem_fresh.1 hmem
    rw[←hid] at hcell
    have h128:=H.out.sp.len
    have hlook:=World.ownsMap.lookup hst.put (int_keyed und_int) und_dirty (z:=.agg #[.string ⟨#[]⟩]) (Tryz.zeroValue122 wr) (zd:=.lit (.string [])) (zp := []) (by simp[pgR]) (key_int id (by omega))
    obtain⟨v,ps,hrun,hv⟩:=hlook
    rw[at_prs hidl hid2] at hv
    have hv:=pgR_inv hv
    subst hv
    have hfd:=run_page_text (ba (X.T id))
    have CF:=Lib.hid (fun W=>full_calls (X.T id) (hT id hmem) W)
    have HTO:=Lib.hid hto
    have HST2:=Lib.hid hst
    have HH0:=Lib.hid h0
    have HID:=Lib.hid hid
    clear hto hst h0 hid hmem hid2
    go_wp2_with fail
    refine(CF.out _).mono ?_
    rintro e w2 ⟨rfl,k2⟩
    have HK2:=Lib.hid k2
    clear k2
    go_wp2_with fail
    obtain⟨prev,hprev⟩:∃q,q=((fresh X.l).take j).flatMap (pgW X.T):=⟨_,rfl⟩
    have HPREV:=Lib.hid hprev
    rw[←hprev] at HTO HST2 HH0
    have HPL:Hid (prev.length≤512):=by
     have:=HFLEN.out
     simp only[Hid];rw[hprev,flat_len,List.length_take];omega
    have H3:Hid (DevTo w1 d vs vc w2 vcj (wrAll X.D prev).2):=HTO.out.after HK2.out
    have hfl:=fullB_len (X.T id) (hT id (mem_fresh.2 ⟨hidl,by have:=HID.out;rw[this];exact(mem_fresh.1 (List.getElem_mem _)).2⟩))
    obtain⟨fb,hfb⟩:∃fb,fb=fullB (X.T id):=⟨_,rfl⟩
    have HFB:=Lib.hid hfb
    rw[←hfb] at hfl
    have hsz:(ba fb).size=256:=by rw[ba_size];exact hfl
    obtain⟨rw_,hrw⟩:∃r,r=ba fb:=⟨_,rfl⟩
    have HRW:=Lib.hid hrw
    rw[←hfb, ←hrw]
    rw[←hrw] at hsz
    clear hprev hcell hc8 hrun hv hfd hfb hrw hfl
    go_loopw [82] (fun n wr2=>∃k:Nat,k≤4∧n = .int .i64 k ∧ ∃vck,DevTo w1 d vs vc wr2 vck (wrAll X.D (prev ++ (pgW X.T id).take k)).2∧(wrAll X.D (prev ++ (pgW X.T id).take k)).1=0) (fun n _=>4 - (intOf n).toNat)
    case atStart=>exact⟨0,Nat.zero_le _,rfl,vcj,by simpa using H3.out,by simpa using HH0.out⟩
    case round =>
     obtain⟨k,hk,rfl,vck,hto,h0⟩:=hrel
     by_cases hlt4:k < 4
     ·have hst:=(H.out.keptF K1.out).devStep hto
      have hc1:wr.cell? ⟨st,1,none⟩=some (.pointer (some ⟨d,0,none⟩)):=(cell_heap hst.head 1).trans rfl
      have HTK:=Lib.hid hto
      have HK0:=Lib.hid h0
      have hcap:(wrAll X.D (prev ++ (pgW X.T id).take k)).2.cache.length≤1000000:=by
       have h1:=wrAll_cache X.D (prev ++ (pgW X.T id).take k)
       have h2:=HPL.out
       rw[List.length_append,List.length_take,pgW_len] at h1
       omega
      obtain⟨x,hx⟩:∃x,x=k * 64:=⟨_,rfl⟩
      obtain⟨y,hy⟩:∃y,y=(k + 1) * 64:=⟨_,rfl⟩
      obtain⟨a4,ha4⟩:∃a4,a4=id * 4:=⟨_,rfl⟩
      obtain⟨b4,hb4⟩:∃b4,b4=2 + a4:=⟨_,rfl⟩
      obtain⟨z,hz⟩:∃z,z=b4 + k:=⟨_,rfl⟩
      have q1:IntKind.i64.wrap ((k:Int) * 64)=(x:Int):=by rw[IntKind.wrap_i64];omega
      have q2a:IntKind.i64.wrap ((k:Int) + 1)=((k + 1:Nat):Int):=by rw[IntKind.wrap_i64];omega
      have q2:IntKind.i64.wrap (IntKind.i64.wrap ((k:Int) + 1) * 64)=(y:Int):=by rw[q2a,IntKind.wrap_i64];omega
      have q3:IntKind.i64.wrap ((id:Int) * 4)=(a4:Int):=by rw[IntKind.wrap_i64];omega
      have q4:IntKind.i64.wrap (2 + (a4:Int))=(b4:Int):=by rw[IntKind.wrap_i64];omega
      have q5:IntKind.i64.wrap ((b4:Int) + (k:Int))=(z:Int):=by rw[IntKind.wrap_i64];omega
      have hxy:x≤y:=by omega
      have hy256:(y:Int)≤256:=by omega
      have HEX:Hid (rw_.extract x y=ba ((fb.drop (64 * k)).take 64)):=by
       have e:=ba_part fb (64 * k) 64
       simp only[Hid]
       rw[HRW.out,hx,hy, ←e]
       congr 1<;>omega
      have HW:Hid (∀W,Kept (fun _=>False) wr W→Calls Tryz.prog 70 #[.pointer (some ⟨d,0,none⟩),.int .i64 z,.string (rw_.extract x y)] W (WritePost W d vs vck ((wrAll X.D (prev ++ (pgW X.T id).take k)).2.write (z:Nat) ((fb.drop (64 * k)).take 64)))):=fun W hW=>by
       rw[HEX.out]
       exact DevWrite_calls (hto.dev.keptF hW) (z:Nat) ((fb.drop (64 * k)).take 64) hcap
      have HZ:Hid (z=2 + 4 * id + k):=by simp only[Hid];omega
      clear hx hy ha4 hb4 hz q2a
      have hk63:k < 4:=hlt4
      obtain⟨r,hr⟩:∃r,r=(wrAll X.D (prev ++ (pgW X.T id).take k)).2.write (z:Nat) ((fb.drop (64 * k)).take 64):=⟨_,rfl⟩
      rw[←hr] at HW
      have HRR:Hid (wrAll X.D (prev ++ (pgW X.T id).take (k + 1))=r):=by
       simp only[Hid]
       rw[pgW_take X.T id k hlt4, ←List.append_assoc,wrAll_snoc _ _ _ HK0.out,hr, ←HFB.out, ←HZ.out]
      obtain⟨er,D2⟩:=r
      clear hto h0 hst hcap hr
      by_cases he:er=0
      ·subst he
       go_wp2_with fail
       go_region_law (first
        | (refine step_call (args := #[.tmp 88,.tmp 93,.tmp 100]) rfl write_enters rfl (by simp[Act.eval]) (HW.out _ ((Kept.refl _ _).drew)) ?_;rintro e w3 ⟨rfl,vc3,h3⟩;refine⟨_,rfl,?_⟩))
       all_goals
        have HT2:=Lib.hid (HTK.out.trans (DevTo.behind HTK.out.dev ((Kept.refl _ _).drew) h3))
        clear h3
        go_wp2_with fail
        go_roundw
        case rel=>exact⟨k + 1,by omega,by go_num,vc3,by rw[HRR.out];exact HT2.out,by rw[HRR.out]⟩
        case measure=>simp[intOf];omega
      ·have ht:(er != 0)=true:=by simpa using he
       have HCK:Hid (X.check root log next=(er, { X with D:=D2 })):=by
        refine check_w HCB.out (r:=(er,D2)) ?_ he
        rw[flat_split X.T (fresh X.l) j (k + 1) hlt, ←HID.out, ←HPREV.out,wrAll_stop _ _ _ (by rw[HRR.out];exact he)]
        exact HRR.out
       clear he
       go_wp2_with fail
       go_region_law (first
        | (refine step_call (args := #[.tmp 88,.tmp 93,.tmp 100]) rfl write_enters rfl (by simp[Act.eval]) (HW.out _ ((Kept.refl _ _).drew)) ?_;rintro e w3 ⟨rfl,vc3,h3⟩;refine⟨_,rfl,?_⟩))
       all_goals
        have HT2:=Lib.hid (HTK.out.trans (DevTo.behind HTK.out.dev ((Kept.refl _ _).drew) h3))
        clear h3
        go_wp2_with fail
        go_ret
        exact⟨by rw[HCK.out];rfl,vc3,by rw[HCK.out];exact DevTo.stoF H.out K1.out HT2.out⟩
     ·obtain rfl:k=4:=by omega
      have HN:Hid (((fresh X.l).take (j + 1)).flatMap (pgW X.T)=prev ++ (pgW X.T id).take 4):=by
       simp only[Hid]
       have e4:(pgW X.T id).take 4=pgW X.T id:=List.take_of_length_le (by rw[pgW_len];omega)
       rw[e4,flat_take X.T _ j hlt, ←HID.out, ←HPREV.out]
      have hf128:=HFLEN.out
      have HTK:=Lib.hid hto
      have HK0:=Lib.hid h0
      clear hto h0
      go_wp2_with fail
      go_roundw
      case rel=>exact⟨j + 1,by omega,by go_num,vck,by rw[HN.out];exact HTK.out,by rw[HN.out];exact HK0.out⟩
      case measure=>simp[intOf];omega
   ·have hall:(fresh X.l).take j=fresh X.l:=List.take_of_length_le (by omega)
    rw[hall] at hto h0
    obtain⟨D1,hD1⟩:∃D1,D1=(wrAll X.D ((fresh X.l).flatMap (pgW X.T))).2:=⟨_,rfl⟩
    have HW1:Hid (wrAll X.D ((fresh X.l).flatMap (pgW X.T))=(0,D1)):=by simp only[Hid];rw[hD1, ←h0]
    have HCP:Hid (D1.cache.length≤901000):=by
     have h1:=wrAll_cache X.D ((fresh X.l).flatMap (pgW X.T))
     have h2:=HFLEN.out
     simp only[Hid]
     rw[flat_len, ←hD1] at h1
     omega
    rw[←hD1] at hto
    have hst:=(H.out.keptF K1.out).devStep hto
    have hc1:wr.cell? ⟨st,1,none⟩=some (.pointer (some ⟨d,0,none⟩)):=(cell_heap hst.head 1).trans rfl
    have HFL:=Lib.hid (DevFlush_calls hto.dev (by have:=HCP.out;omega))
    have HTO:=Lib.hid hto
    clear hto hst h0 hall hD1
    obtain⟨r1,hr1⟩:∃r,D1.flush=r:=⟨_,rfl⟩
    rw[hr1] at HFL
    have HR1:=Lib.hid hr1
    clear hr1
    obtain⟨e1,D2⟩:=r1
    by_cases he:e1=0
    ·subst he
     have HFSH:Hid (D1.flush.1=0):=by simp only[Hid];rw[HR1.out]
     obtain⟨gn,hgn⟩:∃n,n=X.sup.gen + 1:=⟨_,rfl⟩
     have HSV:Hid (s=⟨gn,root,log,next⟩):=by rw[hgn];exact HS.out
     obtain⟨g2,hg2⟩:∃n,n=gn % 2:=⟨_,rfl⟩
     obtain⟨r2,hr2⟩:∃r,D2.write (g2:Nat) (secText ⟨gn,0,supB s X.l⟩)=r:=⟨_,rfl⟩
     have hD2:D2.cache.length≤901000:=by
      have h1:=flush_cache D1
      have h2:=HCP.out
      rw[HR1.out] at h1
      simp only at h1
      omega
     have hD3:r2.2.cache.length≤901001:=by
      have h1:=write_cache D2 (g2:Nat) (secText ⟨gn,0,supB s X.l⟩)
      rw[hr2] at h1
      omega
     have HD2:=Lib.hid hD2
     have HD3:=Lib.hid hD3
     have HR2:=Lib.hid hr2
     have HR2':Hid (D1.flush.2.write ((X.sup.gen + 1) % 2:Nat) (secText ⟨X.sup.gen + 1,0,supB ⟨X.sup.gen + 1,root,log,next⟩ X.l⟩)=r2):=by
      simp only[Hid];rw[←HS.out, ←hgn,HR1.out, ←hg2];exact hr2
     obtain⟨e2,D3⟩:=r2
     obtain⟨r3,hr3⟩:∃r,D3.flush=r:=⟨_,rfl⟩
     have HR3:=Lib.hid hr3
     obtain⟨e3,D4⟩:=r3
     have q1:IntKind.i64.wrap ((X.sup.gen:Int) + 1)=(gn:Int):=by rw[IntKind.wrap_i64];omega
     have q2:Int.tmod (gn:Int) 2=(g2:Int):=by rw[Int.tmod_eq_emod_of_nonneg (by omega)];omega
     have HGN:=Lib.hid hgn
     clear hgn hg2 hr2 hr3 hD2 hD3
     go_wp2_with fail
     refine HFL.out.mono ?_
     rintro e w3 ⟨rfl,vc3,h3⟩
     have HT2:=Lib.hid (HTO.out.trans h3)
     clear h3
     have hst3:=(H.out.keptF K1.out).devStep HT2.out
     have c0:w3.cell? ⟨st,0,none⟩=some (.pointer (some ⟨b,0,none⟩)):=(cell_heap hst3.head 0).trans rfl
     have c1:w3.cell? ⟨st,1,none⟩=some (.pointer (some ⟨d,0,none⟩)):=(cell_heap hst3.head 1).trans rfl
     have c4:w3.cell? ⟨st,4,none⟩=some (.int .i64 X.sup.gen):=(cell_heap hst3.head 4).trans rfl
     have hl3:=lt_heap hst3.head
     have HST3:=Lib.hid hst3
     clear hst3
     go_wp2_with fail
     obtain⟨W,hW⟩:∃W,W=w3.alloc (.cells #[.int .i64 gn,.int .i64 root,.int .i64 log,.int .i64 next] 78):=⟨_,rfl⟩
     rw[←hW]
     have hbx:W.heap[w3.heap.size]? = some (.cells #[.int .i64 gn,.int .i64 root,.int .i64 log,.int .i64 next] 78 (0,0)):=by rw[hW];exact heap_new w3 _
     have KW:Hid (Kept (fun _=>False) w3 W):=by rw[hW];exact(Kept.refl _ _).alloc _
     have HSTW:=Lib.hid (HST3.out.keptF KW.out)
     have HBX:=Lib.hid hbx
     have b0:W.cell? ⟨w3.heap.size,0,none⟩=some (.int .i64 gn):=(cell_heap hbx 0).trans rfl
     have b1:W.cell? ⟨w3.heap.size,1,none⟩=some (.int .i64 root):=(cell_heap hbx 1).trans rfl
     have b2:W.cell? ⟨w3.heap.size,2,none⟩=some (.int .i64 log):=(cell_heap hbx 2).trans rfl
     have b3:W.cell? ⟨w3.heap.size,3,none⟩=some (.int .i64 next):=(cell_heap hbx 3).trans rfl
     have d0:W.cell? ⟨st,0,none⟩=some (.pointer (some ⟨b,0,none⟩)):=(cell_heap HSTW.out.head 0).trans rfl
     have d1:W.cell? ⟨st,1,none⟩=some (.pointer (some ⟨d,0,none⟩)):=(cell_heap HSTW.out.head 1).trans rfl
     have hlW:=lt_heap hbx
     obtain⟨sb,hsb⟩:∃t,t=ba (supB s X.l):=⟨_,rfl⟩
     have HTX:Hid (∀U,Kept (fun _=>False) W U→Calls Tryz.prog 73 #[.agg #[.int .i64 gn,.int .i64 root,.int .i64 log,.int .i64 next],.pointer (some ⟨b,0,none⟩)] U fun e w'=>e = .returned (.string sb)∧Kept (fun _=>False) U w'):=fun U hU=>by
      have h1:=SupText_calls (HSTW.out.keptF hU).sp s HSG.out
      rw[←hsb] at h1
      have e1:supV s = .agg #[.int .i64 gn,.int .i64 root,.int .i64 log,.int .i64 next]:=by rw[HSV.out];rfl
      rw[e1] at h1
      exact h1
     have HWR:Hid (∀U,Kept (fun _=>False) W U→Calls Tryz.prog 72 #[.pointer (some ⟨d,0,none⟩),.int .i64 g2,.agg #[.int .i64 gn,.int .u8 0,.string sb]] U (WritePost U d vs vc3 (e2,D3))):=fun U hU=>by
      have hgood:Sec.Good ⟨gn,0,supB s X.l⟩:=by
       have h1:=HSC.out
       rw[←HGN.out] at h1
       exact h1
      have h1:=StWrite_calls (HSTW.out.keptF hU).dev (g2:Nat) ⟨gn,0,supB s X.l⟩ hgood (by have:=HD2.out;simp only;omega)
      have h2:=HR2.out
      simp only at h1
      rw[h2] at h1
      unfold secOf secV at h1
      simp only at h1
      rw[←hsb] at h1
      exact h1
     have HNE:Hid (¬(st=d∨vs.ownBlock=some st∨vc3.ownBlock=some st)):=HSTW.out.dev.not HSTW.out.head (by decide) (by decide) (by decide)
     have HNB:Hid (¬(w3.heap.size=d∨vs.ownBlock=some w3.heap.size∨vc3.ownBlock=some w3.heap.size)):=HSTW.out.dev.not hbx (by decide) (by decide) (by decide)
     clear hW hbx hsb c0 c1 c4 q1 hl3
     go_cut [16] from 125 to 141 (fun v wx=>v = .int .i64 e2 ∧ ∃vc4,DevTo W d vs vc3 wx vc4 D3)
     case first =>
      go_region_held3 (fun w'=>w'.cell? ⟨st,0,none⟩=some (.pointer (some ⟨b,0,none⟩))∧w'.cell? ⟨st,1,none⟩=some (.pointer (some ⟨d,0,none⟩))∧w'.cell? ⟨w3.heap.size,0,none⟩=some (.int .i64 gn)∧w'.cell? ⟨w3.heap.size,1,none⟩=some (.int .i64 root)∧w'.cell? ⟨w3.heap.size,2,none⟩=some (.int .i64 log)∧w'.cell? ⟨w3.heap.size,3,none⟩=some (.int .i64 next)) (go_keep)
       (first
        | (go_at_call 73;refine(HTX.out _ (by repeat (first|exact Kept.refl _ _|refine Kept.drew ?_|refine Kept.alloc ?_ _))).mono ?_;rintro e w4 ⟨rfl,k4⟩;have K4:Hid (Kept (fun _=>False) W w4):=Kept.trans (by repeat (first|exact Kept.refl _ _|refine Kept.drew ?_|refine Kept.alloc ?_ _)) k4;have hs4:=(HSTW.out.keptF K4.out).head;have hx4:=K4.out.heap HBX.out id;have x0:w4.cell? ⟨st,0,none⟩=some (.pointer (some ⟨b,0,none⟩)):=(cell_heap hs4 0).trans rfl;have x1:w4.cell? ⟨st,1,none⟩=some (.pointer (some ⟨d,0,none⟩)):=(cell_heap hs4 1).trans rfl;have y0:w4.cell? ⟨w3.heap.size,0,none⟩=some (.int .i64 gn):=(cell_heap hx4 0).trans rfl;have y1:w4.cell? ⟨w3.heap.size,1,none⟩=some (.int .i64 root):=(cell_heap hx4 1).trans rfl;have y2:w4.cell? ⟨w3.heap.size,2,none⟩=some (.int .i64 log):=(cell_heap hx4 2).trans rfl;have y3:w4.cell? ⟨w3.heap.size,3,none⟩=some (.int .i64 next):=(cell_heap hx4 3).trans rfl;clear k4 hs4 hx4)
        | (go_at_call 72;refine(HWR.out _ (by repeat (first|exact K4.out|exact Kept.refl _ _|refine Kept.drew ?_|refine Kept.alloc ?_ _))).mono ?_;rintro e w5 ⟨rfl,vc4,h4⟩;have H4:Hid (DevTo W d vs vc3 w5 vc4 D3):=DevTo.behind HSTW.out.dev (by repeat (first|exact K4.out|exact Kept.refl _ _|refine Kept.drew ?_|refine Kept.alloc ?_ _)) h4;have hs5:=H4.out.kept.heap HSTW.out.head HNE.out;have hx5:=H4.out.kept.heap HBX.out HNB.out;have u0:w5.cell? ⟨st,0,none⟩=some (.pointer (some ⟨b,0,none⟩)):=(cell_heap hs5 0).trans rfl;have u1:w5.cell? ⟨st,1,none⟩=some (.pointer (some ⟨d,0,none⟩)):=(cell_heap hs5 1).trans rfl;have z0:w5.cell? ⟨w3.heap.size,0,none⟩=some (.int .i64 gn):=(cell_heap hx5 0).trans rfl;have z1:w5.cell? ⟨w3.heap.size,1,none⟩=some (.int .i64 root):=(cell_heap hx5 1).trans rfl;have z2:w5.cell? ⟨w3.heap.size,2,none⟩=some (.int .i64 log):=(cell_heap hx5 2).trans rfl;have z3:w5.cell? ⟨w3.heap.size,3,none⟩=some (.int .i64 next):=(cell_heap hx5 3).trans rfl;clear h4 hs5 hx5))
      all_goals (try go_wp2_with fail)
      all_goals go_meet
      all_goals exact⟨rfl,vc4,H4.out⟩
     case rest =>
      obtain⟨rfl,vc4,h4⟩:=hcut
      have HT4:=Lib.hid (HT2.out.trans (DevTo.behind HT2.out.dev KW.out h4))
      have HST4:=Lib.hid (HSTW.out.devStep h4)
      have hx4:=h4.kept.heap HBX.out HNB.out
      have HX4:=Lib.hid hx4
      have c1:wc.cell? ⟨st,1,none⟩=some (.pointer (some ⟨d,0,none⟩)):=(cell_heap HST4.out.head 1).trans rfl
      clear h4 b0 b1 b2 b3 d0 d1 hlW hx4
      by_cases he2:e2=0
      ·subst he2
       have HFL2:=Lib.hid (DevFlush_calls HST4.out.dev (by have:=HD3.out;simp only at this⊢;omega))
       rw[HR3.out] at HFL2
       by_cases he3:e3=0
       ·subst he3
        have HCK:Hid (X.check root log next=(0, { X with l:=kp X.l,sup:=s,D:=D4 })):=by
         have h1:=check_e (root:=root) (log:=(log:Int)) (next:=(next:Int)) HCB.out HW1.out HFSH.out (D2:=D3) HR2'.out
         rw[HR3.out,if_pos rfl] at h1
         simp only[Hid]
         rw[h1,HS.out]
         rfl
        go_wp2_with fail
        refine HFL2.out.mono ?_
        rintro e w5 ⟨rfl,vc5,h5⟩
        have HT5:=Lib.hid (HT4.out.trans h5)
        have HST5:=Lib.hid (HST4.out.devStep h5)
        have hx5:=h5.kept.heap HX4.out (HST4.out.dev.not HX4.out (by decide) (by decide) (by decide))
        have hs5:=HST5.out.head
        have b0:w5.cell? ⟨w3.heap.size,0,none⟩=some (.int .i64 gn):=(cell_heap hx5 0).trans rfl
        have b1:w5.cell? ⟨w3.heap.size,1,none⟩=some (.int .i64 root):=(cell_heap hx5 1).trans rfl
        have b2:w5.cell? ⟨w3.heap.size,2,none⟩=some (.int .i64 log):=(cell_heap hx5 2).trans rfl
        have b3:w5.cell? ⟨w3.heap.size,3,none⟩=some (.int .i64 next):=(cell_heap hx5 3).trans rfl
        have d0:w5.cell? ⟨st,0,none⟩=some (.pointer (some ⟨b,0,none⟩)):=(cell_heap hs5 0).trans rfl
        have d4:w5.cell? ⟨st,4,none⟩=some (.int .i64 X.sup.gen):=(cell_heap hs5 4).trans rfl
        have d5:w5.cell? ⟨st,5,none⟩=some (.int .i64 X.sup.root):=(cell_heap hs5 5).trans rfl
        have d6:w5.cell? ⟨st,6,none⟩=some (.int .i64 X.sup.log):=(cell_heap hs5 6).trans rfl
        have d7:w5.cell? ⟨st,7,none⟩=some (.int .i64 X.sup.next):=(cell_heap hs5 7).trans rfl
        have f4:=free_heap hs5 4
        have f5:=free_heap hs5 5
        have f6:=free_heap hs5 6
        have f7:=free_heap hs5 7
        clear h5 hx5 hs5
        go_wp2_with fail
        obtain⟨W6,hW6⟩:∃W6,W6=(((w5.setCell ⟨st,4,none⟩ (.int .i64 gn)).setCell ⟨st,5,none⟩ (.int .i64 root)).setCell ⟨st,6,none⟩ (.int .i64 log)).setCell ⟨st,7,none⟩ (.int .i64 next):=⟨_,rfl⟩
        rw[←hW6]
        have KW6:Hid (Kept (· = st) w5 W6):=by rw[hW6];exact((((Kept.refl _ _).set1 4 _).set1 5 _).set1 6 _).set1 7 _
        have HSP6:Hid (IsSp W6 b c X.l):=by
         have h1:=HST5.out.sp
         exact⟨KW6.out.heap h1.head (fun e=>ne_type h1.head HST5.out.head (by decide) e),KW6.out.heap h1.row (fun e=>ne_type h1.row HST5.out.head (by decide) e),h1.le,h1.len⟩
        have HW6:=Lib.hid hW6
        clear hW6 b0 b1 b2 b3 d0 d4 d5 d6 d7 f4 f5 f6 f7
        refine(Keep_calls HSP6.out).mono ?_
        rintro e w7 ⟨rfl,h7,k7⟩
        obtain⟨es,clock,hm⟩:=HST5.out.put.heap
        have hm7:=k7.heap (KW6.out.heap hm (fun e=>map_ne hm HST5.out.head e.symm)) (fun e=>map_ne hm HST5.out.sp.row e.symm)
        have hclr:=run_clear_map (P:=Tryz.prog) und_dirty hm7
        have hh6:W6.heap[st]? = some (.cells (stoCells b d m p g ⟨gn,root,log,next⟩) 81 (0,0)):=by rw[HW6.out];exact sto_sup HST5.out.head ⟨gn,root,log,next⟩
        have hh7:=k7.heap hh6 (fun e=>ne_type HST5.out.head HST5.out.sp.row (by decide) e)
        have c8:w7.cell? ⟨st,8,none⟩=some (.map (some m)):=(cell_heap hh7 8).trans rfl
        obtain⟨w8,hw8⟩:∃w8,w8=setBlock w7 m (.map #[] clock):=⟨_,rfl⟩
        rw[←hw8] at hclr
        have hend:=ck_end HST5.out ⟨gn,root,log,next⟩ HW6.out k7 h7 hm7
        rw[←hw8] at hend
        have HEND:=Lib.hid hend
        clear hw8 hend hm hm7 hh6 hh7 h7 k7
        go_wp2_with fail
        go_ret
        have s5:=DevTo.stoF H.out K1.out HT5.out
        exact⟨by rw[HCK.out];rfl,vc5,by rw[HCK.out,HSV.out];exact⟨HEND.out.1,s5.kept.trans (HEND.out.2.mono fun k _ e=>by rcases e with e|e|e;exact .inl e;exact .inr (.inl e);exact .inr (.inr (.inl e))),s5.own⟩⟩
       ·have ht:(e3 != 0)=true:=by simpa using he3
        have HCK:Hid (X.check root log next=(e3, { X with D:=D4 })):=by
         have h1:=check_e (root:=root) (log:=(log:Int)) (next:=(next:Int)) HCB.out HW1.out HFSH.out (D2:=D3) HR2'.out
         rw[HR3.out,if_neg he3] at h1
         exact h1
        clear he3
        go_wp2_with fail
        refine HFL2.out.mono ?_
        rintro e w5 ⟨rfl,vc5,h5⟩
        have HT5:=Lib.hid (HT4.out.trans h5)
        clear h5
        go_wp2_with fail
        go_ret
        exact⟨by rw[HCK.out];rfl,vc5,by rw[HCK.out];exact DevTo.stoF H.out K1.out HT5.out⟩
      ·have ht:(e2 != 0)=true:=by simpa using he2
       have HCK:Hid (X.check root log next=(e2, { X with D:=D3 })):=by
        have h1:=check_s (root:=root) (log:=(log:Int)) (next:=(next:Int)) HCB.out HW1.out HFSH.out HR2'.out he2
        exact h1
       clear he2
       go_wp2_with fail
       go_ret
       exact⟨by rw[HCK.out];rfl,vc4,by rw[HCK.out];exact DevTo.stoF H.out K1.out HT4.out⟩
    ·have ht:(e1 != 0)=true:=by simpa using he
     have HCK:Hid (X.check root log next=(e1, { X with D:=D2 })):=by
      have:=check_f HCB.out HW1.out (by rw[HR1.out];exact he)
      rw[HR1.out] at this
      exact this
     clear he
     go_wp2_with fail
     refine HFL.out.mono ?_
     rintro e w3 ⟨rfl,vc3,h3⟩
     have HT2:=Lib.hid (HTO.out.trans h3)
     clear h3
     go_wp2_with fail
     go_ret
     exact⟨by rw[HCK.out];rfl,vc3,by rw[HCK.out];exact DevTo.stoF H.out K1.out HT2.out⟩
 ·
  have hg2:decide (0≤root)=true:=by simpa using h0
  rw[hs] at HST
  clear h0 hs
  go_enter Tryz.func21,Tryz.ntmps21
  go_wp2_with (first|(go_at_call 66;refine HST.out.mono ?_;rintro e w1 ⟨rfl,rfl⟩)|(go_at_call 67;refine HLN.out.mono ?_;rintro e w1 ⟨rfl,rfl⟩))
  refine HDY.out.mono ?_
  rintro e w1 ⟨v,rfl,hrow,k1⟩
  obtain⟨A,cap,rfl,hA⟩:=own_any hrow
  have HROW:=Lib.hid hrow
  have K1:=Lib.hid k1
  clear hrow k1
  go_wp2_with fail
  go_loopw [70] (fun n wr=>∃j:Nat,j≤(fresh X.l).length∧n = .int .i64 j ∧ ∃vcj,DevTo w1 d vs vc wr vcj (wrAll X.D (((fresh X.l).take j).flatMap (pgW X.T))).2∧(wrAll X.D (((fresh X.l).take j).flatMap (pgW X.T))).1=0) (fun n _=>(fresh X.l).length - (intOf n).toNat)
  case atStart=>exact⟨0,Nat.zero_le _,rfl,vc,by simpa[wrAll] using DevTo.refl (H.out.keptF K1.out).dev,by simp[wrAll]⟩
  case round =>
   obtain⟨j,hj,rfl,vcj,hto,h0⟩:=hrel
   by_cases hlt:j < (fresh X.l).length
   ·obtain⟨gk,rfl⟩:=hA (by omega)
    have hcell:wr.cell? ⟨gk,j,none⟩=some (.int .i64 ((fresh X.l)[j]:Nat)):=by
     have hr1:=RowIs.of_own HROW.out
     have hn:¬(gk=d∨vs.ownBlock=some gk∨vc.ownBlock=some gk):=by
      obtain⟨cs,f,hg,_⟩:=hr1
      exact(H.out.keptF K1.out).dev.not hg (by decide) (by decide) (by decide)
     exact(hr1.kept hto.kept hn).cell (by rw[List.getElem?_map,List.getElem?_eq_getElem hlt];rfl)
    have hst:=(H.out.keptF K1.out).devStep hto
    have hc8:wr.cell? ⟨st,8,none⟩=some (.map (some m)):=(cell_heap hst.head 8).trans rfl
    obtain⟨id,hid⟩:∃id,id=(fresh X.l)[j]:=⟨_,rfl⟩
    have hmem:id∈fresh X.l:=by rw[hid];exact List.getElem_mem _
    obtain⟨hidl,hid2⟩:=mem_fresh.1 hmem
    rw[←hid] at hcell
    have h128:=H.out.sp.len
    have hlook:=World.ownsMap.lookup hst.put (int_keyed und_int) und_dirty (z:=.agg #[.string ⟨#[]⟩]) (Tryz.zeroValue122 wr) (zd:=.lit (.string [])) (zp := []) (by simp[pgR]) (key_int id (by omega))
    obtain⟨v,ps,hrun,hv⟩:=hlook
    rw[at_prs hidl hid2] at hv
    have hv:=pgR_inv hv
    subst hv
    have hfd:=run_page_text (ba (X.T id))
    have CF:=Lib.hid (fun W=>full_calls (X.T id) (hT id hmem) W)
    have HTO:=Lib.hid hto
    have HST2:=Lib.hid hst
    have HH0:=Lib.hid h0
    have HID:=Lib.hid hid
    clear hto hst h0 hid hmem hid2
    go_wp2_with fail
    refine(CF.out _).mono ?_
    rintro e w2 ⟨rfl,k2⟩
    have HK2:=Lib.hid k2
    clear k2
    go_wp2_with fail
    obtain⟨prev,hprev⟩:∃q,q=((fresh X.l).take j).flatMap (pgW X.T):=⟨_,rfl⟩
    have HPREV:=Lib.hid hprev
    rw[←hprev] at HTO HST2 HH0
    have HPL:Hid (prev.length≤512):=by
     have:=HFLEN.out
     simp only[Hid];rw[hprev,flat_len,List.length_take];omega
    have H3:Hid (DevTo w1 d vs vc w2 vcj (wrAll X.D prev).2):=HTO.out.after HK2.out
    have hfl:=fullB_len (X.T id) (hT id (mem_fresh.2 ⟨hidl,by have:=HID.out;rw[this];exact(mem_fresh.1 (List.getElem_mem _)).2⟩))
    obtain⟨fb,hfb⟩:∃fb,fb=fullB (X.T id):=⟨_,rfl⟩
    have HFB:=Lib.hid hfb
    rw[←hfb] at hfl
    have hsz:(ba fb).size=256:=by rw[ba_size];exact hfl
    obtain⟨rw_,hrw⟩:∃r,r=ba fb:=⟨_,rfl⟩
    have HRW:=Lib.hid hrw
    rw[←hfb, ←hrw]
    rw[←hrw] at hsz
    clear hprev hcell hc8 hrun hv hfd hfb hrw hfl
    go_loopw [82] (fun n wr2=>∃k:Nat,k≤4∧n = .int .i64 k ∧ ∃vck,DevTo w1 d vs vc wr2 vck (wrAll X.D (prev ++ (pgW X.T id).take k)).2∧(wrAll X.D (prev ++ (pgW X.T id).take k)).1=0) (fun n _=>4 - (intOf n).toNat)
    case atStart=>exact⟨0,Nat.zero_le _,rfl,vcj,by simpa using H3.out,by simpa using HH0.out⟩
    case round =>
     obtain⟨k,hk,rfl,vck,hto,h0⟩:=hrel
     by_cases hlt4:k < 4
     ·have hst:=(H.out.keptF K1.out).devStep hto
      have hc1:wr.cell? ⟨st,1,none⟩=some (.pointer (some ⟨d,0,none⟩)):=(cell_heap hst.head 1).trans rfl
      have HTK:=Lib.hid hto
      have HK0:=Lib.hid h0
      have hcap:(wrAll X.D (prev ++ (pgW X.T id).take k)).2.cache.length≤1000000:=by
       have h1:=wrAll_cache X.D (prev ++ (pgW X.T id).take k)
       have h2:=HPL.out
       rw[List.length_append,List.length_take,pgW_len] at h1
       omega
      obtain⟨x,hx⟩:∃x,x=k * 64:=⟨_,rfl⟩
      obtain⟨y,hy⟩:∃y,y=(k + 1) * 64:=⟨_,rfl⟩
      obtain⟨a4,ha4⟩:∃a4,a4=id * 4:=⟨_,rfl⟩
      obtain⟨b4,hb4⟩:∃b4,b4=2 + a4:=⟨_,rfl⟩
      obtain⟨z,hz⟩:∃z,z=b4 + k:=⟨_,rfl⟩
      have q1:IntKind.i64.wrap ((k:Int) * 64)=(x:Int):=by rw[IntKind.wrap_i64];omega
      have q2a:IntKind.i64.wrap ((k:Int) + 1)=((k + 1:Nat):Int):=by rw[IntKind.wrap_i64];omega
      have q2:IntKind.i64.wrap (IntKind.i64.wrap ((k:Int) + 1) * 64)=(y:Int):=by rw[q2a,IntKind.wrap_i64];omega
      have q3:IntKind.i64.wrap ((id:Int) * 4)=(a4:Int):=by rw[IntKind.wrap_i64];omega
      have q4:IntKind.i64.wrap (2 + (a4:Int))=(b4:Int):=by rw[IntKind.wrap_i64];omega
      have q5:IntKind.i64.wrap ((b4:Int) + (k:Int))=(z:Int):=by rw[IntKind.wrap_i64];omega
      have hxy:x≤y:=by omega
      have hy256:(y:Int)≤256:=by omega
      have HEX:Hid (rw_.extract x y=ba ((fb.drop (64 * k)).take 64)):=by
       have e:=ba_part fb (64 * k) 64
       simp only[Hid]
       rw[HRW.out,hx,hy, ←e]
       congr 1<;>omega
      have HW:Hid (∀W,Kept (fun _=>False) wr W→Calls Tryz.prog 70 #[.pointer (some ⟨d,0,none⟩),.int .i64 z,.string (rw_.extract x y)] W (WritePost W d vs vck ((wrAll X.D (prev ++ (pgW X.T id).take k)).2.write (z:Nat) ((fb.drop (64 * k)).take 64)))):=fun W hW=>by
       rw[HEX.out]
       exact DevWrite_calls (hto.dev.keptF hW) (z:Nat) ((fb.drop (64 * k)).take 64) hcap
      have HZ:Hid (z=2 + 4 * id + k):=by simp only[Hid];omega
      clear hx hy ha4 hb4 hz q2a
      have hk63:k < 4:=hlt4
      obtain⟨r,hr⟩:∃r,r=(wrAll X.D (prev ++ (pgW X.T id).take k)).2.write (z:Nat) ((fb.drop (64 * k)).take 64):=⟨_,rfl⟩
      rw[←hr] at HW
      have HRR:Hid (wrAll X.D (prev ++ (pgW X.T id).take (k + 1))=r):=by
       simp only[Hid]
       rw[pgW_take X.T id k hlt4, ←List.append_assoc,wrAll_snoc _ _ _ HK0.out,hr, ←HFB.out, ←HZ.out]
      obtain⟨er,D2⟩:=r
      clear hto h0 hst hcap hr
      by_cases he:er=0
      ·subst he
       go_wp2_with fail
       go_region_law (first
        | (refine step_call (args := #[.tmp 88,.tmp 93,.tmp 100]) rfl write_enters rfl (by simp[Act.eval]) (HW.out _ ((Kept.refl _ _).drew)) ?_;rintro e w3 ⟨rfl,vc3,h3⟩;refine⟨_,rfl,?_⟩))
       all_goals
        have HT2:=Lib.hid (HTK.out.trans (DevTo.behind HTK.out.dev ((Kept.refl _ _).drew) h3))
        clear h3
        go_wp2_with fail
        go_roundw
        case rel=>exact⟨k + 1,by omega,by go_num,vc3,by rw[HRR.out];exact HT2.out,by rw[HRR.out]⟩
        case measure=>simp[intOf];omega
      ·have ht:(er != 0)=true:=by simpa using he
       have HCK:Hid (X.check root log next=(er, { X with D:=D2 })):=by
        refine check_w HCB.out (r:=(er,D2)) ?_ he
        rw[flat_split X.T (fresh X.l) j (k + 1) hlt, ←HID.out, ←HPREV.out,wrAll_stop _ _ _ (by rw[HRR.out];exact he)]
        exact HRR.out
       clear he
       go_wp2_with fail
       go_region_law (first
        | (refine step_call (args := #[.tmp 88,.tmp 93,.tmp 100]) rfl write_enters rfl (by simp[Act.eval]) (HW.out _ ((Kept.refl _ _).drew)) ?_;rintro e w3 ⟨rfl,vc3,h3⟩;refine⟨_,rfl,?_⟩))
       all_goals
        have HT2:=Lib.hid (HTK.out.trans (DevTo.behind HTK.out.dev ((Kept.refl _ _).drew) h3))
        clear h3
        go_wp2_with fail
        go_ret
        exact⟨by rw[HCK.out];rfl,vc3,by rw[HCK.out];exact DevTo.stoF H.out K1.out HT2.out⟩
     ·obtain rfl:k=4:=by omega
      have HN:Hid (((fresh X.l).take (j + 1)).flatMap (pgW X.T)=prev ++ (pgW X.T id).take 4):=by
       simp only[Hid]
       have e4:(pgW X.T id).take 4=pgW X.T id:=List.take_of_length_le (by rw[pgW_len];omega)
       rw[e4,flat_take X.T _ j hlt, ←HID.out, ←HPREV.out]
      have hf128:=HFLEN.out
      have HTK:=Lib.hid hto
      have HK0:=Lib.hid h0
      clear hto h0
      go_wp2_with fail
      go_roundw
      case rel=>exact⟨j + 1,by omega,by go_num,vck,by rw[HN.out];exact HTK.out,by rw[HN.out];exact HK0.out⟩
      case measure=>simp[intOf];omega
   ·have hall:(fresh X.l).take j=fresh X.l:=List.take_of_length_le (by omega)
    rw[hall] at hto h0
    obtain⟨D1,hD1⟩:∃D1,D1=(wrAll X.D ((fresh X.l).flatMap (pgW X.T))).2:=⟨_,rfl⟩
    have HW1:Hid (wrAll X.D ((fresh X.l).flatMap (pgW X.T))=(0,D1)):=by simp only[Hid];rw[hD1, ←h0]
    have HCP:Hid (D1.cache.length≤901000):=by
     have h1:=wrAll_cache X.D ((fresh X.l).flatMap (pgW X.T))
     have h2:=HFLEN.out
     simp only[Hid]
     rw[flat_len, ←hD1] at h1
     omega
    rw[←hD1] at hto
    have hst:=(H.out.keptF K1.out).devStep hto
    have hc1:wr.cell? ⟨st,1,none⟩=some (.pointer (some ⟨d,0,none⟩)):=(cell_heap hst.head 1).trans rfl
    have HFL:=Lib.hid (DevFlush_calls hto.dev (by have:=HCP.out;omega))
    have HTO:=Lib.hid hto
    clear hto hst h0 hall hD1
    obtain⟨r1,hr1⟩:∃r,D1.flush=r:=⟨_,rfl⟩
    rw[hr1] at HFL
    have HR1:=Lib.hid hr1
    clear hr1
    obtain⟨e1,D2⟩:=r1
    by_cases he:e1=0
    ·subst he
     have HFSH:Hid (D1.flush.1=0):=by simp only[Hid];rw[HR1.out]
     obtain⟨gn,hgn⟩:∃n,n=X.sup.gen + 1:=⟨_,rfl⟩
     have HSV:Hid (s=⟨gn,root,log,next⟩):=by rw[hgn];exact HS.out
     obtain⟨g2,hg2⟩:∃n,n=gn % 2:=⟨_,rfl⟩
     obtain⟨r2,hr2⟩:∃r,D2.write (g2:Nat) (secText ⟨gn,0,supB s X.l⟩)=r:=⟨_,rfl⟩
     have hD2:D2.cache.length≤901000:=by
      have h1:=flush_cache D1
      have h2:=HCP.out
      rw[HR1.out] at h1
      simp only at h1
      omega
     have hD3:r2.2.cache.length≤901001:=by
      have h1:=write_cache D2 (g2:Nat) (secText ⟨gn,0,supB s X.l⟩)
      rw[hr2] at h1
      omega
     have HD2:=Lib.hid hD2
     have HD3:=Lib.hid hD3
     have HR2:=Lib.hid hr2
     have HR2':Hid (D1.flush.2.write ((X.sup.gen + 1) % 2:Nat) (secText ⟨X.sup.gen + 1,0,supB ⟨X.sup.gen + 1,root,log,next⟩ X.l⟩)=r2):=by
      simp only[Hid];rw[←HS.out, ←hgn,HR1.out, ←hg2];exact hr2
     obtain⟨e2,D3⟩:=r2
     obtain⟨r3,hr3⟩:∃r,D3.flush=r:=⟨_,rfl⟩
     have HR3:=Lib.hid hr3
     obtain⟨e3,D4⟩:=r3
     have q1:IntKind.i64.wrap ((X.sup.gen:Int) + 1)=(gn:Int):=by rw[IntKind.wrap_i64];omega
     have q2:Int.tmod (gn:Int) 2=(g2:Int):=by rw[Int.tmod_eq_emod_of_nonneg (by omega)];omega
     have HGN:=Lib.hid hgn
     clear hgn hg2 hr2 hr3 hD2 hD3
     go_wp2_with fail
     refine HFL.out.mono ?_
     rintro e w3 ⟨rfl,vc3,h3⟩
     have HT2:=Lib.hid (HTO.out.trans h3)
     clear h3
     have hst3:=(H.out.keptF K1.out).devStep HT2.out
     have c0:w3.cell? ⟨st,0,none⟩=some (.pointer (some ⟨b,0,none⟩)):=(cell_heap hst3.head 0).trans rfl
     have c1:w3.cell? ⟨st,1,none⟩=some (.pointer (some ⟨d,0,none⟩)):=(cell_heap hst3.head 1).trans rfl
     have c4:w3.cell? ⟨st,4,none⟩=some (.int .i64 X.sup.gen):=(cell_heap hst3.head 4).trans rfl
     have hl3:=lt_heap hst3.head
     have HST3:=Lib.hid hst3
     clear hst3
     go_wp2_with fail
     obtain⟨W,hW⟩:∃W,W=w3.alloc (.cells #[.int .i64 gn,.int .i64 root,.int .i64 log,.int .i64 next] 78):=⟨_,rfl⟩
     rw[←hW]
     have hbx:W.heap[w3.heap.size]? = some (.cells #[.int .i64 gn,.int .i64 root,.int .i64 log,.int .i64 next] 78 (0,0)):=by rw[hW];exact heap_new w3 _
     have KW:Hid (Kept (fun _=>False) w3 W):=by rw[hW];exact(Kept.refl _ _).alloc _
     have HSTW:=Lib.hid (HST3.out.keptF KW.out)
     have HBX:=Lib.hid hbx
     have b0:W.cell? ⟨w3.heap.size,0,none⟩=some (.int .i64 gn):=(cell_heap hbx 0).trans rfl
     have b1:W.cell? ⟨w3.heap.size,1,none⟩=some (.int .i64 root):=(cell_heap hbx 1).trans rfl
     have b2:W.cell? ⟨w3.heap.size,2,none⟩=some (.int .i64 log):=(cell_heap hbx 2).trans rfl
     have b3:W.cell? ⟨w3.heap.size,3,none⟩=some (.int .i64 next):=(cell_heap hbx 3).trans rfl
     have d0:W.cell? ⟨st,0,none⟩=some (.pointer (some ⟨b,0,none⟩)):=(cell_heap HSTW.out.head 0).trans rfl
     have d1:W.cell? ⟨st,1,none⟩=some (.pointer (some ⟨d,0,none⟩)):=(cell_heap HSTW.out.head 1).trans rfl
     have hlW:=lt_heap hbx
     obtain⟨sb,hsb⟩:∃t,t=ba (supB s X.l):=⟨_,rfl⟩
     have HTX:Hid (∀U,Kept (fun _=>False) W U→Calls Tryz.prog 73 #[.agg #[.int .i64 gn,.int .i64 root,.int .i64 log,.int .i64 next],.pointer (some ⟨b,0,none⟩)] U fun e w'=>e = .returned (.string sb)∧Kept (fun _=>False) U w'):=fun U hU=>by
      have h1:=SupText_calls (HSTW.out.keptF hU).sp s HSG.out
      rw[←hsb] at h1
      have e1:supV s = .agg #[.int .i64 gn,.int .i64 root,.int .i64 log,.int .i64 next]:=by rw[HSV.out];rfl
      rw[e1] at h1
      exact h1
     have HWR:Hid (∀U,Kept (fun _=>False) W U→Calls Tryz.prog 72 #[.pointer (some ⟨d,0,none⟩),.int .i64 g2,.agg #[.int .i64 gn,.int .u8 0,.string sb]] U (WritePost U d vs vc3 (e2,D3))):=fun U hU=>by
      have hgood:Sec.Good ⟨gn,0,supB s X.l⟩:=by
       have h1:=HSC.out
       rw[←HGN.out] at h1
       exact h1
      have h1:=StWrite_calls (HSTW.out.keptF hU).dev (g2:Nat) ⟨gn,0,supB s X.l⟩ hgood (by have:=HD2.out;simp only;omega)
      have h2:=HR2.out
      simp only at h1
      rw[h2] at h1
      unfold secOf secV at h1
      simp only at h1
      rw[←hsb] at h1
      exact h1
     have HNE:Hid (¬(st=d∨vs.ownBlock=some st∨vc3.ownBlock=some st)):=HSTW.out.dev.not HSTW.out.head (by decide) (by decide) (by decide)
     have HNB:Hid (¬(w3.heap.size=d∨vs.ownBlock=some w3.heap.size∨vc3.ownBlock=some w3.heap.size)):=HSTW.out.dev.not hbx (by decide) (by decide) (by decide)
     clear hW hbx hsb c0 c1 c4 q1 hl3
     go_cut [16] from 125 to 141 (fun v wx=>v = .int .i64 e2 ∧ ∃vc4,DevTo W d vs vc3 wx vc4 D3)
     case first =>
      go_region_held3 (fun w'=>w'.cell? ⟨st,0,none⟩=some (.pointer (some ⟨b,0,none⟩))∧w'.cell? ⟨st,1,none⟩=some (.pointer (some ⟨d,0,none⟩))∧w'.cell? ⟨w3.heap.size,0,none⟩=some (.int .i64 gn)∧w'.cell? ⟨w3.heap.size,1,none⟩=some (.int .i64 root)∧w'.cell? ⟨w3.heap.size,2,none⟩=some (.int .i64 log)∧w'.cell? ⟨w3.heap.size,3,none⟩=some (.int .i64 next)) (go_keep)
       (first
        | (go_at_call 73;refine(HTX.out _ (by repeat (first|exact Kept.refl _ _|refine Kept.drew ?_|refine Kept.alloc ?_ _))).mono ?_;rintro e w4 ⟨rfl,k4⟩;have K4:Hid (Kept (fun _=>False) W w4):=Kept.trans (by repeat (first|exact Kept.refl _ _|refine Kept.drew ?_|refine Kept.alloc ?_ _)) k4;have hs4:=(HSTW.out.keptF K4.out).head;have hx4:=K4.out.heap HBX.out id;have x0:w4.cell? ⟨st,0,none⟩=some (.pointer (some ⟨b,0,none⟩)):=(cell_heap hs4 0).trans rfl;have x1:w4.cell? ⟨st,1,none⟩=some (.pointer (some ⟨d,0,none⟩)):=(cell_heap hs4 1).trans rfl;have y0:w4.cell? ⟨w3.heap.size,0,none⟩=some (.int .i64 gn):=(cell_heap hx4 0).trans rfl;have y1:w4.cell? ⟨w3.heap.size,1,none⟩=some (.int .i64 root):=(cell_heap hx4 1).trans rfl;have y2:w4.cell? ⟨w3.heap.size,2,none⟩=some (.int .i64 log):=(cell_heap hx4 2).trans rfl;have y3:w4.cell? ⟨w3.heap.size,3,none⟩=some (.int .i64 next):=(cell_heap hx4 3).trans rfl;clear k4 hs4 hx4)
        | (go_at_call 72;refine(HWR.out _ (by repeat (first|exact K4.out|exact Kept.refl _ _|refine Kept.drew ?_|refine Kept.alloc ?_ _))).mono ?_;rintro e w5 ⟨rfl,vc4,h4⟩;have H4:Hid (DevTo W d vs vc3 w5 vc4 D3):=DevTo.behind HSTW.out.dev (by repeat (first|exact K4.out|exact Kept.refl _ _|refine Kept.drew ?_|refine Kept.alloc ?_ _)) h4;have hs5:=H4.out.kept.heap HSTW.out.head HNE.out;have hx5:=H4.out.kept.heap HBX.out HNB.out;have u0:w5.cell? ⟨st,0,none⟩=some (.pointer (some ⟨b,0,none⟩)):=(cell_heap hs5 0).trans rfl;have u1:w5.cell? ⟨st,1,none⟩=some (.pointer (some ⟨d,0,none⟩)):=(cell_heap hs5 1).trans rfl;have z0:w5.cell? ⟨w3.heap.size,0,none⟩=some (.int .i64 gn):=(cell_heap hx5 0).trans rfl;have z1:w5.cell? ⟨w3.heap.size,1,none⟩=some (.int .i64 root):=(cell_heap hx5 1).trans rfl;have z2:w5.cell? ⟨w3.heap.size,2,none⟩=some (.int .i64 log):=(cell_heap hx5 2).trans rfl;have z3:w5.cell? ⟨w3.heap.size,3,none⟩=some (.int .i64 next):=(cell_heap hx5 3).trans rfl;clear h4 hs5 hx5))
      all_goals (try go_wp2_with fail)
      all_goals go_meet
      all_goals exact⟨rfl,vc4,H4.out⟩
     case rest =>
      obtain⟨rfl,vc4,h4⟩:=hcut
      have HT4:=Lib.hid (HT2.out.trans (DevTo.behind HT2.out.dev KW.out h4))
      have HST4:=Lib.hid (HSTW.out.devStep h4)
      have hx4:=h4.kept.heap HBX.out HNB.out
      have HX4:=Lib.hid hx4
      have c1:wc.cell? ⟨st,1,none⟩=some (.pointer (some ⟨d,0,none⟩)):=(cell_heap HST4.out.head 1).trans rfl
      clear h4 b0 b1 b2 b3 d0 d1 hlW hx4
      by_cases he2:e2=0
      ·subst he2
       have HFL2:=Lib.hid (DevFlush_calls HST4.out.dev (by have:=HD3.out;simp only at this⊢;omega))
       rw[HR3.out] at HFL2
       by_cases he3:e3=0
       ·subst he3
        have HCK:Hid (X.check root log next=(0, { X with l:=kp X.l,sup:=s,D:=D4 })):=by
         have h1:=check_e (root:=root) (log:=(log:Int)) (next:=(next:Int)) HCB.out HW1.out HFSH.out (D2:=D3) HR2'.out
         rw[HR3.out,if_pos rfl] at h1
         simp only[Hid]
         rw[h1,HS.out]
         rfl
        go_wp2_with fail
        refine HFL2.out.mono ?_
        rintro e w5 ⟨rfl,vc5,h5⟩
        have HT5:=Lib.hid (HT4.out.trans h5)
        have HST5:=Lib.hid (HST4.out.devStep h5)
        have hx5:=h5.kept.heap HX4.out (HST4.out.dev.not HX4.out (by decide) (by decide) (by decide))
        have hs5:=HST5.out.head
        have b0:w5.cell? ⟨w3.heap.size,0,none⟩=some (.int .i64 gn):=(cell_heap hx5 0).trans rfl
        have b1:w5.cell? ⟨w3.heap.size,1,none⟩=some (.int .i64 root):=(cell_heap hx5 1).trans rfl
        have b2:w5.cell? ⟨w3.heap.size,2,none⟩=some (.int .i64 log):=(cell_heap hx5 2).trans rfl
        have b3:w5.cell? ⟨w3.heap.size,3,none⟩=some (.int .i64 next):=(cell_heap hx5 3).trans rfl
        have d0:w5.cell? ⟨st,0,none⟩=some (.pointer (some ⟨b,0,none⟩)):=(cell_heap hs5 0).trans rfl
        have d4:w5.cell? ⟨st,4,none⟩=some (.int .i64 X.sup.gen):=(cell_heap hs5 4).trans rfl
        have d5:w5.cell? ⟨st,5,none⟩=some (.int .i64 X.sup.root):=(cell_heap hs5 5).trans rfl
        have d6:w5.cell? ⟨st,6,none⟩=some (.int .i64 X.sup.log):=(cell_heap hs5 6).trans rfl
        have d7:w5.cell? ⟨st,7,none⟩=some (.int .i64 X.sup.next):=(cell_heap hs5 7).trans rfl
        have f4:=free_heap hs5 4
        have f5:=free_heap hs5 5
        have f6:=free_heap hs5 6
        have f7:=free_heap hs5 7
        clear h5 hx5 hs5
        go_wp2_with fail
        obtain⟨W6,hW6⟩:∃W6,W6=(((w5.setCell ⟨st,4,none⟩ (.int .i64 gn)).setCell ⟨st,5,none⟩ (.int .i64 root)).setCell ⟨st,6,none⟩ (.int .i64 log)).setCell ⟨st,7,none⟩ (.int .i64 next):=⟨_,rfl⟩
        rw[←hW6]
        have KW6:Hid (Kept (· = st) w5 W6):=by rw[hW6];exact((((Kept.refl _ _).set1 4 _).set1 5 _).set1 6 _).set1 7 _
        have HSP6:Hid (IsSp W6 b c X.l):=by
         have h1:=HST5.out.sp
         exact⟨KW6.out.heap h1.head (fun e=>ne_type h1.head HST5.out.head (by decide) e),KW6.out.heap h1.row (fun e=>ne_type h1.row HST5.out.head (by decide) e),h1.le,h1.len⟩
        have HW6:=Lib.hid hW6
        clear hW6 b0 b1 b2 b3 d0 d4 d5 d6 d7 f4 f5 f6 f7
        refine(Keep_calls HSP6.out).mono ?_
        rintro e w7 ⟨rfl,h7,k7⟩
        obtain⟨es,clock,hm⟩:=HST5.out.put.heap
        have hm7:=k7.heap (KW6.out.heap hm (fun e=>map_ne hm HST5.out.head e.symm)) (fun e=>map_ne hm HST5.out.sp.row e.symm)
        have hclr:=run_clear_map (P:=Tryz.prog) und_dirty hm7
        have hh6:W6.heap[st]? = some (.cells (stoCells b d m p g ⟨gn,root,log,next⟩) 81 (0,0)):=by rw[HW6.out];exact sto_sup HST5.out.head ⟨gn,root,log,next⟩
        have hh7:=k7.heap hh6 (fun e=>ne_type HST5.out.head HST5.out.sp.row (by decide) e)
        have c8:w7.cell? ⟨st,8,none⟩=some (.map (some m)):=(cell_heap hh7 8).trans rfl
        obtain⟨w8,hw8⟩:∃w8,w8=setBlock w7 m (.map #[] clock):=⟨_,rfl⟩
        rw[←hw8] at hclr
        have hend:=ck_end HST5.out ⟨gn,root,log,next⟩ HW6.out k7 h7 hm7
        rw[←hw8] at hend
        have HEND:=Lib.hid hend
        clear hw8 hend hm hm7 hh6 hh7 h7 k7
        go_wp2_with fail
        go_ret
        have s5:=DevTo.stoF H.out K1.out HT5.out
        exact⟨by rw[HCK.out];rfl,vc5,by rw[HCK.out,HSV.out];exact⟨HEND.out.1,s5.kept.trans (HEND.out.2.mono fun k _ e=>by rcases e with e|e|e;exact .inl e;exact .inr (.inl e);exact .inr (.inr (.inl e))),s5.own⟩⟩
       ·have ht:(e3 != 0)=true:=by simpa using he3
        have HCK:Hid (X.check root log next=(e3, { X with D:=D4 })):=by
         have h1:=check_e (root:=root) (log:=(log:Int)) (next:=(next:Int)) HCB.out HW1.out HFSH.out (D2:=D3) HR2'.out
         rw[HR3.out,if_neg he3] at h1
         exact h1
        clear he3
        go_wp2_with fail
        refine HFL2.out.mono ?_
        rintro e w5 ⟨rfl,vc5,h5⟩
        have HT5:=Lib.hid (HT4.out.trans h5)
        clear h5
        go_wp2_with fail
        go_ret
        exact⟨by rw[HCK.out];rfl,vc5,by rw[HCK.out];exact DevTo.stoF H.out K1.out HT5.out⟩
      ·have ht:(e2 != 0)=true:=by simpa using he2
       have HCK:Hid (X.check root log next=(e2, { X with D:=D3 })):=by
        have h1:=check_s (root:=root) (log:=(log:Int)) (next:=(next:Int)) HCB.out HW1.out HFSH.out HR2'.out he2
        exact h1
       clear he2
       go_wp2_with fail
       go_ret
       exact⟨by rw[HCK.out];rfl,vc4,by rw[HCK.out];exact DevTo.stoF H.out K1.out HT4.out⟩
    ·have ht:(e1 != 0)=true:=by simpa using he
     have HCK:Hid (X.check root log next=(e1, { X with D:=D2 })):=by
      have:=check_f HCB.out HW1.out (by rw[HR1.out];exact he)
      rw[HR1.out] at this
      exact this
     clear he
     go_wp2_with fail
     refine HFL.out.mono ?_
     rintro e w3 ⟨rfl,vc3,h3⟩
     have HT2:=Lib.hid (HTO.out.trans h3)
     clear h3
     go_wp2_with fail
     go_ret
     exact⟨by rw[HCK.out];rfl,vc3,by rw[HCK.out];exact DevTo.stoF H.out K1.out HT2.out⟩
end Go.Proofs.YtfgjehecjgebdaaGreat
