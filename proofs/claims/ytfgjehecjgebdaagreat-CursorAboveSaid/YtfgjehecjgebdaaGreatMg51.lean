/- A cursor from a key on; the entries of a range. -/
import Derived.Test.YtfgjehecjgebdaaGreatMg50
namespace Go.Proofs.YtfgjehecjgebdaaGreat
open Go.RowKit Go.Maps Go.ChangeMaps
set_option maxHeartbeats 4000000
set_option maxRecDepth 100000
attribute [local go_sem] Oper.semAt_some
theorem fromE_in {X:Sto} {root:Int} {E:List KV} (t:TI X root E) (k:Bs):(root = -1∧fromE E k = []) ∨ ∃(r h:Nat),root=r∧X.gd r∧(∃lo hi,WF X h (X.nd r) lo hi)∧h≤4∧StkOk X h (dwnC X k h (X.nd r))∧stkE X h (dwnC X k h (X.nd r))=fromE E k:=by
 rcases t.sound with⟨rfl,rfl, -⟩|⟨r,h,rfl,hg,wf,hE, -, -,hh⟩
 ·exact .inl ⟨rfl,rfl⟩
 ·obtain⟨h1,h2⟩:=dwn_ok h (X.nd r) wf (gd_nd_ok hg) (inR_all k)
  exact .inr ⟨r,h,rfl,hg,⟨_,_,wf⟩,hh,h1,by rw[h2,hE]⟩
def AtTo (X:Sto) (E:List KV) (w:World) (t:Nat) (e:Ending) (w':World):Prop :=
 ∃c v H,e = .returned (.tuple #[.pointer (some ⟨c,0,none⟩),.int .i64 0])∧CurAt X H E w' w.heap.size c t v∧Kept (fun _=>False) w w' ∧ ∀g,v.ownBlock=some g→w.heap.size≤g
theorem CurAt_calls {w q X root E} (tw:TW w q X root) (ti:TI X root E) (k:Bs):Calls Tryz.prog 47 #[.pointer (some ⟨q.t,0,none⟩),.string (ba k)] w (AtTo X (fromE E k) w q.t):=by
 have CR:=Lib.hid fun w' (kk:Kept (fun _=>False) w w')=>TreeRoot_calls (tw.keptF kk)
 have HT:=Lib.hid tw;have HLO:=Lib.hid tw.low
 obtain⟨c,hc⟩:∃c,c=w.heap.size:=⟨_,rfl⟩
 obtain⟨W,hW⟩:∃W,W=w.alloc (.cells #[.pointer (some ⟨q.t,0,none⟩),.slice none 0 0] 184):=⟨_,rfl⟩
 have KW:Hid (Kept (fun _=>False) w W):=by rw[hW];exact(Kept.refl _ _).alloc _
 have C0:Hid (IsCur W c c q.t (.slice none 0 0) []):=⟨by rw[hW,hc];exact heap_new w _,IsStk.nil _ _,Nat.le_refl _⟩
 rcases fromE_in ti k with⟨rfl,he⟩|⟨r,h,rfl,hg,⟨lo,hi,wf⟩,hh,d1,d2⟩
 ·rw[he]
  have HC:=Lib.hid hc
  clear ti tw he
  go_enter Tryz.func47,Tryz.ntmps47
  go_wp2_with fail
  rw[←hW, ←hc]
  clear hW hc
  refine(CR.out _ KW.out).mono ?_
  rintro e w1 ⟨rfl,rfl⟩
  go_wp2
  refine bodyPost_ret (v:=.tuple #[.pointer (some ⟨c,0,none⟩),.int .i64 0]) (by simp[results,Tryz.f47,go_sem]) rfl ?_
  exact⟨c,_,0,rfl,⟨⟨[],by rw[←HC.out];exact C0.out,trivial,rfl⟩,by omega⟩,KW.out,fun g hg=>by cases hg⟩
 ·rw[←d2]
  have HC:=Lib.hid hc
  have CD:=Lib.hid (CurDown_calls (HT.out.keptF KW.out) C0.out (by rw[hc];exact HLO.out) k hg wf (by simp;omega))
  obtain⟨ks,hks⟩:∃s,s=ba k:=⟨_,rfl⟩
  rw[←hks] at CD⊢
  clear ti tw hg wf d2 hks
  go_enter Tryz.func47,Tryz.ntmps47
  go_wp2_with fail
  rw[←hW, ←hc]
  clear hW hc
  refine(CR.out _ KW.out).mono ?_
  rintro e w1 ⟨rfl,rfl⟩
  go_wp2_with fail
  refine(CR.out _ KW.out).mono ?_
  rintro e w1 ⟨rfl,rfl⟩
  go_wp2_with fail
  refine CD.out.mono ?_
  rintro e w2 ⟨rfl,v2,c2,k2,o2⟩
  rw[List.nil_append] at c2
  have C2:=Lib.hid c2
  have K2:Hid (Kept (fun _=>False) w w2):=KW.out.then k2 fun i hi e=>by
   rcases e with e|e
   ·have:=HC.out;omega
   ·cases e
  have O2:Hid (∀g,v2.ownBlock=some g→w.heap.size≤g):=fun g hg=>by
   rcases o2 with e|e
   ·rw[e] at hg;cases hg
   ·have:=e g hg;have:=KW.out.size;omega
  clear c2 k2 o2
  go_wp2
  refine bodyPost_ret (v:=.tuple #[.pointer (some ⟨c,0,none⟩),.int .i64 0]) (by simp[results,Tryz.f47,go_sem]) rfl ?_
  exact⟨c,v2,h,rfl,⟨⟨_,by rw[←HC.out];exact C2.out,d1,rfl⟩,by omega⟩,K2.out,O2.out⟩
end Go.Proofs.YtfgjehecjgebdaaGreat
