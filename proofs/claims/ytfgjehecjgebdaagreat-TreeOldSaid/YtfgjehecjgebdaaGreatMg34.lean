/- A store's Undo. -/
import Derived.Test.YtfgjehecjgebdaaGreatMg31
namespace Go.Proofs.YtfgjehecjgebdaaGreat
open Go.RowKit Go.Maps Go.ChangeMaps
def UndoPost (w:World) (st b c m d:Nat) (vs vc:Value) (p g:Nat) (X:Sto) (e:Ending) (w':World):Prop :=
 e = .returned (.tuple #[])∧Kept (fun i=>i=c∨i=m) w w'∧IsStore w' st b c m d vs vc p g { X with l:=ud X.l }
set_option maxRecDepth 100000 in
theorem StoUndo_calls {w st b c m d vs vc p g X} (h:IsStore w st b c m d vs vc p g X) :
  Calls Tryz.prog 23 #[.pointer (some ⟨st,0,none⟩)] w (UndoPost w st b c m d vs vc p g X):=by
 have H:=Lib.hid h
 have hc0:w.cell? ⟨st,0,none⟩=some (.pointer (some ⟨b,0,none⟩)):=(cell_heap h.head 0).trans rfl
 have HSP:=Lib.hid (Undo_calls h.sp)
 have hcm:Hid (c ≠ m):=by obtain⟨es,clock,hm⟩:=H.out.put.heap;exact map_ne hm H.out.sp.row
 clear h
 go_enter Tryz.func23,Tryz.ntmps23
 go_wp2_with fail
 refine HSP.out.mono ?_
 rintro e w1 ⟨rfl,h1,k1⟩
 have H1:=Lib.hid h1
 have K1:=Lib.hid k1
 have P1:=Lib.hid (H.out.put.kept k1 (fun e=>hcm.out e.symm))
 have hhd:=k1.heap H.out.head (fun e=>ne_type H.out.head H.out.sp.row (by decide) e)
 have hc8:w1.cell? ⟨st,8,none⟩=some (.map (some m)):=(cell_heap hhd 8).trans rfl
 obtain⟨es,clock,hm⟩:=P1.out.heap
 have hclr:=run_clear_map (P:=Tryz.prog) und_dirty hm
 obtain⟨w2,hw2⟩:∃w2,w2=setBlock w1 m (.map #[] clock):=⟨_,rfl⟩
 rw[←hw2] at hclr
 have K2:Hid (Kept (· = m) w1 w2):=by rw[hw2];exact setBlock_kept hm _
 have P2:Hid (IsPut w2 m (ud X.l) X.T):=by rw[hw2];exact IsPut.cleared _ _ (ud_no2 _) hm
 have HM:=Lib.hid hm
 clear h1 k1 hhd hw2 hm
 go_wp2_with fail
 go_end0
 have hk2:Kept (fun i=>i=c∨i=m) w w2:=(K1.out.mono fun _ _ e=>.inl e).trans (K2.out.mono fun _ _ e=>.inr e)
 refine⟨rfl,hk2,?_⟩
 have hsp2:IsSp w2 b c (ud X.l):=by
  have h1:=H1.out
  exact⟨K2.out.heap h1.head (map_ne HM.out h1.head),K2.out.heap h1.row hcm.out,h1.le,h1.len⟩
 exact H.out.turned hk2 hsp2 P2.out (by simp[ud,chg_len])
end Go.Proofs.YtfgjehecjgebdaaGreat
