/- TreeOld: a root that a checkpoint has is read as it was then, whatever changes later; Undo brings the checkpoint's pages back. No condition. -/
import Derived.Test.YtfgjehecjgebdaaGreatMg54
import Derived.Test.YtfgjehecjgebdaaGreatMg11
namespace Go.Proofs.YtfgjehecjgebdaaGreat.treeOld
open Go.ChangeShapes Go.WideShapes Go.ChangeAt Go.RowKit
theorem walk {A A2:Option Addr} {len cap b0 off len2 cap2 b02 off2:Nat} {K N K2 N2:Nat→Int} {S V S2 V2:Nat→ByteArray} {w:World} (hm:len≤maxLen) (hA:Acts4 w A len b0 off K N S V) (hm2:len2≤maxLen) (hA2:Acts4 w A2 len2 b02 off2 K2 N2 S2 V2) :
  Calls Tryz.prog 7 #[.slice A len cap,.slice A2 len2 cap2] w fun e w'=>e = .returned (.bool true)∧Below w.heap.size w w' :=
 (treeOld_walk hm hA hm2 hA2).mono fun _ _ h=>⟨h.1,h.2.below⟩
set_option maxRecDepth 100000 in
theorem lifted (os:Os) (started:os.Started) (H:Type) (enc:TypeId×Value→H) :
  ReturnsInHanded {} Tryz.checked os 7 .any (Rows.treeOldSpec.pre6 enc Tryz.prog Tryz.f7 Rows.treeOldRow.domain false) (Rows.treeOldSpec.post enc Tryz.prog Tryz.f7 false true false false):=by
 refine returnsInHanded_of_change_sized (C:=Tryz.checked) law_own started (by kernel_rfl) Tryz.func7
  (ChangeSpec.witness6 (enc:=enc) (C:=Tryz.checked) false ⟨#[],#[.slice none 0 0,.slice none 0 0], []⟩ 8 (by kernel_rfl) (by kernel_rfl) (by kernel_rfl) (by kernel_rfl)) ?_
 intro W base args ds gs before hval0 hW hcnd hsz0 _
 have hval:∀(j:Nat) t v,Tryz.f7.params[j]? = some t→args[j]? = some v→Value.okWide Tryz.prog W .any base t v:=hval0
 have hsz:(DataW.weightsEach Tryz.prog (Tryz.f7.params.toList ++ Rows.treeOldSpec.plain.varTypes Tryz.prog) (ds ++ gs)).all (· ≤ reachBytes)=true:=hsz0
 clear hsz0 hcnd
 have hW':=hW
 obtain⟨p,q,hA0,hV,rfl,hfz,hnd⟩:=hW
 have hA:DataW.TrodAll enc Tryz.prog W 0 (fun _=>true) true Tryz.f7.params.toList args.toList ds p:=hA0
 rw[Tryz.params7] at hA hval hsz
 obtain⟨v0,vs0,d0,ds0,p0,q0,hargs,rfl,rfl,h0,r0⟩:=trodAll_cons hA
 obtain⟨v1,vs1,d1,ds1,p1,q1,rfl,rfl,rfl,h1,r1⟩:=trodAll_cons r0
 obtain⟨rfl,rfl,rfl⟩:=trodAll_nil r1
 obtain rfl:args = #[v0,v1]:=by cases args;simp_all
 obtain⟨rfl,rfl⟩:=trodVars_none hV
 obtain⟨A0,len0,cap0,b0,off0,K0,N0,S0,V0,rfl,m0,y0⟩:=open_acts4 (ti:=3) (ts:=9) Tryz.underlying67 Tryz.underlying72 (by kernel_rfl) (by kernel_rfl) rfl rfl rfl rfl Tryz.underlying3 Tryz.underlying9 (hval 0 67 v0 rfl rfl) h0
 obtain⟨A1,len1,cap1,b1,off1,K1,N1,S1,V1,rfl,m1,y1⟩:=open_acts4 (ti:=3) (ts:=9) Tryz.underlying67 Tryz.underlying72 (by kernel_rfl) (by kernel_rfl) rfl rfl rfl rfl Tryz.underlying3 Tryz.underlying9 (hval 1 67 v1 rfl rfl) h1
 refine(walk m0 y0 m1 y1).mono fun e W' ⟨he,hb⟩=>?_
 subst he
 exact⟨_,rfl,law_post hW' rfl rfl rfl rfl (by kernel_rfl) Tryz.underlying4 law_laid (by kernel_rfl) hb⟩
theorem over:Rows.treeOldRow.holds Tryz.pinned (OpenSpec.ofChange Rows.treeOldSpec) :=
 OpenClaim.holds_of_wide 7 Tryz.f7 rfl rfl rfl rfl rfl rfl rfl ⟨rfl,rfl,rfl,rfl,rfl⟩ rfl rfl rfl rfl rfl (by kernel_rfl) Tryz.func7 (by kernel_rfl)
  (of_decide_eq_true (by kernel_rfl)) (by unfold Func.isWrapper;first|(rw[if_pos (by decide +kernel)];kernel_rfl)|(rw[if_neg (by decide +kernel)];exact⟨rfl,rfl⟩))
  (fun os started H enc _=>lifted os started H enc)
theorem proved:Rows.TreeOldSaid:=over
end Go.Proofs.YtfgjehecjgebdaaGreat.treeOld
