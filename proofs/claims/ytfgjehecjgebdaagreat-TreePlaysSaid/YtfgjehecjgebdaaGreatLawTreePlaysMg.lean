/- TreePlays: any calls on a tree of many pages: each answer is as it should be; its form and its entries too behind each. No condition. -/
import Derived.Test.YtfgjehecjgebdaaGreatMg54
import Derived.Test.YtfgjehecjgebdaaGreatMg09
namespace Go.Proofs.YtfgjehecjgebdaaGreat.treePlays
open Go.ChangeShapes Go.WideShapes Go.ChangeAt Go.RowKit
theorem walk {A:Option Addr} {len cap b0 off:Nat} {K N:Nat→Int} {S V:Nat→ByteArray} {w:World} (hm:len≤maxLen) (hA:Acts4 w A len b0 off K N S V) :
  Calls Tryz.prog 12 #[.slice A len cap] w fun e w'=>e = .returned (.bool true)∧Below w.heap.size w w' :=
 (treePlays_walk hm hA).mono fun _ _ h=>⟨h.1,h.2.below⟩
set_option maxRecDepth 100000 in
theorem lifted (os:Os) (started:os.Started) (H:Type) (enc:TypeId×Value→H) :
  ReturnsInHanded {} Tryz.checked os 12 .any (Rows.treePlaysSpec.pre6 enc Tryz.prog Tryz.f12 Rows.treePlaysRow.domain false) (Rows.treePlaysSpec.post enc Tryz.prog Tryz.f12 false true false false):=by
 refine returnsInHanded_of_change_sized (C:=Tryz.checked) law_own started (by kernel_rfl) Tryz.func12
  (ChangeSpec.witness6 (enc:=enc) (C:=Tryz.checked) false ⟨#[],#[.slice none 0 0], []⟩ 8 (by kernel_rfl) (by kernel_rfl) (by kernel_rfl) (by kernel_rfl)) ?_
 intro W base args ds gs before hval0 hW hcnd hsz0 _
 have hval:∀(j:Nat) t v,Tryz.f12.params[j]? = some t→args[j]? = some v→Value.okWide Tryz.prog W .any base t v:=hval0
 have hsz:(DataW.weightsEach Tryz.prog (Tryz.f12.params.toList ++ Rows.treePlaysSpec.plain.varTypes Tryz.prog) (ds ++ gs)).all (· ≤ reachBytes)=true:=hsz0
 clear hsz0 hcnd
 have hW':=hW
 obtain⟨p,q,hA0,hV,rfl,hfz,hnd⟩:=hW
 have hA:DataW.TrodAll enc Tryz.prog W 0 (fun _=>true) true Tryz.f12.params.toList args.toList ds p:=hA0
 rw[Tryz.params12] at hA hval hsz
 obtain⟨v0,vs0,d0,ds0,p0,q0,hargs,rfl,rfl,h0,r0⟩:=trodAll_cons hA
 obtain⟨rfl,rfl,rfl⟩:=trodAll_nil r0
 obtain rfl:args = #[v0]:=by cases args;simp_all
 obtain⟨rfl,rfl⟩:=trodVars_none hV
 obtain⟨A0,len0,cap0,b0,off0,K0,N0,S0,V0,rfl,m0,y0⟩:=open_acts4 (ti:=3) (ts:=9) Tryz.underlying67 Tryz.underlying72 (by kernel_rfl) (by kernel_rfl) rfl rfl rfl rfl Tryz.underlying3 Tryz.underlying9 (hval 0 67 v0 rfl rfl) h0
 refine(walk m0 y0).mono fun e W' ⟨he,hb⟩=>?_
 subst he
 exact⟨_,rfl,law_post hW' rfl rfl rfl rfl (by kernel_rfl) Tryz.underlying4 law_laid (by kernel_rfl) hb⟩
theorem over:Rows.treePlaysRow.holds Tryz.pinned (OpenSpec.ofChange Rows.treePlaysSpec) :=
 OpenClaim.holds_of_wide 12 Tryz.f12 rfl rfl rfl rfl rfl rfl rfl ⟨rfl,rfl,rfl,rfl,rfl⟩ rfl rfl rfl rfl rfl (by kernel_rfl) Tryz.func12 (by kernel_rfl)
  (of_decide_eq_true (by kernel_rfl)) (by unfold Func.isWrapper;first|(rw[if_pos (by decide +kernel)];kernel_rfl)|(rw[if_neg (by decide +kernel)];exact⟨rfl,rfl⟩))
  (fun os started H enc _=>lifted os started H enc)
theorem proved:Rows.TreePlaysSaid:=over
end Go.Proofs.YtfgjehecjgebdaaGreat.treePlays
