/- TreeFull: on few pages what finds no page is told, and changes nothing, also which pages are in use; the tree stays sound. No condition. -/
import Derived.Test.YtfgjehecjgebdaaGreatMg54
import Derived.Test.YtfgjehecjgebdaaGreatMg11
namespace Go.Proofs.YtfgjehecjgebdaaGreat.treeFull
open Go.ChangeShapes Go.WideShapes Go.ChangeAt Go.RowKit
theorem walk (nn:Int) (_hr : -9223372036854775808≤nn∧nn≤9223372036854775807) {A:Option Addr} {len cap b0 off:Nat} {K N:Nat→Int} {S V:Nat→ByteArray} {w:World} (hm:len≤maxLen) (hA:Acts4 w A len b0 off K N S V) :
  Calls Tryz.prog 5 #[.int .i64 nn,.slice A len cap] w fun e w'=>e = .returned (.bool true)∧Below w.heap.size w w' :=
 (treeFull_walk nn hm hA).mono fun _ _ h=>⟨h.1,h.2.below⟩
set_option maxRecDepth 100000 in
theorem lifted (os:Os) (started:os.Started) (H:Type) (enc:TypeId×Value→H) :
  ReturnsInHanded {} Tryz.checked os 5 .any (Rows.treeFullSpec.pre6 enc Tryz.prog Tryz.f5 Rows.treeFullRow.domain false) (Rows.treeFullSpec.post enc Tryz.prog Tryz.f5 false true false false):=by
 refine returnsInHanded_of_change_sized (C:=Tryz.checked) law_own started (by kernel_rfl) Tryz.func5
  (ChangeSpec.witness6 (enc:=enc) (C:=Tryz.checked) false ⟨#[],#[.int .i64 0,.slice none 0 0], []⟩ 8 (by kernel_rfl) (by kernel_rfl) (by kernel_rfl) (by kernel_rfl)) ?_
 intro W base args ds gs before hval0 hW hcnd hsz0 _
 have hval:∀(j:Nat) t v,Tryz.f5.params[j]? = some t→args[j]? = some v→Value.okWide Tryz.prog W .any base t v:=hval0
 have hsz:(DataW.weightsEach Tryz.prog (Tryz.f5.params.toList ++ Rows.treeFullSpec.plain.varTypes Tryz.prog) (ds ++ gs)).all (· ≤ reachBytes)=true:=hsz0
 clear hsz0 hcnd
 have hW':=hW
 obtain⟨p,q,hA0,hV,rfl,hfz,hnd⟩:=hW
 have hA:DataW.TrodAll enc Tryz.prog W 0 (fun _=>true) true Tryz.f5.params.toList args.toList ds p:=hA0
 rw[Tryz.params5] at hA hval hsz
 obtain⟨v0,vs0,d0,ds0,p0,q0,hargs,rfl,rfl,h0,r0⟩:=trodAll_cons hA
 obtain⟨v1,vs1,d1,ds1,p1,q1,rfl,rfl,rfl,h1,r1⟩:=trodAll_cons r0
 obtain⟨rfl,rfl,rfl⟩:=trodAll_nil r1
 obtain rfl:args = #[v0,v1]:=by cases args;simp_all
 obtain⟨rfl,rfl⟩:=trodVars_none hV
 obtain⟨a0,rfl,rfl,rfl,w0⟩:=open_int Tryz.underlying3 (hval 0 3 v0 rfl rfl) h0
 obtain⟨A1,len1,cap1,b1,off1,K1,N1,S1,V1,rfl,m1,y1⟩:=open_acts4 (ti:=3) (ts:=9) Tryz.underlying67 Tryz.underlying72 (by kernel_rfl) (by kernel_rfl) rfl rfl rfl rfl Tryz.underlying3 Tryz.underlying9 (hval 1 67 v1 rfl rfl) h1
 refine(walk a0 (bounds_i64 w0) m1 y1).mono fun e W' ⟨he,hb⟩=>?_
 subst he
 exact⟨_,rfl,law_post hW' rfl rfl rfl rfl (by kernel_rfl) Tryz.underlying4 law_laid (by kernel_rfl) hb⟩
theorem over:Rows.treeFullRow.holds Tryz.pinned (OpenSpec.ofChange Rows.treeFullSpec) :=
 OpenClaim.holds_of_wide 5 Tryz.f5 rfl rfl rfl rfl rfl rfl rfl ⟨rfl,rfl,rfl,rfl,rfl⟩ rfl rfl rfl rfl rfl (by kernel_rfl) Tryz.func5 (by kernel_rfl)
  (of_decide_eq_true (by kernel_rfl)) (by unfold Func.isWrapper;first|(rw[if_pos (by decide +kernel)];kernel_rfl)|(rw[if_neg (by decide +kernel)];exact⟨rfl,rfl⟩))
  (fun os started H enc _=>lifted os started H enc)
theorem proved:Rows.TreeFullSaid:=over
end Go.Proofs.YtfgjehecjgebdaaGreat.treeFull
