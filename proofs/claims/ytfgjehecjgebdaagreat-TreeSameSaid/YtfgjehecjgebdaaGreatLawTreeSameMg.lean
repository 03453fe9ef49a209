/- TreeSame: whatever the order in which keys are put, the tree has the same entries, in a sound form; when all are deleted it is empty. No condition. -/
import Derived.Test.YtfgjehecjgebdaaGreatMg54
namespace Go.Proofs.YtfgjehecjgebdaaGreat.treeSame
open Go.ChangeShapes Go.WideShapes Go.ChangeAt Go.RowKit
theorem walk {A A1:Option Addr} {len cap b0 off len1 cap1 b1 off1:Nat} {S:Nat→ByteArray} {N:Nat→Int} {w:World} (hm:len≤maxLen) (hA:Strs w A len b0 off S) (hm1:len1≤maxLen) (hA1:Nums w A1 len1 b1 off1 N) :
  Calls Tryz.prog 6 #[.slice A len cap,.slice A1 len1 cap1] w fun e w'=>e = .returned (.bool true)∧Below w.heap.size w w' :=
 (treeSame_walk hm hA hm1 hA1).mono fun _ _ h=>⟨h.1,h.2.below⟩
set_option maxRecDepth 100000 in
theorem lifted (os:Os) (started:os.Started) (H:Type) (enc:TypeId×Value→H) :
  ReturnsInHanded {} Tryz.checked os 6 .any (Rows.treeSameSpec.pre6 enc Tryz.prog Tryz.f6 Rows.treeSameRow.domain false) (Rows.treeSameSpec.post enc Tryz.prog Tryz.f6 false true false false):=by
 refine returnsInHanded_of_change_sized (C:=Tryz.checked) law_own started (by kernel_rfl) Tryz.func6
  (ChangeSpec.witness6 (enc:=enc) (C:=Tryz.checked) false ⟨#[],#[.slice none 0 0,.slice none 0 0], []⟩ 8 (by kernel_rfl) (by kernel_rfl) (by kernel_rfl) (by kernel_rfl)) ?_
 intro W base args ds gs before hval0 hW hcnd hsz0 _
 have hval:∀(j:Nat) t v,Tryz.f6.params[j]? = some t→args[j]? = some v→Value.okWide Tryz.prog W .any base t v:=hval0
 have hsz:(DataW.weightsEach Tryz.prog (Tryz.f6.params.toList ++ Rows.treeSameSpec.plain.varTypes Tryz.prog) (ds ++ gs)).all (· ≤ reachBytes)=true:=hsz0
 clear hsz0 hcnd
 have hW':=hW
 obtain⟨p,q,hA0,hV,rfl,hfz,hnd⟩:=hW
 have hA:DataW.TrodAll enc Tryz.prog W 0 (fun _=>true) true Tryz.f6.params.toList args.toList ds p:=hA0
 rw[Tryz.params6] at hA hval hsz
 obtain⟨v0,vs0,d0,ds0,p0,q0,hargs,rfl,rfl,h0,r0⟩:=trodAll_cons hA
 obtain⟨v1,vs1,d1,ds1,p1,q1,rfl,rfl,rfl,h1,r1⟩:=trodAll_cons r0
 obtain⟨rfl,rfl,rfl⟩:=trodAll_nil r1
 obtain rfl:args = #[v0,v1]:=by cases args;simp_all
 obtain⟨rfl,rfl⟩:=trodVars_none hV
 obtain⟨A0,len0,cap0,b0,off0,S0,rfl,m0,y0⟩:=open_texts Tryz.underlying29 Tryz.underlying9 (by kernel_rfl) (hval 0 29 v0 rfl rfl) h0
 obtain⟨A1,len1,cap1,b1,off1,N1,rfl,m1,y1⟩:=open_nums Tryz.underlying28 Tryz.underlying3 (by kernel_rfl) (hval 1 28 v1 rfl rfl) h1
 refine(walk m0 y0 m1 y1).mono fun e W' ⟨he,hb⟩=>?_
 subst he
 exact⟨_,rfl,law_post hW' rfl rfl rfl rfl (by kernel_rfl) Tryz.underlying4 law_laid (by kernel_rfl) hb⟩
theorem over:Rows.treeSameRow.holds Tryz.pinned (OpenSpec.ofChange Rows.treeSameSpec) :=
 OpenClaim.holds_of_wide 6 Tryz.f6 rfl rfl rfl rfl rfl rfl rfl ⟨rfl,rfl,rfl,rfl,rfl⟩ rfl rfl rfl rfl rfl (by kernel_rfl) Tryz.func6 (by kernel_rfl)
  (of_decide_eq_true (by kernel_rfl)) (by unfold Func.isWrapper;first|(rw[if_pos (by decide +kernel)];kernel_rfl)|(rw[if_neg (by decide +kernel)];exact⟨rfl,rfl⟩))
  (fun os started H enc _=>lifted os started H enc)
theorem proved:Rows.TreeSameSaid:=over
end Go.Proofs.YtfgjehecjgebdaaGreat.treeSame
