/- The last step of a law's row: the call answers true and nothing that was there has turned; and how the laws' arguments open. -/
import Derived.Test.YtfgjehecjgebdaaGreatRows
import Derived.Test.YtfgjehecjgebdaaGreatMg04
import Derived.ProofKit
import Derived.OpenShut
import Derived.ShutString
import Derived.SizedLaws
namespace Go.Proofs.YtfgjehecjgebdaaGreat
open Go.ChangeShapes Go.WideShapes Go.ChangeAt Go.RowKit
theorem law_own:ownKnob Tryz.prog.godebug=none:=by kernel_rfl
theorem law_laid:laidOutB Tryz.prog=true:=by kernel_rfl
section
variable {H:Type} {enc:TypeId×Value→H} {P:Program}
theorem trodAll_below (hl:laidOutB P=true) {W W':World} (hb:Below W.heap.size W W'):∀(ts:List TypeId) (vs:List Value) (ds:List (DataW H)) (ps:List MemPlace),
  (ts.all fun t=>P.readableRec t && decide (t < P.types.size))=true→DataW.TrodAll enc P W 0 (fun _=>true) true ts vs ds ps→(∀x∈ps,x.block < W.heap.size) →
  DataW.TrodAll enc P W' 0 (fun b=>decide (b < W.heap.size)) true ts vs ds ps
 | [], [], [],_,_,h,_=>h
 | t :: ts,v :: vs,d :: ds,ps,hr,h,hlt=>by
  obtain⟨p,q,h1,h2,rfl⟩:=h
  simp only[List.all_cons,Bool.and_eq_true,decide_eq_true_eq] at hr
  exact⟨p,q,Below.trod hl hr.1.1 hr.1.2 h1 hb fun x hx=>hlt x (List.mem_append_left _ hx),trodAll_below hl hb ts vs ds q hr.2 h2 fun x hx=>hlt x (List.mem_append_right _ hx),rfl⟩
 | [],_ :: _,_,_,_,h,_=>h.elim
 | [], [],_ :: _,_,_,h,_=>h.elim
 | _ :: _, [],_,_,_,h,_=>h.elim
 | _ :: _,_ :: _, [],_,_,h,_=>h.elim
theorem law_post {f:Func} {s:ChangeSpec} {W W':World} {args:Array Value} {ds:List (DataW H)} {before:List MemPlace} {tb:TypeId}
  (hW:DataW.Whole enc P f.params.toList s.vars false W args.toList ds [] before) (hv:s.vars = [])
  (hres:(s.fn H (ds ++ [])).results = [.lit (.bool true)]) (hargs:(s.fn H (ds ++ [])).args=ds) (hvars:(s.fn H (ds ++ [])).vars = [])
  (hrt:f.resultTypes = #[tb]) (htb:P.underlying tb=some .bool) (hl:laidOutB P=true) (hr:(f.params.toList.all fun t=>P.readableRec t && decide (t < P.types.size))=true)
  (hb:Below W.heap.size W W'):s.post enc P f false true false false W args (.bool true) W':=by
 have hW0:=hW
 obtain⟨p,q,hA,hV,rfl,_,_⟩:=hW
 rw[hv] at hV
 obtain rfl:q = []:=hV
 have hlt:∀x∈p,x.block < W.heap.size:=fun x hx=>hW0.lt x (by simpa using hx)
 refine⟨ds, [],_, [],p, [],hW0,?_,?_,?_,hb.frame _,fun h=>by cases h⟩
 ·rw[hres,hrt]
  exact trodAll_mk1 (shut_bool htb true)
 ·rw[hargs]
  have:=trodAll_below hl hb _ _ _ _ hr hA hlt
  simpa using this
 ·rw[hvars,hv];rfl
end
section
variable {H:Type} {enc:TypeId×Value→H} {w:World} {P:Program}
open Go.Deep
end
end Go.Proofs.YtfgjehecjgebdaaGreat
