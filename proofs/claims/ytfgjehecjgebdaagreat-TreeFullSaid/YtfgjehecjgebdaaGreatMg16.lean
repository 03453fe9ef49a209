/- Plain: a space's bytes, and back. -/
import Derived.Test.YtfgjehecjgebdaaGreatMg13
namespace Go.Proofs.YtfgjehecjgebdaaGreat
theorem bys_len (l:List Nat):(bys l).length=(l.length + 7) / 8:=by simp[bys]
def inUse (l:List Nat):List Nat:=l.map fun x=>if us x then 1 else 0
theorem us_inUse (x:Nat):us (if us x then 1 else 0)=us x:=by cases h:us x<;>simp[us]
theorem lv_congr:∀(a b:List Nat),a.map us=b.map us→lv a=lv b
 | [], [],_=>rfl
 | x :: a,y :: b,h=>by
  simp only[List.map_cons,List.cons.injEq] at h
  simp only[lv,h.1,lv_congr a b h.2]
 | [],_ :: _,h=>by simp at h
 | _ :: _, [],h=>by simp at h
theorem bys_inUse (l:List Nat):bys (inUse l)=bys l:=by
 unfold bys
 have e:(inUse l).length=l.length:=by simp[inUse]
 rw[e]
 apply List.map_congr_left
 intro j _
 apply lv_congr
 unfold inUse
 rw[List.map_take,List.map_drop,List.map_take,List.map_drop,List.map_map]
 congr 3
 funext x
 exact us_inUse x
end Go.Proofs.YtfgjehecjgebdaaGreat
