/- Plain: entries in order are told by their members. -/
import Derived.Test.YtfgjehecjgebdaaGreatMg39
namespace Go.Proofs.YtfgjehecjgebdaaGreat
theorem upe_ext:∀ {A B:List KV},UpE A→UpE B→(∀x,x∈A↔x∈B)→A=B
 | [], [],_,_,_=>rfl
 | [],b :: B,_,_,h=>absurd ((h b).2 List.mem_cons_self) (by simp)
 | a :: A, [],_,_,h=>absurd ((h a).1 List.mem_cons_self) (by simp)
 | a :: A,b :: B,ha,hb,h=>by
  obtain⟨a1,a2⟩:=List.pairwise_cons.1 ha
  obtain⟨b1,b2⟩:=List.pairwise_cons.1 hb
  have e:a=b:=by
   rcases List.mem_cons.1 ((h a).1 List.mem_cons_self) with e|e
   ·exact e
   ·rcases List.mem_cons.1 ((h b).2 List.mem_cons_self) with f|f
    ·exact f.symm
    ·exact absurd (a1 b f) (bs_asymm (b1 a e))
  subst e
  congr 1
  refine upe_ext a2 b2 fun x=>⟨fun hx=>?_,fun hx=>?_⟩
  ·rcases List.mem_cons.1 ((h x).1 (List.mem_cons_of_mem _ hx)) with e|e
   ·subst e;exact absurd (a1 x hx) (List.lt_irrefl _)
   ·exact e
  ·rcases List.mem_cons.1 ((h x).2 (List.mem_cons_of_mem _ hx)) with e|e
   ·subst e;exact absurd (b1 x hx) (List.lt_irrefl _)
   ·exact e
end Go.Proofs.YtfgjehecjgebdaaGreat
