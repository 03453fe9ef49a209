/- A loop over an iterator whose body leans on which element comes when: the iterator's elements are a list; the body is walked for the i-th of them. -/
import Derived.RangeFuncNested
import Derived.RangeFuncCalls
import Derived.RangeFuncLeaves
import Derived.Below
namespace Go.Proofs.YtfgjehecjgebdaaGreat
open Go.RowKit
section
variable {F:Fence} {n:Nat} {P:Program} {w:World}
def SeqRun {α : Type} (F:Fence) (n:Nat) (P:Program) (g:Nat) (lb:Array Value) (encs : α → Array Value) (Kp:World→World→Prop) (xs:List α) (w:World):Prop :=
 ∀(l:Nat) (J:Nat→World→Prop) (Jx:World→Prop) (W:World),Below w.heap.size w W →
  (∀i x W1,xs[i]? = some x→J i W1→YieldAt F (n - 1) P l (encs x) W1 fun e W'=>(e = .returned (.bool true)∧J (i + 1) W'∧Kp W1 W')∨(e = .returned (.bool false)∧Jx W')) →
  J 0 W→CallsIn F n P g (#[.func (.yield l) #[] #[]] ++ lb) W fun e W'=>(∃v,e = .returned v)∧(J xs.length W'∨Jx W')
def seqPost (B:Nat) (Kp:World→World→Prop) (I:Nat→World→Prop) (Ix:World→Prop) (i:Nat) (W:World):Exit→Act→World→Prop
 | .normal,_,W'=>KeepsFrom B W W'∧Kp W W'∧I i W'
 | .ret,_,W'=>KeepsFrom B W W'∧Ix W'
 | _,_,_=>False
def OffLoop (B:Nat) (I:World→Prop):Prop:=∀W l o o',I W→B≤l→W.heap[l]? = some o→o.isCells=false→I (W.putObj l o')
theorem wpIn_rangeSeq {α : Type} {g:Operand} {ps:Array Tmp} {assign body:Code} {Q:Exit→Act→World→Prop} {a:Act}
  (hro:F.round=none) (h1:1≤n) {gf:Nat} {lb:Array Value} (hg:a.eval g = .func (.func gf) #[] lb) (hFg:F.fn gf) (eg:∀args w,(callFunc gf args).run P w = .ok (.enter gf args) w)
  {encs : α → Array Value} {Kp:World→World→Prop} {xs:List α} (hseq:SeqRun F (n - 1) P gf lb encs Kp xs w) (hps:∀x,(encs x).size=ps.size)
  (hKt:∀ {A B C:World},Kp A B→Kp B C→Kp A C) (hKb:∀(W:World) (l:Nat) (o':Obj),w.heap.size≤l→Kp W (W.putObj l o'))
  (I:Nat→World→Prop) (Ix:World→Prop) (hI:∀i,OffLoop w.heap.size (I i)) (hIx:OffLoop w.heap.size Ix) (h0:∀o o',I 0 ((w.alloc o).alloc o'))
  (Ax : α → Act→World→Prop) (hAx:∀x a',OffLoop w.heap.size (Ax x a'))
  (hassign:∀(l i:Nat) (x : α) (W:World) (K:Act→World→Prop),I i W→w.heap.size≤l→(∀a' W',KeepsFrom w.heap.size W W'→Kp W W'→I i W'→Ax x a' W'→K a' W') →
   assign.wpIn (F.inRound l) (n - 1 - 1) P (Exit.then K (fun _ _ _=>False)) { tmps:=(ps.zip (encs x)).foldl (fun t (p,v)=>t.setIfInBounds p v) a.tmps,defers := [] } W)
  (hbody:∀(l i:Nat) (x : α) (a':Act) (W:World),xs[i]? = some x→I i W→Ax x a' W→body.wpIn (F.inRound l) (n - 1 - 1) P (seqPost w.heap.size Kp I Ix (i + 1) W) a' W)
  (hdone:∀(D:Nat) (W:World),w.heap.size≤D→I xs.length W→W.heap[D]? = some (.deferred (some []))→Q .normal { a with defers := { target:=.collected D,args := #[] } :: a.defers } W)
  (hstop:∀(D:Nat) (W:World),w.heap.size≤D→Ix W→W.heap[D]? = some (.deferred (some []))→Code.ret.wpIn F n P Q { a with defers := { target:=.collected D,args := #[] } :: a.defers } W) :
  (Code.rangeFunc g ps assign body).wpIn F n P Q a w:=by
 refine wpIn_rangeFunc fun fn hfn=>?_
 rw[hro]
 obtain⟨R,hR⟩:∃R:LoopState→Option Code→Obj,R=fun s c=>.loop { state:=s,pending:=c,fn,tmps:=a.tmps,params:=ps,assign,body,defers:=w.heap.size } := ⟨_,rfl⟩
 have hRc:∀s c,(R s c).isCells=false:=fun s c=>by rw[hR];rfl
 obtain⟨L,hL⟩:∃L,L=w.heap.size + 1:=⟨_,rfl⟩
 obtain⟨W0,hW0⟩:∃W0,W0=(w.alloc (.deferred (some []))).alloc (R .ready none):=⟨_,rfl⟩
 have a1:W0.heap[L]? = some (R .ready none):=by
  rw[hW0,hL]
  have:=World.alloc_heap_new (w.alloc (.deferred (some []))) (R .ready none)
  rwa [World.size_alloc] at this
 have a2:W0.heap[w.heap.size]? = some (.deferred (some [])):=by
  rw[hW0];exact(Below.heap_alloc _ _ _ (by simp)).trans (World.alloc_heap_new w _)
 have hb:Below w.heap.size w W0:=by rw[hW0];exact((Below.refl _ w).alloc (Nat.le_refl _) _).alloc (by simp) _
 refine⟨L, [{ target:=.collected w.heap.size,args := #[] }],W0, { target:=.fn (.func gf) lb,args := #[.func (.yield L) #[] #[]] },W0,gf,#[.func (.yield L) #[] #[]] ++ lb,W0,?_,?_,?_,?_,fun _=>h1,?_⟩
 ·rw[hW0,hL,hR];exact run_enterLoop_outer _ _ _ _ _
 ·simp only[resolve,hg]
  simp[go_sem]
 ·intro f' hf';simp[Target.leads] at hf';subst hf';exact hFg
 ·simp[invoke,go_sem,eg]
 have turn:∀(W:World) (s:LoopState) (c:Option Code) (o':Obj),W.heap[L]? = some (R s c)→(∀i,I i W→I i (W.putObj L o'))∧(Ix W→Ix (W.putObj L o'))∧(W.putObj L o').heap[L]? = some o' ∧ ∀k,k ≠ L→(W.putObj L o').heap[k]? = W.heap[k]? := fun W s c o' hh =>
  ⟨fun i hi=>hI i _ _ _ _ hi (by omega) hh (hRc s c),fun hi=>hIx _ _ _ _ hi (by omega) hh (hRc s c),World.putObj_heap_same (Array.getElem?_eq_some_iff.1 hh).1,fun k hk=>World.putObj_heap_other hk⟩
 have ending:∀(W:World) (c:Option Code),W.heap[L]? = some (R .busy none)→(Instr.endRound L c).run P W = .ok (.bool c.isNone) (W.putObj L (R (if c.isNone then .ready else .done) c)):=fun W c hh=>by
  rw[hR] at hh⊢
  exact run_endRound c hh
 have closing:∀(W:World) (s:LoopState) (c:Option Code),s ≠ .busy→W.heap[L]? = some (R s c)→(Instr.endLoop L).run P W = .ok c (W.putObj L (R .exhausted c)):=fun W s c hs hh=>by
  rw[hR] at hh⊢
  exact run_endLoop hh hs
 refine(hseq L (fun i W=>I i W∧W.heap[L]? = some (R .ready none)∧W.heap[w.heap.size]? = some (.deferred (some [])))
  (fun W=>Ix W∧W.heap[L]? = some (R .done (some .ret))∧W.heap[w.heap.size]? = some (.deferred (some []))) W0 hb ?_ ⟨hW0 ▸ h0 _ _,a1,a2⟩).mono ?_
 ·rintro i x W hx ⟨hi,r1,r2⟩
  have hy:(Instr.yield L (encs x)).run P W = .ok (.round L fn ((ps.zip (encs x)).foldl (fun t (p,v)=>t.setIfInBounds p v) a.tmps) assign body) W:=by
   rw[hR] at r1
   exact run_yield r1 (hps x)
  refine⟨fn,_,assign,body,hy,roundIn_of_wpIn hfn (hassign L i x W _ hi (by omega) fun a' V hkf hkp hiV hax=>?_)⟩
  have v1:=hkf.same L _ (by omega) r1 (hRc _ _)
  have v2:=hkf.same _ _ (Nat.le_refl _) r2 rfl
  obtain⟨t1, -,t3,t4⟩:=turn V _ _ (R .busy none) v1
  refine⟨V.putObj L (R .busy none),by rw[hR] at v1⊢;exact run_beginRound v1 rfl,?_⟩
  have u2:=(t4 w.heap.size (by omega)).trans v2
  have ku:=hKb V L (R .busy none) (by omega)
  refine wpIn_mono (hbody L i x a' _ hx (t1 i hiV) (hAx x a' _ _ _ _ hax (by omega) v1 (hRc _ _))) ?_
  rintro e a3 U hp
  cases e with
  | normal =>
   obtain⟨k3,p3,i3⟩:=hp
   have x1:=k3.same L _ (by omega) t3 (hRc _ _)
   have x2:=k3.same _ _ (Nat.le_refl _) u2 rfl
   obtain⟨s1, -,s3,s4⟩:=turn U _ _ (R .ready none) x1
   exact⟨_,_,ending U none x1,.inl ⟨rfl,⟨s1 _ i3,s3,(s4 _ (by omega)).trans x2⟩,hKt hkp (hKt (hKt ku p3) (hKb U L _ (by omega)))⟩⟩
  | ret =>
   obtain⟨k3,i3⟩:=hp
   have x1:=k3.same L _ (by omega) t3 (hRc _ _)
   have x2:=k3.same _ _ (Nat.le_refl _) u2 rfl
   obtain⟨-,s2,s3,s4⟩:=turn U _ _ (R .done (some .ret)) x1
   exact⟨_,_,ending U (some .ret) x1,.inr ⟨rfl,s2 i3,s3,(s4 _ (by omega)).trans x2⟩⟩
  | exit id=>exact hp.elim
  | goto t=>exact hp.elim
  | panic ch=>exact hp.elim
  | outgrown=>exact hp.elim
 ·rintro e U ⟨⟨v,rfl⟩,(⟨i3,x1,x2⟩|⟨i3,x1,x2⟩)⟩
  ·obtain⟨s1, -, -,s4⟩:=turn U _ _ (R .exhausted none) x1
   exact⟨none,_,closing U .ready none (by simp) x1,hdone _ _ (Nat.le_refl _) (s1 _ i3) ((s4 _ (by omega)).trans x2)⟩
  ·obtain⟨-,s2, -,s4⟩:=turn U _ _ (R .exhausted (some .ret)) x1
   exact⟨some .ret,_,closing U .done (some .ret) (by simp) x1,hstop _ _ (Nat.le_refl _) (s2 i3) ((s4 _ (by omega)).trans x2)⟩
end
end Go.Proofs.YtfgjehecjgebdaaGreat
