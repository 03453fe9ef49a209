/- A tree beside which something else has turned (a second tree's blocks). -/
import Derived.Test.YtfgjehecjgebdaaGreatMg39
namespace Go.Proofs.YtfgjehecjgebdaaGreat
def TQ.In (q:TQ) (S:Nat→Prop):Prop:=∀k,(k=q.t∨k=q.st∨k=q.b∨k=q.c∨k=q.m∨k=q.d∨q.vs.ownBlock=some k∨q.vc.ownBlock=some k)→S k
theorem TW.keptS {w w' q X root} {S:Nat→Prop} (h:TW w q X root) (k:Kept S w w') (hn:q.In fun k=>¬S k):TW w' q X root :=
 ⟨⟨k.heap h.sto.head (hn _ (by simp)),h.sto.sp.kept k (hn _ (by simp)) (hn _ (by simp)),h.sto.put.kept k (hn _ (by simp)),h.sto.dev.kept k (hn _ (by simp)) (fun g hg=>hn _ (by simp[hg])) (fun g hg=>hn _ (by simp[hg])),h.sto.len,h.sto.lay⟩,k.heap h.tree (hn _ (by simp)),h.up,h.secs,h.cache,h.txt⟩
theorem TW.low {w q X root} (h:TW w q X root):q.In (· < w.heap.size):=by
 obtain⟨h1,h2,h3⟩:=h.small
 obtain⟨c,hd⟩:=h.sto.dev.head
 rintro k (rfl|rfl|rfl|rfl|rfl|rfl|e|e)
 ·exact h3
 ·exact lt_heap h.sto.head
 ·exact lt_heap h.sto.sp.head
 ·exact h1
 ·exact h2
 ·exact lt_heap hd
 ·exact own_lt h.sto.dev.secs e
 ·exact own_lt h.sto.dev.cache e
end Go.Proofs.YtfgjehecjgebdaaGreat
