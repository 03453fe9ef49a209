/- A tree beside which something else has turned (a second tree's blocks). -/
import Derived.Test.YtfgjehecjgebdaaGreatMg41
namespace Go.Proofs.YtfgjehecjgebdaaGreat
def TQ.In (q:TQ) (S:Nat→Prop):Prop:=∀k,(k=q.t∨k=q.st∨k=q.b∨k=q.c∨k=q.m∨k=q.d∨q.vs.ownBlock=some k∨q.vc.ownBlock=some k)→S k
end Go.Proofs.YtfgjehecjgebdaaGreat
