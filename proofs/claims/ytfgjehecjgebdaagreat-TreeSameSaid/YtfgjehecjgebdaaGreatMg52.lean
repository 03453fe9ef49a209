/- The laws' walk: through a whole tree. -/
import Derived.Test.YtfgjehecjgebdaaGreatMg49
namespace Go.Proofs.YtfgjehecjgebdaaGreat
theorem walk9_calls {q X R} : ∀(h:Nat) {w:World} (_:TW w q X R) (id:Nat) (rt:Bool) (lo:Bs) (hi:Option Bs) (far:Nat) (_:WF X h (X.nd id) lo hi) (_:X.gd id) (_:rt=false→(X.nd id).under=false) (_:far + h≤12) (_:(ents X h (X.nd id)).length≤50000) (_:(pgs X h (X.nd id)).length≤50000),
  Calls Tryz.prog 99 #[.pointer (some ⟨q.t,0,none⟩),.int .i64 id,.bool rt,.string (ba lo),.string (ba (hiS hi)),.int .i64 far] w (WalkTo X h (X.nd id) far w):=by
 intro h
 induction h with
 | zero =>
  intro w tw id rt lo hi far wf hg hr hf hE hP
  exact walk9_step tw id rt lo hi far 0 wf hg hr hf hE hP fun h' e=>by omega
 | succ h ih =>
  intro w tw id rt lo hi far wf hg hr hf hE hP
  refine walk9_step tw id rt lo hi far (h + 1) wf hg hr hf hE hP fun h' e w' k c lo' hi' far' kp hf' hE' hP'=>?_
  obtain rfl:h=h':=by omega
  exact ih (tw.keptF k) c false lo' hi' far' kp.2.2.2 kp.2.1 (fun _=>kp.2.2.1) hf' hE' hP'
end Go.Proofs.YtfgjehecjgebdaaGreat
