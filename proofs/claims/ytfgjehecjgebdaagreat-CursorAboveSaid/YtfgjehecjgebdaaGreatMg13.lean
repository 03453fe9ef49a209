/- The acts of 09: two numbers, two texts each; how they open. -/
import Derived.Test.YtfgjehecjgebdaaGreatMg08
import Derived.Test.YtfgjehecjgebdaaGreatMg09
import Derived.Deep.Strs
namespace Go.Proofs.YtfgjehecjgebdaaGreat
open Go.ChangeShapes Go.WideShapes Go.ChangeAt Go.RowKit
structure Acts4 (w:World) (A:Option Addr) (len:Nat) (b off:Nat) (K N:Nat→Int) (S V:Nat→ByteArray):Prop where
 at_:0 < len→A=some ⟨b,off,none⟩
 lt:0 < len→b < w.heap.size
 cell:∀i,i < len→w.cell? ⟨b,off + i * 4,none⟩=some (.int .i64 (K i))∧w.cell? ⟨b,off + i * 4 + 1,none⟩=some (.int .i64 (N i))∧w.cell? ⟨b,off + i * 4 + 2,none⟩=some (.string (S i))∧w.cell? ⟨b,off + i * 4 + 3,none⟩=some (.string (V i))
 sz:∀i,i < len→(S i).size≤maxLen∧(V i).size≤maxLen
 bd:∀i,i < len→(-9223372036854775808≤K i∧K i≤9223372036854775807)∧(-9223372036854775808≤N i∧N i≤9223372036854775807)
theorem Acts4.kept {w w' A len b off K N S V} (h:Acts4 w A len b off K N S V) (k:Kept (fun _=>False) w w'):Acts4 w' A len b off K N S V :=
 ⟨h.at_,fun hl=>Nat.lt_of_lt_of_le (h.lt hl) k.size,fun i hi=>by
  have hb:=h.lt (by omega)
  have hc:=h.cell i hi
  have e:∀o,w'.cell? ⟨b,o,none⟩=w.cell? ⟨b,o,none⟩:=fun o=>World.cell?_of_block (w:=w) (k.block b hb id)
  rw[e,e,e,e]
  exact hc,h.sz,h.bd⟩
section
variable {H:Type} {enc:TypeId×Value→H} {w:World} {P:Program}
open Go.Deep
end
end Go.Proofs.YtfgjehecjgebdaaGreat
