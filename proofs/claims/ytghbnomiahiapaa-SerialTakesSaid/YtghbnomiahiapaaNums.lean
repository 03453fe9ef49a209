/- Numbers that a law gets. -/
import Derived.Test.YtghbnomiahiapaaRow
import Derived.Deep.Strs
namespace Go.Proofs.Ytghbnomiahiapaa
open Go.RowKit
/-- Numbers, as they lie. -/
structure Nums (w : World) (A : Option Addr) (len : Nat) (b off : Nat) (N : Nat → Int) : Prop where
  at_ : 0 < len → A = some ⟨b, off, none⟩
  lt : 0 < len → b < w.heap.size
  cell : ∀ i, i < len → w.cell? ⟨b, off + i, none⟩ = some (.int .i64 (N i))
  bd : ∀ i, i < len → -9223372036854775808 ≤ N i ∧ N i ≤ 9223372036854775807
theorem Nums.kept {w w' A len b off N} (h : Nums w A len b off N) (k : Kept (fun _ => False) w w') : Nums w' A len b off N :=
  ⟨h.at_, fun hl => Nat.lt_of_lt_of_le (h.lt hl) k.size, fun i hi => by
    have hb := h.lt (by omega)
    exact (World.cell?_of_block (w := w) (k.block b hb id)).trans (h.cell i hi), h.bd⟩
section
variable {H : Type} {enc : TypeId × Value → H} {w : World} {P : Program}
open Go.Deep Go.ChangeShapes Go.WideShapes Go.ChangeAt
theorem open_nums {t e : TypeId} {v : Value} {d : DataW H} {ps : List MemPlace} (ht : P.underlying t = some (.slice e)) (he : P.underlying e = some (.int .i64)) (hc : P.cellsOf e = 1)
    (hv : Value.okWide P w .any 0 t v) (h : DataW.Trod enc P w 0 (fun _ => true) true t v d ps) :
    ∃ A len cap b off N, v = .slice A len cap ∧ len ≤ maxLen ∧ len ≤ cap ∧ Nums w A len b off N := by
  obtain ⟨a0, len, cap, rfl⟩ := okWide_slice ht hv
  obtain ⟨fuel, hf⟩ := h
  rcases open_ints ht he hc hf with ⟨hcs, _⟩ | ⟨a, len', cap', zs, hcs, _, hl, hm, hmm, _, hx, hz⟩
  · simp [Value.cells] at hcs
    obtain ⟨rfl, rfl, rfl⟩ := hcs
    exact ⟨none, 0, 0, 0, 0, fun _ => 0, rfl, Nat.zero_le _, Nat.le_refl _, ⟨fun h => absurd h (by omega), fun h => absurd h (by omega), fun i h => absurd h (by omega), fun i h => absurd h (by omega)⟩⟩
  · simp [Value.cells] at hcs
    obtain ⟨rfl, rfl, rfl⟩ := hcs
    simp only [if_true] at hmm
    obtain ⟨b, off, spot⟩ := a
    by_cases hlen : 0 < len
    · have h00 := hx 0 (by omega)
      have hspot : spot = none := by simpa [Addr.add] using World.cell?_spot h00
      subst hspot
      have e1 : ∀ n, (⟨b, off, none⟩ : Addr).add n = ⟨b, off + n, none⟩ := fun n => by unfold Addr.add; split <;> simp_all
      refine ⟨some ⟨b, off, none⟩, len, _, b, off, fun i => zs.getD i 0, rfl, by omega, by omega, ⟨fun _ => rfl, fun _ => block_lt_of_cell (a := (⟨b, off, none⟩ : Addr).add 0) h00, fun i hi => ?_, fun i hi => ?_⟩⟩
      · rw [← e1]; exact hx i (by omega)
      · have hi' : i < zs.length := by omega
        have : zs.getD i 0 = zs[i] := by simp [List.getD, hi']
        simp only [this]
        exact bounds_i64 (hz _ (List.getElem_mem hi'))
    · exact ⟨some ⟨b, off, spot⟩, len, _, 0, 0, fun _ => 0, rfl, by omega, by omega, ⟨fun h => absurd h hlen, fun h => absurd h hlen, fun i h => absurd h (by omega), fun i h => absurd h (by omega)⟩⟩
end
end Go.Proofs.Ytghbnomiahiapaa
