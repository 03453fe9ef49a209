/- The acts of 07: how they open. -/
import Derived.Test.YtfgjehecjgebdaaMg11
import Derived.Test.YtfgjehecjgebdaaMg22
namespace Go.Proofs.Ytfgjehecjgebdaa
open Go.ChangeShapes Go.WideShapes Go.ChangeAt Go.RowKit

/-- The acts, as they lie: four numbers, a text, a row of numbers each. -/
structure Acts6 (w : World) (A : Option Addr) (len : Nat) (b off : Nat) (K N L M : Nat → Int) (S : Nat → ByteArray) (P : Nat → Option Addr) (Q : Nat → List Int) (C : Nat → Nat) : Prop where
  at_ : 0 < len → A = some ⟨b, off, none⟩
  lt : 0 < len → b < w.heap.size
  cell : ∀ i, i < len → w.cell? ⟨b, off + i * 6, none⟩ = some (.int .i64 (K i)) ∧ w.cell? ⟨b, off + i * 6 + 1, none⟩ = some (.int .i64 (N i)) ∧ w.cell? ⟨b, off + i * 6 + 2, none⟩ = some (.int .i64 (L i)) ∧ w.cell? ⟨b, off + i * 6 + 3, none⟩ = some (.int .i64 (M i)) ∧
    w.cell? ⟨b, off + i * 6 + 4, none⟩ = some (.string (S i)) ∧ w.cell? ⟨b, off + i * 6 + 5, none⟩ = some (.slice (P i) (Q i).length (C i))
  row : ∀ i, i < len → Ints w (P i) (Q i) ∧ (Q i).length ≤ maxLen ∧ (S i).size ≤ maxLen
  bd : ∀ i, i < len → (-9223372036854775808 ≤ K i ∧ K i ≤ 9223372036854775807)
  room : ∀ i, i < len → (Q i).length ≤ C i ∧ C i ≤ maxLen
  bdN : ∀ i, i < len → (-9223372036854775808 ≤ N i ∧ N i ≤ 9223372036854775807)
theorem Acts6.kept {w w' A len b off K N L M S P Q C} (h : Acts6 w A len b off K N L M S P Q C) (k : Kept (fun _ => False) w w') : Acts6 w' A len b off K N L M S P Q C :=
  ⟨h.at_, fun hl => Nat.lt_of_lt_of_le (h.lt hl) k.size, fun i hi => by
    have hb := h.lt (by omega)
    have hc := h.cell i hi
    have e : ∀ o, w'.cell? ⟨b, o, none⟩ = w.cell? ⟨b, o, none⟩ := fun o => World.cell?_of_block (w := w) (k.block b hb id)
    rw [e, e, e, e, e, e]
    exact hc, fun i hi => ⟨(h.row i hi).1.ofKept k, (h.row i hi).2⟩, h.bd, h.room, h.bdN⟩


theorem ints_of {w : World} {a : Addr} {len : Nat} {zs : List Int} (hl : len ≤ zs.length) (hc : ∀ i, i < zs.length → w.cell? (a.add i) = some (.int .i64 (zs.getD i 0))) : Ints w (some a) (zs.take len) := by
  intro hp
  simp only [List.length_take] at hp
  obtain ⟨b, off, spot⟩ := a
  have h00 := hc 0 (by omega)
  have hspot : spot = none := by simpa [Addr.add] using World.cell?_spot h00
  subst hspot
  have e1 : ∀ n, (⟨b, off, none⟩ : Addr).add n = ⟨b, off + n, none⟩ := fun n => by unfold Addr.add; split <;> simp_all
  refine ⟨b, off, rfl, block_lt_of_cell (a := (⟨b, off, none⟩ : Addr).add 0) h00, fun i hi => ?_⟩
  simp only [List.length_take] at hi
  have := hc i (by omega)
  rw [e1] at this
  rw [this]
  simp [List.getD, show i < zs.length by omega]

section
variable {H : Type} {enc : TypeId × Value → H} {w : World} {P : Program}
open Go.Deep
/-- A slice of acts, opened. -/
theorem open_acts6 {t e ti ts tr : TypeId} {f0 f1 f2 f3 f4 f5 : Field} {v : Value} {d : DataW H} {ps : List MemPlace} (ht : P.underlying t = some (.slice e)) (he : P.underlying e = some (.struct #[f0, f1, f2, f3, f4, f5]))
    (hone : oneCellFields P #[f0, f1, f2, f3, f4, f5] = true) (hC : P.cellsOf e = 6) (h0 : f0.type = ti) (h1 : f1.type = ti) (h2 : f2.type = ti) (h3 : f3.type = ti) (h4 : f4.type = ts) (h5 : f5.type = tr)
    (hti : P.underlying ti = some (.int .i64)) (hts : P.underlying ts = some .string) (htr : P.underlying tr = some (.slice ti)) (hci : P.cellsOf ti = 1)
    (hv : Value.okWide P w .any 0 t v) (h : DataW.Trod enc P w 0 (fun _ => true) true t v d ps) :
    ∃ A len cap b off K N L M S Pt Q C, v = .slice A len cap ∧ len ≤ maxLen ∧ Acts6 w A len b off K N L M S Pt Q C := by
  obtain ⟨a0, len, cap, rfl⟩ := okWide_slice ht hv
  obtain ⟨fuel, hf⟩ := h
  rcases open_slice_fields ht he hone hC hf with ⟨hcs, _⟩ | ⟨a, len', cap', m, D, Pl, hcs, _, hl, hm, hmm, _, hi⟩
  · simp [Value.cells] at hcs
    obtain ⟨rfl, rfl, rfl⟩ := hcs
    exact ⟨none, 0, 0, 0, 0, fun _ => 0, fun _ => 0, fun _ => 0, fun _ => 0, fun _ => ⟨#[]⟩, fun _ => none, fun _ => [], fun _ => 0, rfl, Nat.zero_le _, ⟨fun h => absurd h (by omega), fun h => absurd h (by omega), fun i h => absurd h (by omega), fun i h => absurd h (by omega), fun i h => absurd h (by omega), fun i h => absurd h (by omega), fun i h => absurd h (by omega)⟩⟩
  · simp [Value.cells] at hcs
    obtain ⟨rfl, rfl, rfl⟩ := hcs
    simp only [if_true] at hmm
    subst hmm
    have key : ∀ i, i < len → ∃ r : (Int × Int × Int × Int) × ByteArray × Option Addr × List Int × Nat,
        (w.cell? (a.add (i * 6)) = some (.int .i64 r.1.1) ∧ w.cell? (a.add (i * 6 + 1)) = some (.int .i64 r.1.2.1) ∧ w.cell? (a.add (i * 6 + 2)) = some (.int .i64 r.1.2.2.1) ∧ w.cell? (a.add (i * 6 + 3)) = some (.int .i64 r.1.2.2.2) ∧
        w.cell? (a.add (i * 6 + 4)) = some (.string r.2.1) ∧ w.cell? (a.add (i * 6 + 5)) = some (.slice r.2.2.1 r.2.2.2.1.length r.2.2.2.2)) ∧
        (Ints w r.2.2.1 r.2.2.2.1 ∧ r.2.2.2.1.length ≤ maxLen ∧ r.2.1.size ≤ maxLen) ∧ (-9223372036854775808 ≤ r.1.1 ∧ r.1.1 ≤ 9223372036854775807) ∧ (r.2.2.2.1.length ≤ r.2.2.2.2 ∧ r.2.2.2.2 ≤ maxLen) ∧ (-9223372036854775808 ≤ r.1.2.1 ∧ r.1.2.1 ≤ 9223372036854775807) := by
      intro i hil
      obtain ⟨ys, n, _, _, _, hf⟩ := hi i (by omega)
      obtain ⟨v0, y0, hc0, _, ht0⟩ := hf 0 f0 rfl
      obtain ⟨v1, y1, hc1, _, ht1⟩ := hf 1 f1 rfl
      obtain ⟨v2, y2, hc2, _, ht2⟩ := hf 2 f2 rfl
      obtain ⟨v3, y3, hc3, _, ht3⟩ := hf 3 f3 rfl
      obtain ⟨v4, y4, hc4, _, ht4⟩ := hf 4 f4 rfl
      obtain ⟨v5, y5, hc5, _, ht5⟩ := hf 5 f5 rfl
      rw [h0] at ht0
      rw [h1] at ht1
      rw [h2] at ht2
      rw [h3] at ht3
      rw [h4] at ht4
      rw [h5] at ht5
      obtain ⟨x0, e0, _, w0⟩ := DataW.trod_int hti ht0
      obtain ⟨x1, e1, _, w1⟩ := DataW.trod_int hti ht1
      obtain ⟨x2, e2, _, w2⟩ := DataW.trod_int hti ht2
      obtain ⟨x3, e3, _, w3⟩ := DataW.trod_int hti ht3
      obtain ⟨s4, e4, _, w4⟩ := DataW.trod_string hts ht4
      simp at e0 e1 e2 e3 e4
      subst e0 e1 e2 e3 e4
      rcases open_ints htr hti hci ht5 with ⟨hcs5, _⟩ | ⟨a5, len5, cap5, zs, hcs5, _, hl5, hm5, hz5, _, hcells, _⟩
      · simp at hcs5
        subst hcs5
        refine ⟨((x0, x1, x2, x3), s4, none, [], 0), ⟨by simpa using hc0, by simpa using hc1, by simpa using hc2, by simpa using hc3, by simpa using hc4, by simpa using hc5⟩, ⟨fun h => absurd h (by simp), by simp, w4⟩, bounds_i64 w0, ⟨by simp, by simp⟩, bounds_i64 w1⟩
      · simp at hcs5
        subst hcs5
        simp only [if_true] at hz5
        have e : (zs.take len5).length = len5 := by rw [List.length_take]; omega
        refine ⟨((x0, x1, x2, x3), s4, some a5, zs.take len5, cap5), ⟨by simpa using hc0, by simpa using hc1, by simpa using hc2, by simpa using hc3, by simpa using hc4, by simp only [e]; simpa using hc5⟩, ⟨ints_of (by omega) hcells, by rw [e]; omega, w4⟩, bounds_i64 w0, ⟨by simp only [e]; omega, hm5⟩, bounds_i64 w1⟩
    obtain ⟨f, hfn⟩ := Go.Deep.choose_lt key
    obtain ⟨b, off, spot⟩ := a
    by_cases hlen : 0 < len
    · have h00 := (hfn 0 hlen).1.1
      have hspot : spot = none := by simpa [Addr.add] using World.cell?_spot h00
      subst hspot
      refine ⟨some ⟨b, off, none⟩, len, _, b, off, fun i => (f i).1.1, fun i => (f i).1.2.1, fun i => (f i).1.2.2.1, fun i => (f i).1.2.2.2, fun i => (f i).2.1, fun i => (f i).2.2.1, fun i => (f i).2.2.2.1, fun i => (f i).2.2.2.2, rfl, by omega, ⟨fun _ => rfl, fun _ => ?_, fun i hi => ?_, fun i hi => (hfn i hi).2.1, fun i hi => (hfn i hi).2.2.1, fun i hi => (hfn i hi).2.2.2.1, fun i hi => (hfn i hi).2.2.2.2⟩⟩
      · exact block_lt_of_cell (a := (⟨b, off, none⟩ : Addr).add (0 * 6)) h00
      · have := (hfn i hi).1
        have e1 : ∀ n, (⟨b, off, none⟩ : Addr).add n = ⟨b, off + n, none⟩ := fun n => by unfold Addr.add; split <;> simp_all
        simp only [e1] at this
        exact this
    · exact ⟨some ⟨b, off, spot⟩, len, _, 0, 0, fun _ => 0, fun _ => 0, fun _ => 0, fun _ => 0, fun _ => ⟨#[]⟩, fun _ => none, fun _ => [], fun _ => 0, rfl, by omega, ⟨fun h => absurd h hlen, fun h => absurd h hlen, fun i h => absurd h (by omega), fun i h => absurd h (by omega), fun i h => absurd h (by omega), fun i h => absurd h (by omega), fun i h => absurd h (by omega)⟩⟩
end

end Go.Proofs.Ytfgjehecjgebdaa
