/- The last step of a law's row: the call answers true and nothing that was there has turned; and how the laws' arguments open. -/
import Derived.Test.YtghbnomiahiapaaRows
import Derived.Test.YtghbnomiahiapaaBits
import Derived.ProofKit
import Derived.OpenShut
import Derived.ShutString
import Derived.SizedLaws
namespace Go.Proofs.Ytghbnomiahiapaa
open Go.ChangeShapes Go.WideShapes Go.ChangeAt Go.RowKit

theorem law_own : ownKnob Try.prog.godebug = none := by kernel_rfl
theorem law_laid : laidOutB Try.prog = true := by kernel_rfl

section
variable {H : Type} {enc : TypeId × Value → H} {P : Program}

/-- All arguments read as they did. -/
theorem trodAll_below (hl : laidOutB P = true) {W W' : World} (hb : Below W.heap.size W W') : ∀ (ts : List TypeId) (vs : List Value) (ds : List (DataW H)) (ps : List MemPlace),
    (ts.all fun t => P.readableRec t && decide (t < P.types.size)) = true → DataW.TrodAll enc P W 0 (fun _ => true) true ts vs ds ps → (∀ x ∈ ps, x.block < W.heap.size) →
    DataW.TrodAll enc P W' 0 (fun b => decide (b < W.heap.size)) true ts vs ds ps
  | [], [], [], _, _, h, _ => h
  | t :: ts, v :: vs, d :: ds, ps, hr, h, hlt => by
    obtain ⟨p, q, h1, h2, rfl⟩ := h
    simp only [List.all_cons, Bool.and_eq_true, decide_eq_true_eq] at hr
    exact ⟨p, q, Below.trod hl hr.1.1 hr.1.2 h1 hb fun x hx => hlt x (List.mem_append_left _ hx), trodAll_below hl hb ts vs ds q hr.2 h2 fun x hx => hlt x (List.mem_append_right _ hx), rfl⟩
  | [], _ :: _, _, _, _, h, _ => h.elim
  | [], [], _ :: _, _, _, h, _ => h.elim
  | _ :: _, [], _, _, _, h, _ => h.elim
  | _ :: _, _ :: _, [], _, _, h, _ => h.elim

/-- A law's row: it answers true, its arguments read as before. -/
theorem law_post {f : Func} {s : ChangeSpec} {W W' : World} {args : Array Value} {ds : List (DataW H)} {before : List MemPlace} {tb : TypeId}
    (hW : DataW.Whole enc P f.params.toList s.vars false W args.toList ds [] before) (hv : s.vars = [])
    (hres : (s.fn H (ds ++ [])).results = [.lit (.bool true)]) (hargs : (s.fn H (ds ++ [])).args = ds) (hvars : (s.fn H (ds ++ [])).vars = [])
    (hrt : f.resultTypes = #[tb]) (htb : P.underlying tb = some .bool) (hl : laidOutB P = true) (hr : (f.params.toList.all fun t => P.readableRec t && decide (t < P.types.size)) = true)
    (hb : Below W.heap.size W W') : s.post enc P f false true false false W args (.bool true) W' := by
  have hW0 := hW
  obtain ⟨p, q, hA, hV, rfl, _, _⟩ := hW
  rw [hv] at hV
  obtain rfl : q = [] := hV
  have hlt : ∀ x ∈ p, x.block < W.heap.size := fun x hx => hW0.lt x (by simpa using hx)
  refine ⟨ds, [], _, [], p, [], hW0, ?_, ?_, ?_, hb.frame _, fun h => by cases h⟩
  · rw [hres, hrt]
    exact trodAll_mk1 (shut_bool htb true)
  · rw [hargs]
    have := trodAll_below hl hb _ _ _ _ hr hA hlt
    simpa using this
  · rw [hvars, hv]; rfl
end

/-- Acts of two numbers, by index. -/
structure Acts2 (w : World) (A : Option Addr) (len : Nat) (b off : Nat) (K N : Nat → Int) : Prop where
  at_ : 0 < len → A = some ⟨b, off, none⟩
  lt : 0 < len → b < w.heap.size
  cell : ∀ i, i < len → w.cell? ⟨b, off + i * 2, none⟩ = some (.int .i64 (K i)) ∧ w.cell? ⟨b, off + i * 2 + 1, none⟩ = some (.int .i64 (N i))
  bd : ∀ i, i < len → (-9223372036854775808 ≤ K i ∧ K i ≤ 9223372036854775807) ∧ (-9223372036854775808 ≤ N i ∧ N i ≤ 9223372036854775807)

theorem Acts2.kept {w w' A len b off K N} (h : Acts2 w A len b off K N) (k : Kept (fun _ => False) w w') : Acts2 w' A len b off K N :=
  ⟨h.at_, fun hl => Nat.lt_of_lt_of_le (h.lt hl) k.size, fun i hi => by
    have hb := h.lt (by omega)
    exact ⟨(World.cell?_of_block (w := w) (k.block b hb id)).trans (h.cell i hi).1, (World.cell?_of_block (w := w) (k.block b hb id)).trans (h.cell i hi).2⟩, h.bd⟩

section
variable {H : Type} {enc : TypeId × Value → H} {w : World} {P : Program}
open Go.Deep
/-- A slice of acts, opened. -/
theorem open_acts2 {t e ti : TypeId} {f0 f1 : Field} {v : Value} {d : DataW H} {ps : List MemPlace} (ht : P.underlying t = some (.slice e)) (he : P.underlying e = some (.struct #[f0, f1]))
    (hone : oneCellFields P #[f0, f1] = true) (hC : P.cellsOf e = 2) (h0 : f0.type = ti) (h1 : f1.type = ti) (hti : P.underlying ti = some (.int .i64))
    (hv : Value.okWide P w .any 0 t v) (h : DataW.Trod enc P w 0 (fun _ => true) true t v d ps) :
    ∃ A len cap b off K N, v = .slice A len cap ∧ len ≤ maxLen ∧ Acts2 w A len b off K N := by
  obtain ⟨a0, len, cap, rfl⟩ := okWide_slice ht hv
  obtain ⟨fuel, hf⟩ := h
  rcases open_slice_fields ht he hone hC hf with ⟨hcs, _⟩ | ⟨a, len', cap', m, D, Pl, hcs, _, hl, hm, hmm, _, hi⟩
  · simp [Value.cells] at hcs
    obtain ⟨rfl, rfl, rfl⟩ := hcs
    exact ⟨none, 0, 0, 0, 0, fun _ => 0, fun _ => 0, rfl, Nat.zero_le _, ⟨fun h => absurd h (by omega), fun h => absurd h (by omega), fun i h => absurd h (by omega), fun i h => absurd h (by omega)⟩⟩
  · simp [Value.cells] at hcs
    obtain ⟨rfl, rfl, rfl⟩ := hcs
    simp only [if_true] at hmm
    subst hmm
    have key : ∀ i, i < len → ∃ kn : Int × Int, w.cell? (a.add (i * 2)) = some (.int .i64 kn.1) ∧ w.cell? (a.add (i * 2 + 1)) = some (.int .i64 kn.2) ∧ (-9223372036854775808 ≤ kn.1 ∧ kn.1 ≤ 9223372036854775807) ∧ (-9223372036854775808 ≤ kn.2 ∧ kn.2 ≤ 9223372036854775807) := by
      intro i hil
      obtain ⟨ys, n, _, _, _, hf⟩ := hi i (by omega)
      obtain ⟨v0, y0, hc0, _, ht0⟩ := hf 0 f0 rfl
      obtain ⟨v1, y1, hc1, _, ht1⟩ := hf 1 f1 rfl
      rw [h0] at ht0
      rw [h1] at ht1
      obtain ⟨x0, e0, _, w0⟩ := DataW.trod_int hti ht0
      obtain ⟨x1, e1, _, w1⟩ := DataW.trod_int hti ht1
      simp at e0 e1
      subst e0 e1
      exact ⟨(x0, x1), by simpa using hc0, by simpa using hc1, bounds_i64 w0, bounds_i64 w1⟩
    obtain ⟨f, hfn⟩ := Go.Deep.choose_lt key
    obtain ⟨b, off, spot⟩ := a
    by_cases hlen : 0 < len
    · have h00 := (hfn 0 hlen).1
      have hspot : spot = none := by simpa [Addr.add] using World.cell?_spot h00
      subst hspot
      refine ⟨some ⟨b, off, none⟩, len, _, b, off, fun i => (f i).1, fun i => (f i).2, rfl, by omega, ⟨fun _ => rfl, fun _ => ?_, fun i hi => ?_, fun i hi => (hfn i hi).2.2⟩⟩
      · exact block_lt_of_cell (a := (⟨b, off, none⟩ : Addr).add (0 * 2)) h00
      · have := hfn i hi
        have e1 : ∀ n, (⟨b, off, none⟩ : Addr).add n = ⟨b, off + n, none⟩ := fun n => by unfold Addr.add; split <;> simp_all
        rw [e1, e1] at this
        exact ⟨this.1, this.2.1⟩
    · exact ⟨some ⟨b, off, spot⟩, len, _, 0, 0, fun _ => 0, fun _ => 0, rfl, by omega, ⟨fun h => absurd h hlen, fun h => absurd h hlen, fun i h => absurd h (by omega), fun i h => absurd h (by omega)⟩⟩
end

end Go.Proofs.Ytghbnomiahiapaa
