/- slices.Backward over writes: the iterator's contract. -/
import Derived.RangeFuncNested
import Derived.RangeFuncBound
import Derived.RangeFuncCalls
import Derived.RangeFuncLeaves
import Derived.Shelf.Abstract
import Derived.WalkKit
import Derived.OwnWalkIn
import Derived.TacticsInMore
import Derived.LoopNIn
import Derived.LoopIn
import Derived.Test.YtfgjehecjgebdaaMg23
namespace Go.Proofs.Ytfgjehecjgebdaa
open Go.RowKit Go.Shelf
attribute [local go_sem] Oper.semAt_some

/-- What has come of n things when c are still to come, the last first. -/
def back (A : Nat → Nat) (T : Nat → ByteArray) (n c : Nat) : List (Nat × Nat × ByteArray) := (List.range (n - c)).map fun j => (n - 1 - j, A (n - 1 - j), T (n - 1 - j))
theorem back_succ (A : Nat → Nat) (T : Nat → ByteArray) (n m : Nat) (h : m + 1 ≤ n) : back A T n m = back A T n (m + 1) ++ [(m, A m, T m)] := by
  unfold back
  rw [show n - m = n - (m + 1) + 1 by omega, List.range_succ, List.map_append]
  simp [show n - 1 - (n - (m + 1)) = m by omega]
theorem back_len (A : Nat → Nat) (T : Nat → ByteArray) (n c : Nat) : (back A T n c).length = n - c := by simp [back]
theorem back_start (A : Nat → Nat) (T : Nat → ByteArray) (n : Nat) : back A T n n = [] := by simp [back]

set_option maxRecDepth 100000 in
set_option maxHeartbeats 2000000 in
theorem backward1_in (F : Fence) (n : Nat) (h7 : F.fn 87) (hro : F.round = none) (hn : 1 ≤ n) (l Bs n₀ b len cap : Nat) (A : Nat → Nat) (T : Nat → ByteArray) (hreach : len ≤ 1000000) (hb : b < n₀) (J Jx : List (Nat × Nat × ByteArray) → World → Prop)
    (hY : ∀ pre x W, J pre W → pre.length < len → YieldAt F (n - 1) Try.prog l #[.int .i64 (x.1 : Int), .agg #[.int .i64 (x.2.1 : Int), .string x.2.2]] W fun e W' =>
      (e = .returned (.bool true) ∧ J (pre ++ [x]) W' ∧ Below n₀ W W') ∨ (e = .returned (.bool false) ∧ Jx (pre ++ [x]) W'))
    (W : World) (hBs : W.cell? ⟨Bs, 0, none⟩ = some (.slice (some ⟨b, 0, none⟩) len cap)) (hB0 : Bs < n₀) (hc : ∀ j, j < len → W.cell? ⟨b, j * 2, none⟩ = some (.int .i64 (A j : Nat)) ∧ W.cell? ⟨b, j * 2 + 1, none⟩ = some (.string (T j))) (h0 : J [] W) :
    CallsIn F n Try.prog 87 #[.func (.yield l) #[] #[], .pointer (some ⟨Bs, 0, none⟩)] W fun e W' => (∃ v, e = .returned v) ∧
      ((∃ ys, ys = back A T len 0 ∧ J ys W') ∨ (∃ pre, (∃ c, c ≤ len ∧ pre = back A T len c) ∧ Jx pre W')) := by
  refine callsIn_of_wp Try.func87 rfl h7 ?_ hro
  simp only [Try.ntmps87, List.size_toArray, List.length_cons, List.length_nil, Nat.reduceAdd, Nat.reduceSub, Array.replicate_succ, Array.replicate_zero, List.push_toArray, List.append_toArray, List.nil_append, List.cons_append]
  gi_wp2
  gi_loopw [3] (fun i wr => ∃ c : Nat, c ≤ len ∧ i = .int .i64 ((c : Int) - 1) ∧ J (back A T len c) wr ∧ Below n₀ W wr)
    (fun i _ => (intOf i + 1).toNat)
  case atStart => exact ⟨len, Nat.le_refl _, by go_num, by rw [back_start]; exact h0, Below.refl _ _⟩
  case round =>
    obtain ⟨c, hk, rfl, hJs, hnx⟩ := hrel
    have hbs' := (hnx.cell (p := ⟨Bs, 0, none⟩) hB0).trans hBs
    rcases Nat.eq_zero_or_pos c with rfl | hp
    · gi_wp2
      go_end0
      exact ⟨⟨_, rfl⟩, .inl ⟨_, rfl, hJs⟩⟩
    · obtain ⟨m, rfl⟩ : ∃ m, c = m + 1 := ⟨c - 1, by omega⟩
      rw [show ((m + 1 : Nat) : Int) - 1 = m by omega]
      obtain ⟨hc1, hc2⟩ := hc m (by omega)
      have hc1' := (hnx.cell (p := ⟨b, m * 2, none⟩) hb).trans hc1
      have hc2' := (hnx.cell (p := ⟨b, m * 2 + 1, none⟩) hb).trans hc2
      obtain ⟨fn, tmps, assign, body, hy, hR⟩ := hY _ (m, A m, T m) wr hJs (by rw [back_len]; omega)
      dsimp only at hy
      have HB := Lib.hid (back_succ A T len m hk)
      gi_wp2
      refine hR.mono ?_
      rintro e W3 (⟨rfl, hJ3, hk3⟩ | ⟨rfl, hJx3⟩)
      · gi_wp2
        go_roundw
        case rel => exact ⟨m, by omega, by go_num, by rw [HB.out]; exact hJ3, hnx.trans hk3⟩
        case measure => simp [intOf]
      · gi_wp2
        refine bodyPost_ret (results_none rfl _ _ _) rfl ?_
        exact ⟨⟨_, rfl⟩, .inr ⟨_, ⟨m, by omega, HB.out.symm⟩, hJx3⟩⟩

set_option maxRecDepth 100000 in
set_option maxHeartbeats 1000000 in
theorem backward1_nil_in (F : Fence) (n : Nat) (h7 : F.fn 87) (hro : F.round = none) (l Bs cap : Nat) (Ad : Option Addr) (J : List (Nat × Nat × ByteArray) → World → Prop)
    (W : World) (hBs : W.cell? ⟨Bs, 0, none⟩ = some (.slice Ad 0 cap)) (h0 : J [] W) :
    CallsIn F n Try.prog 87 #[.func (.yield l) #[] #[], .pointer (some ⟨Bs, 0, none⟩)] W fun e W' => (∃ v, e = .returned v) ∧ J [] W' := by
  refine callsIn_of_wp Try.func87 rfl h7 ?_ hro
  simp only [Try.ntmps87, List.size_toArray, List.length_cons, List.length_nil, Nat.reduceAdd, Nat.reduceSub, Array.replicate_succ, Array.replicate_zero, List.push_toArray, List.append_toArray, List.nil_append, List.cons_append]
  gi_wp2
  gi_loopw [3] (fun i wr => i = .int .i64 (-1) ∧ J [] wr) (fun _ _ => 0)
  case atStart => exact ⟨by first | rfl | go_num, h0⟩
  case round =>
    obtain ⟨rfl, hJs⟩ := hrel
    gi_wp2
    go_end0
    exact ⟨⟨_, rfl⟩, hJs⟩

set_option maxHeartbeats 1000000 in
theorem backward_in (F : Fence) (n : Nat) (h5 : F.fn 64) (hro : F.round = none) (a : Option Addr) (len cap : Nat) (w : World) :
    CallsIn F n Try.prog 64 #[.slice a len cap] w fun e w' => e = .returned (.func (.func 87) #[] #[.pointer (some ⟨w.heap.size, 0, none⟩)]) ∧ w' = w.alloc (.cells #[.slice a len cap] 115) := by
  refine callsIn_of_wp Try.func64 rfl h5 ?_ hro
  simp only [Try.ntmps64, List.size_toArray, List.length_cons, List.length_nil, Nat.reduceAdd, Nat.reduceSub, Array.replicate_succ, Array.replicate_zero, List.push_toArray, List.append_toArray, List.nil_append, List.cons_append]
  gi_wp2
  go_ret
  exact ⟨rfl, rfl⟩

/-- The slice's cells, where there are any. -/
def WrsAt (n₀ : Nat) (W : World) (Ad : Option Addr) (len : Nat) (A : Nat → Nat) (T : Nat → ByteArray) : Prop :=
  0 < len → ∃ b, Ad = some ⟨b, 0, none⟩ ∧ b < n₀ ∧ ∀ j, j < len → W.cell? ⟨b, j * 2, none⟩ = some (.int .i64 (A j : Nat)) ∧ W.cell? ⟨b, j * 2 + 1, none⟩ = some (.string (T j))
theorem WrsAt.below {n₀ : Nat} {X Y : World} (h : Below n₀ X Y) {Ad len A T} (k : WrsAt n₀ X Ad len A T) : WrsAt n₀ Y Ad len A T := by
  intro hp
  obtain ⟨b, e, hb, hc⟩ := k hp
  exact ⟨b, e, hb, fun j hj => ⟨(h.cell (p := ⟨b, j * 2, none⟩) hb).trans (hc j hj).1, (h.cell (p := ⟨b, j * 2 + 1, none⟩) hb).trans (hc j hj).2⟩⟩

theorem backward_stops (F : Fence) (n : Nat) (h8 : F.fn 87) (hro : F.round = none) (hn : 1 ≤ n) (Bs n₀ : Nat) (Ad : Option Addr) (len cap : Nat) (A : Nat → Nat) (T : Nat → ByteArray) (hreach : len ≤ 1000000) (w : World) (hBs : Bs < n₀) (hn₀ : n₀ ≤ w.heap.size)
    (hc : w.cell? ⟨Bs, 0, none⟩ = some (.slice Ad len cap)) (hI : WrsAt n₀ w Ad len A T) :
    SeqStopsK F n Try.prog 87 #[.pointer (some ⟨Bs, 0, none⟩)] (fun x : Nat × Nat × ByteArray => #[Value.int .i64 (x.1 : Int), .agg #[.int .i64 (x.2.1 : Int), .string x.2.2]]) (Below n₀) (fun ys => ys = back A T len 0)
      (fun pre => ∃ c, c ≤ len ∧ pre = back A T len c) len w := fun l J Jx W hW _ _ hY h0 => by
  have hc' := (hW.cell (p := ⟨Bs, 0, none⟩) (by show Bs < w.heap.size; omega)).trans hc
  rcases Nat.eq_zero_or_pos len with rfl | hp
  · exact (backward1_nil_in F n h8 hro l Bs cap Ad J W hc' h0).mono fun e W' ⟨he, hj⟩ => ⟨he, .inl ⟨_, by simp [back], hj⟩⟩
  · obtain ⟨b, rfl, hb, hcs⟩ := (hI.below (hW.mono hn₀)) hp
    exact backward1_in F n h8 hro hn l Bs n₀ b len cap A T hreach hb J Jx hY W hc' hBs hcs h0

end Go.Proofs.Ytfgjehecjgebdaa
