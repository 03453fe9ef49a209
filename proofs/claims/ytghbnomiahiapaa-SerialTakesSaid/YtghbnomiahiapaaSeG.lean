/- serial: the law's awake; Take. -/
import Derived.Test.YtghbnomiahiapaaSeF
namespace Go.Proofs.Ytghbnomiahiapaa
open Go.RowKit Go.Maps
attribute [local go_sem] Oper.semAt_some
theorem txs_new {w : World} {n : Nat} (hn : n = w.heap.size) (a b : Int) : TxsAt (w.alloc (.cells #[.slice none 0 0, .int .i64 a, .slice none 0 0, .int .i64 b] 27)) (w.alloc (.cells #[.slice none 0 0, .int .i64 a, .slice none 0 0, .int .i64 b] 27)).heap.size (.slice (some ⟨n, 0, none⟩) 2 2) [a, b] := by
  subst hn
  refine ⟨w.heap.size, 0, 2, rfl, by simp, by simp, fun j hj => ?_⟩
  have hh := heap_new w (.cells #[.slice none 0 0, .int .i64 a, .slice none 0 0, .int .i64 b] 27)
  match j, hj with
  | 0, _ => exact ⟨(cell_heap hh 0).trans rfl, (cell_heap hh 1).trans rfl⟩
  | 1, _ => exact ⟨(cell_heap hh 2).trans rfl, (cell_heap hh 3).trans rfl⟩
theorem tx1_new {w : World} {n : Nat} (hn : n = w.heap.size) : TxsAt (w.alloc (.cells #[.slice none 0 0, .int .i64 0] 27)) (w.alloc (.cells #[.slice none 0 0, .int .i64 0] 27)).heap.size (.slice (some ⟨n, 0, none⟩) 1 1) [0] := by
  subst hn
  refine ⟨w.heap.size, 0, 1, rfl, by simp, by simp, fun j hj => ?_⟩
  have hh := heap_new w (.cells #[.slice none 0 0, .int .i64 0] 27)
  match j, hj with
  | 0, _ => exact ⟨(cell_heap hh 0).trans rfl, (cell_heap hh 1).trans rfl⟩
theorem gl0 : growL [0, 0] 2 [] = [[0, 1], [1, 0]] := by decide
theorem gl1 : growL [0, 1] 2 [] = [[0, 1]] := by decide
/-- The one order that may be. -/
theorem one_order {w w' : World} {e : Ending} (h : OrdTo [0, 1] w e w') : ∃ g c g2 c2, e = .returned (.slice (some ⟨g, 0, none⟩) 1 c) ∧ (g < w'.heap.size ∧ w'.cell? ⟨g, 0, none⟩ = some (.slice (some ⟨g2, 0, none⟩) 2 c2)) ∧ (g2 < w'.heap.size ∧ w'.cell? ⟨g2, 1, none⟩ = some (.int .i64 1)) ∧ Kept (fun _ => False) w w' := by
  obtain ⟨A, c, vs, rfl, h1, ⟨h2, h3⟩, h4⟩ := h
  have gl : growL [0, 1] ([0, 1] : List Int).length [] = [[0, 1]] := gl1
  rw [gl] at h1 h2 h3 ⊢
  match vs, h2 with
  | [s], _ =>
    have h5 := h3 0 s [0, 1] rfl rfl
    obtain ⟨g, c', e⟩ := own_form h1 (by simp)
    obtain ⟨g2, c2, e2⟩ := own_form h5 (by simp)
    simp only [Value.slice.injEq] at e
    obtain ⟨rfl, -, rfl⟩ := e
    subst e2
    exact ⟨g, c, g2, c2, rfl, ⟨own_lt h1 rfl, World.ownsRow.cellAt h1 0 (by simp)⟩, ⟨own_lt h5 rfl, World.ownsRow.cellAt h5 1 (by simp)⟩, h4⟩
set_option maxHeartbeats 4000000 in
theorem awake26_calls (w : World) : Calls Try.prog 4 #[] w fun e w' => e = .returned (.bool true) ∧ Kept (fun _ => False) w w' := by
  have CO := Lib.hid fun (w' : World) (v : Value) (a b : Int) (h : TxsAt w' w'.heap.size v [a, b]) (hl : (growL [a, b] 2 []).length ≤ 1000) => Orders_calls h (by simp) hl
  have CE := Lib.hid Empty_calls
  have hnm : ∀ (b : Nat) (w : World), (binOp BinOp.neq 33 (.map (some b)) (.map none)).run Try.prog w = .ok (.bool true) w := fun _ _ => by kernel_rfl
  go_enter Try.func4, Try.ntmps4
  go_wp2_with fail
  refine (CO.out _ _ 0 0 (txs_new rfl 0 0) (by rw [gl0]; decide)).mono ?_
  rintro e w1 ⟨A1, c1, vs1, rfl, -, -, k1⟩
  rw [show growL [0, 0] ([0, 0] : List Int).length [] = [[0, 1], [1, 0]] from gl0]
  have K1 : Hid (Kept (fun _ => False) w w1) := ((Kept.refl _ _).alloc _).trans k1
  clear k1
  simp only [List.length_cons, List.length_nil, Nat.zero_add, Nat.reduceAdd]
  go_wp2_with fail
  refine (CO.out _ _ 0 1 (txs_new rfl 0 1) (by rw [gl1]; decide)).mono ?_
  rintro e w2 ho
  obtain ⟨g, c, g2, c2, rfl, f1, f2, k2⟩ := one_order ho
  have K2 : Hid (Kept (fun _ => False) w w2) := K1.out.trans (((Kept.refl _ _).alloc _).trans k2)
  have F1 := Lib.hid f1; have F2 := Lib.hid f2
  clear ho f1 f2 k2
  go_wp2_with fail
  refine (CE.out _).mono ?_
  rintro e w3 ⟨b, rfl, ob, k3⟩
  have OB := Lib.hid ob; have K3 := Lib.hid k3
  clear ob k3
  go_wp2_with fail
  refine (SeLegal_calls (by obtain ⟨D, h1, h2⟩ := OB.out; exact ⟨D, om_kept ((Kept.refl (fun _ => False) _).alloc _) h1 not_false, h2⟩) (tx1_new rfl)).mono ?_
  rintro e w4 ⟨b4, rfl, k4⟩
  have KK : Kept (fun _ => False) w2 w4 := (K3.out.then ((Kept.refl _ _).alloc _) fun _ _ e => e).trans k4
  have z1 := (World.cell?_of_block (KK.block g F1.out.1 not_false)).trans F1.out.2
  have z2 := (World.cell?_of_block (KK.block g2 F2.out.1 not_false)).trans F2.out.2
  have K4 := Lib.hid (K2.out.trans KK)
  clear KK k4
  go_wp2_with fail
  go_ret
  exact ⟨rfl, K4.out⟩
end Go.Proofs.Ytghbnomiahiapaa
