/- serial: Legal, where there are no entries. -/
import Derived.Test.YtghbnomiahiapaaSeE
namespace Go.Proofs.Ytghbnomiahiapaa
open Go.RowKit Go.Maps
attribute [local go_sem] Oper.semAt_some
theorem ObLegal_calls {w b} (h : Obs w b) : Calls Try.prog 13 #[.map (some b), .agg #[.int .i64 0, .slice none 0 0]] w fun e w' => e = .returned (.int .i64 0) ∧ Kept (fun _ => False) w w' := by
  have CC := Lib.hid fun w' (k : Kept (fun _ => False) w w') => ObClone_calls (b := b) (w := w') (by obtain ⟨D, h1, h2⟩ := h; exact ⟨D, om_kept k h1 not_false, h2⟩)
  clear h
  go_enter Try.func13, Try.ntmps13
  go_wp2_with fail
  refine (CC.out _ ((Kept.refl _ _).alloc _)).mono ?_
  rintro e w1 ⟨b', rfl, -, k1⟩
  have hb := k1.heap (heap_new w (.cells #[.int .i64 0, .slice none 0 0] 40)) not_false
  have c1 : w1.cell? ⟨w.heap.size, 1, none⟩ = some (.slice none 0 0) := (cell_heap hb 1).trans rfl
  have K1 := Lib.hid (((Kept.refl (fun _ => False) w).alloc (.cells #[.int .i64 0, .slice none 0 0] 40)).trans k1)
  clear hb k1
  go_wp2_with fail
  refine wp_loop_rounds 1 ?_
  rw [rounds_succ]
  go_wp2_with fail
  go_ret
  exact ⟨rfl, K1.out⟩
theorem ObRedo_calls (b : Nat) (w : World) : Calls Try.prog 14 #[.map (some b), .agg #[.int .i64 0, .slice none 0 0]] w fun e w' => e = .returned (.slice none 0 0) ∧ Kept (fun _ => False) w w' := by
  go_enter Try.func14, Try.ntmps14
  go_wp2_with fail
  refine wp_loop_rounds 1 ?_
  rw [rounds_succ]
  go_wp2_with fail
  go_ret
  exact ⟨rfl, (Kept.refl _ _).alloc _⟩
set_option maxHeartbeats 4000000 in
theorem SeLegal_calls {w b v} (h : Obs w b) {B : Nat} (hv : TxsAt w B v [0]) : Calls Try.prog 7 #[.map (some b), v] w fun e w' => ∃ b', e = .returned (.tuple #[.int .i64 1, .map (some b')]) ∧ Kept (fun _ => False) w w' := by
  obtain ⟨g, off, c, rfl, -, hg, hc⟩ := hv
  obtain ⟨c0, c1⟩ := hc 0 (by simp)
  simp only [Nat.zero_mul, Nat.add_zero, List.getElem_cons_zero, List.length_cons, List.length_nil, Nat.zero_add] at c0 c1 ⊢
  have CC := Lib.hid (ObClone_calls h)
  clear h hc
  go_enter Try.func7, Try.ntmps7
  go_wp2_with fail
  refine CC.out.mono ?_
  rintro e w1 ⟨b', rfl, ob1, k1⟩
  have d0 := (World.cell?_of_block (k1.block g hg not_false)).trans c0
  have d1 := (World.cell?_of_block (k1.block g hg not_false)).trans c1
  have K1 := Lib.hid k1
  have CL := Lib.hid fun w' (k : Kept (fun _ => False) w1 w') => ObLegal_calls (b := b') (w := w') (by obtain ⟨D, h1, h2⟩ := ob1; exact ⟨D, om_kept k h1 not_false, h2⟩)
  have CR := Lib.hid (ObRedo_calls b')
  clear c0 c1 hg k1 ob1 CC
  go_wp2_with fail
  refine wp_loop_rounds 2 ?_
  rw [rounds_succ]
  go_wp2_with fail
  obtain ⟨N, hN⟩ : ∃ N, N = w1.heap.size := ⟨_, rfl⟩
  obtain ⟨W, hW⟩ : ∃ W, W = ((w1.alloc (Obj.cells #[.slice none 0 0, .int .i64 0] 27)).alloc (Obj.cells #[.int .i64 0, .slice none 0 0] 40)) := ⟨_, rfl⟩
  have KW : Kept (fun _ => False) w1 W := by rw [hW]; exact ((Kept.refl _ _).alloc _).alloc _
  have b0 : W.heap[N]? = some (.cells #[.slice none 0 0, .int .i64 0] 27 (0, 0)) := by rw [hW, hN]; exact heap_old (heap_new _ _) _
  have b1 : W.heap[N + 1]? = some (.cells #[.int .i64 0, .slice none 0 0] 40 (0, 0)) := by rw [hW, hN]; exact heap_newAt (by simp) _
  have HB0 := Lib.hid b0; have HB1 := Lib.hid b1; have HKW := Lib.hid KW
  rw [← hW, ← hN]
  clear hW hN KW d0 d1 b0 b1
  have x0 : ∀ w', Kept (fun _ => False) W w' → w'.cell? ⟨N, 0, none⟩ = some (.slice none 0 0) ∧ w'.cell? ⟨N + 1, 0, none⟩ = some (.int .i64 0) ∧ w'.cell? ⟨N + 1, 1, none⟩ = some (.slice none 0 0) := fun w' k =>
    ⟨(cell_heap (k.heap HB0.out not_false) 0).trans rfl, (cell_heap (k.heap HB1.out not_false) 0).trans rfl, (cell_heap (k.heap HB1.out not_false) 1).trans rfl⟩
  have HX := Lib.hid x0
  clear x0
  have x1 := HX.out _ (Kept.refl _ _).drew
  go_region_held3 (fun w' => w'.cell? ⟨N, 0, none⟩ = some (.slice none 0 0) ∧ w'.cell? ⟨N + 1, 0, none⟩ = some (.int .i64 0) ∧ w'.cell? ⟨N + 1, 1, none⟩ = some (.slice none 0 0)) (first | exact x1 | exact hX2)
    (first
      | (go_at_call 13; refine (CL.out _ (HKW.out.trans (by repeat (first | exact Kept.refl _ _ | refine Kept.drew ?_)))).mono ?_; rintro e w2 ⟨rfl, k2'⟩; have K2 : Hid (Kept (fun _ => False) W w2) := Kept.trans (by repeat (first | exact Kept.refl _ _ | refine Kept.drew ?_)) k2'; have hX2 := HX.out w2 K2.out; clear k2'))
  all_goals (try go_wp2_with fail)
  refine (CR.out _).mono ?_
  rintro e w3 ⟨rfl, k3⟩
  have K3 : Hid (Kept (fun _ => False) w w3) := ((K1.out.trans HKW.out).trans K2.out).trans k3
  clear k3 x1 hX2
  go_wp2_with fail
  rw [rounds_succ]
  go_wp2_with fail
  go_ret2
  exact ⟨_, rfl, K3.out⟩
end Go.Proofs.Ytghbnomiahiapaa
