/- record: objects as they are at first: made, cloned. -/
import Derived.Test.YtghbnomiahiapaaSeD
import Derived.Maps.Ext
import Derived.Maps.OwnSet
namespace Go.Proofs.Ytghbnomiahiapaa
open Go.RowKit Go.Maps
attribute [local go_sem] Oper.semAt_some
theorem om_kept {S : Nat → Prop} {w w' : World} {P : Program} {kk : TypeId} {R : Value → Option (DataW Unit × List MemPlace)} {b n : Nat} {D : DataW Unit} (k : Kept S w w') (h : w.ownsMap P kk R b n D) (hs : ¬ S b) : w'.ownsMap P kk R b n D := by
  have hlt := h.lt
  obtain ⟨es, clock, hb, rest⟩ := h
  exact ⟨es, clock, (k.block b hlt hs).trans hb, rest⟩
/-- How a state reads. -/
def stR (v : Value) : Option (DataW Unit × List MemPlace) := match v with | .agg ⟨[.int .i64 5, .int .i64 0, .slice none 0 0]⟩ => some (.lit (.bool true), []) | _ => none
theorem stR_mk : stR (.agg #[.int .i64 5, .int .i64 0, .slice none 0 0]) = some (.lit (.bool true), []) := rfl
theorem stR_inv {v : Value} {y : DataW Unit × List MemPlace} (h : stR v = some y) : v = .agg #[.int .i64 5, .int .i64 0, .slice none 0 0] := by
  unfold stR at h
  split at h
  · rfl
  · cases h
theorem lawS : Keyed Try.prog 9 := string_keyed Try.underlying9
theorem key_inv {key : Value} {kl : Lit} (h : keyOf Try.prog 9 key = some kl) : ∃ s, key = .string s := by
  unfold keyOf mapKey at h
  rw [show Try.prog.underlying 9 = some .string by kernel_rfl] at h
  cases key <;> first | exact ⟨_, rfl⟩ | cases h
/-- Objects, each as it is at first. -/
def Obs (w : World) (b : Nat) : Prop := ∃ D : DataW Unit, w.ownsMap Try.prog 9 stR b 10 D ∧ Maps.size D ≤ 10
theorem New_calls (w : World) : Calls Try.prog 15 #[.int .i64 5] w fun e w' => e = .returned (.agg #[.int .i64 5, .int .i64 0, .slice none 0 0]) ∧ Kept (fun _ => False) w w' := by
  go_enter Try.func15, Try.ntmps15
  go_wp2
  have hh := heap_new w (.cells #[.int .i64 5, .int .i64 0, .slice none 0 0] 46)
  have g0 := (cell_heap hh 0).trans rfl
  have g1 := (cell_heap hh 1).trans rfl
  have g2 := (cell_heap hh 2).trans rfl
  refine bodyPost_ret (v := .agg #[.int .i64 5, .int .i64 0, .slice none 0 0]) ?_ rfl ⟨rfl, (Kept.refl _ _).alloc _⟩
  simp [results, Try.f15, go_sem, g0, g1, g2]
theorem ClRows_calls (w : World) : Calls Try.prog 23 #[.slice none 0 0] w fun e w' => e = .returned (.slice none 0 0) ∧ w = w' := by
  have hb : ∀ w : World, (binOp BinOp.eql 44 (.slice none 0 0) (.slice none 0 0)).run Try.prog w = .ok (.bool true) w := fun w => by kernel_rfl
  go_enter Try.func23, Try.ntmps23
  go_wp2
  go_ret
  exact ⟨rfl, rfl⟩
theorem StClone_calls (w : World) : Calls Try.prog 17 #[.agg #[.int .i64 5, .int .i64 0, .slice none 0 0]] w fun e w' => e = .returned (.agg #[.int .i64 5, .int .i64 0, .slice none 0 0]) ∧ Kept (fun _ => False) w w' := by
  go_enter Try.func17, Try.ntmps17
  go_wp2_with fail
  refine (ClRows_calls _).mono ?_
  rintro e w1 ⟨rfl, rfl⟩
  go_wp2_with fail
  have hh : ((w.alloc (.cells #[.int .i64 5, .int .i64 0, .slice none 0 0] 46)).alloc (.cells #[.int .i64 5, .int .i64 0, .slice none 0 0] 46)).heap[w.heap.size + 1]? = _ := heap_newAt (by simp) _
  have g0 := (cell_heap hh 0).trans rfl
  have g1 := (cell_heap hh 1).trans rfl
  have g2 := (cell_heap hh 2).trans rfl
  refine bodyPost_ret (v := .agg #[.int .i64 5, .int .i64 0, .slice none 0 0]) ?_ rfl ⟨rfl, ((Kept.refl _ _).alloc _).alloc _⟩
  simp [results, Try.f17, go_sem, g0, g1, g2]
theorem Empty_calls (w : World) : Calls Try.prog 8 #[] w fun e w' => ∃ b, e = .returned (.map (some b)) ∧ Obs w' b ∧ Kept (fun _ => False) w w' := by
  have hmm := @run_makeMap Try.prog
  have CN := Lib.hid New_calls
  go_enter Try.func8, Try.ntmps8
  go_wp2_with fail
  refine (CN.out _).mono ?_
  rintro e w1 ⟨rfl, k1⟩
  have hm := om_kept k1 (World.ownsMap_made (H := Unit) w Try.prog 9 stR) not_false
  obtain ⟨w2, hr, h2, g2⟩ := hm.update (t := 33) (e := 46) lawS (by kernel_rfl) (by unfold maxLen; omega) (key := .string ⟨#[]⟩) (kl := .string []) (by kernel_rfl) stR_mk
  have K2 : Hid (Kept (fun _ => False) w w2) := (((Kept.refl _ w).alloc _).trans k1).grown g2 fun k e => by injection e with e; exact .inr (by omega)
  have O2 : Hid (Obs w2 w.heap.size) := ⟨_, h2.mono (by omega), Nat.le_trans h2.size_le (by omega)⟩
  clear hm h2 g2 k1
  go_wp2_with fail
  go_ret
  exact ⟨_, rfl, O2.out, K2.out⟩
set_option maxHeartbeats 4000000 in
theorem ObClone_calls {w b} (h : Obs w b) : Calls Try.prog 12 #[.map (some b)] w fun e w' => ∃ b', e = .returned (.map (some b')) ∧ Obs w' b' ∧ Kept (fun _ => False) w w' := by
  obtain ⟨D, hown, hmax⟩ := h
  have hmm := @run_makeMap Try.prog
  have CS := Lib.hid StClone_calls
  have hbl := hown.lt
  have e1 : (w.alloc (.map #[] 0)).heap.size = w.heap.size + 1 := by simp
  go_enter Try.func12, Try.ntmps12
  go_wp2_with (first
    | (at_range; refine wpList_range_own _ rfl _ 33 rfl 9 46 lawS (by kernel_rfl) _ b 10 _ rfl (hown.alloc _) ?_; intro w0 hrg0 hg0 hs0)
    | go_in)
  go_frame
  rw [e1] at hrg0 hs0 ⊢
  go_loopw [4] (fun _ wr => ∃ (left : Lit → Bool) (cnt : Nat) (Dout : DataW Unit), wr.ranges Try.prog 9 stR b (w.heap.size + 1) 10 D left cnt ∧ cnt ≤ Maps.size D ∧
      wr.ownsMap Try.prog 9 stR w.heap.size (Maps.size D - cnt) Dout ∧ Kept (fun _ => False) w wr)
    (fun _ wr => wr.rangeLeft b (w.heap.size + 1))
  case atStart =>
    exact ⟨_, _, .map [], hrg0, Nat.le_refl _, ((World.ownsMap_made _ _ _ _).kept hg0 (by simp)).mono (Nat.zero_le _), ((Kept.refl _ _).alloc _).grown hg0 (fun j hj => by cases hj)⟩
  case round =>
    obtain ⟨left, cnt, Dout, hrg, hcs, hout, hk⟩ := hrel
    go_wp2_with (first
      | (at_next; refine wpList_next_ranges _ rfl _ rfl 9 lawS stR Value.string (fun _ : Unit => .agg #[.int .i64 5, .int .i64 0, .slice none 0 0]) (fun key kl h => key_inv h) (fun v y h => ⟨(), stR_inv h⟩) b (w.heap.size + 1) 10 _ _ _ rfl hrg ?_ ?_)
      | go_in)
    · intro hc0 hl0
      go_wp2
      go_ret
      exact ⟨_, rfl, ⟨_, hout.mono (by omega), Nat.le_trans hout.size_le (by omega)⟩, hk⟩
    · intro x kl d ps w1 cnt1 hkey hlx hval hat hrg1 hlt hg1 hs1 hen
      have hout1 := hout.kept hg1 (by simp)
      have hk1 : Kept (fun _ => False) w w1 := hk.grown hg1 fun j e => by injection e with e; exact .inr (by omega)
      have HS := Lib.hid hs1
      clear hs1
      go_wp2_with fail
      refine (CS.out _).mono ?_
      rintro e w2 ⟨rfl, k2'⟩
      have k2 : Kept (fun _ => False) w1 w2 := ((Kept.refl _ _).alloc _).trans k2'
      have hrg2 := hrg1.kept (w' := w2) (row := none) ⟨k2.os, k2.tape, k2.output, k2.size, fun i hi _ => k2.block i hi not_false⟩ (by simp) (by simp)
      have hout2 := om_kept k2 hout1 not_false
      have hk2 := hk1.trans k2
      clear k2 k2'
      go_wp2_with (first
        | (at_mapUpdate; refine wpList_mapUpdate_own _ rfl _ _ _ 33 rfl 9 46 lawS (by kernel_rfl) _ w.heap.size _ _ rfl hout2 (by unfold maxLen; omega) _ _ _ rfl rfl hkey _ [] stR_mk ?_; intro w3 hout3 hg3; go_frame)
        | go_in)
      have hrg3 := hrg2.kept hg3 (fun e => by have := Option.some.inj e; omega) (fun e => by have := Option.some.inj e; omega)
      go_roundw
      case rel => exact ⟨_, cnt1, _, hrg3, by omega, hout3.mono (by omega), hk2.grown hg3 fun j e => by injection e with e; exact .inr (by omega)⟩
      case measure => rw [hrg3.left_eq, hrg.left_eq]; exact hlt
end Go.Proofs.Ytghbnomiahiapaa
