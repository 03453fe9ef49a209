/- Device: New. -/
import Derived.Test.YtfgjehecjgebdaaMg14
namespace Go.Proofs.Ytfgjehecjgebdaa
open Go.RowKit

def newCells (v : Value) : Array Value := #[v, .slice none 0 0, .int .i64 (-1), .bool false, .int .i64 0]
/-- A device of k sectors, in the making. -/
def NewAt (w : World) (k : Nat) (wr : World) (v : Value) : Prop :=
  wr.heap[w.heap.size]? = some (.cells (newCells v) 117 (0, 0)) ∧ wr.ownsRow 0 9 1 v k ((List.replicate k zero64).map Ss) ∧ (∀ g, v.ownBlock = some g → w.heap.size ≤ g) ∧ Kept (fun _ => False) w wr

theorem new_step {w wr v k W w1 v1} (h : NewAt w k wr v) (k0 : Kept (fun _ => False) wr W)
    (hown : w1.ownsRow 0 9 1 v1 (k + 1) ((List.replicate k zero64).map Ss ++ [Ss zero64])) (hg : W.grownBy w1 v.ownBlock) (hat : v1.ownBlock = v.ownBlock ∨ v1.ownBlock = some W.heap.size) :
    w1.heap[w.heap.size]? = some (.cells (newCells v) 117 (0, 0)) ∧ NewAt w (k + 1) (w1.setCell ⟨w.heap.size, 0, none⟩ v1) v1 := by
  obtain ⟨hh, ho, hn, hk⟩ := h
  have hno : v.ownBlock ≠ some w.heap.size := fun e => by obtain ⟨cs, f, hg⟩ := own_type ho e; exact ne_type hg hh (by decide) rfl
  have h0 := k0.heap hh id
  have h1 : w1.heap[w.heap.size]? = some (.cells (newCells v) 117 (0, 0)) := (hg.block _ (lt_heap h0) (fun e => hno e.symm)).trans h0
  refine ⟨h1, by rw [heap_set h1]; rfl, ?_, ?_, ?_⟩
  · have hne : v1.ownBlock ≠ some (⟨w.heap.size, 0, none⟩ : Addr).block := by
      rcases hat with e | e
      · rw [e]; exact hno
      · rw [e]; intro e2; simp at e2
        have := lt_heap h0
        omega
    have := ownsRow_setCell_other hown (a := ⟨w.heap.size, 0, none⟩) hne v1
    rw [List.replicate_succ', List.map_append]
    exact this
  · intro g hg
    rcases hat with e | e
    · rw [e] at hg; exact hn g hg
    · rw [e] at hg; simp at hg; have := hk.size; have := k0.size; omega
  · exact ((hk.trans k0).grown hg (fun g hg => .inr (hn g hg))).setCell (.inr (Nat.le_refl _)) _

def NewPost (n : Nat) (w : World) (e : Ending) (w' : World) : Prop :=
  ∃ vs, e = .returned (.tuple #[.pointer (some ⟨w.heap.size, 0, none⟩), .int .i64 0]) ∧ IsDev w' w.heap.size vs (.slice none 0 0) (dev0 n) ∧ Kept (fun _ => False) w w' ∧ ∀ g, vs.ownBlock = some g → w.heap.size ≤ g

set_option maxRecDepth 100000 in
theorem DevNew_calls (n : Nat) (h0 : 0 < n) (hn : n ≤ 65536) (w : World) : Calls Try.prog 52 #[.int .i64 n] w (NewPost n w) := by
  obtain ⟨O, Z⟩ := zeros_calls
  have HZ := Lib.hid Z; clear Z
  go_enter Try.func52, Try.ntmps52
  go_wp2
  have HA : Hid (NewAt w 0 (w.alloc (.cells (newCells (.slice none 0 0)) 117)) (.slice none 0 0)) :=
    ⟨heap_new w _, World.ownsRow_nil _ _ _ _, by simp [Value.ownBlock], (Kept.refl _ _).alloc _⟩
  go_loopw [14] (fun i wr => ∃ k : Nat, k ≤ n ∧ i = .int .i64 k ∧ ∃ v, NewAt w k wr v) (fun i _ => n - (intOf i).toNat)
  case atStart => exact ⟨0, Nat.zero_le _, rfl, _, HA.out⟩
  case round =>
    obtain ⟨k, hk, rfl, v, hA⟩ := hrel
    have HN := Lib.hid hA
    obtain ⟨hh, ho, _, hkp⟩ := hA
    by_cases hlt : k < n
    · have hc : wr.cell? ⟨w.heap.size, 0, none⟩ = some v := (cell_heap hh 0).trans rfl
      have hdl := lt_heap hh
      have HO := Lib.hid ho
      clear ho hkp HA hh
      go_wp2
      go_region_law (first
        | (refine step_call (args := #[]) rfl zeros_enters rfl (by simp) (HZ.out _) ?_; rintro e w' ⟨rfl, rfl⟩; refine ⟨_, rfl, ?_⟩)
        | (refine step_one (v := v) rfl (.tmp 20) (.tmp 22) rfl und_strs info_str rfl rfl ((HO.out.alloc _).alloc _).drew (wr.heap.size + 1 + 1) rfl (reads_new (w := wr.alloc O) (by simp) (.string (ba zero64)) _).drew (ss_one [zero64]) (by unfold maxLen; omega) (by omega) ?_; intro v1 w1 hown1 hg1 hat1; have R := new_step HN.out (((Kept.refl _ wr).alloc O).alloc _).drew hown1 hg1 hat1; obtain ⟨g1, cap1, rfl⟩ := own_form hown1 (by omega); have hc1 : w1.cell? ⟨w.heap.size, 0, none⟩ = some v := (cell_heap R.1 0).trans rfl; have hf1 : w1.frozen? ⟨w.heap.size, 0, none⟩ = false := free_heap R.1 0; have HR := Lib.hid R.2; clear R hown1 hg1 hat1))
      all_goals
        go_wp2
        go_roundw
        case rel => exact ⟨k + 1, by omega, by go_num, _, HR.out⟩
        case measure => simp [intOf]; omega
    · obtain rfl : k = n := by omega
      go_wp2
      go_ret2
      obtain ⟨hh, ho, hn, hkp⟩ := HN.out
      exact ⟨v, rfl, ⟨⟨0, hh⟩, by simpa [dev0] using ho, World.ownsRow_nil _ _ _ _, dev0_good k h0 (by omega)⟩, hkp, hn⟩

end Go.Proofs.Ytfgjehecjgebdaa
