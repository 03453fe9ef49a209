/- The reference's states of pages: Take, Give, Keep, Undo, Text, by their contracts. -/
import Derived.Test.YtfgjehecjgebdaaMg13
namespace Go.Proofs.Ytfgjehecjgebdaa
open Go.RowKit

def I (x : Nat) : Value := .int .i64 x
theorem und_ints : Try.prog.underlying 36 = some (.slice 3) := by kernel_rfl
theorem info_int : (Try.prog.info? 3).map (fun i => (i.zero, i.size, i.bytes)) = some (some (.int .i64 0), 1, 8) := by kernel_rfl

/-- A slice of ints of the call's own. -/
def IR (w : World) (g cap : Nat) (l : List Nat) : Prop := w.ownsRow 0 3 1 (.slice (some ⟨g, 0, none⟩) l.length cap) l.length (l.map I)
theorem IR.cell {w g cap l} (h : IR w g cap l) (i : Nat) (hi : i < l.length) : w.cell? ⟨g, i, none⟩ = some (.int .i64 (l[i] : Nat)) := by
  rw [h.cellAt i (by omega)]
  simp [hi, I]
theorem IR.kept {w w' g cap l} {S : Nat → Prop} (h : IR w g cap l) (k : Kept S w w') (hs : ¬ S g) : IR w' g cap l :=
  k.own h (by intro g' hg'; simp [Value.ownBlock] at hg'; subst hg'; exact hs)

/-- A result list of the reference's, with a number and a bool. -/
def RTake (l : List Nat) (i : Int) (l' : List Nat) (ok : Bool) (w : World) (e : Ending) (w' : World) : Prop :=
  ∃ g' cap', e = .returned (.tuple #[.slice (some ⟨g', 0, none⟩) l.length cap', .int .i64 i, .bool ok]) ∧ IR w' g' cap' l' ∧ l'.length = l.length ∧ Kept (fun _ => False) w w'

theorem ints_one (l : List Nat) : ∀ u ∈ l.map I, u.oneCell' = true := by
  intro u hu
  obtain ⟨x, _, rfl⟩ := List.mem_map.1 hu
  rfl
theorem IR.reads {w g cap l} (h : IR w g cap l) : Reads w w.heap.size 1 (some ⟨g, 0, none⟩) l.length (l.map I) := Reads.of_own h

set_option maxRecDepth 100000 in
theorem refTake_hit {w g cap l} (h : IR w g cap l) (h4 : ∀ x ∈ l, x < 4) (hl : l.length ≤ 128) (i : Nat) (hi : i < l.length) (hz : l[i] = 0) (hmin : ∀ j (hj : j < i), l[j] ≠ 0) :
    Calls Try.prog 18 #[.slice (some ⟨g, 0, none⟩) l.length cap] w (RTake l i (l.set i 2) true w) := by
  have H := Lib.hid h; clear h
  have H4 := Lib.hid h4; clear h4
  go_enter Try.func18, Try.ntmps18
  go_wp2
  go_loop [5, 6, 10] (fun _ _ n => ∃ k : Nat, k ≤ i ∧ n = .int .i64 k) (fun _ _ n => l.length - (intOf n).toNat)
  case atStart => exact ⟨0, Nat.zero_le _, rfl⟩
  case round =>
    obtain ⟨k, hk, rfl⟩ := hrel
    have hlt : k < l.length := by omega
    have hc := H.out.cell k hlt
    have hx := H4.out l[k] (by simp)
    by_cases he : k = i
    · subst he
      have ht : ((l[k] : Int) == 0) = true := by simp [hz]
      go_wp2_with (at_builtin; refine app_one (v := .slice (some ⟨w.heap.size, 0, none⟩) 0 0) rfl (.tmp 17) (.tmp 18) rfl und_ints info_int rfl rfl (own_empty _ _) w.heap.size rfl (H.out.reads.alloc (Nat.le_refl _) _) (ints_one l) (by unfold maxLen; omega) (by omega) ?_; intro v1 w1 hown1 hg1 hat1; simp only [Nat.zero_add, List.nil_append] at hown1; obtain ⟨g1, cap1, rfl⟩ := own_form hown1 (by omega); have hc1 := IR.cell hown1 k hlt; have hf1 := hown1.frozenAt k; have HO := Lib.hid hown1; have HG := Lib.hid hg1; have HA := Lib.hid hat1; clear hown1 hg1 hat1)
      go_ret3
      refine ⟨g1, cap1, rfl, ?_, by simp, ?_⟩
      · have := (HO.out.stored k (I 2)).1
        simp only [IR, List.map_set, List.length_set]
        exact this
      · refine (((Kept.refl _ _).alloc _).grown HG.out (by intro k' hk'; simp [Value.ownBlock] at hk'; exact .inr (by omega))).setCell (.inr ?_) _
        rcases HA.out with e | e <;> simp [Value.ownBlock] at e <;> simp [e]
    · have ht : ((l[k] : Int) == 0) = false := by have := hmin k (by omega); simp; omega
      go_wp2
      go_round
      case rel => exact ⟨k + 1, by omega, by go_num⟩
      case measure => simp [intOf]; omega

theorem refTake_miss {w g cap l} (h : IR w g cap l) (h4 : ∀ x ∈ l, x < 4) (hl : l.length ≤ 128) (hz : ∀ j (hj : j < l.length), l[j] ≠ 0) :
    Calls Try.prog 18 #[.slice (some ⟨g, 0, none⟩) l.length cap] w (RTake l 0 l false w) := by
  have H := Lib.hid h; clear h
  have H4 := Lib.hid h4; clear h4
  go_enter Try.func18, Try.ntmps18
  go_wp2
  go_loop [5, 6, 10] (fun _ _ n => ∃ k : Nat, k ≤ l.length ∧ n = .int .i64 k) (fun _ _ n => l.length - (intOf n).toNat)
  case atStart => exact ⟨0, Nat.zero_le _, rfl⟩
  case round =>
    obtain ⟨k, hk, rfl⟩ := hrel
    by_cases hlt : k < l.length
    · have hc := H.out.cell k hlt
      have hx := H4.out l[k] (by simp)
      have ht : ((l[k] : Int) == 0) = false := by have := hz k (by omega); simp; omega
      go_wp2
      go_round
      case rel => exact ⟨k + 1, by omega, by go_num⟩
      case measure => simp [intOf]; omega
    · go_wp2
      go_ret3
      exact ⟨g, cap, rfl, H.out, rfl, Kept.refl _ _⟩

theorem refTake_calls {w g cap l} (h : IR w g cap l) (h4 : ∀ x ∈ l, x < 4) (hl : l.length ≤ 128) :
    Calls Try.prog 18 #[.slice (some ⟨g, 0, none⟩) l.length cap] w (RTake l (tkRes l).1 (tkRes l).2.2 (tkAt l).isSome w) := by
  cases ht : tkAt l with
  | none =>
    have hz : ∀ j (hj : j < l.length), l[j] ≠ 0 := by
      intro j hj
      have := List.findIdx?_eq_none_iff.1 ht l[j] (by simp)
      simpa using this
    simp only [tkRes, ht]
    exact refTake_miss h h4 hl hz
  | some i =>
    obtain ⟨hi, h1, h2⟩ := List.findIdx?_eq_some_iff_getElem.1 ht
    simp only [tkRes, ht]
    exact refTake_hit h h4 hl i hi (by simpa using h1) (by intro j hj; simpa using h2 j hj)

/-- A result list of the reference's, with a bool. -/
def RGive (l : List Nat) (l' : List Nat) (ok : Bool) (w : World) (e : Ending) (w' : World) : Prop :=
  ∃ g' cap', e = .returned (.tuple #[.slice (some ⟨g', 0, none⟩) l.length cap', .bool ok]) ∧ IR w' g' cap' l' ∧ l'.length = l.length ∧ Kept (fun _ => False) w w'

theorem refGive_out {w g cap l} (h : IR w g cap l) (hl : l.length ≤ 128) (i : Int) (hi : i < 0 ∨ l.length ≤ i) :
    Calls Try.prog 19 #[.slice (some ⟨g, 0, none⟩) l.length cap, .int .i64 i] w (RGive l l false w) := by
  have H := Lib.hid h; clear h
  rcases hi with hi | hi
  · go_enter Try.func19, Try.ntmps19
    go_wp2
    go_ret2
    exact ⟨g, cap, rfl, H.out, rfl, Kept.refl _ _⟩
  · have hn : ¬ i < 0 := by omega
    go_enter Try.func19, Try.ntmps19
    go_wp2
    go_ret2
    exact ⟨g, cap, rfl, H.out, rfl, Kept.refl _ _⟩

theorem refGive_no {w g cap l} (h : IR w g cap l) (_hl : l.length ≤ 128) (i : Nat) (hi : i < l.length) (h1 : l[i] ≠ 1) (h2 : l[i] ≠ 2) :
    Calls Try.prog 19 #[.slice (some ⟨g, 0, none⟩) l.length cap, .int .i64 i] w (RGive l l false w) := by
  have hc := h.cell i hi
  have e1 : ((l[i] : Int) != 1) = true := by rw [bne_iff_ne]; omega
  have e2 : ((l[i] : Int) != 2) = true := by rw [bne_iff_ne]; omega
  have H := Lib.hid h; clear h
  go_enter Try.func19, Try.ntmps19
  go_wp2
  go_ret2
  exact ⟨g, cap, rfl, H.out, rfl, Kept.refl _ _⟩

set_option maxRecDepth 100000 in
theorem refGive_two {w g cap l} (h : IR w g cap l) (hl : l.length ≤ 128) (i : Nat) (hi : i < l.length) (h2 : l[i] = 2) :
    Calls Try.prog 19 #[.slice (some ⟨g, 0, none⟩) l.length cap, .int .i64 i] w (RGive l (l.set i 0) true w) := by
  have hc := h.cell i hi
  rw [h2] at hc
  have H := Lib.hid h; clear h
  have H2 := Lib.hid h2; clear h2
  go_enter Try.func19, Try.ntmps19
  go_wp2_with (at_builtin; refine app_one (v := .slice (some ⟨w.heap.size, 0, none⟩) 0 0) rfl (.tmp 30) (.tmp 31) rfl und_ints info_int rfl rfl (own_empty _ _) w.heap.size rfl (H.out.reads.alloc (Nat.le_refl _) _) (ints_one l) (by unfold maxLen; omega) (by omega) ?_; intro v1 w1 hown1 hg1 hat1; simp only [Nat.zero_add, List.nil_append] at hown1; obtain ⟨g1, cap1, rfl⟩ := own_form hown1 (by omega); have hc1 := IR.cell hown1 i hi; rw [H2.out] at hc1; have hf1 := hown1.frozenAt i; have k1 := ((Kept.refl (fun _ => False) w).alloc _).grown hg1 (by intro k' hk'; simp [Value.ownBlock] at hk'; exact .inr (by omega)); have hc0 := (H.out.kept k1 id).cell i hi; rw [H2.out] at hc0; have HO := Lib.hid hown1; have HK := Lib.hid k1; have HA := Lib.hid hat1; clear hown1 hg1 hat1 k1)
  go_ret2
  refine ⟨g1, cap1, rfl, ?_, by simp, HK.out.setCell (.inr ?_) _⟩
  · have := (HO.out.stored i (I 0)).1
    simp only [IR, List.map_set, List.length_set]
    exact this
  · rcases HA.out with e | e <;> simp [Value.ownBlock] at e <;> simp [e]

set_option maxRecDepth 100000 in
theorem refGive_one {w g cap l} (h : IR w g cap l) (hl : l.length ≤ 128) (i : Nat) (hi : i < l.length) (h2 : l[i] = 1) :
    Calls Try.prog 19 #[.slice (some ⟨g, 0, none⟩) l.length cap, .int .i64 i] w (RGive l (l.set i 3) true w) := by
  have hc := h.cell i hi
  rw [h2] at hc
  have H := Lib.hid h; clear h
  have H2 := Lib.hid h2; clear h2
  go_enter Try.func19, Try.ntmps19
  go_wp2_with (at_builtin; refine app_one (v := .slice (some ⟨w.heap.size, 0, none⟩) 0 0) rfl (.tmp 30) (.tmp 31) rfl und_ints info_int rfl rfl (own_empty _ _) w.heap.size rfl (H.out.reads.alloc (Nat.le_refl _) _) (ints_one l) (by unfold maxLen; omega) (by omega) ?_; intro v1 w1 hown1 hg1 hat1; simp only [Nat.zero_add, List.nil_append] at hown1; obtain ⟨g1, cap1, rfl⟩ := own_form hown1 (by omega); have hc1 := IR.cell hown1 i hi; rw [H2.out] at hc1; have hf1 := hown1.frozenAt i; have k1 := ((Kept.refl (fun _ => False) w).alloc _).grown hg1 (by intro k' hk'; simp [Value.ownBlock] at hk'; exact .inr (by omega)); have hc0 := (H.out.kept k1 id).cell i hi; rw [H2.out] at hc0; have HO := Lib.hid hown1; have HK := Lib.hid k1; have HA := Lib.hid hat1; clear hown1 hg1 hat1 k1)
  go_ret2
  refine ⟨g1, cap1, rfl, ?_, by simp, HK.out.setCell (.inr ?_) _⟩
  · have := (HO.out.stored i (I 3)).1
    simp only [IR, List.map_set, List.length_set]
    exact this
  · rcases HA.out with e | e <;> simp [Value.ownBlock] at e <;> simp [e]

theorem refGive_calls {w g cap l} (h : IR w g cap l) (hl : l.length ≤ 128) (i : Int) :
    Calls Try.prog 19 #[.slice (some ⟨g, 0, none⟩) l.length cap, .int .i64 i] w (RGive l (gvRes l i).2 (decide ((gvRes l i).1 = 0)) w) := by
  by_cases h2 : stAt l i = 2
  · obtain ⟨k, rfl, hk, hx⟩ := stAt_nat (x := 2) h2
    simp only [gvRes, if_pos h2, Int.toNat_natCast, decide_true]
    exact refGive_two h hl k hk hx
  · by_cases h1 : stAt l i = 1
    · obtain ⟨k, rfl, hk, hx⟩ := stAt_nat (x := 1) h1
      simp only [gvRes, if_neg h2, if_pos h1, Int.toNat_natCast, decide_true]
      exact refGive_one h hl k hk hx
    · simp only [gvRes, if_neg h2, if_neg h1]
      by_cases hi : i < 0
      · exact refGive_out h hl i (.inl hi)
      · obtain ⟨k, rfl⟩ := Int.eq_ofNat_of_zero_le (show 0 ≤ i by omega)
        by_cases hk : k < l.length
        · refine refGive_no h hl k hk ?_ ?_
          · intro e; apply h1; simp [stAt, hk, e]
          · intro e; apply h2; simp [stAt, hk, e]
        · exact refGive_out h hl k (.inr (by omega))

/-- A result list of the reference's. -/
def RList (l' : List Nat) (w : World) (e : Ending) (w' : World) : Prop :=
  ∃ g' cap', e = .returned (.slice (some ⟨g', 0, none⟩) l'.length cap') ∧ IR w' g' cap' l' ∧ Kept (fun _ => False) w w'

def kp1 (x : Nat) : Nat := if x = 1 ∨ x = 2 then 1 else 0
def ud1 (x : Nat) : Nat := if x = 1 ∨ x = 3 then 1 else 0
theorem take_map_snoc (f : Nat → Nat) {l : List Nat} {k : Nat} (hk : k < l.length) : ((l.take (k + 1)).map f).map I = ((l.take k).map f).map I ++ [I (f l[k])] := by
  rw [List.take_succ_eq_append_getElem hk, List.map_append, List.map_append]; rfl

set_option maxRecDepth 100000 in
theorem refKeep_calls {w g cap l} (h : IR w g cap l) (hl : l.length ≤ 128) (hp : 0 < l.length) (h4 : ∀ x ∈ l, x < 4) :
    Calls Try.prog 20 #[.slice (some ⟨g, 0, none⟩) l.length cap] w (RList (l.map kp1) w) := by
  have H := Lib.hid h; clear h
  have H4 := Lib.hid h4; clear h4
  go_enter Try.func20, Try.ntmps20
  go_wp2
  go_loopw [3, 5, 9] (fun v _ n wr => ∃ k : Nat, k ≤ l.length ∧ n = .int .i64 k ∧ wr.ownsRow 0 3 1 v k (((l.take k).map kp1).map I) ∧ (∀ g', v.ownBlock = some g' → w.heap.size ≤ g') ∧ Kept (fun _ => False) w wr) (fun _ _ n _ => l.length - (intOf n).toNat)
  case atStart => exact ⟨0, Nat.zero_le _, rfl, own_empty w _, by simp [Value.ownBlock], (Kept.refl _ _).alloc _⟩
  case round =>
    obtain ⟨k, hk, rfl, hown, hnew, hkp⟩ := hrel
    by_cases hlt : k < l.length
    · have hc := (H.out.kept hkp id).cell k hlt
      have hx := H4.out l[k] (by simp)
      have HO := Lib.hid hown; have HN := Lib.hid hnew; have HK := Lib.hid hkp; clear hown hnew hkp
      have HT := Lib.hid (take_map_snoc kp1 hlt)
      by_cases he : l[k] = 1 ∨ l[k] = 2
      · have HF : Hid (kp1 l[k] = 1) := by simp [Hid, kp1, he]
        rcases he with he | he
        · have ht : ((l[k] : Int) == 1) = true := by simp [he]
          have HE := Lib.hid he; clear he
          go_wp2_with (at_builtin; refine app_one rfl (.tmp 19) (.tmp 20) rfl und_ints info_int rfl rfl (HO.out.alloc _) (wr.heap.size + 1) rfl (reads_one wr (I 1) _) (ints_one [1]) (by unfold maxLen; omega) (by omega) ?_; intro v1 w1 hown1 hg1 hat1; have HO1 := Lib.hid hown1; have HG := Lib.hid hg1; have HA := Lib.hid hat1; clear hown1 hg1 hat1)
          go_roundw
          case rel => exact ⟨k + 1, by omega, by go_num, by (rw [HT.out, HF.out]; exact HO1.out), fun g' hg' => by (rcases HA.out with e | e; (exact HN.out g' (e ▸ hg')); (rw [e] at hg'; simp at hg'; have := HK.out.size; omega)), (HK.out.alloc _).grown HG.out (fun k' hk' => .inr (HN.out k' hk'))⟩
          case measure => simp [intOf]; omega
        · have ht : ((l[k] : Int) == 1) = false := by simp [he]
          have ht2 : ((l[k] : Int) == 2) = true := by simp [he]
          have HE := Lib.hid he; clear he
          go_wp2_with (at_builtin; refine app_one rfl (.tmp 19) (.tmp 20) rfl und_ints info_int rfl rfl (HO.out.alloc _) (wr.heap.size + 1) rfl (reads_one wr (I 1) _) (ints_one [1]) (by unfold maxLen; omega) (by omega) ?_; intro v1 w1 hown1 hg1 hat1; have HO1 := Lib.hid hown1; have HG := Lib.hid hg1; have HA := Lib.hid hat1; clear hown1 hg1 hat1)
          go_roundw
          case rel => exact ⟨k + 1, by omega, by go_num, by (rw [HT.out, HF.out]; exact HO1.out), fun g' hg' => by (rcases HA.out with e | e; (exact HN.out g' (e ▸ hg')); (rw [e] at hg'; simp at hg'; have := HK.out.size; omega)), (HK.out.alloc _).grown HG.out (fun k' hk' => .inr (HN.out k' hk'))⟩
          case measure => simp [intOf]; omega
      · have HF : Hid (kp1 l[k] = 0) := by simp [Hid, kp1, he]
        have ht : ((l[k] : Int) == 1) = false := by simp; omega
        have ht2 : ((l[k] : Int) == 2) = false := by simp; omega
        clear he
        go_wp2_with (at_builtin; refine app_one rfl (.tmp 22) (.tmp 23) rfl und_ints info_int rfl rfl (HO.out.alloc _) (wr.heap.size + 1) rfl (reads_one wr (I 0) _) (ints_one [0]) (by unfold maxLen; omega) (by omega) ?_; intro v1 w1 hown1 hg1 hat1; have HO1 := Lib.hid hown1; have HG := Lib.hid hg1; have HA := Lib.hid hat1; clear hown1 hg1 hat1)
        go_roundw
        case rel => exact ⟨k + 1, by omega, by go_num, by (rw [HT.out, HF.out]; exact HO1.out), fun g' hg' => by (rcases HA.out with e | e; (exact HN.out g' (e ▸ hg')); (rw [e] at hg'; simp at hg'; have := HK.out.size; omega)), (HK.out.alloc _).grown HG.out (fun k' hk' => .inr (HN.out k' hk'))⟩
        case measure => simp [intOf]; omega
    · have e1 : l.take k = l := List.take_of_length_le (by omega)
      have e2 : k = l.length := by omega
      rw [e1] at hown
      subst e2
      obtain ⟨g1, cap1, rfl⟩ := own_form hown hp
      have HO := Lib.hid hown; have HK := Lib.hid hkp; clear hown hnew hkp e1
      go_wp2
      go_ret
      refine ⟨g1, cap1, ?_, ?_, HK.out⟩
      · simp only [List.length_map]; rfl
      · unfold IR; rw [List.length_map]; exact HO.out

set_option maxRecDepth 100000 in
theorem refUndo_calls {w g cap l} (h : IR w g cap l) (hl : l.length ≤ 128) (hp : 0 < l.length) (h4 : ∀ x ∈ l, x < 4) :
    Calls Try.prog 21 #[.slice (some ⟨g, 0, none⟩) l.length cap] w (RList (l.map ud1) w) := by
  have H := Lib.hid h; clear h
  have H4 := Lib.hid h4; clear h4
  go_enter Try.func21, Try.ntmps21
  go_wp2
  go_loopw [3, 5, 9] (fun v _ n wr => ∃ k : Nat, k ≤ l.length ∧ n = .int .i64 k ∧ wr.ownsRow 0 3 1 v k (((l.take k).map ud1).map I) ∧ (∀ g', v.ownBlock = some g' → w.heap.size ≤ g') ∧ Kept (fun _ => False) w wr) (fun _ _ n _ => l.length - (intOf n).toNat)
  case atStart => exact ⟨0, Nat.zero_le _, rfl, own_empty w _, by simp [Value.ownBlock], (Kept.refl _ _).alloc _⟩
  case round =>
    obtain ⟨k, hk, rfl, hown, hnew, hkp⟩ := hrel
    by_cases hlt : k < l.length
    · have hc := (H.out.kept hkp id).cell k hlt
      have hx := H4.out l[k] (by simp)
      have HO := Lib.hid hown; have HN := Lib.hid hnew; have HK := Lib.hid hkp; clear hown hnew hkp
      have HT := Lib.hid (take_map_snoc ud1 hlt)
      by_cases he : l[k] = 1 ∨ l[k] = 3
      · have HF : Hid (ud1 l[k] = 1) := by simp [Hid, ud1, he]
        rcases he with he | he
        · have ht : ((l[k] : Int) == 1) = true := by simp [he]
          have HE := Lib.hid he; clear he
          go_wp2_with (at_builtin; refine app_one rfl (.tmp 19) (.tmp 20) rfl und_ints info_int rfl rfl (HO.out.alloc _) (wr.heap.size + 1) rfl (reads_one wr (I 1) _) (ints_one [1]) (by unfold maxLen; omega) (by omega) ?_; intro v1 w1 hown1 hg1 hat1; have HO1 := Lib.hid hown1; have HG := Lib.hid hg1; have HA := Lib.hid hat1; clear hown1 hg1 hat1)
          go_roundw
          case rel => exact ⟨k + 1, by omega, by go_num, by (rw [HT.out, HF.out]; exact HO1.out), fun g' hg' => by (rcases HA.out with e | e; (exact HN.out g' (e ▸ hg')); (rw [e] at hg'; simp at hg'; have := HK.out.size; omega)), (HK.out.alloc _).grown HG.out (fun k' hk' => .inr (HN.out k' hk'))⟩
          case measure => simp [intOf]; omega
        · have ht : ((l[k] : Int) == 1) = false := by simp [he]
          have ht2 : ((l[k] : Int) == 3) = true := by simp [he]
          have HE := Lib.hid he; clear he
          go_wp2_with (at_builtin; refine app_one rfl (.tmp 19) (.tmp 20) rfl und_ints info_int rfl rfl (HO.out.alloc _) (wr.heap.size + 1) rfl (reads_one wr (I 1) _) (ints_one [1]) (by unfold maxLen; omega) (by omega) ?_; intro v1 w1 hown1 hg1 hat1; have HO1 := Lib.hid hown1; have HG := Lib.hid hg1; have HA := Lib.hid hat1; clear hown1 hg1 hat1)
          go_roundw
          case rel => exact ⟨k + 1, by omega, by go_num, by (rw [HT.out, HF.out]; exact HO1.out), fun g' hg' => by (rcases HA.out with e | e; (exact HN.out g' (e ▸ hg')); (rw [e] at hg'; simp at hg'; have := HK.out.size; omega)), (HK.out.alloc _).grown HG.out (fun k' hk' => .inr (HN.out k' hk'))⟩
          case measure => simp [intOf]; omega
      · have HF : Hid (ud1 l[k] = 0) := by simp [Hid, ud1, he]
        have ht : ((l[k] : Int) == 1) = false := by simp; omega
        have ht2 : ((l[k] : Int) == 3) = false := by simp; omega
        clear he
        go_wp2_with (at_builtin; refine app_one rfl (.tmp 22) (.tmp 23) rfl und_ints info_int rfl rfl (HO.out.alloc _) (wr.heap.size + 1) rfl (reads_one wr (I 0) _) (ints_one [0]) (by unfold maxLen; omega) (by omega) ?_; intro v1 w1 hown1 hg1 hat1; have HO1 := Lib.hid hown1; have HG := Lib.hid hg1; have HA := Lib.hid hat1; clear hown1 hg1 hat1)
        go_roundw
        case rel => exact ⟨k + 1, by omega, by go_num, by (rw [HT.out, HF.out]; exact HO1.out), fun g' hg' => by (rcases HA.out with e | e; (exact HN.out g' (e ▸ hg')); (rw [e] at hg'; simp at hg'; have := HK.out.size; omega)), (HK.out.alloc _).grown HG.out (fun k' hk' => .inr (HN.out k' hk'))⟩
        case measure => simp [intOf]; omega
    · have e1 : l.take k = l := List.take_of_length_le (by omega)
      have e2 : k = l.length := by omega
      rw [e1] at hown
      subst e2
      obtain ⟨g1, cap1, rfl⟩ := own_form hown hp
      have HO := Lib.hid hown; have HK := Lib.hid hkp; clear hown hnew hkp e1
      go_wp2
      go_ret
      refine ⟨g1, cap1, ?_, ?_, HK.out⟩
      · simp only [List.length_map]; rfl
      · unfold IR; rw [List.length_map]; exact HO.out

end Go.Proofs.Ytfgjehecjgebdaa
