/- serial: numbers in rows; may. -/
import Derived.Test.YtghbnomiahiapaaSlL
import Derived.Test.YtghbnomiahiapaaLib
namespace Go.Proofs.Ytghbnomiahiapaa
open Go.RowKit
def Nu (n : Nat) : Value := .int .i64 (n : Int)
/-- A row of numbers. -/
def NRow (w : World) (B : Nat) (v : Value) (ws : List Nat) : Prop := w.ownsRow B 3 1 v ws.length (ws.map Nu)
/-- Transactions without entries. -/
def Txs (w : World) (v : Value) (af : List Int) : Prop := ∃ b off c, v = .slice (some ⟨b, off, none⟩) af.length c ∧ ∀ j (hj : j < af.length), w.cell? ⟨b, off + j * 2, none⟩ = some (.slice none 0 0) ∧ w.cell? ⟨b, off + j * 2 + 1, none⟩ = some (.int .i64 af[j])
theorem has_calls {w B v ws} (h : NRow w B v ws) (hl : ws.length ≤ 1000) (k : Nat) : Calls Try.prog 16 #[v, .int .i64 k] w fun e w' => e = .returned (.bool (decide (k ∈ ws))) ∧ w = w' := by
  rcases h.2 with ⟨rfl, hn⟩ | ⟨g, cap, cur, rfl, _, hh, hnc, hcm, hcs, htk⟩
  · have : ws = [] := List.length_eq_zero_iff.1 hn
    subst this
    refine (Any.slices_Contains_int_empty Try.hasI none 0 k w).mono ?_
    rintro e w' ⟨rfl, rfl⟩
    exact ⟨by simp, rfl⟩
  · refine (Any.slices_Contains_int Try.hasI g 0 ws.length cap (ws.map fun n : Nat => (n : Int)) k w (by simp) (by omega) (fun j hj => ?_)).mono ?_
    · have hj' : j < ws.length := by simpa using hj
      have e := World.ownsRow.cellAt h j (by omega)
      rw [Nat.zero_add, e]; simp [List.getD, hj', Nu]
    · rintro e w' ⟨rfl, rfl⟩
      refine ⟨?_, rfl⟩
      have : ((ws.map fun n : Nat => (n : Int)).take ws.length).contains (k : Int) = decide (k ∈ ws) := by
        rw [List.take_of_length_le (by simp), Bool.eq_iff_iff]
        simp only [List.contains_iff_mem, List.mem_map, decide_eq_true_eq]
        exact ⟨fun ⟨a, h1, h2⟩ => by have : a = k := by omega
                                     rwa [← this], fun h => ⟨k, h, rfl⟩⟩
      rw [this]
/-- May one come next? -/
def mayB (af : List Int) (ws : List Nat) (k : Nat) : Bool := !decide (k ∈ ws) && (List.range af.length).all fun i => decide (¬ (i : Int) < af.getD k 0) || decide (i = k) || decide (i ∈ ws)
theorem may_calls {w B v af vw ws k} (hv : Txs w v af) (hw : NRow w B vw ws) (hk : k < af.length) (h6 : af.length ≤ 6) (hl : ws.length ≤ 6) :
    Calls Try.prog 11 #[v, vw, .int .i64 k] w fun e w' => e = .returned (.bool (mayB af ws k)) ∧ w = w' := by
  have CH := Lib.hid (has_calls hw (by omega))
  obtain ⟨b, off, c, rfl, hc⟩ := hv
  obtain ⟨c0, c1⟩ := hc k hk
  obtain ⟨n, hn⟩ : ∃ n, n = af.length := ⟨_, rfl⟩
  obtain ⟨a, ha⟩ : ∃ a, a = af[k] := ⟨_, rfl⟩
  rw [← ha] at c1
  rw [← hn] at hk h6
  obtain ⟨m, hm⟩ : ∃ m : Nat, (m : Int) = min (max a 0) (n : Int) := ⟨(min (max a 0) (n : Int)).toNat, by omega⟩
  have HM : Hid ((∀ i, i < m ↔ (i < af.length ∧ (i : Int) < af.getD k 0)) ∧ m ≤ n) := by
    refine ⟨fun i => ?_, by omega⟩
    have : af.getD k 0 = a := by rw [ha]; simp [List.getD, show k < af.length by omega]
    rw [this]
    omega
  have HN := Lib.hid hn
  have hmn : m ≤ 6 := by omega
  rw [← hn]
  have hb1 : (0 : Int) ≤ (k : Int) := by omega
  have hb2 : (k : Int) < (n : Int) := by omega
  clear hc hn ha hw
  go_enter Try.func11, Try.ntmps11
  go_wp2_with fail
  refine (CH.out k).mono ?_
  rintro e w' ⟨rfl, rfl⟩
  by_cases hin : k ∈ ws
  · go_wp2_with fail
    go_ret
    exact ⟨by simp [mayB, hin], rfl⟩
  go_wp2_with fail
  rw [← hm]
  have HNI := Lib.hid hin
  clear hm hin
  go_loopw [20] (fun i wr => ∃ j : Nat, j ≤ m ∧ i = .int .i64 j ∧ wr = w ∧ Hid (∀ i, i < j → i = k ∨ i ∈ ws)) (fun i _ => m - (RowKit.intOf i).toNat)
  case atStart => exact ⟨0, Nat.zero_le _, rfl, rfl, fun i hi => by omega⟩
  case round =>
    obtain ⟨j, hj, rfl, rfl, HJ⟩ := hrel
    by_cases hjm : j < m
    · by_cases hjk : j = k
      · subst hjk
        go_wp2_with fail
        go_roundw
        case rel => exact ⟨j + 1, by omega, by go_num, trivial, fun i hi => if h : i = j then .inl h else HJ.out i (by omega)⟩
        case measure => simp [RowKit.intOf]; omega
      · have hjk' : ¬ (j : Int) = (k : Int) := by omega
        go_wp2_with fail
        refine (CH.out j).mono ?_
        rintro e w' ⟨rfl, rfl⟩
        by_cases hjw : j ∈ ws
        · go_wp2_with fail
          go_roundw
          case rel => exact ⟨j + 1, by omega, by go_num, trivial, fun i hi => if h : i = j then .inr (h ▸ hjw) else HJ.out i (by omega)⟩
          case measure => simp [RowKit.intOf]; omega
        · go_wp2_with fail
          go_ret
          refine ⟨?_, rfl⟩
          have h1 := (HM.out.1 j).1 hjm
          have : mayB af ws k = false := by
            rw [Bool.eq_false_iff]
            intro h
            simp only [mayB, Bool.and_eq_true, List.all_eq_true, List.mem_range, Bool.or_eq_true, decide_eq_true_eq] at h
            rcases h.2 j h1.1 with (h | h) | h
            · exact h h1.2
            · exact hjk h
            · exact hjw h
          rw [this]; rfl
    · go_wp2_with fail
      go_ret
      refine ⟨?_, rfl⟩
      have : mayB af ws k = true := by
        simp only [mayB, Bool.and_eq_true, List.all_eq_true, List.mem_range, Bool.or_eq_true, decide_eq_true_eq, Bool.not_eq_true', decide_eq_false_iff_not]
        refine ⟨HNI.out, fun i hi => ?_⟩
        by_cases hii : (i : Int) < af.getD k 0
        · have := (HM.out.1 i).2 ⟨hi, hii⟩
          rcases HJ.out i (by omega) with h | h
          · exact .inl (.inr h)
          · exact .inr h
        · exact .inl (.inl hii)
      rw [this]; rfl
end Go.Proofs.Ytghbnomiahiapaa
