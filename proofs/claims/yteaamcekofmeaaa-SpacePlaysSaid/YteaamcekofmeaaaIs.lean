/- The laws' 'is': a space is the document's. -/
import Derived.Test.YteaamcekofmeaaaRt
namespace Go.Proofs.Yteaamcekofmeaaa
open Go.RowKit

/-- How many of each state. -/
def cntRow (l : List Nat) : List Value := (List.range 4).map fun j : Nat => .int .i64 (cnt l (j : Int))
theorem cntRow_get (l : List Nat) (j : Nat) (hj : j < 4) : (cntRow l)[j]? = some (.int .i64 (cnt l j)) := by
  simp [cntRow, hj]
theorem cntRow_step (l : List Nat) (k : Nat) (hk : k < l.length) (h4 : l[k] < 4) : cntRow (l.take (k + 1)) = (cntRow (l.take k)).set l[k] (.int .i64 ((cnt (l.take k) (l[k] : Nat) : Int) + 1)) := by
  apply List.ext_getElem?
  intro j
  rw [List.getElem?_set]
  have hlen : (cntRow (l.take k)).length = 4 := by simp [cntRow]
  by_cases hj : j < 4
  · rw [cntRow_get _ j hj, cnt_take hk]
    by_cases h : l[k] = j
    · rw [if_pos h, hlen, if_pos h4, if_pos (by omega)]
      subst h
      simp
    · rw [if_neg h, if_neg (by omega), cntRow_get _ j hj]
      simp
  · rw [List.getElem?_eq_none (by simp [cntRow]; omega), if_neg (by omega), List.getElem?_eq_none (by omega)]

theorem IsSp.drewN {w b c l} (h : IsSp w b c l) (n : Nat) : IsSp (w.drewN n) b c l := ⟨h.head, h.row, h.le, h.len⟩

set_option maxRecDepth 100000 in
theorem is_calls {w b c g cap l} (hs : IsSp w b c l) (h : IR w g cap l) :
    Calls Try.prog 20 #[.pointer (some ⟨b, 0, none⟩), .slice (some ⟨g, 0, none⟩) l.length cap] w fun e w' => e = .returned (.int .i64 0) ∧ Kept (fun _ => False) w w' := by
  have hl := hs.len
  have H4 := Lib.hid hs.le
  have H := Lib.hid h; clear h
  have HS := Lib.hid hs; clear hs
  go_enter Try.func20, Try.ntmps20
  go_wp2
  go_loopw [6, 7, 11] (fun _ _ n wr => ∃ k : Nat, k ≤ l.length ∧ n = .int .i64 k ∧ wr.heap[w.heap.size]? = some (.cells (cntRow (l.take k)).toArray 59 (0, 0)) ∧ Kept (fun _ => False) w wr) (fun _ _ n _ => l.length - (intOf n).toNat)
  case atStart => exact ⟨0, Nat.zero_le _, rfl, heap_new w _, (Kept.refl _ _).alloc _⟩
  case round =>
    obtain ⟨k, hk, rfl, hrow, hkp⟩ := hrel
    by_cases hlt : k < l.length
    · have hc := (H.out.kept hkp id).cell k hlt
      have hx := H4.out l[k] (by simp)
      have cS := State_in (HS.out.kept hkp id id) k hlt
      have CS := Lib.hid cS; clear cS
      have hn0 : wr.cell? ⟨w.heap.size, l[k], none⟩ = some (.int .i64 (cnt (l.take k) (l[k] : Nat))) := by rw [cell_heap hrow]; simp [cntRow_get _ _ hx]
      have hn1 := free_heap hrow l[k]
      have hcl : (cnt (l.take k) (l[k] : Nat) : Int) ≤ 128 := by have := cnt_le (l.take k) (l[k] : Nat); have h2 := List.length_take_le k l; omega
      have HN : Hid ((wr.setCell ⟨w.heap.size, l[k], none⟩ (.int .i64 ((cnt (l.take k) (l[k] : Nat) : Int) + 1))).heap[w.heap.size]? = some (.cells (cntRow (l.take (k + 1))).toArray 59 (0, 0))) := by
        simp only [Hid]; rw [heap_set hrow, cntRow_step l k hlt hx]; simp
      have hne : ((l[k] : Int) != (l[k] : Int)) = false := by simp
      have HR := Lib.hid hrow; clear hrow
      have HK := Lib.hid hkp; clear hkp
      go_wp2_with fail
      refine CS.out.mono ?_
      rintro e w1 ⟨rfl, rfl⟩
      go_wp2_with fail
      go_roundw
      case rel => exact ⟨k + 1, by omega, by go_num, HN.out, HK.out.setCell (.inr (Nat.le_refl _)) _⟩
      case measure => simp [intOf]; omega
    · have e1 : l.take k = l := List.take_of_length_le (by omega)
      rw [e1] at hrow
      have HR := Lib.hid hrow; clear hrow e1
      have HK := Lib.hid hkp; clear hkp
      go_wp2_with fail
      obtain ⟨wo, rfl⟩ : ∃ wo : World, wo = wr := ⟨_, rfl⟩
      go_loopw [8, 27] (fun _ n wr' => ∃ j : Nat, j ≤ 4 ∧ n = .int .i64 j ∧ wr'.heap[w.heap.size]? = some (.cells (cntRow l).toArray 59 (0, 0)) ∧ Kept (fun _ => False) w wr') (fun _ n _ => 4 - (intOf n).toNat)
      case atStart => exact ⟨0, Nat.zero_le _, rfl, HR.out, HK.out⟩
      case round =>
        obtain ⟨j, hj, rfl, hrow, hkp⟩ := hrel
        by_cases hj4 : j < 4
        · have hn0 : wr.cell? ⟨w.heap.size, j, none⟩ = some (.int .i64 (cnt l (j : Int))) := by rw [cell_heap hrow]; simp [cntRow_get _ _ hj4]
          have cC := fun n => Count_calls (IsSp.drewN (HS.out.kept hkp id id) n) j (by omega)
          have CC := Lib.hid cC; clear cC
          have hne : ((cnt l (j : Int) : Int) != (cnt l (j : Int) : Int)) = false := by simp
          have HR := Lib.hid hrow; clear hrow
          have HK := Lib.hid hkp; clear hkp
          go_wp2_with fail
          go_quiet ((go_at_call 10; exact quiet_left (CC.out _)))
          go_wp2_with fail
          go_roundw
          case rel => exact ⟨j + 1, by omega, by go_num, HR.out, by first | exact HK.out | exact HK.out.drewN _⟩
          case measure => simp [intOf]; omega
        · have HK := Lib.hid hkp; clear hkp hrow
          have c1 := Lib.hid (Len_calls (HS.out.kept HK.out id id))
          have hne : ((l.length : Int) != (l.length : Int)) = false := by simp
          have c2 := State_out (HS.out.kept HK.out id id) (-1) (.inl (by omega))
          have C2 := Lib.hid c2; clear c2
          have c3 := State_out (HS.out.kept HK.out id id) l.length (.inr (by omega))
          have C3 := Lib.hid c3; clear c3
          have C4 := Lib.hid (Text_calls (HS.out.kept HK.out id id))
          go_wp2_with fail
          refine c1.out.mono ?_
          rintro e w1 ⟨rfl, rfl⟩
          go_wp2_with fail
          refine C2.out.mono ?_
          rintro e w1 ⟨rfl, rfl⟩
          go_wp2_with fail
          refine C3.out.mono ?_
          rintro e w1 ⟨rfl, rfl⟩
          go_wp2_with fail
          refine C4.out.mono ?_
          rintro e w1 ⟨rfl, k1⟩
          have HK1 := Lib.hid (HK.out.trans k1); clear k1
          have C5 := Lib.hid (refText_calls (H.out.kept HK1.out id) hl H4.out)
          go_wp2_with fail
          refine C5.out.mono ?_
          rintro e w2 ⟨rfl, k2⟩
          have HK2 := Lib.hid (HK1.out.trans k2); clear k2
          have hb : ((bstr (bys l)).toList == (bstr (bys l)).toList) = true := by simp
          go_wp2_with fail
          go_ret
          exact ⟨rfl, HK2.out⟩

end Go.Proofs.Yteaamcekofmeaaa
