/- The reference's Text of a space. -/
import Derived.Test.YtfgjehecjgebdaaMg15
namespace Go.Proofs.Ytfgjehecjgebdaa
open Go.RowKit

/-- The first j bytes. -/
def bysN (l : List Nat) (j : Nat) : List Nat := (List.range j).map (byAt l)
theorem bysN_succ (l : List Nat) (j : Nat) : bysN l (j + 1) = bysN l j ++ [byAt l j] := by simp [bysN, List.range_succ]
theorem bstr_snoc (l : List Nat) (x : Nat) : bstr (l ++ [x]) = bstr l ++ bstr [x] := by
  apply ByteArray.ext
  simp [bstr]

theorem bstr_size (l : List Nat) : (bstr l).size = l.length := by simp [bstr, ByteArray.size]

set_option maxRecDepth 100000 in
theorem refText_calls {w g cap l} (h : IR w g cap l) (hl : l.length ≤ 128) (h4 : ∀ x ∈ l, x < 4) :
    Calls Try.prog 51 #[.slice (some ⟨g, 0, none⟩) l.length cap] w fun e w' => e = .returned (.string (bstr (bys l))) ∧ Kept (fun _ => False) w w' := by
  have H := Lib.hid h; clear h
  have H4 := Lib.hid h4; clear h4
  go_enter Try.func51, Try.ntmps51
  go_wp2
  go_loopw [3, 4, 5, 6, 7] (fun s i _ _ _ wr => ∃ i' j : Nat, Hid (i' = 8 * j) ∧ j ≤ (l.length + 7) / 8 ∧ i = .int .i64 i' ∧ s = .string (bstr (bysN l j)) ∧ Kept (fun _ => False) w wr) (fun _ i _ _ _ _ => l.length + 8 - (intOf i).toNat)
  case atStart => exact ⟨0, 0, rfl, Nat.zero_le _, rfl, rfl, Kept.refl _ _⟩
  case round =>
    obtain ⟨i, j, hi, hj, rfl, rfl, hkp⟩ := hrel
    by_cases hlt : i < l.length
    · go_wp2
      have HK := Lib.hid hkp; clear hkp
      go_loop [5, 6, 7] (fun n b k => ∃ t k' p q : Nat, Hid (k' = i + t) ∧ Hid (p = 2 ^ t) ∧ Hid (q = lv ((l.drop i).take t)) ∧ t ≤ 8 ∧ k' ≤ l.length ∧ p ≤ 256 ∧ q < 256 ∧ k = .int .i64 k' ∧ n = .int .i64 q ∧ b = .int .i64 p) (fun _ _ k => l.length - (intOf k).toNat)
      case atStart => exact ⟨0, i, 1, 0, rfl, rfl, rfl, by omega, by omega, by omega, by omega, rfl, rfl, rfl⟩
      case round =>
        obtain ⟨t, k, p, q, hk, hp, hq, ht, hkl, hp2, hq2, rfl, rfl, rfl⟩ := hrel
        have hki : k = i + t := hk.out
        by_cases hin : t < 8 ∧ k < l.length
        · obtain ⟨ht8, hk2⟩ := hin
          have hc := (H.out.kept HK.out id).cell k hk2
          have hx := H4.out l[k] (by simp)
          have hcond : (k : Int) < (i : Int) + 8 := by omega
          have HP : Hid (p * 2 = 2 ^ (t + 1)) := by have := hp.out; simp [Hid, Nat.pow_succ, this]
          have hp128 : p ≤ 128 := by
            have := hp.out; rw [this]; exact Nat.le_trans (Nat.pow_le_pow_right (by omega) (show t ≤ 7 by omega)) (by decide)
          have HT : Hid ((l.drop i).take (t + 1) = (l.drop i).take t ++ [l[k]]) := by
            have h1 : t < (l.drop i).length := by simp; omega
            simp only [Hid]
            rw [List.take_succ_eq_append_getElem h1]
            simp [hki]
          have hlen : ((l.drop i).take t).length = t := by simp; omega
          have HQ : Hid ((us l[k] = true → q + p = lv ((l.drop i).take (t + 1))) ∧ (us l[k] = false → q = lv ((l.drop i).take (t + 1)))) := by
            have e1 := hp.out; have e2 := hq.out
            simp only [Hid]
            rw [HT.out, lv_snoc, hlen, ← e1, ← e2]
            cases us l[k] <;> simp
          have hqp : q + p < 256 := by
            have h1 := hq.out; have h2 := lv_lt ((l.drop i).take t); rw [hlen, ← hp.out, ← h1] at h2; omega
          clear hlen hki
          by_cases he1 : l[k] = 1
          · have e1 : ((l[k] : Int) == 1) = true := by simp [he1]
            have HU : Hid (us l[k] = true) := by rw [he1]; rfl
            have HE := Lib.hid he1; clear he1
            go_wp2
            go_round
            case rel => exact ⟨t + 1, k + 1, p * 2, q + p, by (have := hk.out; show k + 1 = i + (t + 1); omega), HP.out, HQ.out.1 HU.out, by omega, by omega, by omega, by omega, by go_num, by go_num, by go_num⟩
            case measure => simp [intOf]; omega
          · by_cases he2 : l[k] = 2
            · have e1 : ((l[k] : Int) == 1) = false := by simp [he2]
              have e2 : ((l[k] : Int) == 2) = true := by simp [he2]
              have HU : Hid (us l[k] = true) := by rw [he2]; rfl
              have HE := Lib.hid he2; clear he1 he2
              go_wp2
              go_round
              case rel => exact ⟨t + 1, k + 1, p * 2, q + p, by (have := hk.out; show k + 1 = i + (t + 1); omega), HP.out, HQ.out.1 HU.out, by omega, by omega, by omega, by omega, by go_num, by go_num, by go_num⟩
              case measure => simp [intOf]; omega
            · have e1 : ((l[k] : Int) == 1) = false := by simp; omega
              have e2 : ((l[k] : Int) == 2) = false := by simp; omega
              have HU : Hid (us l[k] = false) := by simp [Hid, us, he1, he2]
              clear he1 he2
              go_wp2
              go_round
              case rel => exact ⟨t + 1, k + 1, p * 2, q, by (have := hk.out; show k + 1 = i + (t + 1); omega), HP.out, HQ.out.2 HU.out, by omega, by omega, by omega, by omega, by go_num, by go_num, by go_num⟩
              case measure => simp [intOf]; omega
        · have HB : Hid (q = byAt l j) := by
            have h1 := hq.out; have h2 := hi.out; subst h2
            simp only [Hid]
            rw [h1, byAt]
            congr 1
            by_cases h8 : t = 8
            · subst h8; rfl
            · rw [List.take_of_length_le (by simp; omega), List.take_of_length_le (by simp; omega)]
          clear hki
          have hcv : (convert 72 9 (.slice (some ⟨wr.heap.size, 0, none⟩) 1 1)).run Try.prog (wr.alloc (.cells #[.int .u8 q] 5)) = .ok (.string (bstr [q])) (wr.alloc (.cells #[.int .u8 q] 5)) := run_conv_row (P := Try.prog) (w := wr.alloc (.cells #[.int .u8 q] 5)) und_bytes und_u8 und_str (ys := [q]) (more := []) (cap := 1) (heap_new _ _)
          have hsz : (bstr (bysN l j)).size + (bstr [q]).size ≤ 1000 := by rw [bstr_size, bstr_size]; simp [bysN]; omega
          have hcl : ¬ (k : Int) < (i : Int) + 8 ∨ ¬ (k : Int) < (l.length : Int) := by have := hk.out; omega
          have HJ : Hid (j + 1 ≤ (l.length + 7) / 8) := by have := hi.out; simp only [Hid]; omega
          rcases hcl with hcl | hcl
          · go_wp2
            go_roundw
            case rel => exact ⟨i + 8, j + 1, by (have := hi.out; show i + 8 = 8 * (j + 1); omega), HJ.out, by go_num, by rw [bysN_succ, bstr_snoc, ← HB.out], HK.out.alloc _⟩
            case measure => simp [intOf]; omega
          · go_wp2
            all_goals
              go_roundw
              case rel => exact ⟨i + 8, j + 1, by (have := hi.out; show i + 8 = 8 * (j + 1); omega), HJ.out, by go_num, by rw [bysN_succ, bstr_snoc, ← HB.out], HK.out.alloc _⟩
              case measure => simp [intOf]; omega
    · have HB : Hid (bysN l j = bys l) := by
        have h2 := hi.out
        have : j = (l.length + 7) / 8 := by omega
        subst this; rfl
      go_wp2
      go_ret
      exact ⟨by rw [HB.out]; rfl, hkp⟩

end Go.Proofs.Ytfgjehecjgebdaa
