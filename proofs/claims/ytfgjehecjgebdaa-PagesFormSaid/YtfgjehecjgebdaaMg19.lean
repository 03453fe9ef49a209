/- Plain: a space's bytes, and back. -/
import Derived.Test.YtfgjehecjgebdaaMg15
namespace Go.Proofs.Ytfgjehecjgebdaa

theorem lv_bit (xs : List Nat) (r : Nat) : (lv xs / 2 ^ r) % 2 = match xs[r]? with | some x => if us x then 1 else 0 | none => 0 := by
  induction xs generalizing r with
  | nil => simp [lv]
  | cons x t ih =>
    cases r with
    | zero => simp only [lv, Nat.pow_zero, Nat.div_one, List.getElem?_cons_zero]; split <;> omega
    | succ r =>
      rw [List.getElem?_cons_succ, ← ih r]
      have : lv (x :: t) / 2 = lv t := by simp only [lv]; split <;> omega
      rw [show 2 ^ (r + 1) = 2 * 2 ^ r by rw [Nat.pow_succ]; omega, ← Nat.div_div_eq_div_mul, this]

theorem bys_len (l : List Nat) : (bys l).length = (l.length + 7) / 8 := by simp [bys]
theorem bstr_len (l : List Nat) : (bstr l).size = l.length := by simp [bstr, ByteArray.size]
theorem bstr_get (l : List Nat) (j : Nat) (hj : j < l.length) (h : ∀ x ∈ l, x < 256) : ((bstr l).data.toList.getD j 0).toNat = l[j] := by
  have := h l[j] (by simp)
  simp [bstr, List.getD, hj, UInt8.toNat_ofNat']
  omega
theorem bys_lt (l : List Nat) : ∀ x ∈ bys l, x < 256 := by
  intro x hx
  obtain ⟨j, _, rfl⟩ := List.mem_map.1 hx
  exact byAt_lt l j

theorem bitOf_bys (l : List Nat) (i : Nat) (hi : i < 8 * (bys l).length) : bitOf (bstr (bys l)) i = match l[i]? with | some x => if us x then 1 else 0 | none => 0 := by
  unfold bitOf
  have hj : i / 8 < (bys l).length := by omega
  rw [bstr_get _ _ hj (bys_lt l)]
  have : (bys l)[i / 8] = byAt l (i / 8) := by simp [bys]
  rw [this, byAt, lv_bit]
  have : ((l.drop (8 * (i / 8))).take 8)[i % 8]? = l[i]? := by
    rw [List.getElem?_take, if_pos (by omega), List.getElem?_drop]
    congr 1; omega
  rw [this]

/-- What a Keep would have in use. -/
def inUse (l : List Nat) : List Nat := l.map fun x => if us x then 1 else 0
theorem fine_bys (l : List Nat) (n : Nat) (hn : l.length = n) : fine n (bstr (bys l)) = true := by
  subst hn
  simp only [fine, Bool.and_eq_true, decide_eq_true_eq, List.all_eq_true]
  refine ⟨by rw [bstr_len, bys_len], fun i hi => ?_⟩
  have hi := List.mem_range.1 hi
  rw [bstr_len] at hi
  by_cases h : i < l.length
  · simp [h]
  · rw [bitOf_bys l i hi, List.getElem?_eq_none (by omega)]; simp
theorem parsed_bys (l : List Nat) (n : Nat) (hn : l.length = n) : parsed n (bstr (bys l)) = inUse l := by
  subst hn
  apply List.ext_getElem?
  intro i
  by_cases h : i < l.length
  · simp only [parsed, inUse, List.getElem?_map, List.getElem?_range h, Option.map_some, List.getElem?_eq_getElem h]
    rw [bitOf_bys l i (by rw [bys_len]; omega), List.getElem?_eq_getElem h]
  · simp [parsed, inUse, h]
theorem us_inUse (x : Nat) : us (if us x then 1 else 0) = us x := by cases h : us x <;> simp [us]
theorem lv_congr : ∀ (a b : List Nat), a.map us = b.map us → lv a = lv b
  | [], [], _ => rfl
  | x :: a, y :: b, h => by
    simp only [List.map_cons, List.cons.injEq] at h
    simp only [lv, h.1, lv_congr a b h.2]
  | [], _ :: _, h => by simp at h
  | _ :: _, [], h => by simp at h
theorem bys_inUse (l : List Nat) : bys (inUse l) = bys l := by
  unfold bys
  have e : (inUse l).length = l.length := by simp [inUse]
  rw [e]
  apply List.map_congr_left
  intro j _
  apply lv_congr
  unfold inUse
  rw [List.map_take, List.map_drop, List.map_take, List.map_drop, List.map_map]
  congr 3
  funext x
  exact us_inUse x
theorem cnt_inUse (l : List Nat) : cnt (inUse l) 2 = 0 := by
  unfold cnt
  rw [List.length_eq_zero_iff, List.filter_eq_nil_iff]
  intro x hx
  obtain ⟨y, _, rfl⟩ := List.mem_map.1 hx
  split <;> simp

theorem lv_zeros (xs : List Nat) (k : Nat) : lv (xs ++ List.replicate k 0) = lv xs := by
  induction xs with
  | nil =>
    induction k with
    | zero => rfl
    | succ k ih => rw [List.replicate_succ]; simp only [List.nil_append] at ih ⊢; simp [lv, us, ih]
  | cons x t ih => simp only [List.cons_append, lv, ih]
theorem lv_byte : ∀ v, v < 256 → lv ((List.range 8).map fun r => v / 2 ^ r % 2) = v := by decide +kernel

theorem fine_size {n : Nat} {s : ByteArray} (h : fine n s = true) : s.size = (n + 7) / 8 := by
  simp only [fine, Bool.and_eq_true, decide_eq_true_eq] at h
  exact h.1
theorem fine_zero {n : Nat} {s : ByteArray} (h : fine n s = true) (i : Nat) (hi : i < 8 * s.size) (hn : n ≤ i) : bitOf s i = 0 := by
  simp only [fine, Bool.and_eq_true, List.all_eq_true] at h
  have := h.2 i (List.mem_range.2 hi)
  simp only [Bool.or_eq_true, decide_eq_true_eq, beq_iff_eq] at this
  omega

theorem byAt_parsed {n : Nat} {s : ByteArray} (h : fine n s = true) (j : Nat) (hj : j < s.size) : byAt (parsed n s) j = (s.data.toList.getD j 0).toNat := by
  have hsz := fine_size h
  have hl : (parsed n s).length = n := by simp [parsed]
  have key : ((parsed n s).drop (8 * j)).take 8 ++ List.replicate (8 - (n - 8 * j)) 0 = (List.range 8).map fun r => (s.data.toList.getD j 0).toNat / 2 ^ r % 2 := by
    apply List.ext_getElem?
    intro r
    have hlen : (((parsed n s).drop (8 * j)).take 8).length = min 8 (n - 8 * j) := by simp [hl]
    rw [List.getElem?_append, hlen]
    by_cases hr : r < 8
    · have e2 : ((List.range 8).map fun r => (s.data.toList.getD j 0).toNat / 2 ^ r % 2)[r]? = some (bitOf s (8 * j + r)) := by
        simp only [List.getElem?_map, List.getElem?_range hr, Option.map_some, bitOf]
        rw [show (8 * j + r) / 8 = j by omega, show (8 * j + r) % 8 = r by omega]
      rw [e2]
      by_cases hm : r < min 8 (n - 8 * j)
      · rw [if_pos hm, List.getElem?_take, if_pos hr, List.getElem?_drop]
        simp [parsed, show 8 * j + r < n by omega]
      · rw [if_neg hm, List.getElem?_replicate, if_pos (by omega), fine_zero h (8 * j + r) (by omega) (by omega)]
    · rw [if_neg (by omega), List.getElem?_replicate, if_neg (by omega), List.getElem?_eq_none (by simp; omega)]
  have e := lv_byte (s.data.toList.getD j 0).toNat (UInt8.toNat_lt _)
  rw [← key, lv_zeros] at e
  exact e

theorem bys_parsed {n : Nat} {s : ByteArray} (h : fine n s = true) : bstr (bys (parsed n s)) = s := by
  have hsz := fine_size h
  have hl : (parsed n s).length = n := by simp [parsed]
  apply ByteArray.ext
  apply Array.ext'
  apply List.ext_getElem?
  intro j
  simp only [bstr, bys, hl, List.getElem?_map]
  by_cases hj : j < s.size
  · rw [List.getElem?_range (by omega), Option.map_some, Option.map_some, byAt_parsed h j hj]
    have hj' : j < s.data.toList.length := by simpa using hj
    simp [List.getD, List.getElem?_eq_getElem hj']
  · have hj' : ¬ j < s.data.toList.length := by simpa using hj
    rw [List.getElem?_eq_none (by simp; omega), List.getElem?_eq_none (by omega)]
    rfl

/-- What tells nothing, though it is as long as it should be, has bits behind its last page. -/
theorem not_fine {n : Nat} {s : ByteArray} (h : fine n s = false) (hs : s.size = (n + 7) / 8) : 0 < n % 8 ∧ 0 < (s.data.toList.getD (s.size - 1) 0).toNat / 2 ^ (n % 8) := by
  simp only [fine, Bool.and_eq_false_iff, decide_eq_false_iff_not, hs, not_true, false_or, List.all_eq_false] at h
  obtain ⟨i, hi, hb⟩ := h
  have hi := List.mem_range.1 hi
  simp only [Bool.or_eq_true, decide_eq_true_eq, beq_iff_eq, not_or] at hb
  obtain ⟨hni, hb⟩ := hb
  have h01 := bitOf_01 s i
  have hb1 : bitOf s i = 1 := by omega
  unfold bitOf at hb1
  have hq : i / 8 = s.size - 1 := by omega
  have hr : n % 8 ≤ i % 8 := by omega
  refine ⟨by omega, ?_⟩
  rw [hq] at hb1
  generalize (s.data.toList.getD (s.size - 1) 0).toNat = v at hb1
  have hge : 2 ^ (i % 8) ≤ v := by
    rcases Nat.lt_or_ge v (2 ^ (i % 8)) with h | h
    · rw [Nat.div_eq_of_lt h] at hb1; simp at hb1
    · exact h
  exact Nat.div_pos (Nat.le_trans (Nat.pow_le_pow_right (by omega) hr) hge) (Nat.two_pow_pos _)

end Go.Proofs.Ytfgjehecjgebdaa
