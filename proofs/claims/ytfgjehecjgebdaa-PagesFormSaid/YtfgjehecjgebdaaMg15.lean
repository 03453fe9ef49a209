/- Space: Parse, by its contract. -/
import Derived.Test.YtfgjehecjgebdaaMg11
namespace Go.Proofs.Ytfgjehecjgebdaa
open Go.RowKit

/-- The i-th bit of a text. -/
def bitOf (s : ByteArray) (i : Nat) : Nat := ((s.data.toList.getD (i / 8) 0).toNat / 2 ^ (i % 8)) % 2
theorem bitOf_get (s : ByteArray) (i q r : Nat) (hq : q = i / 8) (hr : r = i % 8) (h : q < s.size) : bitOf s i = (s[q].toNat / 2 ^ r) % 2 := by
  subst hq; subst hr
  unfold bitOf
  have h' : i / 8 < s.data.toList.length := by simpa using h
  rw [List.getD_eq_getElem?_getD, List.getElem?_eq_getElem h', Option.getD_some]
  rfl
theorem bit_and (x r : Nat) (hx : x < 256) : bits BinOp.and IntKind.u8 ((x : Int) / 2 ^ r) 1 = (((x / 2 ^ r) % 2 : Nat) : Int) := by
  have e : ((x : Int) / 2 ^ r) = ((x / 2 ^ r : Nat) : Int) := by simp
  have h : x / 2 ^ r < 256 := Nat.lt_of_le_of_lt (Nat.div_le_self _ _) hx
  rw [e]
  generalize x / 2 ^ r = y at h
  have := bits_mask .u8 8 (by decide) wraps_u8 1 (by decide) (y : Int) (by omega) (by omega)
  simp only [Int.pow_one] at this
  have e2 : ((2 : Int) ^ 1 - 1) = 1 := by decide
  rw [show (1 : Int) = 2 - 1 by decide, this]
  omega

/-- The states that a text tells; none: it tells none. -/
def fine (n : Nat) (s : ByteArray) : Bool := decide (s.size = (n + 7) / 8) && (List.range (8 * s.size)).all fun i => decide (i < n) || bitOf s i == 0
def parsed (n : Nat) (s : ByteArray) : List Nat := (List.range n).map (bitOf s)
def parsedTo (n : Nat) (s : ByteArray) (k : Nat) : List Nat := (List.range n).map fun i => if i < k then bitOf s i else 0
theorem parsedTo_len (n : Nat) (s : ByteArray) (k : Nat) : (parsedTo n s k).length = n := by simp [parsedTo]
theorem parsedTo_zero (n : Nat) (s : ByteArray) : parsedTo n s 0 = List.replicate n 0 := by
  apply List.ext_getElem?; intro j; by_cases h : j < n <;> simp [parsedTo, h]
theorem parsedTo_all (n : Nat) (s : ByteArray) (k : Nat) (h : n ≤ k) : parsedTo n s k = parsed n s := by
  unfold parsedTo parsed
  apply List.map_congr_left
  intro i hi
  rw [if_pos (by have := List.mem_range.1 hi; omega)]
theorem parsedTo_one (n : Nat) (s : ByteArray) (k : Nat) (_hk : k < n) (hb : bitOf s k = 1) : parsedTo n s (k + 1) = (parsedTo n s k).set k 1 := by
  apply List.ext_getElem?
  intro j
  rw [List.getElem?_set, parsedTo_len]
  by_cases hj : j < n
  · by_cases h : k = j
    · subst h; simp [parsedTo, hj, hb]
    · rw [if_neg h]
      simp only [parsedTo, List.getElem?_map, List.getElem?_range hj, Option.map_some]
      by_cases h2 : j < k
      · rw [if_pos (by omega), if_pos h2]
      · rw [if_neg (by omega), if_neg h2]
  · by_cases h : k = j
    · omega
    · rw [if_neg h]; simp [parsedTo, hj]
theorem parsedTo_nil (n : Nat) (s : ByteArray) (k : Nat) (hb : bitOf s k = 0) : parsedTo n s (k + 1) = parsedTo n s k := by
  unfold parsedTo
  apply List.map_congr_left
  intro i _
  by_cases h : i < k
  · rw [if_pos (by omega), if_pos h]
  · rw [if_neg h]
    by_cases h2 : i = k
    · subst h2; rw [if_pos (by omega), hb]
    · rw [if_neg (by omega)]
theorem bitOf_01 (s : ByteArray) (k : Nat) : bitOf s k = 0 ∨ bitOf s k = 1 := by unfold bitOf; omega
theorem parsed_le (n : Nat) (s : ByteArray) : ∀ x ∈ parsed n s, x < 4 := by
  intro x hx
  obtain ⟨i, _, rfl⟩ := List.mem_map.1 hx
  have := bitOf_01 s i
  omega

/-- What Parse answers. -/
def ParsePost (n : Nat) (s : ByteArray) (w : World) (e : Ending) (w' : World) : Prop :=
  Kept (fun _ => False) w w' ∧ ((fine n s = false ∧ e = .returned (.tuple #[.pointer none, .int .i64 2])) ∨
    (fine n s = true ∧ ∃ b c, w.heap.size ≤ b ∧ w.heap.size ≤ c ∧ e = .returned (.tuple #[.pointer (some ⟨b, 0, none⟩), .int .i64 0]) ∧ IsSp w' b c (parsed n s)))

theorem Parse_size (n : Nat) (s : ByteArray) (w : World) (h1 : 1 ≤ n) (h2 : n ≤ 128) (_hm : s.size ≤ maxLen) (hs : s.size ≠ (n + 7) / 8) : Calls Try.prog 24 #[.int .i64 n, .string s] w (ParsePost n s w) := by
  have hse : ((s.size : Int) != ((n : Int) + 7) / 8) = true := by rw [bne_iff_ne]; omega
  have hf : Hid (fine n s = false) := by simp [Hid, fine, hs]
  unfold maxLen at _hm
  go_enter Try.func24, Try.ntmps24
  go_wp2_with fail
  refine (New_ok n w h1 h2).mono ?_
  rintro e w1 ⟨b, c, hb, hc, rfl, hsp, kp1⟩
  go_wp2
  go_ret2
  exact ⟨kp1, .inl ⟨hf.out, rfl⟩⟩

theorem Parse_arg (n : Int) (s : ByteArray) (w : World) (h : n < 1 ∨ 128 < n) : Calls Try.prog 24 #[.int .i64 n, .string s] w fun e w' => e = .returned (.tuple #[.pointer none, .int .i64 4]) ∧ w = w' := by
  have H := Lib.hid h; clear h
  go_enter Try.func24, Try.ntmps24
  go_wp2_with fail
  refine (New_bad n w H.out).mono ?_
  rintro e w1 ⟨rfl, rfl⟩
  go_wp2
  go_ret2
  exact ⟨rfl, rfl⟩

theorem Parse_ok (n : Nat) (s : ByteArray) (w : World) (h1 : 1 ≤ n) (h2 : n ≤ 128) (hs : s.size = (n + 7) / 8) : Calls Try.prog 24 #[.int .i64 n, .string s] w (ParsePost n s w) := by
  have hs17 : s.size < 17 := by omega
  have hse : ((s.size : Int) != ((n : Int) + 7) / 8) = false := by rw [bne_eq_false_iff_eq]; omega
  have Hs := Lib.hid hs; clear hs
  go_enter Try.func24, Try.ntmps24
  go_wp2_with fail
  refine (New_ok n w h1 h2).mono ?_
  rintro e w1 ⟨b, c, hb, hc, rfl, hsp, kp1⟩
  go_wp2_with fail
  go_loopw [8, 9, 27, 38, 46] (fun _ _ i _ _ wr => ∃ k : Nat, k ≤ 8 * s.size ∧ i = .int .i64 k ∧ (∀ j, j < k → n ≤ j → bitOf s j = 0) ∧ IsSp wr b c (parsedTo n s k) ∧ Kept (fun _ => False) w wr) (fun _ _ i _ _ _ => 8 * s.size - (intOf i).toNat)
  case atStart => exact ⟨0, Nat.zero_le _, rfl, fun j hj => by omega, by rw [parsedTo_zero]; exact hsp, kp1⟩
  case round =>
    obtain ⟨k, hk, rfl, hz, hsr, hkp⟩ := hrel
    have HZ := Lib.hid hz; clear hz
    by_cases hlt : k < 8 * s.size
    · obtain ⟨q, hq⟩ : ∃ q : Nat, q = k / 8 := ⟨_, rfl⟩
      obtain ⟨r, hr⟩ : ∃ r : Nat, r = k % 8 := ⟨_, rfl⟩
      have hqm : q < s.size := by omega
      have hr8 : r < 8 := by omega
      have hq' : (k : Int) / 8 = q := by omega
      have hr' : (k : Int) % 8 = r := by omega
      have hbit := bitOf_get s k q r hq hr hqm
      have hand := bit_and s[q].toNat r (UInt8.toNat_lt _)
      rw [← hbit] at hand
      clear hq hr hbit
      have hc0 := hsr.cell0
      rw [parsedTo_len] at hc0
      rcases bitOf_01 s k with h0 | h0
      · rw [h0] at hand
        have HN := Lib.hid (parsedTo_nil n s k h0)
        have H0 := Lib.hid h0; clear h0
        go_wp2
        go_roundw
        case rel => exact ⟨k + 1, by omega, by go_num, fun j hj hn => by (by_cases e : j = k; (subst e; exact H0.out); exact HZ.out j (by omega) hn), by rw [HN.out]; exact hsr, hkp⟩
        case measure => simp [intOf]; omega
      · rw [h0] at hand
        by_cases hkn : k < n
        · have hcell : wr.cell? ⟨c, k, none⟩ = some (.int .u8 ((parsedTo n s k)[k]'(by rw [parsedTo_len]; exact hkn) : Nat)) := hsr.cell k (by rw [parsedTo_len]; exact hkn)
          have hfz := hsr.frz k
          have HS := Lib.hid (hsr.set k 1 (by omega))
          rw [← parsedTo_one n s k hkn h0] at HS
          have H0 := Lib.hid h0; clear h0
          have hng : ¬ n ≤ k := by omega
          go_wp2
          go_roundw
          case rel => exact ⟨k + 1, by omega, by go_num, fun j hj hn => by (by_cases e : j = k; omega; exact HZ.out j (by omega) hn), HS.out, hkp.setCell (.inr hc) _⟩
          case measure => simp [intOf]; omega
        · have hge : n ≤ k := by omega
          have HF : Hid (fine n s = false) := by
            simp only [Hid, fine, Bool.and_eq_false_iff]
            right
            rw [List.all_eq_false]
            exact ⟨k, by simpa using hlt, by simp [h0]; omega⟩
          have H0 := Lib.hid h0; clear h0
          go_wp2
          go_ret2
          exact ⟨hkp, .inl ⟨HF.out, rfl⟩⟩
    · have HF : Hid (fine n s = true) := by
        simp only [Hid, fine, Bool.and_eq_true, List.all_eq_true]
        refine ⟨by simpa using Hs.out, fun i hi => ?_⟩
        have hi := List.mem_range.1 hi
        by_cases h : i < n
        · simp [h]
        · simp [HZ.out i (by omega) (by omega)]
      rw [parsedTo_all n s k (by have := Hs.out; omega)] at hsr
      go_wp2
      go_ret2
      exact ⟨hkp, .inr ⟨HF.out, b, c, hb, hc, rfl, hsr⟩⟩

theorem Parse_calls (n : Nat) (s : ByteArray) (w : World) (h1 : 1 ≤ n) (h2 : n ≤ 128) (hm : s.size ≤ maxLen) : Calls Try.prog 24 #[.int .i64 n, .string s] w (ParsePost n s w) := by
  by_cases h : s.size = (n + 7) / 8
  · exact Parse_ok n s w h1 h2 h
  · exact Parse_size n s w h1 h2 hm h

end Go.Proofs.Ytfgjehecjgebdaa
