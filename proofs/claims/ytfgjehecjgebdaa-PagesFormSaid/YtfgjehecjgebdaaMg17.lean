/- The references of 01 and 02: Of, Bytes; U, N, S. -/
import Derived.Test.YtfgjehecjgebdaaMg09
import Derived.Test.YtfgjehecjgebdaaMg08
namespace Go.Proofs.Ytfgjehecjgebdaa
open Go.RowKit

theorem ref_bit (y c : Nat) : bitStep (y ^^^ c) = ((y / 2) ^^^ (if (y + c) % 2 = 1 then 3988292384 else 0)) ^^^ (c / 2) := by
  unfold bitStep
  have h1 : (y ^^^ c) % 2 = (y + c) % 2 := by
    have h := Nat.xor_mod_two_pow (a := y) (b := c) (n := 1)
    simp only [Nat.pow_one] at h
    rw [h]
    rcases Nat.mod_two_eq_zero_or_one y with e | e <;> rcases Nat.mod_two_eq_zero_or_one c with f | f <;> rw [e, f] <;> simp <;> omega
  rw [h1, Nat.xor_div_two, Nat.xor_assoc, Nat.xor_comm (c / 2), ← Nat.xor_assoc]

set_option maxHeartbeats 2000000 in
set_option maxRecDepth 100000 in
theorem refOf_calls (l : List UInt8) (hl : l.length ≤ 1000000000) (w : World) : Calls Try.prog 66 #[.string (ba l)] w fun e w' => e = .returned (.int .u32 (crcOf l)) ∧ w = w' := by
  have hsz := ba_size l
  obtain ⟨s, hs⟩ : ∃ s, s = ba l := ⟨_, rfl⟩
  rw [← hs] at hsz ⊢
  have hs9 : s.size ≤ 1000000000 := by omega
  have HS := Lib.hid hs; have HZ := Lib.hid hsz; clear hs hsz
  go_enter Try.func66, Try.ntmps66
  go_wp2_with fail
  go_loop [3, 4, 5, 6, 7] (fun m i _ _ _ => ∃ k y : Nat, k ≤ l.length ∧ i = .int .i64 k ∧ m = .int .u32 y ∧ y < 4294967296 ∧ Hid (y = crcRun 4294967295 (l.take k))) (fun _ i _ _ _ => l.length - (intOf i).toNat)
  case atStart => exact ⟨0, 4294967295, Nat.zero_le _, rfl, rfl, by omega, rfl⟩
  case round =>
    obtain ⟨k, y, hk, rfl, rfl, hyl, hy⟩ := hrel
    by_cases hlt : k < l.length
    · have hks : k < s.size := by have := HZ.out; omega
      have hq : (s[k]'hks).toNat = l[k].toNat := by have := HS.out; subst this; rfl
      obtain ⟨q, hq2⟩ : ∃ q, q = (s[k]'hks).toNat := ⟨_, rfl⟩
      have hq3 : ((s[k]'hks).toNat : Int) = (q : Int) := by rw [hq2]
      rw [← hq2] at hq
      have hq256 : q < 256 := by rw [hq]; exact UInt8.toNat_lt _
      have HR : Hid (crcStep y q = crcRun 4294967295 (l.take (k + 1))) := by
        have h1 := hy.out
        simp only [Hid]
        rw [List.take_succ_eq_append_getElem hlt, crcRun_snoc, ← h1, hq]
      clear hq hq2
      go_wp2_with fail
      (try simp only [hq3])
      clear hq3
      go_loop [3, 5, 6, 7] (fun m c i _ => ∃ j z d : Nat, j ≤ 8 ∧ i = .int .i64 j ∧ m = .int .u32 z ∧ c = .int .u32 d ∧ z < 4294967296 ∧ d < 256 ∧ Hid (z ^^^ d = bitSteps j (y ^^^ q) ∧ d * 2 ^ j ≤ 255)) (fun _ _ i _ => 8 - (intOf i).toNat)
      case atStart => exact ⟨0, y, q, by omega, rfl, rfl, rfl, hyl, hq256, rfl, by omega⟩
      case round =>
        obtain ⟨j, z, d, hj, rfl, rfl, rfl, hz, hd, hzd⟩ := hrel
        by_cases hj8 : j < 8
        · obtain ⟨u, hu, hu2⟩ : ∃ u : Nat, IntKind.u32.wrap ((z : Int) + d) = u ∧ u % 2 = (z + d) % 2 := ⟨(IntKind.u32.wrap ((z : Int) + d)).toNat, by rw [IntKind.wrap_u32]; omega, by rw [IntKind.wrap_u32]; omega⟩
          have hu3 : ((z : Int) + d) % 4294967296 = u := by rw [← hu, IntKind.wrap_u32]
          obtain ⟨z2, hz2⟩ : ∃ x, x = z / 2 := ⟨_, rfl⟩
          obtain ⟨d2, hd2⟩ : ∃ x, x = d / 2 := ⟨_, rfl⟩
          have e1 : (z : Int) / 2 = z2 := by omega
          have e2 : (d : Int) / 2 = d2 := by omega
          have HB : Hid (bitSteps (j + 1) (y ^^^ q) = (z2 ^^^ (if u % 2 = 1 then 3988292384 else 0)) ^^^ d2) := by
            show bitStep (bitSteps j (y ^^^ q)) = _
            rw [← hzd.out.1, ref_bit, hu2, hz2, hd2]
          have HD : Hid (d2 * 2 ^ (j + 1) ≤ 255) := by
            have h1 := hzd.out.2
            simp only [Hid]
            rw [Nat.pow_succ, hd2]
            have : d / 2 * (2 ^ j * 2) ≤ d * 2 ^ j := by
              rw [Nat.mul_comm (2 ^ j), ← Nat.mul_assoc]
              exact Nat.mul_le_mul_right _ (by omega)
            omega
          have hz2l : z2 < 4294967296 := by omega
          have hd2l : d2 < 256 := by omega
          have h4 := u32_xor_poly z2 hz2l
          have h5 := xor_lt32 hz2l (show 3988292384 < 4294967296 by omega)
          clear hz2 hd2 hu2
          rcases Nat.mod_two_eq_zero_or_one u with h2 | h2
          · have t1 : ((u : Int) % 2 == 1) = false := by rw [beq_eq_false_iff_ne]; omega
            rw [h2] at HB
            have H2 := Lib.hid h2
            clear h2 h4 h5
            go_wp2_with fail
            go_round
            case rel => exact ⟨j + 1, z2, d2, by omega, by go_num, rfl, rfl, by omega, by omega, by rw [HB.out]; simp, HD.out⟩
            case measure => simp [intOf]; omega
          · have t1 : ((u : Int) % 2 == 1) = true := by rw [beq_iff_eq]; omega
            rw [h2] at HB
            have H2 := Lib.hid h2
            clear h2
            obtain ⟨zx, hzx⟩ : ∃ x, x = z2 ^^^ 3988292384 := ⟨_, rfl⟩
            rw [← hzx] at h4 h5
            have HZX := Lib.hid hzx
            clear hzx
            go_wp2_with fail
            go_round
            case rel => exact ⟨j + 1, zx, d2, by omega, by go_num, rfl, rfl, by omega, by omega, by rw [HB.out, HZX.out]; simp, HD.out⟩
            case measure => simp [intOf]; omega
        · obtain rfl : j = 8 := by omega
          have HE : Hid (z = crcRun 4294967295 (l.take (k + 1))) := by
            have h1 := hzd.out.1
            have h2 := hzd.out.2
            obtain rfl : d = 0 := by omega
            rw [Nat.xor_zero] at h1
            rw [← HR.out, h1]; rfl
          go_wp2_with fail
          go_round
          case rel => exact ⟨k + 1, z, by omega, by go_num, rfl, by omega, HE.out⟩
          case measure => simp [intOf]; omega
    · have hge : ¬ ((k : Int) < (s.size : Int)) := by have := HZ.out; omega
      have HE : Hid (crcOf l = 4294967295 - y) := by
        have h1 := hy.out
        rw [List.take_of_length_le (by omega)] at h1
        simp only [Hid, crcOf, crcAdd]; rw [h1]
      obtain ⟨m1, hm1⟩ : ∃ m1, m1 = 4294967295 - y := ⟨_, rfl⟩
      have e1 : 4294967295 - (y : Int) = m1 := by omega
      rw [← hm1] at HE
      clear hm1 hlt
      go_wp2_with fail
      go_ret
      exact ⟨by rw [HE.out]; rfl, rfl⟩

set_option maxRecDepth 100000 in
theorem refBytes_calls (n : Nat) (hn : n < 4294967296) (w : World) : Calls Try.prog 65 #[.int .u32 n] w fun e w' => e = .returned (.string (ba (le4 n))) ∧ Kept (fun _ => False) w w' := by
  have HE := Lib.hid (le4_eq n hn)
  have hn' : (n : Int) < 4294967296 := by omega
  obtain ⟨a0, h0⟩ : ∃ a, a = n % 256 := ⟨_, rfl⟩
  obtain ⟨a1, h1⟩ : ∃ a, a = n / 256 % 256 := ⟨_, rfl⟩
  obtain ⟨a2, h2⟩ : ∃ a, a = n / 65536 % 256 := ⟨_, rfl⟩
  obtain ⟨a3, h3⟩ : ∃ a, a = n / 16777216 := ⟨_, rfl⟩
  rw [← h0, ← h1, ← h2, ← h3] at HE
  have e0 : (n : Int) % 256 = a0 := by omega
  have e1 : (n : Int) / 256 % 256 = a1 := by omega
  have e2 : (n : Int) / 65536 % 256 = a2 := by omega
  have e3 : (n : Int) / 16777216 = a3 := by omega
  have b0 : a0 < 256 := by omega
  have b1 : a1 < 256 := by omega
  have b2 : a2 < 256 := by omega
  have b3 : a3 < 256 := by omega
  clear h0 h1 h2 h3
  have hcv : (convert 72 9 (.slice (some ⟨w.heap.size, 0, none⟩) 4 4)).run Try.prog (w.alloc (.cells #[.int .u8 a0, .int .u8 a1, .int .u8 a2, .int .u8 a3] 5)) = .ok (.string (bstr [a0, a1, a2, a3])) (w.alloc (.cells #[.int .u8 a0, .int .u8 a1, .int .u8 a2, .int .u8 a3] 5)) :=
    run_conv_row (P := Try.prog) und_bytes2 (by kernel_rfl) (by kernel_rfl) (ys := [a0, a1, a2, a3]) (more := []) (cap := 4) (heap_new _ _)
  go_enter Try.func65, Try.ntmps65
  go_wp2_with fail
  go_ret
  exact ⟨by rw [HE.out]; rfl, (Kept.refl _ _).alloc _⟩

theorem bstr_size1 (l : List Nat) : (bstr l).size = l.length := by simp [bstr, ByteArray.size]
theorem beB_succ (k n : Nat) : beB (k + 1) n = UInt8.ofNat (n / 256 ^ k % 256) :: beB k n := by
  simp only [beB, List.range_succ_eq_map, List.map_cons, List.map_map]
  congr 1
  apply List.map_congr_left
  intro j hj
  have : j < k := List.mem_range.1 hj
  simp only [Function.comp_apply]
  rw [show k + 1 - 1 - (j + 1) = k - 1 - j by omega]

theorem ba_cons (x : UInt8) (l : List UInt8) : bstr [x.toNat] ++ ba l = ba (x :: l) := by
  rw [show bstr [x.toNat] = ba [x] by simp [bstr, ba]]
  rw [← ba_append]; rfl

set_option maxHeartbeats 2000000 in
set_option maxRecDepth 100000 in
theorem refU_calls (n : Nat) (hn : n < 18446744073709551616) (w : World) : Calls Try.prog 86 #[.int .u64 n] w fun e w' => e = .returned (.string (ba (encU n))) ∧ Kept (fun _ => False) w w' := by
  have HN : Hid (nb n ≤ 8) := nb_le8 n hn
  have hcv : ∀ (W : World) (q : Nat), (convert 72 9 (.slice (some ⟨W.heap.size, 0, none⟩) 1 1)).run Try.prog (W.alloc (.cells #[.int .u8 q] 5)) = .ok (.string (bstr [q])) (W.alloc (.cells #[.int .u8 q] 5)) := fun W q =>
    run_conv_row (P := Try.prog) und_bytes2 (by kernel_rfl) (by kernel_rfl) (ys := [q]) (more := []) (cap := 1) (heap_new _ _)
  have HCV := Lib.hid hcv
  clear hcv
  have hn' : (n : Int) < 18446744073709551616 := by omega
  go_enter Try.func86, Try.ntmps86
  go_wp2_with fail
  go_loopw [0, 3, 4] (fun v s i wr => ∃ (k m : Nat) (b : ByteArray), k ≤ 8 ∧ v = .int .u64 m ∧ i = .int .i64 k ∧ s = .string b ∧ m ≤ n ∧ b.size = k ∧ Hid (m = n / 256 ^ k ∧ b = ba (beB k n) ∧ k ≤ nb n) ∧ Kept (fun _ => False) w wr) (fun _ _ i _ => 8 - (intOf i).toNat)
  case atStart => exact ⟨0, n, ⟨#[]⟩, by omega, rfl, rfl, rfl, Nat.le_refl _, rfl, ⟨by simp, rfl, by omega⟩, Kept.refl _ _⟩
  case round =>
    obtain ⟨k, m, b, hk, rfl, rfl, rfl, hm, hb, hh, kw⟩ := hrel
    have KW := Lib.hid kw
    clear kw
    by_cases hin : k < 8 ∧ 0 < m
    · obtain ⟨hk8, hm0⟩ := hin
      obtain ⟨q, hq⟩ : ∃ q, q = m % 256 := ⟨_, rfl⟩
      obtain ⟨m2, hm2⟩ : ∃ x, x = m / 256 := ⟨_, rfl⟩
      have e1 : (m : Int) % 256 = q := by omega
      have e2 : (m : Int) / 256 = m2 := by omega
      have hq256 : q < 256 := by omega
      have hm2l : m2 ≤ n := by omega
      have hbs : (bstr [q]).size = 1 := by rw [bstr_size1]; rfl
      have HH : Hid (m2 = n / 256 ^ (k + 1) ∧ bstr [q] ++ b = ba (beB (k + 1) n) ∧ k + 1 ≤ nb n) := by
        obtain ⟨h1, h2, h3⟩ := hh.out
        refine ⟨by rw [hm2, h1, Nat.pow_succ, Nat.div_div_eq_div_mul], ?_, ?_⟩
        · rw [h2, beB_succ, ← ba_cons, ← h1, ← hq]
          have : (UInt8.ofNat q).toNat = q := by rw [UInt8.toNat_ofNat']; omega
          rw [this]
        · rcases Nat.lt_or_ge k (nb n) with h | h
          · exact h
          · have h4 := nb_lt n
            have h5 : n / 256 ^ k = 0 := Nat.div_eq_of_lt (Nat.lt_of_lt_of_le h4 (Nat.pow_le_pow_right (by omega) h))
            omega
      have HBS : Hid ((bstr [q] ++ b).size = k + 1) := by
        rw [Hid, ByteArray.size_append, hbs, hb]; omega
      have hcv1 := HCV.out wr q
      have hsz : (bstr [q]).size + b.size ≤ 1000 := by omega
      have HHB := Lib.hid hbs
      have hw2 : IntKind.u64.wrap (m2 : Int) = m2 := by rw [IntKind.wrap_u64]; omega
      have HM := Lib.hid hm2l
      clear hq hm2 hbs hb hn hn' hm hm2l
      go_wp2_with fail
      go_roundw
      case rel => exact ⟨k + 1, m2, _, by omega, rfl, by go_num, rfl, HM.out, HBS.out, HH.out, KW.out.alloc _⟩
      case measure => simp [intOf]; omega
    · have HK : Hid (k = nb n) := by
        obtain ⟨h1, h2, h3⟩ := hh.out
        have h6 := HN.out
        show k = nb n
        rcases Nat.lt_or_ge k 8 with h | h
        · have h0 : m = 0 := by omega
          rw [h0] at h1
          have h4 : n < 256 ^ k := by
            rcases Nat.lt_or_ge n (256 ^ k) with h5 | h5
            · exact h5
            · have := Nat.div_pos h5 (Nat.pow_pos (by omega : 0 < 256)); omega
          have := nb_le n k h4
          omega
        · omega
      have hcv1 := HCV.out wr k
      have hbs : (bstr [k]).size = 1 := by rw [bstr_size1]; rfl
      have hsz : (bstr [k]).size + b.size ≤ 1000 := by omega
      have hk8 : k < 8 ∧ m = 0 ∨ k = 8 := by omega
      have HE : Hid (bstr [k] ++ b = ba (encU n)) := by
        obtain ⟨h1, h2, h3⟩ := hh.out
        rw [Hid, h2, encU, ← HK.out, ← ba_cons]
        have : (UInt8.ofNat k).toNat = k := by rw [UInt8.toNat_ofNat']; omega
        rw [this]
      have HBZ := Lib.hid hb
      have HHB := Lib.hid hbs
      have hszb : b.size ≤ 8 := by omega
      have hbk : (b.size : Int) = k := by omega
      clear hbs hb hin hn hn' hm
      rcases hk8 with ⟨hlt, rfl⟩ | h8
      · go_wp2_with fail
        go_ret
        exact ⟨by rw [HE.out]; rfl, KW.out.alloc _⟩
      · have h9 : ¬ (k : Int) < 8 := by omega
        clear h8
        go_wp2_with fail
        go_ret
        exact ⟨by rw [HE.out]; rfl, KW.out.alloc _⟩

theorem refN_calls (n : Int) (hn : -9223372036854775808 ≤ n ∧ n ≤ 9223372036854775807) (w : World) : Calls Try.prog 62 #[.int .i64 n] w fun e w' => e = .returned (.string (ba (encN n))) ∧ Kept (fun _ => False) w w' := by
  by_cases h0 : 0 ≤ n
  · obtain ⟨m, rfl⟩ : ∃ m : Nat, n = m := ⟨n.toNat, by omega⟩
    have C := Lib.hid (refU_calls m (by omega) w)
    have hw : IntKind.u64.wrap (m : Int) = m := by rw [IntKind.wrap_u64]; omega
    clear hn
    go_enter Try.func62, Try.ntmps62
    go_wp2_with fail
    refine C.out.mono ?_
    rintro e w1 ⟨rfl, k1⟩
    have K1 := Lib.hid k1
    clear k1 hw
    go_wp2_with fail
    go_ret
    exact ⟨rfl, K1.out⟩
  · have C := Lib.hid (refU_calls 0 (by omega) w)
    have HE : Hid (encN n = encU 0) := by simp only [Hid, encN]; rw [show n.toNat = 0 by omega]
    have hw : IntKind.u64.wrap 0 = 0 := by decide
    have hmx : max n 0 = 0 := by omega
    rw [HE.out]
    go_enter Try.func62, Try.ntmps62
    go_wp2_with fail
    refine C.out.mono ?_
    rintro e w1 ⟨rfl, k1⟩
    have K1 := Lib.hid k1
    clear k1 hw
    go_wp2_with fail
    go_ret
    exact ⟨rfl, K1.out⟩

theorem refS_calls (t : List UInt8) (ht : t.length ≤ 1000000000) (w : World) : Calls Try.prog 63 #[.string (ba t)] w fun e w' => e = .returned (.string (ba (encS t))) ∧ Kept (fun _ => False) w w' := by
  have C := Lib.hid (refU_calls t.length (by omega) w)
  have hsz := ba_size t
  obtain ⟨s, hs⟩ : ∃ s, s = ba t := ⟨_, rfl⟩
  rw [← hs] at hsz ⊢
  obtain ⟨u, hu⟩ : ∃ u, u = ba (encU t.length) := ⟨_, rfl⟩
  have hus : u.size ≤ 10 := by rw [hu, ba_size, encU_len]; have := nb_le8 t.length (by omega); omega
  rw [← hu] at C
  have HE : Hid (u ++ s = ba (encS t)) := by rw [hu, hs, Hid, ← ba_append]; rfl
  have hw : IntKind.u64.wrap (s.size : Int) = (t.length : Nat) := by rw [IntKind.wrap_u64, hsz]; omega
  have h2 : u.size + s.size ≤ 2000000000 := by omega
  have HZ := Lib.hid hsz
  clear hsz hs hu
  go_enter Try.func63, Try.ntmps63
  go_wp2_with fail
  refine C.out.mono ?_
  rintro e w1 ⟨rfl, k1⟩
  have K1 := Lib.hid k1
  clear k1 hw
  go_wp2_with fail
  go_ret
  exact ⟨by rw [HE.out]; rfl, K1.out⟩

end Go.Proofs.Ytfgjehecjgebdaa
