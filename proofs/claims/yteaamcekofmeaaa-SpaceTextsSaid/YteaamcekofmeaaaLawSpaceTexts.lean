/- SpaceTexts: for every input the call returns true, and the arguments read as before. No conditions. -/
import Derived.Test.YteaamcekofmeaaaRow
import Derived.Test.YteaamcekofmeaaaSpW
import Derived.Test.YteaamcekofmeaaaSpMath2
import Derived.Test.YteaamcekofmeaaaCut
namespace Go.Proofs.Yteaamcekofmeaaa.spaceTexts
open Go.ChangeShapes Go.WideShapes Go.ChangeAt Go.RowKit

theorem tk_len (l : List Nat) : (tkRes l).2.2.length = l.length := by unfold tkRes; cases tkAt l <;> simp
theorem gv_len (l : List Nat) (i : Int) : (gvRes l i).2.length = l.length := by unfold gvRes; split <;> (try split) <;> simp

set_option maxHeartbeats 1000000 in
set_option maxRecDepth 100000 in
theorem walk (n : Int) (_hn : -9223372036854775808 ≤ n ∧ n ≤ 9223372036854775807) {A : Option Addr} {len cap b0 off : Nat} {K N : Nat → Int} {w : World} (hm : len ≤ maxLen) (hA : Acts2 w A len b0 off K N) (s : ByteArray) (hs : s.size ≤ maxLen) :
    Calls Try.prog 6 #[.int .i64 n, .slice A len cap, .string s] w fun e w' => e = .returned (.bool true) ∧ Below w.heap.size w w' := by
  unfold maxLen at hm
  obtain ⟨m, hmv⟩ : ∃ m : Nat, (m : Int) = 1 + n % 128 := ⟨(1 + n % 128).toNat, by omega⟩
  have hm1 : 1 ≤ m := by omega
  have hm2 : m ≤ 128 := by omega
  have ha1 : bits .and .i64 n 127 = (m : Int) - 1 := by rw [and_127]; omega
  have hsum : (1 : Int) + ((m : Int) - 1) = m := by omega
  clear hmv
  obtain ⟨x, hx⟩ : ∃ x, x = cutTo s 20 := ⟨_, rfl⟩
  have hx20 : x.size ≤ 20 := by rw [hx]; exact cutTo_size s 20
  have cC := fun W : World => Cut_calls s 20 W hs (by omega)
  rw [← hx] at cC
  have CC := Lib.hid cC; clear cC hx
  go_enter Try.func6, Try.ntmps6
  go_wp2_with fail
  refine (New_ok m w hm1 (by omega)).mono ?_
  rintro e w1 ⟨b, c, hb, hc, rfl, hsp, k1⟩
  go_wp2_with fail
  refine (CC.out w1).mono ?_
  rintro e w1' ⟨rfl, rfl⟩
  go_wp2_with fail
  refine (spawake_calls w1).mono ?_
  rintro e w2 ⟨rfl, k2⟩
  have HI := Lib.hid (hsp.kept k2 id id); have HK := Lib.hid (k1.trans k2)
  clear hsp k1 k2
  go_wp2_with fail
  go_loopw [9] (fun i wr => ∃ (j : Nat) (l : List Nat), j ≤ 60 ∧ i = .int .i64 j ∧ IsSp wr b c l ∧ l.length = m ∧ Kept (fun _ => False) w wr) (fun i _ => 60 - (intOf i).toNat)
  case atStart => exact ⟨0, _, by omega, rfl, HI.out, by simp, HK.out⟩
  case round =>
    obtain ⟨j, l, hj, rfl, hs', hlen, hkw⟩ := hrel
    have HS := Lib.hid hs'; have HL := Lib.hid hlen; have HW := Lib.hid hkw; clear hs' hlen hkw
    by_cases hin : j < len ∧ j < 60
    · obtain ⟨hjl, hj60⟩ := hin
      have hA2 := hA.kept HW.out
      have hK := (hA2.cell j hjl).1
      have hN := (hA2.cell j hjl).2
      have hAd := hA2.at_ (by omega)
      have HA2 := Lib.hid hA2; clear hA2
      obtain ⟨z, hz⟩ : ∃ z : Nat, N j % 256 = z := ⟨(N j % 256).toNat, by omega⟩
      have ha3 : bits .and .i64 (N j) 255 = (z : Int) := by rw [and_255]; exact hz
      clear hz
      subst hAd
      generalize hKj : K j = kj at *
      generalize hNj : N j = nj at *
      have HKj := Lib.hid hKj; have HNj := Lib.hid hNj; clear hKj hNj
      rcases (show kj % 2 = 0 ∨ kj % 2 = 1 by omega) with hk | hk
      · have ha4 : bits .and .i64 kj 1 = 0 := by rw [and_1]; exact hk
        clear hk
        go_wp2_with fail
        refine (Give_calls HS.out _).mono ?_
        rintro e w4 ⟨rfl, h4, k4⟩
        have H4 := Lib.hid h4; have K4 := Lib.hid (HW.out.then k4 (fun i hi e => by omega)); clear h4 k4
        go_wp2_with fail
        go_roundw
        case rel => exact ⟨j + 1, _, by omega, by go_num, H4.out, (gv_len l _).trans HL.out, K4.out⟩
        case measure => simp [intOf]; omega
      · have ha4 : bits .and .i64 kj 1 = 1 := by rw [and_1]; exact hk
        clear hk
        go_wp2_with fail
        refine (Take_calls HS.out).mono ?_
        rintro e w4 ⟨rfl, h4, k4⟩
        have H4 := Lib.hid h4; have K4 := Lib.hid (HW.out.then k4 (fun i hi e => by omega)); clear h4 k4
        go_wp2_with fail
        go_roundw
        case rel => exact ⟨j + 1, _, by omega, by go_num, H4.out, (tk_len l).trans HL.out, K4.out⟩
        case measure => simp [intOf]; omega
    · have hout : ¬ ((j : Int) < (len : Int)) ∨ ((j : Int) < (len : Int) ∧ ¬ ((j : Int) < 60)) := by omega
      clear hin
      have hbl : Hid ((bstr (bys l)).size ≤ maxLen) := by have := HL.out; simp only [Hid]; rw [bstr_len, bys_len]; unfold maxLen; omega
      have hil : (inUse l).length = m := by have := HL.out; simp [inUse, this]
      rcases hout with hout | ⟨hout1, hout⟩
      all_goals
        have cT := Lib.hid (Text_calls HS.out)
        go_wp2_with fail
        refine cT.out.mono ?_
        rintro e w4 ⟨rfl, k4⟩
        have K4 := Lib.hid (HW.out.trans k4)
        have HS4 := Lib.hid (HS.out.kept k4 id id); clear k4
        have cP := Lib.hid (Parse_calls m (bstr (bys l)) w4 hm1 hm2 hbl.out)
        go_wp2_with fail
        refine cP.out.mono ?_
        rintro e w5 ⟨k5, h | h⟩
        · exact absurd (fine_bys l m HL.out) (by rw [h.1]; simp)
        obtain ⟨_, b2, c2, hb2, hc2, rfl, hs5⟩ := h
        rw [parsed_bys l m HL.out] at hs5
        have K5 := Lib.hid (K4.out.trans k5)
        have HS5 := Lib.hid (HS4.out.kept k5 id id)
        have HT5 := Lib.hid hs5; clear k5 hs5 hb2 hc2
        have cT2 := Text_calls HT5.out
        rw [bys_inUse] at cT2
        have CT2 := Lib.hid cT2; clear cT2
        go_wp2_with fail
        refine CT2.out.mono ?_
        rintro e w6 ⟨rfl, k6⟩
        have K6 := Lib.hid (K5.out.trans k6)
        have HS6 := Lib.hid (HS5.out.kept k6 id id)
        have HT6 := Lib.hid (HT5.out.kept k6 id id); clear k6
        have cT3 := Lib.hid (Text_calls HS6.out)
        go_wp2_with fail
        refine cT3.out.mono ?_
        rintro e w7 ⟨rfl, k7⟩
        have K7 := Lib.hid (K6.out.trans k7)
        have HT7 := Lib.hid (HT6.out.kept k7 id id); clear k7
        have hbb : ((bstr (bys l)).toList == (bstr (bys l)).toList) = true := by simp
        have cC2 := Count_calls HT7.out 2 (by omega)
        rw [cnt_inUse] at cC2
        have CC2 := Lib.hid cC2; clear cC2
        go_wp2_with fail
        refine CC2.out.mono ?_
        rintro e w8 ⟨rfl, rfl⟩
        have cL := Len_calls HT7.out
        rw [hil] at cL
        have CL := Lib.hid cL; clear cL
        go_wp2_with fail
        refine CL.out.mono ?_
        rintro e w8 ⟨rfl, rfl⟩
        have cP2 := Lib.hid (Parse_calls m x w7 hm1 hm2 (by unfold maxLen; omega))
        have hmm : ((m : Int) != (m : Int)) = false := by simp
        go_wp2_with fail
        refine cP2.out.mono ?_
        rintro e w9 ⟨k9, h | h⟩
        · obtain ⟨hf, rfl⟩ := h
          have K9 := Lib.hid (K7.out.trans k9)
          by_cases hsz : x.size = (m + 7) / 8
          · obtain ⟨g1, g2⟩ := not_fine hf hsz
            have t1 : ((x.size : Int) != ((m : Int) + 7) / 8) = false := by rw [bne_eq_false_iff_eq]; omega
            obtain ⟨q, hq⟩ : ∃ q, x.size = q + 1 := ⟨x.size - 1, by omega⟩
            obtain ⟨r, hr⟩ : ∃ r, r = m % 8 := ⟨_, rfl⟩
            have hqx : q < x.size := by omega
            have hr8 : r < 8 := by omega
            have hr0 : (0 : Int) < r := by omega
            have hq' : (x.size : Int) - 1 = q := by omega
            have hr' : (m : Int) % 8 = r := by omega
            have hv : (x.data.toList.getD (x.size - 1) 0).toNat = x[q].toNat := by
              have h' : q < x.data.toList.length := by simpa using hqx
              rw [show x.size - 1 = q by omega, List.getD_eq_getElem?_getD, List.getElem?_eq_getElem h', Option.getD_some]
              rfl
            rw [hv, ← hr] at g2
            have g3 : (0 : Int) < (x[q].toNat : Int) / 2 ^ r := by
              have e : ((x[q].toNat : Int) / 2 ^ r) = ((x[q].toNat / 2 ^ r : Nat) : Int) := by simp
              rw [e]; omega
            clear hf k9 hsz hq hr g1 g2 hv
            go_wp2_with fail
            go_ret
            exact ⟨rfl, K9.out.below⟩
          · have t1 : ((x.size : Int) != ((m : Int) + 7) / 8) = true := by rw [bne_iff_ne]; omega
            clear hf k9 hsz
            go_wp2_with fail
            go_ret
            exact ⟨rfl, K9.out.below⟩
        · obtain ⟨hf, b3, c3, _, _, rfl, h9⟩ := h
          have K9 := Lib.hid (K7.out.trans k9)
          have cT9 := Text_calls h9
          rw [bys_parsed hf] at cT9
          have CT9 := Lib.hid cT9; clear cT9 hf h9 k9
          have hbx : (x.toList == x.toList) = true := by simp
          go_wp2_with fail
          refine CT9.out.mono ?_
          rintro e w10 ⟨rfl, k10⟩
          go_wp2_with fail
          go_ret
          exact ⟨rfl, (K9.out.trans k10).below⟩

set_option maxRecDepth 100000 in
theorem lifted (os : Os) (started : os.Started) (H : Type) (enc : TypeId × Value → H) :
    ReturnsInHanded {} Try.checked os 6 .any (Rows.spaceTextsSpec.pre6 enc Try.prog Try.f6 Rows.spaceTextsRow.domain false) (Rows.spaceTextsSpec.post enc Try.prog Try.f6 false true false false) := by
  refine returnsInHanded_of_change_sized (C := Try.checked) law_own started (by kernel_rfl) Try.func6
    (ChangeSpec.witness6 (enc := enc) (C := Try.checked) false ⟨#[], #[.int .i64 0, .slice none 0 0, .string ⟨#[]⟩], []⟩ 8 (by kernel_rfl) (by kernel_rfl) (by kernel_rfl) (by kernel_rfl)) ?_
  intro W base args ds gs before hval0 hW hcnd hsz0 _
  have hval : ∀ (j : Nat) t v, Try.f6.params[j]? = some t → args[j]? = some v → Value.okWide Try.prog W .any base t v := hval0
  have hsz : (DataW.weightsEach Try.prog (Try.f6.params.toList ++ Rows.spaceTextsSpec.plain.varTypes Try.prog) (ds ++ gs)).all (· ≤ reachBytes) = true := hsz0
  clear hsz0 hcnd
  have hW' := hW
  obtain ⟨p, q, hA0, hV, rfl, hfz, hnd⟩ := hW
  have hA : DataW.TrodAll enc Try.prog W 0 (fun _ => true) true Try.f6.params.toList args.toList ds p := hA0
  rw [Try.params6] at hA hval hsz
  obtain ⟨v0, vs0, d0, ds0, p0, q0, hargs, rfl, rfl, h0, r0⟩ := trodAll_cons hA
  obtain ⟨v1, vs1, d1, ds1, p1, q1, rfl, rfl, rfl, h1, r1⟩ := trodAll_cons r0
  obtain ⟨v2, vs2, d2, ds2, p2, q2, rfl, rfl, rfl, h2, r2⟩ := trodAll_cons r1
  obtain ⟨rfl, rfl, rfl⟩ := trodAll_nil r2
  obtain rfl : args = #[v0, v1, v2] := by cases args; simp_all
  obtain ⟨rfl, rfl⟩ := trodVars_none hV
  obtain ⟨a0, rfl, rfl, rfl, w0⟩ := open_int Try.underlying3 (hval 0 3 v0 rfl rfl) h0
  obtain ⟨A1, len1, cap1, b1, off1, K1, N1, rfl, m1, y1⟩ := open_acts2 (ti := 3) Try.underlying29 Try.underlying33 (by kernel_rfl) (by kernel_rfl) rfl rfl Try.underlying3 (hval 1 29 v1 rfl rfl) h1
  obtain ⟨a2, rfl, rfl, rfl, y2⟩ := Go.ChangeMaps.open_string Try.underlying9 (hval 2 9 v2 rfl rfl) h2
  refine (walk a0 (bounds_i64 w0) m1 y1 a2 y2).mono fun e W' ⟨he, hb⟩ => ?_
  subst he
  exact ⟨_, rfl, law_post hW' rfl rfl rfl rfl (by kernel_rfl) Try.underlying4 law_laid (by kernel_rfl) hb⟩

theorem over : Rows.spaceTextsRow.holds Try.pinned (OpenSpec.ofChange Rows.spaceTextsSpec) :=
  OpenClaim.holds_of_wide 6 Try.f6 rfl rfl rfl rfl rfl rfl rfl ⟨rfl, rfl, rfl, rfl, rfl⟩ rfl rfl rfl rfl rfl (by kernel_rfl) Try.func6 (by kernel_rfl)
    (of_decide_eq_true (by kernel_rfl)) (by unfold Func.isWrapper; first | (rw [if_pos (by decide +kernel)]; kernel_rfl) | (rw [if_neg (by decide +kernel)]; exact ⟨rfl, rfl⟩))
    (fun os started H enc _ => lifted os started H enc)

theorem proved : Rows.SpaceTextsSaid := over

end Go.Proofs.Yteaamcekofmeaaa.spaceTexts
