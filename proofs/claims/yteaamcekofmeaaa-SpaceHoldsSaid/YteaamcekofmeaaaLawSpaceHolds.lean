/- SpaceHolds: for every input the call returns true, and the arguments read as before. No conditions. -/
import Derived.Test.YteaamcekofmeaaaRow
import Derived.Test.YteaamcekofmeaaaSpW
namespace Go.Proofs.Yteaamcekofmeaaa.spaceHolds
open Go.ChangeShapes Go.WideShapes Go.ChangeAt Go.RowKit

/-- Which states may be, once the first u were in use. -/
def Ok (u : Nat) (l : List Nat) : Prop := ∀ i x, l[i]? = some x → (i < u → x = 1 ∨ x = 3) ∧ (u ≤ i → x = 0 ∨ x = 2)

theorem tk_len (l : List Nat) : (tkRes l).2.2.length = l.length := by unfold tkRes; cases tkAt l <;> simp
theorem gv_len (l : List Nat) (i : Int) : (gvRes l i).2.length = l.length := by unfold gvRes; split <;> (try split) <;> simp

theorem tk_ok {u : Nat} {l : List Nat} (h : Ok u l) : Ok u (tkRes l).2.2 := by
  unfold tkRes
  cases ht : tkAt l with
  | none => exact h
  | some i =>
    obtain ⟨hi, h1, _⟩ := List.findIdx?_eq_some_iff_getElem.1 ht
    intro j x hx
    simp only [List.getElem?_set] at hx
    by_cases e : i = j
    · subst e
      rw [if_pos rfl, if_pos hi] at hx
      have hz := h i l[i] (List.getElem?_eq_getElem hi)
      have h1 : l[i] = 0 := by simpa using h1
      simp at hx
      omega
    · rw [if_neg e] at hx
      exact h j x hx
theorem tk_above {u : Nat} {l : List Nat} (h : Ok u l) (hk : (tkRes l).2.1 = 0) : (u : Int) ≤ (tkRes l).1 := by
  unfold tkRes at hk ⊢
  cases ht : tkAt l with
  | none => rw [ht] at hk; simp at hk
  | some i =>
    obtain ⟨hi, h1, _⟩ := List.findIdx?_eq_some_iff_getElem.1 ht
    have hz := h i l[i] (List.getElem?_eq_getElem hi)
    have h1 : l[i] = 0 := by simpa using h1
    simp only
    omega
theorem gv_ok {u : Nat} {l : List Nat} (h : Ok u l) (i : Int) : Ok u (gvRes l i).2 := by
  by_cases h2 : stAt l i = 2
  · obtain ⟨k, rfl, hk, hx⟩ := stAt_nat (x := 2) h2
    simp only [gvRes, if_pos h2, Int.toNat_natCast]
    have hz := h k l[k] (List.getElem?_eq_getElem hk)
    intro j x hj
    rw [List.getElem?_set] at hj
    by_cases e : k = j
    · subst e; rw [if_pos rfl, if_pos hk] at hj; simp at hj; omega
    · rw [if_neg e] at hj; exact h j x hj
  · by_cases h1 : stAt l i = 1
    · obtain ⟨k, rfl, hk, hx⟩ := stAt_nat (x := 1) h1
      simp only [gvRes, if_neg h2, if_pos h1, Int.toNat_natCast]
      have hz := h k l[k] (List.getElem?_eq_getElem hk)
      intro j x hj
      rw [List.getElem?_set] at hj
      by_cases e : k = j
      · subst e; rw [if_pos rfl, if_pos hk] at hj; simp at hj; omega
      · rw [if_neg e] at hj; exact h j x hj
    · simp only [gvRes, if_neg h2, if_neg h1]; exact h
/-- u pages are taken. -/
def some_ (u m : Nat) (x : Nat) : List Nat := List.replicate u x ++ List.replicate (m - u) 0
theorem some_zero (m : Nat) : some_ 0 m 2 = List.replicate m 0 := by simp [some_]
theorem tk_some {u m : Nat} (h : u < m) : (tkRes (some_ u m 2)).2.2 = some_ (u + 1) m 2 := by
  have ht : tkAt (some_ u m 2) = some u := by
    unfold tkAt
    rw [List.findIdx?_eq_some_iff_getElem]
    refine ⟨by simp [some_]; omega, ?_, ?_⟩
    · simp [some_]
    · intro j hj
      unfold some_
      rw [List.getElem_append_left (by simpa using hj)]
      simp
  unfold tkRes
  rw [ht]
  show (some_ u m 2).set u 2 = _
  unfold some_
  rw [List.set_append_right _ _ (by simp), List.length_replicate, Nat.sub_self, show m - u = (m - (u + 1)) + 1 by omega, List.replicate_succ, List.set_cons_zero, List.replicate_succ', List.append_assoc]
  rfl
theorem kp_some (u m : Nat) : kp (some_ u m 2) = some_ u m 1 := by simp [kp, chg, some_]
theorem ok_some (u m : Nat) : Ok u (some_ u m 1) := by
  intro i x hx
  simp only [some_, List.getElem?_append, List.length_replicate, List.getElem?_replicate] at hx
  by_cases h : i < u
  · simp [h] at hx; omega
  · rw [if_neg h] at hx
    split at hx <;> simp at hx
    omega
theorem ud_st {u : Nat} {l : List Nat} (h : Ok u l) (i : Nat) (hi : i < l.length) : stAt (ud l) i = if i < u then 1 else 0 := by
  have hz := h i l[i] (List.getElem?_eq_getElem hi)
  have : (ud l)[i]? = some (if i < u then 1 else 0) := by
    simp only [ud, chg, List.getElem?_map, List.getElem?_eq_getElem hi, Option.map_some]
    by_cases hu : i < u
    · rcases hz.1 hu with e | e <;> simp [e, hu]
    · rcases hz.2 (by omega) with e | e <;> simp [e, hu]
  unfold stAt
  rw [if_neg (by omega), Int.toNat_natCast, this]
  by_cases hu : i < u <;> simp [hu]
theorem ud_cnt {u : Nat} {l : List Nat} (h : Ok u l) (s : Int) (hs : s = 2 ∨ s = 3) : cnt (ud l) s = 0 := by
  unfold cnt
  rw [List.length_eq_zero_iff, List.filter_eq_nil_iff]
  intro x hx
  obtain ⟨i, hi, rfl⟩ := List.getElem_of_mem hx
  have hl : i < l.length := by simpa [ud, chg] using hi
  have := ud_st h i hl
  have h2 : stAt (ud l) i = ((ud l)[i] : Nat) := by simp [stAt, hi]
  rw [h2] at this
  split at this <;> (simp; omega)

set_option maxRecDepth 100000 in
theorem walk (n : Int) (_hn : -9223372036854775808 ≤ n ∧ n ≤ 9223372036854775807) (used : Int) (_hu : -9223372036854775808 ≤ used ∧ used ≤ 9223372036854775807) {A : Option Addr} {len cap b0 off : Nat} {K N : Nat → Int} {w : World} (hm : len ≤ maxLen) (hA : Acts2 w A len b0 off K N) :
    Calls Try.prog 4 #[.int .i64 n, .int .i64 used, .slice A len cap] w fun e w' => e = .returned (.bool true) ∧ Below w.heap.size w w' := by
  unfold maxLen at hm
  obtain ⟨m, hmv⟩ : ∃ m : Nat, (m : Int) = 1 + n % 16 := ⟨(1 + n % 16).toNat, by omega⟩
  have hm1 : 1 ≤ m := by omega
  have hm2 : m ≤ 16 := by omega
  have ha1 : bits .and .i64 n 15 = (m : Int) - 1 := by rw [and_15]; omega
  have hsum : (1 : Int) + ((m : Int) - 1) = m := by omega
  obtain ⟨u, huv⟩ : ∃ u : Nat, (u : Int) = (used % 256) % ((m : Int) + 1) := ⟨((used % 256) % ((m : Int) + 1)).toNat, by
    have := Int.emod_nonneg (used % 256) (show ((m : Int) + 1) ≠ 0 by omega); omega⟩
  have hum : u ≤ m := by have := Int.emod_lt_of_pos (used % 256) (show 0 < ((m : Int) + 1) by omega); omega
  obtain ⟨y, hy⟩ : ∃ y : Nat, used % 256 = y := ⟨(used % 256).toNat, by omega⟩
  have ha2 : bits .and .i64 used 255 = (y : Int) := by rw [and_255]; exact hy
  rw [hy] at huv
  have hrem : (y : Int) % ((m : Int) + 1) = u := huv.symm
  clear hmv huv hy
  go_enter Try.func4, Try.ntmps4
  go_wp2_with fail
  refine (New_ok m w hm1 (by omega)).mono ?_
  rintro e w1 ⟨b, c, hb, hc, rfl, hsp, k1⟩
  go_wp2_with fail
  refine (spawake_calls w1).mono ?_
  rintro e w2 ⟨rfl, k2⟩
  go_wp2_with fail
  simp only [hrem]
  have hsp2 := hsp.kept k2 id id
  have hm2' : Hid (Kept (fun _ => False) w w2) := Lib.hid (k1.trans k2)
  go_loopw [33] (fun i wr => ∃ k : Nat, k ≤ u ∧ i = .int .i64 k ∧ IsSp wr b c (some_ k m 2) ∧ Kept (· = c) w2 wr) (fun i _ => u - (intOf i).toNat)
  case atStart => exact ⟨0, Nat.zero_le _, rfl, by rw [some_zero]; exact hsp2, Kept.refl _ _⟩
  case round =>
    obtain ⟨k, hk, rfl, hs, hkp⟩ := hrel
    have HS := Lib.hid hs; have HK := Lib.hid hkp; clear hs hkp
    by_cases hlt : k < u
    · have HT := Lib.hid (tk_some (show k < m by omega))
      go_wp2_with fail
      refine (Take_calls HS.out).mono ?_
      rintro e w3 ⟨rfl, h3, k3⟩
      rw [HT.out] at h3
      have H3 := Lib.hid h3; have K3 := Lib.hid k3; clear h3 k3
      go_wp2_with fail
      go_roundw
      case rel => exact ⟨k + 1, by omega, by go_num, H3.out, HK.out.trans K3.out⟩
      case measure => simp [intOf]; omega
    · obtain rfl : k = u := by omega
      clear hlt hk
      go_wp2_with fail
      refine (Keep_calls HS.out).mono ?_
      rintro e w3 ⟨rfl, h3, k3⟩
      rw [kp_some] at h3
      have H3 := Lib.hid h3; have K3 := Lib.hid (HK.out.trans k3); clear h3 k3
      have HW := Lib.hid (hm2'.out.then K3.out (fun i hi e => by omega)); clear hm2' HK
      go_wp2_with fail
      obtain ⟨wo, rfl⟩ : ∃ wo : World, wo = w3 := ⟨_, rfl⟩
      go_loopw [9] (fun i wr => ∃ (j : Nat) (l : List Nat), j ≤ 60 ∧ i = .int .i64 j ∧ IsSp wr b c l ∧ l.length = m ∧ Ok k l ∧ Kept (fun _ => False) w wr) (fun i _ => 60 - (intOf i).toNat)
      case atStart => exact ⟨0, _, by omega, rfl, H3.out, by simp [some_]; omega, ok_some k m, HW.out⟩
      case round =>
        obtain ⟨j, l, hj, rfl, hs, hlen, hok, hkw⟩ := hrel
        have HS := Lib.hid hs; have HOK := Lib.hid hok; have HKW := Lib.hid hkw; have HL := Lib.hid hlen; clear hs hok hkw hlen
        by_cases hin : j < len ∧ j < 60
        · obtain ⟨hjl, hj60⟩ := hin
          have hA2 := hA.kept HKW.out
          have hK := (hA2.cell j hjl).1
          have hN := (hA2.cell j hjl).2
          obtain ⟨kb1, kb2⟩ := (hA2.bd j hjl).1
          have hAd := hA2.at_ (by omega)
          have HA2 := Lib.hid hA2; clear hA2
          obtain ⟨z, hz⟩ : ∃ z : Nat, N j % 256 = z := ⟨(N j % 256).toNat, by omega⟩
          have ha3 : bits .and .i64 (N j) 255 = (z : Int) := by rw [and_255]; exact hz
          clear hz
          subst hAd
          generalize hKj : K j = kj at *
          generalize hNj : N j = nj at *
          have HKj := Lib.hid hKj; have HNj := Lib.hid hNj; clear hKj hNj
          by_cases e1 : kj = 1 ∨ kj = 3 ∨ kj = 4
          · rcases e1 with rfl | rfl | rfl
            · go_wp2_with fail
              refine (Take_calls HS.out).mono ?_
              rintro e w4 ⟨rfl, h4, k4⟩
              have HT : Hid ((tkRes l).2.1 = 0 → (k : Int) ≤ (tkRes l).1) := tk_above HOK.out
              have H4 := Lib.hid h4; have KW4 := Lib.hid (HKW.out.then k4 (fun i hi e => by omega)); clear h4 k4
              by_cases hz : (tkRes l).2.1 = 0
              · have hzb : ((tkRes l).2.1 == 0) = true := by simp [hz]
                have hlt : ¬ (tkRes l).1 < (k : Int) := by have := HT.out hz; omega
                have HZ := Lib.hid hz; clear hz
                go_wp2_with fail
                go_roundw
                case rel => exact ⟨j + 1, (tkRes l).2.2, by omega, by go_num, H4.out, (tk_len l).trans HL.out, tk_ok HOK.out, KW4.out⟩
                case measure => simp [intOf]; omega
              · have hzb : ((tkRes l).2.1 == 0) = false := by simpa using hz
                go_wp2_with fail
                go_roundw
                case rel => exact ⟨j + 1, (tkRes l).2.2, by omega, by go_num, H4.out, (tk_len l).trans HL.out, tk_ok HOK.out, KW4.out⟩
                case measure => simp [intOf]; omega
            · go_wp2_with fail
              refine (Take_calls HS.out).mono ?_
              rintro e w4 ⟨rfl, h4, k4⟩
              have HT : Hid ((tkRes l).2.1 = 0 → (k : Int) ≤ (tkRes l).1) := tk_above HOK.out
              have H4 := Lib.hid h4; have KW4 := Lib.hid (HKW.out.then k4 (fun i hi e => by omega)); clear h4 k4
              by_cases hz : (tkRes l).2.1 = 0
              · have hzb : ((tkRes l).2.1 == 0) = true := by simp [hz]
                have hlt : ¬ (tkRes l).1 < (k : Int) := by have := HT.out hz; omega
                have HZ := Lib.hid hz; clear hz
                go_wp2_with fail
                go_roundw
                case rel => exact ⟨j + 1, (tkRes l).2.2, by omega, by go_num, H4.out, (tk_len l).trans HL.out, tk_ok HOK.out, KW4.out⟩
                case measure => simp [intOf]; omega
              · have hzb : ((tkRes l).2.1 == 0) = false := by simpa using hz
                go_wp2_with fail
                go_roundw
                case rel => exact ⟨j + 1, (tkRes l).2.2, by omega, by go_num, H4.out, (tk_len l).trans HL.out, tk_ok HOK.out, KW4.out⟩
                case measure => simp [intOf]; omega
            · go_wp2_with fail
              refine (Take_calls HS.out).mono ?_
              rintro e w4 ⟨rfl, h4, k4⟩
              have HT : Hid ((tkRes l).2.1 = 0 → (k : Int) ≤ (tkRes l).1) := tk_above HOK.out
              have H4 := Lib.hid h4; have KW4 := Lib.hid (HKW.out.then k4 (fun i hi e => by omega)); clear h4 k4
              by_cases hz : (tkRes l).2.1 = 0
              · have hzb : ((tkRes l).2.1 == 0) = true := by simp [hz]
                have hlt : ¬ (tkRes l).1 < (k : Int) := by have := HT.out hz; omega
                have HZ := Lib.hid hz; clear hz
                go_wp2_with fail
                go_roundw
                case rel => exact ⟨j + 1, (tkRes l).2.2, by omega, by go_num, H4.out, (tk_len l).trans HL.out, tk_ok HOK.out, KW4.out⟩
                case measure => simp [intOf]; omega
              · have hzb : ((tkRes l).2.1 == 0) = false := by simpa using hz
                go_wp2_with fail
                go_roundw
                case rel => exact ⟨j + 1, (tkRes l).2.2, by omega, by go_num, H4.out, (tk_len l).trans HL.out, tk_ok HOK.out, KW4.out⟩
                case measure => simp [intOf]; omega
          · have t1 : (kj == 1) = false := by simp; omega
            have t3 : (kj == 3) = false := by simp; omega
            have t4 : (kj == 4) = false := by simp; omega
            clear e1
            go_wp2_with fail
            refine (Give_calls HS.out _).mono ?_
            rintro e w4 ⟨rfl, h4, k4⟩
            have H4 := Lib.hid h4; have KW4 := Lib.hid (HKW.out.then k4 (fun i hi e => by omega)); clear h4 k4
            go_wp2_with fail
            go_roundw
            case rel => exact ⟨j + 1, _, by omega, by go_num, H4.out, (gv_len l _).trans HL.out, gv_ok HOK.out _, KW4.out⟩
            case measure => simp [intOf]; omega
        · have hout : ¬ ((j : Int) < (len : Int)) ∨ ((j : Int) < (len : Int) ∧ ¬ ((j : Int) < 60)) := by omega
          clear hin
          rcases hout with hout | ⟨hout1, hout⟩
          all_goals
            go_wp2_with fail
            refine (Undo_calls HS.out).mono ?_
            rintro e w4 ⟨rfl, h4, k4⟩
            have HU : Hid (∀ i, i < m → stAt (ud l) i = if i < k then 1 else 0) := fun i hi => ud_st HOK.out i (by have := HL.out; omega)
            have HC : Hid (∀ s : Int, s = 2 ∨ s = 3 → cnt (ud l) s = 0) := ud_cnt HOK.out
            have H4 := Lib.hid h4; have KW4 := Lib.hid (HKW.out.then k4 (fun i hi e => by omega)); clear h4 k4 HS HKW
            go_wp2_with fail
            go_loop [84] (fun i => ∃ t : Nat, t ≤ m ∧ i = .int .i64 t) (fun i => m - (intOf i).toNat)
            case atStart => exact ⟨0, Nat.zero_le _, rfl⟩
            case round =>
              obtain ⟨t, ht, rfl⟩ := hrel
              by_cases htm : t < m
              · have cS := State_calls H4.out (t : Int)
                rw [HU.out t htm] at cS
                by_cases htk : t < k
                · rw [if_pos htk] at cS
                  have CS := Lib.hid cS; clear cS
                  have d1 : decide ((t : Int) < (k : Int)) = true := by simpa using htk
                  go_wp2_with fail
                  refine CS.out.mono ?_
                  rintro e w5 ⟨rfl, rfl⟩
                  go_wp2_with fail
                  go_round
                  case rel => exact ⟨t + 1, by omega, by go_num⟩
                  case measure => simp [intOf]; omega
                · rw [if_neg htk] at cS
                  have CS := Lib.hid cS; clear cS
                  have d1 : decide ((t : Int) < (k : Int)) = false := by simpa using htk
                  go_wp2_with fail
                  refine CS.out.mono ?_
                  rintro e w5 ⟨rfl, rfl⟩
                  go_wp2_with fail
                  go_round
                  case rel => exact ⟨t + 1, by omega, by go_num⟩
                  case measure => simp [intOf]; omega
              · have c2 := Count_calls H4.out 2 (by omega)
                have c3 := Count_calls H4.out 3 (by omega)
                rw [HC.out 2 (.inl rfl)] at c2
                rw [HC.out 3 (.inr rfl)] at c3
                have C2 := Lib.hid c2; have C3 := Lib.hid c3; clear c2 c3
                go_wp2_with fail
                refine C2.out.mono ?_
                rintro e w5 ⟨rfl, rfl⟩
                go_wp2_with fail
                refine C3.out.mono ?_
                rintro e w5 ⟨rfl, rfl⟩
                go_wp2_with fail
                go_ret
                exact ⟨rfl, KW4.out.below⟩

set_option maxRecDepth 100000 in
theorem lifted (os : Os) (started : os.Started) (H : Type) (enc : TypeId × Value → H) :
    ReturnsInHanded {} Try.checked os 4 .any (Rows.spaceHoldsSpec.pre6 enc Try.prog Try.f4 Rows.spaceHoldsRow.domain false) (Rows.spaceHoldsSpec.post enc Try.prog Try.f4 false true false false) := by
  refine returnsInHanded_of_change_sized (C := Try.checked) law_own started (by kernel_rfl) Try.func4
    (ChangeSpec.witness6 (enc := enc) (C := Try.checked) false ⟨#[], #[.int .i64 0, .int .i64 0, .slice none 0 0], []⟩ 8 (by kernel_rfl) (by kernel_rfl) (by kernel_rfl) (by kernel_rfl)) ?_
  intro W base args ds gs before hval0 hW hcnd hsz0 _
  have hval : ∀ (j : Nat) t v, Try.f4.params[j]? = some t → args[j]? = some v → Value.okWide Try.prog W .any base t v := hval0
  have hsz : (DataW.weightsEach Try.prog (Try.f4.params.toList ++ Rows.spaceHoldsSpec.plain.varTypes Try.prog) (ds ++ gs)).all (· ≤ reachBytes) = true := hsz0
  clear hsz0 hcnd
  have hW' := hW
  obtain ⟨p, q, hA0, hV, rfl, hfz, hnd⟩ := hW
  have hA : DataW.TrodAll enc Try.prog W 0 (fun _ => true) true Try.f4.params.toList args.toList ds p := hA0
  rw [Try.params4] at hA hval hsz
  obtain ⟨v0, vs0, d0, ds0, p0, q0, hargs, rfl, rfl, h0, r0⟩ := trodAll_cons hA
  obtain ⟨v1, vs1, d1, ds1, p1, q1, rfl, rfl, rfl, h1, r1⟩ := trodAll_cons r0
  obtain ⟨v2, vs2, d2, ds2, p2, q2, rfl, rfl, rfl, h2, r2⟩ := trodAll_cons r1
  obtain ⟨rfl, rfl, rfl⟩ := trodAll_nil r2
  obtain rfl : args = #[v0, v1, v2] := by cases args; simp_all
  obtain ⟨rfl, rfl⟩ := trodVars_none hV
  obtain ⟨a0, rfl, rfl, rfl, w0⟩ := open_int Try.underlying3 (hval 0 3 v0 rfl rfl) h0
  obtain ⟨a1, rfl, rfl, rfl, w1⟩ := open_int Try.underlying3 (hval 1 3 v1 rfl rfl) h1
  obtain ⟨A2, len2, cap2, b2, off2, K2, N2, rfl, m2, y2⟩ := open_acts2 (ti := 3) Try.underlying29 Try.underlying33 (by kernel_rfl) (by kernel_rfl) rfl rfl Try.underlying3 (hval 2 29 v2 rfl rfl) h2
  refine (walk a0 (bounds_i64 w0) a1 (bounds_i64 w1) m2 y2).mono fun e W' ⟨he, hb⟩ => ?_
  subst he
  exact ⟨_, rfl, law_post hW' rfl rfl rfl rfl (by kernel_rfl) Try.underlying4 law_laid (by kernel_rfl) hb⟩

theorem over : Rows.spaceHoldsRow.holds Try.pinned (OpenSpec.ofChange Rows.spaceHoldsSpec) :=
  OpenClaim.holds_of_wide 4 Try.f4 rfl rfl rfl rfl rfl rfl rfl ⟨rfl, rfl, rfl, rfl, rfl⟩ rfl rfl rfl rfl rfl (by kernel_rfl) Try.func4 (by kernel_rfl)
    (of_decide_eq_true (by kernel_rfl)) (by unfold Func.isWrapper; first | (rw [if_pos (by decide +kernel)]; kernel_rfl) | (rw [if_neg (by decide +kernel)]; exact ⟨rfl, rfl⟩))
    (fun os started H enc _ => lifted os started H enc)

theorem proved : Rows.SpaceHoldsSaid := over

end Go.Proofs.Yteaamcekofmeaaa.spaceHolds
