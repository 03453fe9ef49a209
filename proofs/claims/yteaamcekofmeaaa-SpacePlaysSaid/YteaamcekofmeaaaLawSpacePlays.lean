/- SpacePlays: for every input the call returns true, and the arguments read as before. No conditions. -/
import Derived.Test.YteaamcekofmeaaaRow
import Derived.Test.YteaamcekofmeaaaSpW
import Derived.Test.YteaamcekofmeaaaIs
namespace Go.Proofs.Yteaamcekofmeaaa.spacePlays
open Go.ChangeShapes Go.WideShapes Go.ChangeAt Go.RowKit

theorem tk_len (l : List Nat) : (tkRes l).2.2.length = l.length := by unfold tkRes; cases tkAt l <;> simp
theorem gv_len (l : List Nat) (i : Int) : (gvRes l i).2.length = l.length := by unfold gvRes; split <;> (try split) <;> simp
theorem tk_code (l : List Nat) : (tkAt l).isSome = decide ((tkRes l).2.1 = 0) ∧ ((tkRes l).2.1 = 0 ∨ (tkRes l).2.1 = 7) := by
  unfold tkRes; cases tkAt l <;> simp
theorem gv_code (l : List Nat) (i : Int) : (gvRes l i).1 = 0 ∨ (gvRes l i).1 = 8 := by
  unfold gvRes; split
  · exact .inl rfl
  · split
    · exact .inl rfl
    · exact .inr rfl
theorem kp_map {l : List Nat} (h4 : ∀ x ∈ l, x < 4) : l.map kp1 = kp l := by
  unfold kp chg
  rw [List.map_map]
  apply List.map_congr_left
  intro x hx
  have := h4 x hx
  rcases (show x = 0 ∨ x = 1 ∨ x = 2 ∨ x = 3 by omega) with rfl | rfl | rfl | rfl <;> rfl
theorem ud_map {l : List Nat} (h4 : ∀ x ∈ l, x < 4) : l.map ud1 = ud l := by
  unfold ud chg
  rw [List.map_map]
  apply List.map_congr_left
  intro x hx
  have := h4 x hx
  rcases (show x = 0 ∨ x = 1 ∨ x = 2 ∨ x = 3 by omega) with rfl | rfl | rfl | rfl <;> rfl
theorem kp_len (l : List Nat) : (kp l).length = l.length := by simp [kp, chg]
theorem ud_len (l : List Nat) : (ud l).length = l.length := by simp [ud, chg]

/-- The relation between rounds. -/
structure Inv (w wr : World) (b c m : Nat) (l : List Nat) (g cap : Nat) : Prop where
  sp : IsSp wr b c l
  ir : IR wr g cap l
  len : l.length = m
  kept : Kept (fun _ => False) w wr

theorem ir_ne {w : World} {b c g cap : Nat} {l l' : List Nat} (h : IR w g cap l) (hs : IsSp w b c l') : ¬ g = c := by
  rintro rfl
  rcases h.2 with ⟨h', _⟩ | ⟨g', cap', cur, h', _, hg, _⟩
  · simp at h'
  · simp only [Value.slice.injEq, Option.some.injEq, Addr.mk.injEq, and_true, true_and] at h'
    obtain ⟨rfl, rfl⟩ := h'
    have := hg.symm.trans hs.row
    simp at this

theorem ref_take {w g cap l} {m : Nat} (h : IR w g cap l) (h4 : ∀ x ∈ l, x < 4) (hl : l.length ≤ 128) (hm : l.length = m) :
    Calls Try.prog 16 #[.slice (some ⟨g, 0, none⟩) m cap] w fun e w' => ∃ g' cap', e = .returned (.tuple #[.slice (some ⟨g', 0, none⟩) m cap', .int .i64 (tkRes l).1, .bool (decide ((tkRes l).2.1 = 0))]) ∧ IR w' g' cap' (tkRes l).2.2 ∧ Kept (fun _ => False) w w' := by
  subst hm
  refine (refTake_calls h h4 hl).mono ?_
  rintro e w' ⟨g', cap', he, h1, _, h3⟩
  rw [(tk_code l).1] at he
  exact ⟨g', cap', he, h1, h3⟩
theorem ref_give {w g cap l} {m : Nat} (h : IR w g cap l) (hl : l.length ≤ 128) (hm : l.length = m) (i : Int) :
    Calls Try.prog 17 #[.slice (some ⟨g, 0, none⟩) m cap, .int .i64 i] w fun e w' => ∃ g' cap', e = .returned (.tuple #[.slice (some ⟨g', 0, none⟩) m cap', .bool (decide ((gvRes l i).1 = 0))]) ∧ IR w' g' cap' (gvRes l i).2 ∧ Kept (fun _ => False) w w' := by
  subst hm
  refine (refGive_calls h hl i).mono ?_
  rintro e w' ⟨g', cap', he, h1, _, h3⟩
  exact ⟨g', cap', he, h1, h3⟩
theorem ref_keep {w g cap l} {m : Nat} (h : IR w g cap l) (h4 : ∀ x ∈ l, x < 4) (hl : l.length ≤ 128) (hm : l.length = m) (hm0 : 0 < m) :
    Calls Try.prog 18 #[.slice (some ⟨g, 0, none⟩) m cap] w fun e w' => ∃ g' cap', e = .returned (.slice (some ⟨g', 0, none⟩) m cap') ∧ IR w' g' cap' (kp l) ∧ Kept (fun _ => False) w w' := by
  subst hm
  refine (refKeep_calls h hl hm0 h4).mono ?_
  rintro e w' ⟨g', cap', he, h1, h3⟩
  rw [kp_map h4] at he h1
  rw [kp_len] at he
  exact ⟨g', cap', he, h1, h3⟩
theorem ref_undo {w g cap l} {m : Nat} (h : IR w g cap l) (h4 : ∀ x ∈ l, x < 4) (hl : l.length ≤ 128) (hm : l.length = m) (hm0 : 0 < m) :
    Calls Try.prog 19 #[.slice (some ⟨g, 0, none⟩) m cap] w fun e w' => ∃ g' cap', e = .returned (.slice (some ⟨g', 0, none⟩) m cap') ∧ IR w' g' cap' (ud l) ∧ Kept (fun _ => False) w w' := by
  subst hm
  refine (refUndo_calls h hl hm0 h4).mono ?_
  rintro e w' ⟨g', cap', he, h1, h3⟩
  rw [ud_map h4] at he h1
  rw [ud_len] at he
  exact ⟨g', cap', he, h1, h3⟩
theorem is_ok {w b c g cap l} {m : Nat} (hs : IsSp w b c l) (h : IR w g cap l) (hm : l.length = m) :
    Calls Try.prog 20 #[.pointer (some ⟨b, 0, none⟩), .slice (some ⟨g, 0, none⟩) m cap] w fun e w' => e = .returned (.int .i64 0) ∧ Kept (fun _ => False) w w' := by
  subst hm
  exact is_calls hs h

set_option maxHeartbeats 1000000 in
set_option maxRecDepth 100000 in
theorem walk (n : Int) (_hn : -9223372036854775808 ≤ n ∧ n ≤ 9223372036854775807) {A : Option Addr} {len cap b0 off : Nat} {K N : Nat → Int} {w : World} (hm : len ≤ maxLen) (hA : Acts2 w A len b0 off K N) :
    Calls Try.prog 5 #[.int .i64 n, .slice A len cap] w fun e w' => e = .returned (.bool true) ∧ Below w.heap.size w w' := by
  unfold maxLen at hm
  obtain ⟨m, hmv⟩ : ∃ m : Nat, (m : Int) = 1 + n % 16 := ⟨(1 + n % 16).toNat, by omega⟩
  have hm1 : 1 ≤ m := by omega
  have hm2 : m ≤ 16 := by omega
  have ha1 : bits .and .i64 n 15 = (m : Int) - 1 := by rw [and_15]; omega
  have hsum : (1 : Int) + ((m : Int) - 1) = m := by omega
  clear hmv
  have hmk := fun w : World => run_make_n w und_ints info_int rfl m (by omega) (by unfold maxLen; omega)
  go_enter Try.func5, Try.ntmps5
  go_wp2_with fail
  refine (New_ok m w hm1 (by omega)).mono ?_
  rintro e w1 ⟨b, c, hb, hc, rfl, hsp, k1⟩
  go_wp2_with fail
  refine (spawake_calls w1).mono ?_
  rintro e w2 ⟨rfl, k2⟩
  have HI : Hid (Inv w (w2.alloc (.cells (List.replicate m (.int .i64 0)).toArray 3)) b c m (List.replicate m 0) w2.heap.size m) := by
    have k3 : Kept (fun _ => False) w2 (w2.alloc (.cells (List.replicate m (.int .i64 0)).toArray 3)) := (Kept.refl _ _).alloc _
    refine ⟨(hsp.kept k2 id id).kept k3 id id, ?_, by simp, (k1.trans k2).trans k3⟩
    have := World.ownsRow_lit (base := 0) (e := 3) (size := 1) w2 (List.replicate m (.int .i64 0)).toArray m (Nat.zero_le _) (by unfold maxLen; omega) (by simp)
    unfold IR
    simpa [I] using this
  clear hsp k1 k2
  go_wp2_with fail
  clear hmk
  go_loopw [7, 8] (fun v i wr => ∃ (j : Nat) (l : List Nat) (g cap : Nat), j ≤ 120 ∧ i = .int .i64 j ∧ v = .slice (some ⟨g, 0, none⟩) m cap ∧ Inv w wr b c m l g cap) (fun _ i _ => 120 - (intOf i).toNat)
  case atStart =>
    have := HI.out
    simp only [List.toArray_replicate] at this
    exact ⟨0, _, _, _, by omega, rfl, rfl, this⟩
  case round =>
    obtain ⟨j, l, g, cap', hj, rfl, rfl, hi⟩ := hrel
    have HJ := Lib.hid hi; clear hi
    have HL := Lib.hid HJ.out.len
    by_cases hin : j < len ∧ j < 120
    · obtain ⟨hjl, hj60⟩ := hin
      have hA2 := hA.kept HJ.out.kept
      have hK := (hA2.cell j hjl).1
      have hN := (hA2.cell j hjl).2
      obtain ⟨kb1, kb2⟩ := (hA2.bd j hjl).1
      have hAd := hA2.at_ (by omega)
      have HA2 := Lib.hid hA2; clear hA2
      obtain ⟨z, hz⟩ : ∃ z : Nat, N j % 256 = z := ⟨(N j % 256).toNat, by omega⟩
      have ha3 : bits .and .i64 (N j) 255 = (z : Int) := by rw [and_255]; exact hz
      clear hz
      subst hAd
      generalize hKj : K j = kj at *
      generalize hNj : N j = nj at *
      have HKj := Lib.hid hKj; have HNj := Lib.hid hNj; clear hKj hNj
      by_cases e1 : kj = 1
      · skip
        subst e1
        have CT := Lib.hid (Take_calls HJ.out.sp)
        go_wp2_with fail
        refine CT.out.mono ?_
        rintro e w4 ⟨rfl, h4, k4⟩
        have CR := Lib.hid (ref_take (HJ.out.ir.kept k4 (ir_ne HJ.out.ir HJ.out.sp)) HJ.out.sp.le (by have := HL.out; omega) HL.out)
        go_wp2_with fail
        refine CR.out.mono ?_
        rintro e w5 ⟨g5, cap5, rfl, h5, k5⟩
        have hself : ((tkRes l).1 != (tkRes l).1) = false := by simp
        rcases (tk_code l).2 with hz | hz
        · have hz1 : ((tkRes l).2.1 == 0) = true := by simp [hz]
          have hz2 : decide ((tkRes l).2.1 = 0) = true := by simp [hz]
          have hz3 : ((tkRes l).2.1 != 7) = true := by simp [hz]
          have HZ := Lib.hid hz; clear hz
          have HS5 := Lib.hid (h4.kept k5 id id); have HR5 := Lib.hid h5
          have HK5 := Lib.hid ((HJ.out.kept.then k4 (fun i hi e => by omega)).trans k5); clear h4 h5 k4 k5
          have CI := Lib.hid (is_ok HS5.out HR5.out ((tk_len l).trans HL.out))
          go_wp2_with fail
          refine CI.out.mono ?_
          rintro e w6 ⟨rfl, k6⟩
          have HI6 : Hid (Inv w w6 b c m (tkRes l).2.2 g5 cap5) := ⟨HS5.out.kept k6 id id, HR5.out.kept k6 id, (tk_len l).trans HL.out, HK5.out.trans k6⟩
          clear k6
          go_wp2_with fail
          go_roundw
          case rel => exact ⟨j + 1, _, g5, cap5, by omega, by go_num, rfl, HI6.out⟩
          case measure => simp [intOf]; omega
        · have hz1 : ((tkRes l).2.1 == 0) = false := by simp [hz]
          have hz2 : decide ((tkRes l).2.1 = 0) = false := by simp [hz]
          have hz3 : ((tkRes l).2.1 != 7) = false := by simp [hz]
          have HZ := Lib.hid hz; clear hz
          have HS5 := Lib.hid (h4.kept k5 id id); have HR5 := Lib.hid h5
          have HK5 := Lib.hid ((HJ.out.kept.then k4 (fun i hi e => by omega)).trans k5); clear h4 h5 k4 k5
          have CI := Lib.hid (is_ok HS5.out HR5.out ((tk_len l).trans HL.out))
          go_wp2_with fail
          refine CI.out.mono ?_
          rintro e w6 ⟨rfl, k6⟩
          have HI6 : Hid (Inv w w6 b c m (tkRes l).2.2 g5 cap5) := ⟨HS5.out.kept k6 id id, HR5.out.kept k6 id, (tk_len l).trans HL.out, HK5.out.trans k6⟩
          clear k6
          go_wp2_with fail
          go_roundw
          case rel => exact ⟨j + 1, _, g5, cap5, by omega, by go_num, rfl, HI6.out⟩
          case measure => simp [intOf]; omega
      by_cases e2 : kj = 2
      · skip
        subst e2
        clear e1
        have CT := Lib.hid (Give_calls HJ.out.sp (nj))
        go_wp2_with fail
        refine CT.out.mono ?_
        rintro e w4 ⟨rfl, h4, k4⟩
        have CR := Lib.hid (ref_give (HJ.out.ir.kept k4 (ir_ne HJ.out.ir HJ.out.sp)) (by have := HL.out; omega) HL.out (nj))
        go_wp2_with fail
        refine CR.out.mono ?_
        rintro e w5 ⟨g5, cap5, rfl, h5, k5⟩
        rcases gv_code l (nj) with hz | hz
        · have hz1 : ((gvRes l (nj)).1 == 0) = true := by simp [hz]
          have hz2 : decide ((gvRes l (nj)).1 = 0) = true := by simp [hz]
          have hz3 : ((gvRes l (nj)).1 != 8) = true := by simp [hz]
          have HZ := Lib.hid hz; clear hz
          have HS5 := Lib.hid (h4.kept k5 id id); have HR5 := Lib.hid h5
          have HK5 := Lib.hid ((HJ.out.kept.then k4 (fun i hi e => by omega)).trans k5); clear h4 h5 k4 k5
          have CI := Lib.hid (is_ok HS5.out HR5.out ((gv_len l _).trans HL.out))
          go_wp2_with fail
          refine CI.out.mono ?_
          rintro e w6 ⟨rfl, k6⟩
          have HI6 : Hid (Inv w w6 b c m (gvRes l (nj)).2 g5 cap5) := ⟨HS5.out.kept k6 id id, HR5.out.kept k6 id, (gv_len l _).trans HL.out, HK5.out.trans k6⟩
          clear k6
          go_wp2_with fail
          go_roundw
          case rel => exact ⟨j + 1, _, g5, cap5, by omega, by go_num, rfl, HI6.out⟩
          case measure => simp [intOf]; omega
        · have hz1 : ((gvRes l (nj)).1 == 0) = false := by simp [hz]
          have hz2 : decide ((gvRes l (nj)).1 = 0) = false := by simp [hz]
          have hz3 : ((gvRes l (nj)).1 != 8) = false := by simp [hz]
          have HZ := Lib.hid hz; clear hz
          have HS5 := Lib.hid (h4.kept k5 id id); have HR5 := Lib.hid h5
          have HK5 := Lib.hid ((HJ.out.kept.then k4 (fun i hi e => by omega)).trans k5); clear h4 h5 k4 k5
          have CI := Lib.hid (is_ok HS5.out HR5.out ((gv_len l _).trans HL.out))
          go_wp2_with fail
          refine CI.out.mono ?_
          rintro e w6 ⟨rfl, k6⟩
          have HI6 : Hid (Inv w w6 b c m (gvRes l (nj)).2 g5 cap5) := ⟨HS5.out.kept k6 id id, HR5.out.kept k6 id, (gv_len l _).trans HL.out, HK5.out.trans k6⟩
          clear k6
          go_wp2_with fail
          go_roundw
          case rel => exact ⟨j + 1, _, g5, cap5, by omega, by go_num, rfl, HI6.out⟩
          case measure => simp [intOf]; omega
      by_cases e3 : kj = 5
      · skip
        subst e3
        clear e1 e2
        have CT := Lib.hid (Give_calls HJ.out.sp ((z : Int) % (m : Int)))
        go_wp2_with fail
        refine CT.out.mono ?_
        rintro e w4 ⟨rfl, h4, k4⟩
        have CR := Lib.hid (ref_give (HJ.out.ir.kept k4 (ir_ne HJ.out.ir HJ.out.sp)) (by have := HL.out; omega) HL.out ((z : Int) % (m : Int)))
        go_wp2_with fail
        refine CR.out.mono ?_
        rintro e w5 ⟨g5, cap5, rfl, h5, k5⟩
        rcases gv_code l ((z : Int) % (m : Int)) with hz | hz
        · have hz1 : ((gvRes l ((z : Int) % (m : Int))).1 == 0) = true := by simp [hz]
          have hz2 : decide ((gvRes l ((z : Int) % (m : Int))).1 = 0) = true := by simp [hz]
          have hz3 : ((gvRes l ((z : Int) % (m : Int))).1 != 8) = true := by simp [hz]
          have HZ := Lib.hid hz; clear hz
          have HS5 := Lib.hid (h4.kept k5 id id); have HR5 := Lib.hid h5
          have HK5 := Lib.hid ((HJ.out.kept.then k4 (fun i hi e => by omega)).trans k5); clear h4 h5 k4 k5
          have CI := Lib.hid (is_ok HS5.out HR5.out ((gv_len l _).trans HL.out))
          go_wp2_with fail
          refine CI.out.mono ?_
          rintro e w6 ⟨rfl, k6⟩
          have HI6 : Hid (Inv w w6 b c m (gvRes l ((z : Int) % (m : Int))).2 g5 cap5) := ⟨HS5.out.kept k6 id id, HR5.out.kept k6 id, (gv_len l _).trans HL.out, HK5.out.trans k6⟩
          clear k6
          go_wp2_with fail
          go_roundw
          case rel => exact ⟨j + 1, _, g5, cap5, by omega, by go_num, rfl, HI6.out⟩
          case measure => simp [intOf]; omega
        · have hz1 : ((gvRes l ((z : Int) % (m : Int))).1 == 0) = false := by simp [hz]
          have hz2 : decide ((gvRes l ((z : Int) % (m : Int))).1 = 0) = false := by simp [hz]
          have hz3 : ((gvRes l ((z : Int) % (m : Int))).1 != 8) = false := by simp [hz]
          have HZ := Lib.hid hz; clear hz
          have HS5 := Lib.hid (h4.kept k5 id id); have HR5 := Lib.hid h5
          have HK5 := Lib.hid ((HJ.out.kept.then k4 (fun i hi e => by omega)).trans k5); clear h4 h5 k4 k5
          have CI := Lib.hid (is_ok HS5.out HR5.out ((gv_len l _).trans HL.out))
          go_wp2_with fail
          refine CI.out.mono ?_
          rintro e w6 ⟨rfl, k6⟩
          have HI6 : Hid (Inv w w6 b c m (gvRes l ((z : Int) % (m : Int))).2 g5 cap5) := ⟨HS5.out.kept k6 id id, HR5.out.kept k6 id, (gv_len l _).trans HL.out, HK5.out.trans k6⟩
          clear k6
          go_wp2_with fail
          go_roundw
          case rel => exact ⟨j + 1, _, g5, cap5, by omega, by go_num, rfl, HI6.out⟩
          case measure => simp [intOf]; omega
      by_cases e4 : kj = 3
      · clear e1 e2 e3
        have e1 := e4
        clear e4
        subst e1
        have CT := Lib.hid (Keep_calls HJ.out.sp)
        go_wp2_with fail
        refine CT.out.mono ?_
        rintro e w4 ⟨rfl, h4, k4⟩
        have CR := Lib.hid (ref_keep (HJ.out.ir.kept k4 (ir_ne HJ.out.ir HJ.out.sp)) HJ.out.sp.le (by have := HL.out; omega) HL.out (by omega))
        go_wp2_with fail
        refine CR.out.mono ?_
        rintro e w5 ⟨g5, cap5, rfl, h5, k5⟩
        have HS5 := Lib.hid (h4.kept k5 id id); have HR5 := Lib.hid h5
        have HK5 := Lib.hid ((HJ.out.kept.then k4 (fun i hi e => by omega)).trans k5); clear h4 h5 k4 k5
        have CI := Lib.hid (is_ok HS5.out HR5.out ((kp_len l).trans HL.out))
        go_wp2_with fail
        refine CI.out.mono ?_
        rintro e w6 ⟨rfl, k6⟩
        have HI6 : Hid (Inv w w6 b c m (kp l) g5 cap5) := ⟨HS5.out.kept k6 id id, HR5.out.kept k6 id, (kp_len l).trans HL.out, HK5.out.trans k6⟩
        clear k6
        go_wp2_with fail
        go_roundw
        case rel => exact ⟨j + 1, _, g5, cap5, by omega, by go_num, rfl, HI6.out⟩
        case measure => simp [intOf]; omega
      by_cases e5 : kj = 4
      · clear e1 e2 e3 e4
        have e1 := e5
        clear e5
        subst e1
        have CT := Lib.hid (Undo_calls HJ.out.sp)
        go_wp2_with fail
        refine CT.out.mono ?_
        rintro e w4 ⟨rfl, h4, k4⟩
        have CR := Lib.hid (ref_undo (HJ.out.ir.kept k4 (ir_ne HJ.out.ir HJ.out.sp)) HJ.out.sp.le (by have := HL.out; omega) HL.out (by omega))
        go_wp2_with fail
        refine CR.out.mono ?_
        rintro e w5 ⟨g5, cap5, rfl, h5, k5⟩
        have HS5 := Lib.hid (h4.kept k5 id id); have HR5 := Lib.hid h5
        have HK5 := Lib.hid ((HJ.out.kept.then k4 (fun i hi e => by omega)).trans k5); clear h4 h5 k4 k5
        have CI := Lib.hid (is_ok HS5.out HR5.out ((ud_len l).trans HL.out))
        go_wp2_with fail
        refine CI.out.mono ?_
        rintro e w6 ⟨rfl, k6⟩
        have HI6 : Hid (Inv w w6 b c m (ud l) g5 cap5) := ⟨HS5.out.kept k6 id id, HR5.out.kept k6 id, (ud_len l).trans HL.out, HK5.out.trans k6⟩
        clear k6
        go_wp2_with fail
        go_roundw
        case rel => exact ⟨j + 1, _, g5, cap5, by omega, by go_num, rfl, HI6.out⟩
        case measure => simp [intOf]; omega
      have t1 : (kj == 1) = false := by simpa using e1
      have t2 : (kj == 2) = false := by simpa using e2
      have t3 : (kj == 5) = false := by simpa using e3
      have t4 : (kj == 3) = false := by simpa using e4
      have t5 : (kj == 4) = false := by simpa using e5
      clear e1 e2 e3 e4 e5
      have CI := Lib.hid (is_ok HJ.out.sp HJ.out.ir HL.out)
      go_wp2_with fail
      refine CI.out.mono ?_
      rintro e w6 ⟨rfl, k6⟩
      have HI6 : Hid (Inv w w6 b c m l g cap') := ⟨HJ.out.sp.kept k6 id id, HJ.out.ir.kept k6 id, HL.out, HJ.out.kept.trans k6⟩
      clear k6
      go_wp2_with fail
      go_roundw
      case rel => exact ⟨j + 1, _, g, cap', by omega, by go_num, rfl, HI6.out⟩
      case measure => simp [intOf]; omega
    · have hout : ¬ ((j : Int) < (len : Int)) ∨ ((j : Int) < (len : Int) ∧ ¬ ((j : Int) < 120)) := by omega
      clear hin
      rcases hout with hout | ⟨hout1, hout⟩
      all_goals
        go_wp2_with fail
        go_ret
        exact ⟨rfl, HJ.out.kept.below⟩

set_option maxRecDepth 100000 in
theorem lifted (os : Os) (started : os.Started) (H : Type) (enc : TypeId × Value → H) :
    ReturnsInHanded {} Try.checked os 5 .any (Rows.spacePlaysSpec.pre6 enc Try.prog Try.f5 Rows.spacePlaysRow.domain false) (Rows.spacePlaysSpec.post enc Try.prog Try.f5 false true false false) := by
  refine returnsInHanded_of_change_sized (C := Try.checked) law_own started (by kernel_rfl) Try.func5
    (ChangeSpec.witness6 (enc := enc) (C := Try.checked) false ⟨#[], #[.int .i64 0, .slice none 0 0], []⟩ 8 (by kernel_rfl) (by kernel_rfl) (by kernel_rfl) (by kernel_rfl)) ?_
  intro W base args ds gs before hval0 hW hcnd hsz0 _
  have hval : ∀ (j : Nat) t v, Try.f5.params[j]? = some t → args[j]? = some v → Value.okWide Try.prog W .any base t v := hval0
  have hsz : (DataW.weightsEach Try.prog (Try.f5.params.toList ++ Rows.spacePlaysSpec.plain.varTypes Try.prog) (ds ++ gs)).all (· ≤ reachBytes) = true := hsz0
  clear hsz0 hcnd
  have hW' := hW
  obtain ⟨p, q, hA0, hV, rfl, hfz, hnd⟩ := hW
  have hA : DataW.TrodAll enc Try.prog W 0 (fun _ => true) true Try.f5.params.toList args.toList ds p := hA0
  rw [Try.params5] at hA hval hsz
  obtain ⟨v0, vs0, d0, ds0, p0, q0, hargs, rfl, rfl, h0, r0⟩ := trodAll_cons hA
  obtain ⟨v1, vs1, d1, ds1, p1, q1, rfl, rfl, rfl, h1, r1⟩ := trodAll_cons r0
  obtain ⟨rfl, rfl, rfl⟩ := trodAll_nil r1
  obtain rfl : args = #[v0, v1] := by cases args; simp_all
  obtain ⟨rfl, rfl⟩ := trodVars_none hV
  obtain ⟨a0, rfl, rfl, rfl, w0⟩ := open_int Try.underlying3 (hval 0 3 v0 rfl rfl) h0
  obtain ⟨A1, len1, cap1, b1, off1, K1, N1, rfl, m1, y1⟩ := open_acts2 (ti := 3) Try.underlying29 Try.underlying33 (by kernel_rfl) (by kernel_rfl) rfl rfl Try.underlying3 (hval 1 29 v1 rfl rfl) h1
  refine (walk a0 (bounds_i64 w0) m1 y1).mono fun e W' ⟨he, hb⟩ => ?_
  subst he
  exact ⟨_, rfl, law_post hW' rfl rfl rfl rfl (by kernel_rfl) Try.underlying4 law_laid (by kernel_rfl) hb⟩

theorem over : Rows.spacePlaysRow.holds Try.pinned (OpenSpec.ofChange Rows.spacePlaysSpec) :=
  OpenClaim.holds_of_wide 5 Try.f5 rfl rfl rfl rfl rfl rfl rfl ⟨rfl, rfl, rfl, rfl, rfl⟩ rfl rfl rfl rfl rfl (by kernel_rfl) Try.func5 (by kernel_rfl)
    (of_decide_eq_true (by kernel_rfl)) (by unfold Func.isWrapper; first | (rw [if_pos (by decide +kernel)]; kernel_rfl) | (rw [if_neg (by decide +kernel)]; exact ⟨rfl, rfl⟩))
    (fun os started H enc _ => lifted os started H enc)

theorem proved : Rows.SpacePlaysSaid := over

end Go.Proofs.Yteaamcekofmeaaa.spacePlays
