/- The laws of 07: awake. -/
import Derived.Test.YtfgjehecjgebdaaMg47
namespace Go.Proofs.Ytfgjehecjgebdaa
open Go.RowKit Go.Maps Go.ChangeMaps

theorem put_hit {w st b c m d vs vc p g X t e w'} (h : PutPost w st b c m d vs vc p g X t e w') (ht : t.length ≤ 248) {i : Nat} (hi : tkAt X.l = some i) :
    Kept (fun i => i = c ∨ i = m) w w' ∧ e = .returned (.tuple #[.int .i64 i, .int .i64 0]) ∧ IsStore w' st b c m d vs vc p g { X with l := X.l.set i 2, T := upd X.T i t } := by
  obtain ⟨h1, h2⟩ := h
  rw [if_neg (by omega), hi] at h2
  exact ⟨h1, h2.1, h2.2⟩

set_option maxHeartbeats 8000000 in
set_option maxRecDepth 100000 in
theorem awake_calls (w : World) : Calls Try.prog 28 #[] w fun e w' => e = .returned (.bool true) ∧ Kept (fun _ => False) w w' := by
  have HL : Hid (∀ W, Calls Try.prog 43 #[] W fun e w' => e = .returned (.agg #[.int .i64 8, .int .i64 6]) ∧ Kept (fun _ => False) W w') := Layout_calls
  have HT : Hid (∀ W, Calls Try.prog 53 #[.agg #[.int .i64 8, .int .i64 6]] W fun e w' => e = .returned (.int .i64 40) ∧ Kept (fun _ => False) W w') := fun W => LayTotal_calls lay86 W
  go_enter Try.func28, Try.ntmps28
  go_wp2_with fail
  refine (begin_calls w).mono ?_
  rintro e w1 ⟨d, st, b, c, m, vs, vc, X, rfl, hs, k1, hX, hfr⟩
  have HB := begin_disk
  rw [← hX] at HB
  have HBD := Lib.hid HB
  have HS := Lib.hid hs
  have K1 := Lib.hid k1
  have HFR := Lib.hid hfr
  obtain ⟨-, hh, hod, hl, hsl, hsu⟩ := HB
  have HP : Hid (Calls Try.prog 30 #[.pointer (some ⟨st, 0, none⟩), .string ⟨#[97]⟩] w1 (PutPost w1 st b c m d vs vc 8 6 X [97])) := Put_calls hs [97]
  have hti : tkAt X.l = some 0 := by rw [hl]; rfl
  obtain ⟨X1, hX1⟩ : ∃ X1 : Sto, X1 = { X with l := X.l.set 0 2, T := upd X.T 0 [97] } := ⟨_, rfl⟩
  have hl1 : X1.l = [2, 0, 0, 0, 0, 0, 0, 0] := by rw [hX1]; simp only; rw [hl]; rfl
  have hf1 : fresh X1.l = [0] := by rw [hl1]; rfl
  have hD1 : X1.D = X.D := by rw [hX1]
  have hsu1 : X1.sup = ⟨1, -1, 1, 1⟩ := by rw [hX1]; exact hsu
  have hT1 : ∀ i ∈ fresh X1.l, (X1.T i).length ≤ 248 := by
    rw [hf1]; intro i hi; simp at hi; subst hi; rw [hX1]; simp [upd]
  have hck := ck_disk (X := X1) (p := 8) (K := fun _ => []) (root := 0) (log := 1) (next := 1) (by rw [hD1]; exact hh) (by
      intro y hy
      rw [hD1, hsu1] at hy
      have h1 : Says (X.D.secs.getD (1 % 2) []) ⟨1, 0, supB ⟨1, -1, 1, 1⟩ (List.replicate 8 0)⟩ := ⟨hod.sec (by omega), hod.one.symm⟩
      rw [hy.unique h1, hsu1]; exact Nat.le_refl _)
    (by intro i hi; rw [hl1] at hi; match i, hi with
        | 0, hi => simp at hi
        | 1, hi => simp at hi
        | 2, hi => simp at hi
        | 3, hi => simp at hi
        | 4, hi => simp at hi
        | 5, hi => simp at hi
        | 6, hi => simp at hi
        | 7, hi => simp at hi
        | n + 8, hi => simp at hi)
    (by rw [hl1]; decide) (by rw [hl1]; rfl) (by omega) hT1 (by rw [hD1, hsl]; omega) (by unfold ckBad; rw [hl1]; rfl) (by rw [hsu1]; simp)
  have HTI := Lib.hid hti
  have HX1 := Lib.hid hX1
  have HT1 := Lib.hid hT1
  have HCL1 : Hid (X1.D.cache.length ≤ 900000) := by rw [Hid, hD1, hh.cache]; simp
  have HG1 : Hid (X1.sup.gen + 1 ≤ 1099511627776) := by rw [Hid, hsu1]; simp
  have HCK := Lib.hid hck
  have HL1 := Lib.hid hl1
  have HSU1 := Lib.hid hsu1
  have HDL1 : Hid (X1.D.secs.length = 40) := by rw [Hid, hD1]; exact hsl
  clear hs k1 hX hfr hh hod hl hsl hsu hti hX1 hl1 hf1 hD1 hsu1 hT1 hck
  go_wp2_with fail
  refine HP.out.mono ?_
  rintro e w2 hpost
  obtain ⟨k2, rfl, hs2⟩ := put_hit hpost (by simp) HTI.out
  rw [← HX1.out] at hs2
  have HS2 := Lib.hid hs2
  have K2 : Hid (Kept (fun _ => False) w w2) := K1.out.then k2 (by rintro i hi (e | e); have := HFR.out i (.inr (.inl e)); omega; have := HFR.out i (.inr (.inr (.inl e))); omega)
  obtain ⟨⟨ec, X2⟩, hr⟩ : ∃ r, X1.check 0 1 1 = r := ⟨_, rfl⟩
  have HC := Lib.hid (Ck_calls hs2 0 1 1 HT1.out HCL1.out HG1.out)
  have hk := HCK.out
  rw [hr] at HC hk
  obtain ⟨h1, h2, h3, h4, h5, h6⟩ := hk
  simp only at h1 h2 h3 h4 h5 h6
  subst h1
  have HH2 := Lib.hid h2
  have HOD2 := Lib.hid h3
  have HDL2 : Hid (X2.D.secs.length = 40) := by rw [Hid, h5]; exact HDL1.out
  have HSU2 : Hid (X2.sup = ⟨2, 0, 1, 1⟩) := by rw [Hid, h6, HSU1.out]; rfl
  clear hpost k2 hs2 hr h2 h3 h4 h5 h6
  go_wp2_with (go_at_call 32; refine HC.out.mono ?_; rintro e w3 ⟨rfl, vc3, hto⟩; have HTO := Lib.hid hto; clear hto)
  have K3 : Hid (Kept (fun _ => False) w w3) := K2.out.then HTO.out.kept (fun i hi e => by have := HFR.out i e; omega)
  refine (HL.out w3).mono ?_
  rintro e w4 ⟨rfl, k4⟩
  have K4 : Hid (Kept (fun _ => False) w w4) := K3.out.trans k4
  have HD4 := Lib.hid (HTO.out.sto.dev.keptF k4)
  have hle : 2 + 4 * 8 + 6 ≤ X2.D.secs.length := by have := HDL2.out; omega
  have HO : Hid (Calls Try.prog 42 #[.pointer (some ⟨d, 0, none⟩), .agg #[.int .i64 8, .int .i64 6]] w4 fun e w' => ∃ r, Newest (X2.D.text 0) (X2.D.text 1) r ∧ OpenPost w4 d vs vc3 8 6 X2.D r e w') :=
    Open_calls HD4.out lay86 hle (by rw [HH2.out.cache]; simp) HH2.out.down
  clear k4 hle
  go_wp2_with fail
  refine HO.out.mono ?_
  rintro e w5 ⟨r, hn, ho⟩
  obtain ⟨k5, st', rfl, b', c', m', vc', g1, g2, g3, g4, hs5, -, -⟩ := open_found HH2.out HOD2.out (by omega) hn ho
  have K5 : Hid (Kept (fun _ => False) w w5) := K4.out.trans k5
  have HS5 := Lib.hid hs5
  have HRD : Hid (∀ W, Kept (fun _ => False) w5 W → Calls Try.prog 39 #[.pointer (some ⟨st', 0, none⟩), .int .i64 0] W fun e w' => e = .returned (.tuple #[.string ⟨#[97]⟩, .int .i64 0]) ∧ Kept (fun _ => False) W w') := fun W hW => by
    have h1 := StoRead_calls (hs5.keptF hW) 0 HH2.out.down (by have := HDL2.out; simp only; omega) (by simp only; rw [HH2.out.cache]; simp)
    have h2 : Sto.read ⟨kp X1.l, fun _ => [], X2.sup, X2.D⟩ 0 = ([97], 0) := by
      have h3 : stAt (kp X1.l) 0 = 1 := by rw [HL1.out]; rfl
      have h4 := HOD2.out.read HH2.out rfl 0 (by rw [HL1.out]; rfl)
      have h5 : ckK X1 (fun _ => []) 0 = [97] := by
        simp only [ckK]; rw [HL1.out, if_pos (by rfl), HX1.out]; simp [upd]
      rw [h5] at h4
      simp only [Sto.read, h3]
      exact h4
    rw [h2] at h1
    exact h1
  have HSP : Hid (∀ W, Kept (fun _ => False) w5 W → Calls Try.prog 44 #[.pointer (some ⟨st', 0, none⟩)] W fun e w' => e = .returned (.agg #[.int .i64 2, .int .i64 0, .int .i64 1, .int .i64 1]) ∧ Kept (fun _ => False) W w') := fun W hW => by
    have h1 := StoSuper_calls (hs5.keptF hW)
    simp only at h1
    rw [HSU2.out] at h1
    exact h1
  clear hn ho k5 g1 g2 g3 g4 hs5
  go_wp2_with fail
  refine (HRD.out w5 (Kept.refl _ _)).mono ?_
  rintro e w6 ⟨rfl, k6⟩
  have K6 : Hid (Kept (fun _ => False) w5 w6) := k6
  clear k6
  go_wp2_with (first
    | (go_at_call 44; refine (HSP.out _ K6.out).mono ?_; rintro e w7 ⟨rfl, k7⟩; have K7 : Hid (Kept (fun _ => False) w5 w7) := K6.out.trans k7; clear k7)
    | (go_at_call 43; refine (HL.out _).mono ?_; rintro e w8 ⟨rfl, k8⟩; have K8 : Hid (Kept (fun _ => False) w5 w8) := K7.out.trans k8; clear k8)
    | (go_at_call 53; refine (HT.out _).mono ?_; rintro e w9 ⟨rfl, k9⟩; have K9 : Hid (Kept (fun _ => False) w5 w9) := K8.out.trans k9; clear k9))
  go_ret
  exact ⟨rfl, K5.out.trans K9.out⟩

end Go.Proofs.Ytfgjehecjgebdaa
